/-
  What the evaluator's values and heap say of the machine's.
-/
import Derived.Test.YtnmkbnejapdnnaaEvChk
import Derived.AtR
import Derived.Below
import Derived.Laws.Sem
set_option linter.unusedVariables false
namespace Go.Proofs.Ytnmkbnejapdnnaa.Ev
open Go

/-! ### the abstract heap's own laws -/
theorem blt_iff {a b : Nat} : Nat.blt a b = true ↔ a < b := by simp [Nat.blt_eq]
theorem blt_false {a b : Nat} : Nat.blt a b = false ↔ ¬ a < b := by rw [← Bool.not_eq_true, blt_iff]
theorem beq_iff {a b : Nat} : Nat.beq a b = true ↔ a = b := by simp
theorem beq_false {a b : Nat} : Nat.beq a b = false ↔ a ≠ b := by rw [← Bool.not_eq_true, beq_iff]

theorem hget_nil (b : Nat) : hget [] b = none := rfl
theorem hget_cons (c : Nat) (o : Obj) (h : List (Nat × Obj)) (b : Nat) : hget ((c, o) :: h) b = if c = b then some o else hget h b := by
  show Bool.rec (motive := fun _ => Option Obj) (hget h b) (some o) (Nat.beq c b) = _
  by_cases e : c = b
  · rw [if_pos e, beq_iff.2 e]
  · rw [if_neg e, beq_false.2 e]
theorem hput_cons (c : Nat) (o x : Obj) (h : List (Nat × Obj)) (b : Nat) : hput ((c, o) :: h) b x = if c = b then (c, x) :: h else (c, o) :: hput h b x := by
  show Bool.rec (motive := fun _ => List (Nat × Obj)) ((c, o) :: hput h b x) ((c, x) :: h) (Nat.beq c b) = _
  by_cases e : c = b
  · rw [if_pos e, beq_iff.2 e]
  · rw [if_neg e, beq_false.2 e]
theorem hget_hput (h : List (Nat × Obj)) (b b' : Nat) (x : Obj) : hget (hput h b x) b' = if b' = b ∧ (hget h b).isSome then some x else hget h b' := by
  induction h with
  | nil => simp [hget_nil, show hput [] b x = [] from rfl]
  | cons p h ih =>
    obtain ⟨c, o⟩ := p
    rw [hput_cons, hget_cons, hget_cons]
    by_cases e : c = b
    · subst e
      rw [if_pos rfl, hget_cons]
      by_cases e' : c = b'
      · subst e'; simp
      · simp [e', Ne.symm e']
    · rw [if_neg e, hget_cons]
      by_cases e' : c = b'
      · subst e'; simp [e]
      · simp only [e', if_false]; rw [ih]; simp [e]

theorem get_eq (σ : St) (b : Nat) : σ.get b = if b < σ.n then hget σ.h b else none := by
  show Bool.rec (motive := fun _ => Option Obj) none (hget σ.h b) (Nat.blt b σ.n) = _
  by_cases e : b < σ.n
  · rw [if_pos e, blt_iff.2 e]
  · rw [if_neg e, blt_false.2 e]
theorem get_lt {σ : St} {b : Nat} {o : Obj} (h : σ.get b = some o) : b < σ.n := by
  rw [get_eq] at h; by_cases e : b < σ.n
  · exact e
  · rw [if_neg e] at h; cases h
theorem get_add (σ : St) (o : Obj) (b : Nat) : (σ.add o).get b = if b = σ.n then some o else σ.get b := by
  rw [get_eq, get_eq, St.add, hget_cons]
  by_cases e : b = σ.n
  · subst e; simp
  · by_cases e' : b < σ.n
    · simp [e, Ne.symm e, e', show b < σ.n + 1 by omega]
    · simp [e, e', show ¬ b < σ.n + 1 by omega]
theorem n_add (σ : St) (o : Obj) : (σ.add o).n = σ.n + 1 := rfl
theorem get_put (σ : St) (b b' : Nat) (o : Obj) : (σ.put b o).get b' = if b' = b ∧ (σ.get b).isSome then some o else σ.get b' := by
  rw [get_eq, get_eq, get_eq]
  show (if b' < σ.n then hget (hput σ.h b o) b' else none) = _
  rw [hget_hput]
  by_cases e : b' = b
  · subst e
    by_cases e' : b' < σ.n <;> simp [e']
  · by_cases e' : b' < σ.n <;> simp [e, e']
theorem n_put (σ : St) (b : Nat) (o : Obj) : (σ.put b o).n = σ.n := rfl
theorem base_put (σ : St) (b : Nat) (o : Obj) : (σ.put b o).base = σ.base := rfl

theorem nins_cons (b c : Nat) (l : List Nat) : nins b (c :: l) = if c = b then c :: l else c :: nins b l := by
  show Bool.rec (motive := fun _ => List Nat) (c :: nins b l) (c :: l) (Nat.beq c b) = _
  by_cases e : c = b
  · rw [if_pos e, beq_iff.2 e]
  · rw [if_neg e, beq_false.2 e]
theorem mem_nins (b x : Nat) (l : List Nat) : x ∈ nins b l ↔ x = b ∨ x ∈ l := by
  induction l with
  | nil => show x ∈ [b] ↔ _; simp
  | cons c l ih =>
    rw [nins_cons]
    by_cases e : c = b
    · subst e; simp
    · simp only [e, if_false, List.mem_cons, ih]
      constructor
      · rintro (h | h | h) <;> simp [h]
      · rintro (h | h | h) <;> simp [h]
theorem mods_put (σ : St) (b : Nat) (o : Obj) (x : Nat) : x ∈ (σ.put b o).mods ↔ (x = b ∧ b < σ.base) ∨ x ∈ σ.mods := by
  show x ∈ Bool.rec (motive := fun _ => List Nat) σ.mods (nins b σ.mods) (Nat.blt b σ.base) ↔ _
  by_cases e : b < σ.base
  · rw [blt_iff.2 e]; simp [mem_nins, e]
  · rw [blt_false.2 e]; simp [e]

/-! ### slots -/
noncomputable def sel : Nat → Tr → Tr
  | 0 => s0
  | 1 => s1
  | 2 => s2
  | 3 => s3
  | 4 => s4
  | 5 => s5
  | 6 => s6
  | 7 => s7
  | 8 => s8
  | 9 => s9
  | 10 => sa
  | 11 => sb
  | 12 => sc
  | 13 => sd
  | 14 => se
  | _ => sf

noncomputable def upd : Nat → Tr → Tr → Tr
  | 0 => u0
  | 1 => u1
  | 2 => u2
  | 3 => u3
  | 4 => u4
  | 5 => u5
  | 6 => u6
  | 7 => u7
  | 8 => u8
  | 9 => u9
  | 10 => ua
  | 11 => ub
  | 12 => uc
  | 13 => ud
  | 14 => ue
  | _ => uf

theorem lt16 {i : Nat} (h : i < 16) : i = 0 ∨ i = 1 ∨ i = 2 ∨ i = 3 ∨ i = 4 ∨ i = 5 ∨ i = 6 ∨ i = 7 ∨ i = 8 ∨ i = 9 ∨ i = 10 ∨ i = 11 ∨ i = 12 ∨ i = 13 ∨ i = 14 ∨ i = 15 := by omega

theorem sel_upd_same (i : Nat) (h : i < 16) (a x : Tr) : sel i (upd i a x) = x := by
  rcases lt16 h with rfl | rfl | rfl | rfl | rfl | rfl | rfl | rfl | rfl | rfl | rfl | rfl | rfl | rfl | rfl | rfl <;> cases a <;> rfl
theorem sel_upd_0 (j : Nat) (h : j < 16) (hj : 0 ≠ j) (a x : Tr) : s0 (upd j a x) = s0 a := by
  rcases lt16 h with rfl | rfl | rfl | rfl | rfl | rfl | rfl | rfl | rfl | rfl | rfl | rfl | rfl | rfl | rfl | rfl <;> first | exact absurd rfl hj | (cases a <;> rfl)
theorem sel_upd_1 (j : Nat) (h : j < 16) (hj : 1 ≠ j) (a x : Tr) : s1 (upd j a x) = s1 a := by
  rcases lt16 h with rfl | rfl | rfl | rfl | rfl | rfl | rfl | rfl | rfl | rfl | rfl | rfl | rfl | rfl | rfl | rfl <;> first | exact absurd rfl hj | (cases a <;> rfl)
theorem sel_upd_2 (j : Nat) (h : j < 16) (hj : 2 ≠ j) (a x : Tr) : s2 (upd j a x) = s2 a := by
  rcases lt16 h with rfl | rfl | rfl | rfl | rfl | rfl | rfl | rfl | rfl | rfl | rfl | rfl | rfl | rfl | rfl | rfl <;> first | exact absurd rfl hj | (cases a <;> rfl)
theorem sel_upd_3 (j : Nat) (h : j < 16) (hj : 3 ≠ j) (a x : Tr) : s3 (upd j a x) = s3 a := by
  rcases lt16 h with rfl | rfl | rfl | rfl | rfl | rfl | rfl | rfl | rfl | rfl | rfl | rfl | rfl | rfl | rfl | rfl <;> first | exact absurd rfl hj | (cases a <;> rfl)
theorem sel_upd_4 (j : Nat) (h : j < 16) (hj : 4 ≠ j) (a x : Tr) : s4 (upd j a x) = s4 a := by
  rcases lt16 h with rfl | rfl | rfl | rfl | rfl | rfl | rfl | rfl | rfl | rfl | rfl | rfl | rfl | rfl | rfl | rfl <;> first | exact absurd rfl hj | (cases a <;> rfl)
theorem sel_upd_5 (j : Nat) (h : j < 16) (hj : 5 ≠ j) (a x : Tr) : s5 (upd j a x) = s5 a := by
  rcases lt16 h with rfl | rfl | rfl | rfl | rfl | rfl | rfl | rfl | rfl | rfl | rfl | rfl | rfl | rfl | rfl | rfl <;> first | exact absurd rfl hj | (cases a <;> rfl)
theorem sel_upd_6 (j : Nat) (h : j < 16) (hj : 6 ≠ j) (a x : Tr) : s6 (upd j a x) = s6 a := by
  rcases lt16 h with rfl | rfl | rfl | rfl | rfl | rfl | rfl | rfl | rfl | rfl | rfl | rfl | rfl | rfl | rfl | rfl <;> first | exact absurd rfl hj | (cases a <;> rfl)
theorem sel_upd_7 (j : Nat) (h : j < 16) (hj : 7 ≠ j) (a x : Tr) : s7 (upd j a x) = s7 a := by
  rcases lt16 h with rfl | rfl | rfl | rfl | rfl | rfl | rfl | rfl | rfl | rfl | rfl | rfl | rfl | rfl | rfl | rfl <;> first | exact absurd rfl hj | (cases a <;> rfl)
theorem sel_upd_8 (j : Nat) (h : j < 16) (hj : 8 ≠ j) (a x : Tr) : s8 (upd j a x) = s8 a := by
  rcases lt16 h with rfl | rfl | rfl | rfl | rfl | rfl | rfl | rfl | rfl | rfl | rfl | rfl | rfl | rfl | rfl | rfl <;> first | exact absurd rfl hj | (cases a <;> rfl)
theorem sel_upd_9 (j : Nat) (h : j < 16) (hj : 9 ≠ j) (a x : Tr) : s9 (upd j a x) = s9 a := by
  rcases lt16 h with rfl | rfl | rfl | rfl | rfl | rfl | rfl | rfl | rfl | rfl | rfl | rfl | rfl | rfl | rfl | rfl <;> first | exact absurd rfl hj | (cases a <;> rfl)
theorem sel_upd_a (j : Nat) (h : j < 16) (hj : 10 ≠ j) (a x : Tr) : sa (upd j a x) = sa a := by
  rcases lt16 h with rfl | rfl | rfl | rfl | rfl | rfl | rfl | rfl | rfl | rfl | rfl | rfl | rfl | rfl | rfl | rfl <;> first | exact absurd rfl hj | (cases a <;> rfl)
theorem sel_upd_b (j : Nat) (h : j < 16) (hj : 11 ≠ j) (a x : Tr) : sb (upd j a x) = sb a := by
  rcases lt16 h with rfl | rfl | rfl | rfl | rfl | rfl | rfl | rfl | rfl | rfl | rfl | rfl | rfl | rfl | rfl | rfl <;> first | exact absurd rfl hj | (cases a <;> rfl)
theorem sel_upd_c (j : Nat) (h : j < 16) (hj : 12 ≠ j) (a x : Tr) : sc (upd j a x) = sc a := by
  rcases lt16 h with rfl | rfl | rfl | rfl | rfl | rfl | rfl | rfl | rfl | rfl | rfl | rfl | rfl | rfl | rfl | rfl <;> first | exact absurd rfl hj | (cases a <;> rfl)
theorem sel_upd_d (j : Nat) (h : j < 16) (hj : 13 ≠ j) (a x : Tr) : sd (upd j a x) = sd a := by
  rcases lt16 h with rfl | rfl | rfl | rfl | rfl | rfl | rfl | rfl | rfl | rfl | rfl | rfl | rfl | rfl | rfl | rfl <;> first | exact absurd rfl hj | (cases a <;> rfl)
theorem sel_upd_e (j : Nat) (h : j < 16) (hj : 14 ≠ j) (a x : Tr) : se (upd j a x) = se a := by
  rcases lt16 h with rfl | rfl | rfl | rfl | rfl | rfl | rfl | rfl | rfl | rfl | rfl | rfl | rfl | rfl | rfl | rfl <;> first | exact absurd rfl hj | (cases a <;> rfl)
theorem sel_upd_f (j : Nat) (h : j < 16) (hj : 15 ≠ j) (a x : Tr) : sf (upd j a x) = sf a := by
  rcases lt16 h with rfl | rfl | rfl | rfl | rfl | rfl | rfl | rfl | rfl | rfl | rfl | rfl | rfl | rfl | rfl | rfl <;> first | exact absurd rfl hj | (cases a <;> rfl)
theorem sel_upd_ne (i j : Nat) (h : i < 16) (h' : j < 16) (e : i ≠ j) (a x : Tr) : sel i (upd j a x) = sel i a := by
  rcases lt16 h with rfl | rfl | rfl | rfl | rfl | rfl | rfl | rfl | rfl | rfl | rfl | rfl | rfl | rfl | rfl | rfl
  · exact sel_upd_0 j h' e a x
  · exact sel_upd_1 j h' e a x
  · exact sel_upd_2 j h' e a x
  · exact sel_upd_3 j h' e a x
  · exact sel_upd_4 j h' e a x
  · exact sel_upd_5 j h' e a x
  · exact sel_upd_6 j h' e a x
  · exact sel_upd_7 j h' e a x
  · exact sel_upd_8 j h' e a x
  · exact sel_upd_9 j h' e a x
  · exact sel_upd_a j h' e a x
  · exact sel_upd_b j h' e a x
  · exact sel_upd_c j h' e a x
  · exact sel_upd_d j h' e a x
  · exact sel_upd_e j h' e a x
  · exact sel_upd_f j h' e a x

theorem gt_dig (p : Pth) (i : Nat) (h : i < 16) (a : Tr) : gt (dig p i) a = gt p (sel i a) := by
  rcases lt16 h with rfl | rfl | rfl | rfl | rfl | rfl | rfl | rfl | rfl | rfl | rfl | rfl | rfl | rfl | rfl | rfl <;> rfl
theorem stt_dig (p : Pth) (i : Nat) (h : i < 16) (a : Tr) (v : V) : stt (dig p i) a v = upd i a (stt p (sel i a) v) := by
  rcases lt16 h with rfl | rfl | rfl | rfl | rfl | rfl | rfl | rfl | rfl | rfl | rfl | rfl | rfl | rfl | rfl | rfl <;> rfl

theorem gt_stt (d : Nat) : ∀ (t t' : Nat) (a : Tr) (v : V), t < 16 ^ d → t' < 16 ^ d → gt (pth d t) (stt (pth d t') a v) = if t = t' then v else gt (pth d t) a := by
  induction d with
  | zero =>
    intro t t' a v h h'
    have e : t = t' := by simp at h h'; omega
    subst e; rw [if_pos rfl]; rfl
  | succ d ih =>
    intro t t' a v h h'
    have m : t % 16 < 16 := Nat.mod_lt _ (by omega)
    have m' : t' % 16 < 16 := Nat.mod_lt _ (by omega)
    have q : t / 16 < 16 ^ d := by rw [Nat.pow_succ] at h; omega
    have q' : t' / 16 < 16 ^ d := by rw [Nat.pow_succ] at h'; omega
    show gt (dig (pth d (t / 16)) (t % 16)) (stt (dig (pth d (t' / 16)) (t' % 16)) a v) = if t = t' then v else gt (dig (pth d (t / 16)) (t % 16)) a
    rw [gt_dig _ _ m, stt_dig _ _ m', gt_dig _ _ m]
    by_cases e : t % 16 = t' % 16
    · rw [e, sel_upd_same _ m', ih _ _ _ _ q q']
      by_cases e' : t / 16 = t' / 16
      · rw [if_pos e', if_pos (by omega)]
      · rw [if_neg e', if_neg (by omega)]
    · rw [sel_upd_ne _ _ m m' e, if_neg (by intro h; subst h; exact e rfl)]

theorem gt_bot : ∀ (p : Pth), gt p .bot = .bot := by
  intro p
  induction p <;> first | rfl | assumption
theorem gt_root (d t : Nat) (h : t < 16 ^ d) (hd : 0 < d) : gt (pth d t) Tr.root = .bot := by
  cases d with
  | zero => omega
  | succ d =>
    have m : t % 16 < 16 := Nat.mod_lt _ (by omega)
    show gt (dig (pth d (t / 16)) (t % 16)) Tr.root = .bot
    rw [gt_dig _ _ m]
    rcases lt16 m with e | e | e | e | e | e | e | e | e | e | e | e | e | e | e | e <;> rw [e] <;> exact gt_bot _

/-! ### values -/
structure Mp where
  pl : Nat → Option (Nat × Nat)
  sz : Nat → Nat

mutual
def VR (μ : Mp) : V → Value → Prop
  | .bot, _ => True
  | .bool b, v => v = .bool b
  | .int k n, v => v = .int k n
  | .str s, v => v = .string s
  | .ptr b o, v => ∃ c d, μ.pl b = some (c, d) ∧ v = .pointer (some ⟨c, o + d, none⟩)
  | .nilptr, v => v = .pointer none
  | .slice b o len cap es, v => ∃ c d o' cap', μ.pl b = some (c, d) ∧ v = .slice (some ⟨c, o', none⟩) len cap' ∧ len ≤ cap ∧ (cap = 0 ∨ o' = o + d) ∧
      (es = none → cap' = cap) ∧ (∀ e, es = some e → cap ≤ cap' ∧ o' + cap' * e ≤ μ.sz c)
  | .nilslice, v => v = .slice none 0 0
  | .map b, v => ∃ c, μ.pl b = some (c, 0) ∧ v = .map (some c)
  | .nilmap, v => v = .map none
  | .func f xs ys, v => ∃ us ws, VRs μ xs us ∧ VRs μ ys ws ∧ v = .func (.func f) ⟨us⟩ ⟨ws⟩
  | .yield l, v => ∃ c, μ.pl l = some (c, 0) ∧ v = .func (.yield c) #[] #[]
  | .nilfunc, v => v = .nilFunc
  | .agg cs, v => ∃ us, VRs μ cs us ∧ v = .agg ⟨us⟩
  | .tup cs, v => ∃ us, VRs μ cs us ∧ v = .tuple ⟨us⟩
def VRs (μ : Mp) : List V → List Value → Prop
  | [], us => us = []
  | v :: vs, us => ∃ x xs, us = x :: xs ∧ VR μ v x ∧ VRs μ vs xs
end

theorem VRs_nil {μ : Mp} {us : List Value} : VRs μ [] us ↔ us = [] := by simp [VRs]
theorem VRs_cons {μ : Mp} {v : V} {vs : List V} {us : List Value} : VRs μ (v :: vs) us ↔ ∃ x xs, us = x :: xs ∧ VR μ v x ∧ VRs μ vs xs := by simp [VRs]
theorem VRs_length {μ : Mp} : ∀ {vs : List V} {us : List Value}, VRs μ vs us → us.length = vs.length
  | [], us, h => by rw [VRs_nil.1 h]; rfl
  | v :: vs, us, h => by obtain ⟨x, xs, rfl, _, h⟩ := VRs_cons.1 h; simp [VRs_length h]
theorem VRs_get {μ : Mp} : ∀ {vs : List V} {us : List Value}, VRs μ vs us → ∀ (i : Nat) (v : V), vs[i]? = some v → ∃ u, us[i]? = some u ∧ VR μ v u
  | [], us, h, i, v, hi => by simp at hi
  | w :: vs, us, h, i, v, hi => by
    obtain ⟨x, xs, rfl, hx, h⟩ := VRs_cons.1 h
    cases i with
    | zero => simp at hi; subst hi; exact ⟨x, rfl, hx⟩
    | succ i => simp at hi; obtain ⟨u, hu, hr⟩ := VRs_get h i v hi; exact ⟨u, by simpa using hu, hr⟩
theorem VRs_append {μ : Mp} : ∀ {vs ws : List V} {us xs : List Value}, VRs μ vs us → VRs μ ws xs → VRs μ (vs ++ ws) (us ++ xs)
  | [], ws, us, xs, h, h' => by rw [VRs_nil.1 h]; exact h'
  | v :: vs, ws, us, xs, h, h' => by
    obtain ⟨x, ys, rfl, hx, h⟩ := VRs_cons.1 h
    exact VRs_cons.2 ⟨x, ys ++ xs, rfl, hx, VRs_append h h'⟩
theorem VRs_take {μ : Mp} : ∀ (n : Nat) {vs : List V} {us : List Value}, VRs μ vs us → VRs μ (vs.take n) (us.take n)
  | 0, vs, us, h => by simp [VRs]
  | n + 1, [], us, h => by rw [VRs_nil.1 h]; simp [VRs]
  | n + 1, v :: vs, us, h => by
    obtain ⟨x, xs, rfl, hx, h⟩ := VRs_cons.1 h
    exact VRs_cons.2 ⟨x, xs.take n, rfl, hx, VRs_take n h⟩
theorem VRs_drop {μ : Mp} : ∀ (n : Nat) {vs : List V} {us : List Value}, VRs μ vs us → VRs μ (vs.drop n) (us.drop n)
  | 0, vs, us, h => by simpa using h
  | n + 1, [], us, h => by rw [VRs_nil.1 h]; simp [VRs]
  | n + 1, v :: vs, us, h => by
    obtain ⟨x, xs, rfl, hx, h⟩ := VRs_cons.1 h
    simpa using VRs_drop n h
theorem VRs_set {μ : Mp} : ∀ (i : Nat) {vs : List V} {us : List Value} {v : V} {u : Value}, VRs μ vs us → VR μ v u → VRs μ (vs.set i v) (us.set i u)
  | i, [], us, v, u, h, h' => by rw [VRs_nil.1 h]; simp [VRs]
  | 0, w :: vs, us, v, u, h, h' => by
    obtain ⟨x, xs, rfl, hx, h⟩ := VRs_cons.1 h
    exact VRs_cons.2 ⟨u, xs, rfl, h', h⟩
  | i + 1, w :: vs, us, v, u, h, h' => by
    obtain ⟨x, xs, rfl, hx, h⟩ := VRs_cons.1 h
    exact VRs_cons.2 ⟨x, xs.set i u, rfl, hx, VRs_set i h h'⟩
theorem VRs_replicate {μ : Mp} {v : V} {u : Value} (h : VR μ v u) : ∀ n, VRs μ (List.replicate n v) (List.replicate n u)
  | 0 => by simp [VRs]
  | n + 1 => VRs_cons.2 ⟨u, List.replicate n u, rfl, h, VRs_replicate h n⟩

/-- One list of blocks' places goes over into another below n. -/
structure Agree (n : Nat) (μ μ' : Mp) : Prop where
  pl : ∀ b, b < n → μ'.pl b = μ.pl b
  sz : ∀ b c d, b < n → μ.pl b = some (c, d) → μ'.sz c = μ.sz c

theorem Agree.refl (n : Nat) (μ : Mp) : Agree n μ μ := ⟨fun _ _ => rfl, fun _ _ _ _ _ => rfl⟩
theorem Agree.trans {n m : Nat} {μ μ' μ'' : Mp} (h : Agree n μ μ') (h' : Agree m μ' μ'') (hn : n ≤ m) : Agree n μ μ'' :=
  ⟨fun b hb => (h'.pl b (by omega)).trans (h.pl b hb), fun b c d hb e => (h'.sz b c d (by omega) ((h.pl b hb).trans e)).trans (h.sz b c d hb e)⟩
theorem Agree.mono {n m : Nat} {μ μ' : Mp} (h : Agree m μ μ') (hn : n ≤ m) : Agree n μ μ' :=
  ⟨fun b hb => h.pl b (by omega), fun b c d hb e => h.sz b c d (by omega) e⟩

/-- Nothing is placed from n on. -/
def Mp.upto (μ : Mp) (n : Nat) : Prop := ∀ b, n ≤ b → μ.pl b = none

theorem Mp.upto.lt {μ : Mp} {n b : Nat} {x : Nat × Nat} (h : μ.upto n) (e : μ.pl b = some x) : b < n := by
  by_cases hb : b < n
  · exact hb
  · have := h b (by omega); rw [this] at e; cases e

/-- What is placed stays where it is. -/
structure Mp.le (μ μ' : Mp) : Prop where
  pl : ∀ b x, μ.pl b = some x → μ'.pl b = some x
  sz : ∀ b c d, μ.pl b = some (c, d) → μ'.sz c = μ.sz c

theorem Mp.le.refl (μ : Mp) : μ.le μ := ⟨fun _ _ h => h, fun _ _ _ _ => rfl⟩
theorem Mp.le.trans {μ μ' μ'' : Mp} (h : μ.le μ') (h' : μ'.le μ'') : μ.le μ'' :=
  ⟨fun b x e => h'.pl b x (h.pl b x e), fun b c d e => (h'.sz b c d (h.pl b _ e)).trans (h.sz b c d e)⟩
theorem Mp.upto.le {n : Nat} {μ μ' : Mp} (hu : μ.upto n) (ha : Agree n μ μ') : μ.le μ' :=
  ⟨fun b x e => (ha.pl b (hu.lt e)).trans e, fun b c d e => ha.sz b c d (hu.lt e) e⟩

mutual
theorem VR.mono {μ μ' : Mp} (ha : μ.le μ') : ∀ {v : V} {u : Value}, VR μ v u → VR μ' v u
  | .bot, u, h => by simp [VR]
  | .bool b, u, h => by simpa [VR] using h
  | .int k m, u, h => by simpa [VR] using h
  | .str s, u, h => by simpa [VR] using h
  | .ptr b o, u, h => by
    obtain ⟨c, d, e, rfl⟩ := (by simpa [VR] using h : ∃ c d, μ.pl b = some (c, d) ∧ u = _)
    simp only [VR]; exact ⟨c, d, ha.pl b _ e, rfl⟩
  | .nilptr, u, h => by simpa [VR] using h
  | .slice b o len cap es, u, h => by
    simp only [VR] at h ⊢
    obtain ⟨c, d, o', cap', e, hv, hl, ho, h1, h2⟩ := h
    exact ⟨c, d, o', cap', ha.pl b _ e, hv, hl, ho, h1, fun x hx => by rw [ha.sz b c d e]; exact h2 x hx⟩
  | .nilslice, u, h => by simpa [VR] using h
  | .map b, u, h => by
    simp only [VR] at h ⊢
    obtain ⟨c, e, hv⟩ := h
    exact ⟨c, ha.pl b _ e, hv⟩
  | .nilmap, u, h => by simpa [VR] using h
  | .func f xs ys, u, h => by
    simp only [VR] at h ⊢
    obtain ⟨us, ws, h1, h2, hv⟩ := h
    exact ⟨us, ws, VRs.mono ha h1, VRs.mono ha h2, hv⟩
  | .yield b, u, h => by
    simp only [VR] at h ⊢
    obtain ⟨c, e, hv⟩ := h
    exact ⟨c, ha.pl b _ e, hv⟩
  | .nilfunc, u, h => by simpa [VR] using h
  | .agg cs, u, h => by
    simp only [VR] at h ⊢
    obtain ⟨us, h1, hv⟩ := h
    exact ⟨us, VRs.mono ha h1, hv⟩
  | .tup cs, u, h => by
    simp only [VR] at h ⊢
    obtain ⟨us, h1, hv⟩ := h
    exact ⟨us, VRs.mono ha h1, hv⟩
theorem VRs.mono {μ μ' : Mp} (ha : μ.le μ') : ∀ {vs : List V} {us : List Value}, VRs μ vs us → VRs μ' vs us
  | [], us, h => by simpa [VRs] using h
  | v :: vs, us, h => by
    obtain ⟨x, xs, rfl, hx, h⟩ := VRs_cons.1 h
    exact VRs_cons.2 ⟨x, xs, rfl, VR.mono ha hx, VRs.mono ha h⟩
end

theorem VR.go {n : Nat} {μ μ' : Mp} (hu : μ.upto n) (ha : Agree n μ μ') {v : V} {u : Value} (h : VR μ v u) : VR μ' v u := h.mono (hu.le ha)
theorem VRs.go {n : Nat} {μ μ' : Mp} (hu : μ.upto n) (ha : Agree n μ μ') {vs : List V} {us : List Value} (h : VRs μ vs us) : VRs μ' vs us := h.mono (hu.le ha)

mutual
/-- What is below n keeps its meaning under a list that agrees below n. -/
theorem VR.bel {n : Nat} {μ μ' : Mp} (ha : Agree n μ μ') : ∀ {v : V} {u : Value}, v.bel n = true → VR μ' v u → VR μ v u
  | .bot, u, _, h => by simp [VR]
  | .bool b, u, _, h => by simpa [VR] using h
  | .int k m, u, _, h => by simpa [VR] using h
  | .str s, u, _, h => by simpa [VR] using h
  | .ptr b o, u, hb, h => by
    simp only [VR, V.bel] at *
    obtain ⟨c, d, e, hv⟩ := h
    exact ⟨c, d, (ha.pl b (blt_iff.1 hb)).symm.trans e, hv⟩
  | .nilptr, u, _, h => by simpa [VR] using h
  | .slice b o len cap es, u, hb, h => by
    simp only [VR, V.bel] at *
    obtain ⟨c, d, o', cap', e, hv, hl, ho, h1, h2⟩ := h
    have e' := (ha.pl b (blt_iff.1 hb)).symm.trans e
    exact ⟨c, d, o', cap', e', hv, hl, ho, h1, fun x hx => by rw [← ha.sz b c d (blt_iff.1 hb) e']; exact h2 x hx⟩
  | .nilslice, u, _, h => by simpa [VR] using h
  | .map b, u, hb, h => by
    simp only [VR, V.bel] at *
    obtain ⟨c, e, hv⟩ := h
    exact ⟨c, (ha.pl b (blt_iff.1 hb)).symm.trans e, hv⟩
  | .nilmap, u, _, h => by simpa [VR] using h
  | .func f xs ys, u, hb, h => by
    simp only [VR, V.bel, Bool.and_eq_true] at *
    obtain ⟨us, ws, h1, h2, hv⟩ := h
    exact ⟨us, ws, VRs.bel ha hb.1 h1, VRs.bel ha hb.2 h2, hv⟩
  | .yield b, u, hb, h => by
    simp only [VR, V.bel] at *
    obtain ⟨c, e, hv⟩ := h
    exact ⟨c, (ha.pl b (blt_iff.1 hb)).symm.trans e, hv⟩
  | .nilfunc, u, _, h => by simpa [VR] using h
  | .agg cs, u, hb, h => by
    simp only [VR, V.bel] at *
    obtain ⟨us, h1, hv⟩ := h
    exact ⟨us, VRs.bel ha hb h1, hv⟩
  | .tup cs, u, hb, h => by
    simp only [VR, V.bel] at *
    obtain ⟨us, h1, hv⟩ := h
    exact ⟨us, VRs.bel ha hb h1, hv⟩
theorem VRs.bel {n : Nat} {μ μ' : Mp} (ha : Agree n μ μ') : ∀ {vs : List V} {us : List Value}, V.bels n vs = true → VRs μ' vs us → VRs μ vs us
  | [], us, _, h => by simpa [VRs] using h
  | v :: vs, us, hb, h => by
    obtain ⟨x, xs, rfl, hx, h⟩ := VRs_cons.1 h
    simp only [V.bels] at hb
    cases e : v.bel n
    · rw [e] at hb; cases hb
    · rw [e] at hb; exact VRs_cons.2 ⟨x, xs, rfl, VR.bel ha e hx, VRs.bel ha hb h⟩
end

/-! ### a frame's slots -/
/-- Slots of depth d say what the temporaries hold. -/
def TR (μ : Mp) (d : Nat) (a : Tr) (tmps : Array Value) : Prop := ∀ t v, tmps[t]? = some v → VR μ (gt (pth d t) a) v

theorem TR.mono {μ μ' : Mp} (ha : μ.le μ') {d : Nat} {a : Tr} {tmps : Array Value} (h : TR μ d a tmps) : TR μ' d a tmps :=
  fun t v e => VR.mono ha (h t v e)
theorem TR.go {n : Nat} {μ μ' : Mp} (hu : μ.upto n) (ha : Agree n μ μ') {d : Nat} {a : Tr} {tmps : Array Value} (h : TR μ d a tmps) : TR μ' d a tmps := h.mono (hu.le ha)

theorem TR.set {μ : Mp} {d : Nat} {a : Tr} {tmps : Array Value} (h : TR μ d a tmps) (hd : tmps.size ≤ 16 ^ d) {t : Nat} (ht : t < tmps.size) {v : V} {u : Value} (hv : VR μ v u) :
    TR μ d (stt (pth d t) a v) (tmps.setIfInBounds t u) := by
  intro t' v' e
  have ht' : t' < tmps.size := by
    obtain ⟨h1, _⟩ := Array.getElem?_eq_some_iff.1 e
    simpa using h1
  rw [gt_stt d t' t a v (by omega) (by omega)]
  by_cases e' : t' = t
  · subst e'
    rw [if_pos rfl]
    rw [Array.getElem?_setIfInBounds_self_of_lt ht'] at e
    cases e; exact hv
  · rw [if_neg e']
    rw [Array.getElem?_setIfInBounds_ne (Ne.symm e')] at e
    exact h t' v' e

theorem TR.get {μ : Mp} {d : Nat} {a : Tr} {tmps : Array Value} (h : TR μ d a tmps) {t : Nat} (ht : t < tmps.size) : VR μ (gt (pth d t) a) (tmps.getD t undef) := by
  have e : tmps[t]? = some tmps[t] := Array.getElem?_eq_getElem ht
  have := h t _ e
  simpa [Array.getD, ht] using this

/-- Slots that are kept say what they said. -/
theorem keepIn_cons (a : Tr) (p : Pth) (ps : List Pth) (t : Tr) : keepIn a (p :: ps) t = keepIn a ps (stt p t (gt p a)) := rfl

theorem TR.keepIn {μ : Mp} {d : Nat} {a : Tr} {tmps : Array Value} (h : TR μ d a tmps) (hd : tmps.size ≤ 16 ^ d) : ∀ (ts : List Nat) (b : Tr), (∀ t ∈ ts, t < 16 ^ d) → TR μ d b tmps →
    TR μ d (keepIn a (ts.map (pth d)) b) tmps
  | [], b, _, hb => hb
  | t :: ts, b, hts, hb => by
    rw [List.map_cons, keepIn_cons]
    refine TR.keepIn h hd ts _ (fun x hx => hts x (by simp [hx])) ?_
    intro t' v' e
    have ht' : t' < tmps.size := (Array.getElem?_eq_some_iff.1 e).1
    rw [gt_stt d t' t b _ (by omega) (hts t (by simp))]
    by_cases e' : t' = t
    · subst e'; rw [if_pos rfl]; exact h t' v' e
    · rw [if_neg e']; exact hb t' v' e

theorem mask_paths {d : Nat} : ∀ {ps : List Pth}, mOk d ps = true → ∃ ts : List Nat, ps = ts.map (pth d) ∧ ∀ t ∈ ts, t < 16 ^ d
  | [], _ => ⟨[], rfl, by simp⟩
  | p :: ps, h => by
    simp only [mOk, List.all_cons, Bool.and_eq_true] at h
    obtain ⟨ts, e, ht⟩ := mask_paths (ps := ps) (by simpa [mOk] using h.2)
    refine ⟨unp p :: ts, ?_, ?_⟩
    · rw [List.map_cons, ← e]; congr 1; exact beq_iff_eq.1 h.1.1
    · intro t ht'
      rcases List.mem_cons.1 ht' with rfl | ht'
      · exact blt_iff.1 h.1.2
      · exact ht t ht'

theorem TR.forget {μ : Mp} {d : Nat} {a : Tr} {tmps : Array Value} (h : TR μ d a tmps) (hd : tmps.size ≤ 16 ^ d) (h0 : 0 < d) {ps : List Pth} (hm : mOk d ps = true) : TR μ d (forget ps a) tmps := by
  obtain ⟨ts, rfl, ht⟩ := mask_paths hm
  refine TR.keepIn h hd ts _ ht ?_
  intro t v e
  rw [gt_root d t (by have := (Array.getElem?_eq_some_iff.1 e).1; omega) h0]
  simp [VR]

end Go.Proofs.Ytnmkbnejapdnnaa.Ev
