/-
  Words for walking through code with values that are not known: what an open test, a read, a store, a loop, a return come to.
-/
import Derived.Test.YtnmkbnejapdnnaaEvCall
set_option linter.unusedVariables false
namespace Go.Proofs.Ytnmkbnejapdnnaa.Ev
open Go

section
variable {σ σ' σ₀ τ : St} {k : Cn} {A B : Prop}

/-! ### tests -/
theorem brec {p : Prop} [i : Decidable p] (h1 : p → B) (h0 : ¬ p → A) : (Bool.rec (motive := fun _ => Prop) A B (decide p)) := by
  by_cases h : p
  · rw [decide_eq_true h]; exact h1 h
  · rw [decide_eq_false h]; exact h0 h
theorem brecb {b : Bool} (h1 : b = true → B) (h0 : b = false → A) : (Bool.rec (motive := fun _ => Prop) A B b) := by
  cases b
  · exact h0 rfl
  · exact h1 rfl
theorem brec1 {b : Bool} (hb : b = true) (h1 : B) : (Bool.rec (motive := fun _ => Prop) A B b) := by subst hb; exact h1
theorem brec0 {b : Bool} (hb : b = false) (h0 : A) : (Bool.rec (motive := fun _ => Prop) A B b) := by subst hb; exact h0
theorem bsk1 {b : Bool} {f g : Sk} (hb : b = true) (h : g k σ) : (Bool.rec (motive := fun _ => Sk) f g b) k σ := by subst hb; exact h
theorem bsk0 {b : Bool} {f g : Sk} (hb : b = false) (h : f k σ) : (Bool.rec (motive := fun _ => Sk) f g b) k σ := by subst hb; exact h
theorem drec {p : Prop} {i : Decidable p} (h1 : p → B) (h0 : ¬ p → A) : (Decidable.rec (motive := fun _ => Prop) (fun _ => A) (fun _ => B) i) := by
  cases i with
  | isTrue h => exact h1 h
  | isFalse h => exact h0 h
theorem drec1 {p : Prop} {i : Decidable p} (hp : p) (h1 : B) : (Decidable.rec (motive := fun _ => Prop) (fun _ => A) (fun _ => B) i) := drec (fun _ => h1) (fun h => absurd hp h)
theorem drec0 {p : Prop} {i : Decidable p} (hp : ¬ p) (h0 : A) : (Decidable.rec (motive := fun _ => Prop) (fun _ => A) (fun _ => B) i) := drec (fun h => absurd h hp) (fun _ => h0)
theorem ne_dec (a b : Int) : (a != b) = decide (a ≠ b) := by by_cases h : a = b <;> simp [h]
theorem eq_dec (a b : Int) : (a == b) = decide (a = b) := by by_cases h : a = b <;> simp [h]
theorem ixOk_nat {i n : Nat} (h : i < n) : ixOk (i : Int) n = true := ixOk_iff.2 ⟨by omega, by omega⟩
theorem wr_i64 {n : Int} (h0 : -9223372036854775808 ≤ n) (h1 : n ≤ 9223372036854775807) : wr .i64 n = n := by rw [wr_eq, wrap_i64 h0 h1]

/-! ### the heap -/
/-- σ' is σ with new blocks. -/
structure Ext (σ σ' : St) : Prop where
  n : σ.n ≤ σ'.n
  get : ∀ b o, σ.get b = some o → σ'.get b = some o
  base : σ'.base = σ.base
  mods : σ'.mods = σ.mods

theorem Ext.refl (σ : St) : Ext σ σ := ⟨Nat.le_refl _, fun _ _ h => h, rfl, rfl⟩
theorem Ext.trans (h : Ext σ₀ σ) (h' : Ext σ σ') : Ext σ₀ σ' := ⟨Nat.le_trans h.n h'.n, fun b o e => h'.get b o (h.get b o e), h'.base.trans h.base, h'.mods.trans h.mods⟩
theorem Ext.add (h : Ext σ₀ σ) (o : Obj) : Ext σ₀ (σ.add o) := ⟨by rw [n_add]; have := h.n; omega, fun b o' e => by
  rw [get_add, if_neg (by have := get_lt e; have := h.n; omega)]; exact h.get b o' e, h.base, h.mods⟩
theorem put_mods_new {b : Nat} {o : Obj} (hb : σ.base ≤ b) : (σ.put b o).mods = σ.mods := by
  show Bool.rec (motive := fun _ => List Nat) σ.mods (nins b σ.mods) (Nat.blt b σ.base) = _
  rw [blt_false.2 (by omega)]
theorem Ext.put (h : Ext σ₀ σ) {b : Nat} (hb : σ₀.n ≤ b) (hb0 : σ₀.base ≤ b) (o : Obj) : Ext σ₀ (σ.put b o) := ⟨h.n, fun b' o' e => by
  rw [get_put, if_neg (fun hc => by have := get_lt e; omega)]; exact h.get b' o' e, h.base, by rw [put_mods_new (by rw [h.base]; exact hb0)]; exact h.mods⟩
theorem Ext.enter (σ : St) : Ext σ.enter σ.enter := Ext.refl _

/-- All that was known is known. -/
structure Ge (σ σ' : St) : Prop where
  n : σ.n ≤ σ'.n
  get : ∀ b o, σ.get b = some o → σ'.get b = some o
theorem Ge.refl (σ : St) : Ge σ σ := ⟨Nat.le_refl _, fun _ _ h => h⟩
theorem Ge.trans (h : Ge σ₀ σ) (h' : Ge σ σ') : Ge σ₀ σ' := ⟨Nat.le_trans h.n h'.n, fun b o e => h'.get b o (h.get b o e)⟩
theorem Ge.enter (h : Ge σ₀ σ) : Ge σ₀ σ.enter := ⟨h.n, h.get⟩
theorem Ge.ext (h : Ge σ₀ σ) (h' : Ext σ σ') : Ge σ₀ σ' := h.trans ⟨h'.n, h'.get⟩
theorem Ext.ge (h : Ext σ σ') : Ge σ σ' := ⟨h.n, h.get⟩
theorem Ge.add (h : Ge σ₀ σ) (o : Obj) : Ge σ₀ (σ.add o) := h.ext ((Ext.refl σ).add o)
theorem Ge.put (h : Ge σ₀ σ) {b : Nat} (hb : σ₀.n ≤ b) (o : Obj) : Ge σ₀ (σ.put b o) := ⟨h.n, fun b' o' e => by
  rw [get_put, if_neg (fun hc => by have := get_lt e; omega)]; exact h.get b' o' e⟩

theorem get_add_self (σ : St) (o : Obj) : (σ.add o).get σ.n = some o := by rw [get_add, if_pos rfl]
theorem get_add_lt {b : Nat} (o : Obj) (h : b < σ.n) : (σ.add o).get b = σ.get b := by rw [get_add, if_neg (by omega)]
theorem get_add_some {b : Nat} {x : Obj} (o : Obj) (h : σ.get b = some x) : (σ.add o).get b = some x := by rw [get_add_lt o (get_lt h)]; exact h
theorem get_put_self {b : Nat} {x : Obj} (o : Obj) (h : σ.get b = some x) : (σ.put b o).get b = some o := by rw [get_put, if_pos ⟨rfl, by rw [h]; rfl⟩]
theorem get_put_ne {b b' : Nat} (o : Obj) (h : b' ≠ b) : (σ.put b o).get b' = σ.get b' := by rw [get_put, if_neg (fun hc => h hc.1)]

/-! ### reading and writing -/
theorem ldrec {f : List V → Sk} {o : Option (List V)} {vs : List V} (h : o = some vs) (hk : f vs k σ) : (Option.rec (motive := fun _ => Sk) fail f o) k σ := by subst h; exact hk
theorem cells_of {b : Nat} {ro : Bool} {vs : List V} (h : σ.get b = some (.cells ro vs)) : cellsOf (σ.get b) = some vs := by rw [h]; rfl
theorem nth_ok {vs : List V} {i : Nat} {v : V} (h : vs[i]? = some v) (hk : k v σ) : nth vs i k σ := by rw [nth_get, h]; exact hk
theorem segv_ok {vs : List V} {o m : Nat} (h : o + m ≤ vs.length) (hk : k (.agg (seg vs o m)) σ) : segv o m vs k σ := by unfold segv; rw [if_pos h]; exact hk
theorem partv_ok {vs xs : List V} {o m : Nat} (h : o + m ≤ vs.length) (hx : seg vs o m = xs) (hk : k (.agg xs) σ) : partv o (some m) vs k σ := by subst hx; exact segv_ok h hk
theorem partv_one {vs : List V} {i : Nat} {v : V} (h : vs[i]? = some v) (hk : k v σ) : partv i none vs k σ := nth_ok h hk
theorem wrs_eq {b o : Nat} {cs vs : List V} (h : σ.get b = some (.cells false vs)) (hl : o + cs.length ≤ vs.length) (ho : ones cs = true) : wrs σ b o cs = some (σ.put b (.cells false (setAt vs o cs))) := by
  unfold wrs
  rw [h]
  show Bool.rec (motive := fun _ => Option St) none (some (σ.put b (.cells false (setAt vs o cs)))) (Nat.ble (o + cs.length) vs.length && ones cs) = _
  rw [ho, Nat.ble_eq_true_of_le hl]; rfl
theorem gs_step {s : Option St} (h : s = some σ') (hk : k .bot σ') : gs s k := by subst h; exact hk
/-- A store: what stood there, what is stored, what stands there behind it. -/
theorem gs_st {b o : Nat} {C vs : List V} (cs ws : List V) (h : σ.get b = some (.cells false vs)) (hc : C = cs) (hl : o + cs.length ≤ vs.length) (ho : ones cs = true) (hw : setAt vs o cs = ws) (hk : k .bot (σ.put b (.cells false ws))) : gs (wrs σ b o C) k := by
  subst hc; subst hw; exact gs_step (wrs_eq h hl ho) hk
theorem gvs_step {s : Option (V × St)} {v : V} (h : s = some (v, σ')) (hk : k v σ') : gvs s k := by subst h; exact hk

/-! ### loops -/
theorem iter_inv {body : Tr → St → Kx → Prop} {m : List Pth} {k : Kx} (I : Nat → Tr → St → Prop)
    (step : ∀ (j : Nat) (again : Tr → St → Kx → Prop) (t : Tr) (σ : St), I j t σ → (∀ j' t' σ', j' < j → I j' t' σ' → again t' σ' k) → body (forget m t) σ (seqK again k))
    {N j : Nat} (hj : j < N) {t : Tr} {σ : St} (h : I j t σ) : iter body m N t σ k := by
  induction N generalizing j t σ with
  | zero => omega
  | succ N ih =>
    show body (forget m t) σ (seqK (iter body m N) k)
    exact step j _ t σ h (fun j' t' σ' hj' h' => ih (by omega) h')

/-! ### rows -/
/-- v is a slice whose elements, of m cells each, are these. -/
def SlN (σ : St) (m : Nat) (v : V) (xs : List (List V)) : Prop :=
  (v = .nilslice ∧ xs = []) ∨ ∃ b o cap es ro vs, v = .slice b o xs.length cap es ∧ xs.length ≤ cap ∧ (es = none ∨ es = some m) ∧ σ.get b = some (.cells ro vs) ∧ ∀ i x, xs[i]? = some x → o + i * m + m ≤ vs.length ∧ seg vs (o + i * m) m = x
theorem SlN.ge {m : Nat} {v : V} {xs : List (List V)} (h : SlN σ m v xs) (he : Ge σ σ') : SlN σ' m v xs := by
  rcases h with h | ⟨b, o, cap, es, ro, vs, h1, hc, hes, h2, h3⟩
  · exact .inl h
  · exact .inr ⟨b, o, cap, es, ro, vs, h1, hc, hes, he.get _ _ h2, h3⟩
theorem SlN.enter {m : Nat} {v : V} {xs : List (List V)} (h : SlN σ m v xs) : SlN σ.enter m v xs := h.ge (Ge.refl σ).enter
theorem SlN.len {m : Nat} {v : V} {xs : List (List V)} (h : SlN σ m v xs) {σ' : St} (hk : k (.int .i64 xs.length) σ') : lenv v k σ' := by
  rcases h with ⟨rfl, h⟩ | ⟨b, o, cap, es, ro, vs, rfl, hc, hes, h2, h3⟩
  · subst h; exact hk
  · exact hk
theorem seg1 {vs : List V} {o : Nat} {x : V} (h : seg vs o 1 = [x]) : vs[o]? = some x := by
  have := congrArg (·[0]?) h
  simpa [seg] using this
theorem seg_at {vs : List V} {o m i : Nat} {x : V} {xs : List V} (h : seg vs o m = xs) (hx : xs[i]? = some x) : vs[o + i]? = some x := by
  have hi : i < m := by
    have := (List.getElem?_eq_some_iff.1 hx).1
    rw [← h] at this; simp [seg] at this; omega
  have := congrArg (·[i]?) h
  simp [seg, List.getElem?_take, hi] at this
  rw [this, hx]
/-- Where an element stands. -/
theorem SlN.at {m : Nat} {v : V} {xs : List (List V)} (h : SlN σ m v xs) {i : Nat} {x : List V} (hx : xs[i]? = some x) : ∃ b o cap es ro vs, v = .slice b o xs.length cap es ∧ σ.get b = some (.cells ro vs) ∧ o + i * m + m ≤ vs.length ∧ seg vs (o + i * m) m = x := by
  rcases h with ⟨_, h⟩ | ⟨b, o, cap, es, ro, vs, h1, hc, hes, h2, h3⟩
  · subst h; simp at hx
  · exact ⟨b, o, cap, es, ro, vs, h1, h2, h3 i x hx⟩
/-- A slice whose elements stand one after the other in a block. -/
theorem SlN.mk {m b o cap : Nat} {es : Option Nat} {ro : Bool} {vs : List V} {xs : List (List V)} (h : σ.get b = some (.cells ro vs)) (hc : xs.length ≤ cap) (hes : es = none ∨ es = some m) (hx : ∀ i x, xs[i]? = some x → o + i * m + m ≤ vs.length ∧ seg vs (o + i * m) m = x) : SlN σ m (.slice b o xs.length cap es) xs :=
  .inr ⟨b, o, cap, es, ro, vs, rfl, hc, hes, h, hx⟩
theorem flat_seg {m : Nat} : ∀ {xs : List (List V)}, (∀ x ∈ xs, x.length = m) → ∀ i x, xs[i]? = some x → i * m + m ≤ xs.flatten.length ∧ seg xs.flatten (i * m) m = x
  | [], _, i, x, h => by simp at h
  | y :: xs, hl, 0, x, h => by
    simp at h; subst h
    have := hl y (by simp)
    refine ⟨by simp [this], ?_⟩
    unfold seg; rw [Nat.zero_mul, List.drop_zero, List.flatten_cons, ← this, List.take_left]
  | y :: xs, hl, i + 1, x, h => by
    simp at h
    have hy := hl y (by simp)
    obtain ⟨h1, h2⟩ := flat_seg (fun z hz => hl z (by simp [hz])) i x h
    refine ⟨by simp [hy, Nat.succ_mul] at h1 ⊢; omega, ?_⟩
    unfold seg at h2 ⊢
    rw [List.flatten_cons, List.drop_append, List.drop_eq_nil_of_le (by rw [hy, Nat.succ_mul]; omega), List.nil_append, hy, Nat.succ_mul, Nat.add_sub_cancel]; exact h2
theorem SlN.flat {m b cap : Nat} {es : Option Nat} {ro : Bool} {xs : List (List V)} (hl : ∀ x ∈ xs, x.length = m) (h : σ.get b = some (.cells ro xs.flatten)) (hc : xs.length ≤ cap) (hes : es = none ∨ es = some m) : SlN σ m (.slice b 0 xs.length cap es) xs :=
  .mk h hc hes (fun i x hx => by rw [Nat.zero_add]; exact flat_seg hl i x hx)
theorem SlN.one {b : Nat} {ro : Bool} {x : V} (h : σ.get b = some (.cells ro [x])) : SlN σ 1 (.slice b 0 1 1 none) [[x]] := .flat (m := 1) (xs := [[x]]) (by simp) h (by simp) (.inl rfl)
theorem SlN.two {b : Nat} {ro : Bool} {x y : V} (h : σ.get b = some (.cells ro [x, y])) : SlN σ 1 (.slice b 0 2 2 none) [[x], [y]] := .flat (m := 1) (xs := [[x], [y]]) (by simp) h (by simp) (.inl rfl)

/-- A part of a slice. -/
theorem slc_ok {m l h : Nat} {v : V} {xs : List (List V)} {a : Tr} {lo hi : Option Opd} (hs : SlN σ m v xs) (hm : 0 < m) (hlh : l ≤ h) (hh : h ≤ xs.length) (hl : bnd a lo 0 = some l) (hhi : bnd a hi xs.length = some h) {σ' : St}
    (hk : ∀ v', SlN σ m v' ((xs.drop l).take (h - l)) → k v' σ') : slcv m a v lo hi none k σ' := by
  rcases hs with ⟨rfl, hx⟩ | ⟨b, o, cap, es, ro, vs, rfl, hc, hes, h2, h3⟩
  · subst hx
    simp at hh; subst hh
    have : l = 0 := by omega
    subst this
    unfold slcv
    dsimp only
    rw [hl, show bnd a hi 0 = some 0 from hhi]
    exact hk _ (.inl ⟨rfl, by simp⟩)
  · unfold slcv
    dsimp only
    rw [hl, hhi]
    dsimp only
    unfold slcAt
    dsimp only
    rw [if_pos ⟨hlh, by omega⟩]
    have hlen : ((xs.drop l).take (h - l)).length = h - l := by rw [List.length_take, List.length_drop]; omega
    have key : ∀ o' es', (l < h → o' = o + l * m) → (es' = none ∨ es' = some m) → SlN σ m (.slice b o' (h - l) (cap - l) es') ((xs.drop l).take (h - l)) := by
      intro o' es' ho hes'
      refine .inr ⟨b, o', cap - l, es', ro, vs, by rw [hlen], by rw [hlen]; omega, hes', h2, fun i x hx => ?_⟩
      have hi : i < h - l := by rw [← hlen]; exact (List.getElem?_eq_some_iff.1 hx).1
      rw [List.getElem?_take, if_pos hi, List.getElem?_drop] at hx
      rw [ho (by omega)]
      have := h3 (l + i) x hx
      rw [Nat.add_mul, ← Nat.add_assoc] at this
      exact this
    rcases hes with rfl | rfl
    · dsimp only
      refine hk _ (key _ _ (fun hlt => ?_) (.inl rfl))
      rw [if_neg (by omega)]
    · dsimp only
      rw [if_pos rfl]
      exact hk _ (key _ _ (fun _ => rfl) (.inr rfl))
theorem bnd_int {a : Tr} {x : Opd} {d : Nat} {kd : IntKind} {n : Nat} (h : opd a x = .int kd n) : bnd a (some x) d = some n := by
  unfold bnd; dsimp only; rw [h]; dsimp only; rw [if_pos (by omega)]; simp

/-- Where the first element stands for which p holds. -/
def idx {α : Type} (p : α → Bool) (xs : List α) : Int := match xs.findIdx? p with
  | some i => i
  | none => -1
theorem idx_here {α : Type} {p : α → Bool} {xs : List α} {i : Nat} (hi : i < xs.length) (h0 : ∀ x ∈ xs.take i, p x = false) (h1 : p xs[i] = true) : idx p xs = i := by
  unfold idx
  have : xs.findIdx? p = some i := by
    rw [List.findIdx?_eq_some_iff_getElem]
    refine ⟨hi, h1, fun j hj => ?_⟩
    have := h0 xs[j] (by rw [List.mem_take_iff_getElem]; exact ⟨j, by omega, rfl⟩)
    rw [this]; simp
  rw [this]
theorem idx_none {α : Type} {p : α → Bool} {xs : List α} (h0 : ∀ x ∈ xs, p x = false) : idx p xs = -1 := by
  unfold idx
  have : xs.findIdx? p = none := by rw [List.findIdx?_eq_none_iff]; intro x hx; rw [h0 x hx]
  rw [this]
theorem idx_ge {α : Type} (p : α → Bool) (xs : List α) : decide (idx p xs ≥ 0) = xs.any p := by
  unfold idx
  cases h : xs.findIdx? p with
  | none =>
    have := List.findIdx?_eq_none_iff.1 h
    simp; intro x hx; simpa using this x hx
  | some i =>
    obtain ⟨hi, h1, _⟩ := List.findIdx?_eq_some_iff_getElem.1 h
    simp; exact ⟨_, List.getElem_mem hi, h1⟩
theorem take_false {α : Type} {p : α → Bool} {xs : List α} {i : Nat} (hi : i < xs.length) (h0 : ∀ x ∈ xs.take i, p x = false) (h1 : p xs[i] = false) : ∀ x ∈ xs.take (i + 1), p x = false := by
  intro x hx
  rw [List.take_succ_eq_append_getElem hi] at hx
  rcases List.mem_append.1 hx with hx | hx
  · exact h0 x hx
  · simp at hx; rw [hx]; exact h1

/-! ### returns -/
theorem leave_clean {v : V} (hv : v.bel σ.n = true) (hm : τ.mods = []) : σ.leave τ v = σ := by
  unfold St.leave
  rw [hv, hm]; rfl
theorem ret_clean (v : V) (hm : τ.mods = []) (hv : v.bel σ.n = true) (hk : k v σ) : k v (σ.leave τ v) := by rw [leave_clean hv hm]; exact hk
theorem leave_back {v : V} (hv : v.bel σ.n = false) : σ.leave τ v = σ.back τ := by
  unfold St.leave
  rw [hv]; rfl
theorem bel_int {n : Nat} (kd : IntKind) (x : Int) : (V.int kd x).bel n = true := by simp [V.bel]
theorem retP_ok {rs : List V} (hb : noBot rs = true) (hk : k (resv rs) (σ.leave τ (resv rs))) : retP σ k rs τ := by unfold retP; rw [hb]; exact hk

end

end Go.Proofs.Ytnmkbnejapdnnaa.Ev
