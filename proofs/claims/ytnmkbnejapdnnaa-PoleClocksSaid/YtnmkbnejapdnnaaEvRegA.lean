/-
  Regions of open order: what the checks say; hidden blocks.
-/
import Derived.Test.YtnmkbnejapdnnaaEvDet
import Derived.Orders
set_option linter.unusedVariables false
set_option maxRecDepth 4000
namespace Go.Proofs.Ytnmkbnejapdnnaa.Ev
open Go

/-! ### masks -/
theorem tb_iff {m i : Nat} : tb m i = true ↔ m.testBit i = true := by
  unfold tb
  rw [beq_iff, Nat.testBit_eq_decide_div_mod_eq]
  simp
theorem tb_or {a b i : Nat} : tb (a ||| b) i = true ↔ tb a i = true ∨ tb b i = true := by
  rw [tb_iff, tb_iff, tb_iff, Nat.testBit_or]; simp
theorem tb_one {p i : Nat} : tb (1 <<< p) i = true ↔ i = p := by
  rw [tb_iff, Nat.one_shiftLeft, Nat.testBit_two_pow]; simp [eq_comm]
theorem tb_zero {i : Nat} : tb 0 i = false := by
  rw [← Bool.not_eq_true, tb_iff]; simp

/-! ### the order -/
theorem posIn_get {i : Nat} : ∀ {l : List Nat} {p q : Nat}, posIn i l p = some q → ∃ j, q = p + j ∧ l[j]? = some i
  | [], p, q, h => by cases h
  | x :: l, p, q, h => by
    simp only [posIn] at h
    cases e : Nat.beq x i
    · rw [e] at h
      obtain ⟨j, h1, h2⟩ := posIn_get h
      exact ⟨j + 1, by omega, by simpa using h2⟩
    · rw [e] at h
      cases h
      exact ⟨0, rfl, by rw [beq_iff.1 e]; rfl⟩

structure Ord (n : Nat) (order : List Nat) : Prop where
  len : order.length = n
  lt : ∀ {j i : Nat}, order[j]? = some i → i < n
  at' : ∀ {j i : Nat}, order[j]? = some i → posIn i order 0 = some j
  pos : ∀ {i : Nat}, i < n → ∃ j, j < n ∧ order[j]? = some i
  get : ∀ {j : Nat}, j < n → ∃ i, order[j]? = some i

theorem orderOk_spec {n : Nat} {order : List Nat} (h : orderOk n order = true) : Ord n order := by
  simp only [orderOk, Bool.and_eq_true, beq_iff_eq, List.all_eq_true, List.mem_range] at h
  obtain ⟨hl, h⟩ := h
  have hat : ∀ {j i : Nat}, order[j]? = some i → i < n ∧ posIn i order 0 = some j := by
    intro j i e
    have hj : j < n := by rw [← hl]; exact (List.getElem?_eq_some_iff.1 e).1
    have := (h j hj).2
    rw [e] at this
    simp only [Bool.and_eq_true, beq_iff_eq] at this
    exact ⟨blt_iff.1 this.1, this.2⟩
  refine ⟨hl, fun e => (hat e).1, fun e => (hat e).2, ?_, ?_⟩
  · intro i hi
    obtain ⟨q, hq⟩ := Option.isSome_iff_exists.1 (h i hi).1
    obtain ⟨j, h1, h2⟩ := posIn_get hq
    exact ⟨j, by rw [← hl]; exact (List.getElem?_eq_some_iff.1 h2).1, h2⟩
  · intro j hj
    exact ⟨order[j]'(by omega), List.getElem?_eq_getElem (by omega)⟩

theorem Ord.inj {n : Nat} {order : List Nat} (h : Ord n order) {j j' i : Nat} (e : order[j]? = some i) (e' : order[j']? = some i) : j = j' := by
  have := (h.at' e).symm.trans (h.at' e'); simpa using this

/-! ### the masks' meaning -/
theorem befOf_spec {order bef : List Nat} : ∀ {es : List Edge} {m : Nat}, befOf order bef es = some m →
    (∀ e ∈ es, Region.binds .any e = true → ∃ p, posIn e.on order 0 = some p ∧ p < bef.length ∧ tb m p = true) ∧
    (∀ q, tb m q = true → ∃ e ∈ es, Region.binds .any e = true ∧ ∃ p b, posIn e.on order 0 = some p ∧ bef[p]? = some b ∧ (q = p ∨ tb b q = true))
  | [], m, h => by
    simp only [befOf] at h; cases h
    exact ⟨fun e he => by simp at he, fun q hq => by rw [tb_zero] at hq; cases hq⟩
  | e :: es, m, h => by
    simp only [befOf] at h
    cases hr : befOf order bef es with
    | none => rw [hr] at h; cases h
    | some m' =>
      rw [hr] at h
      obtain ⟨g1, g2⟩ := befOf_spec hr
      cases hb : Region.binds .any e with
      | false =>
        rw [hb] at h; dsimp only at h; simp only [Option.some.injEq] at h; subst h
        refine ⟨fun e' he' hb' => ?_, fun q hq => ?_⟩
        · rcases List.mem_cons.1 he' with rfl | he'
          · rw [hb] at hb'; cases hb'
          · exact g1 e' he' hb'
        · obtain ⟨e', h1, h2⟩ := g2 q hq
          exact ⟨e', List.mem_cons_of_mem _ h1, h2⟩
      | true =>
        rw [hb] at h; dsimp only at h
        cases hp : posIn e.on order 0 with
        | none => rw [hp] at h; dsimp only at h; cases h
        | some p =>
          rw [hp] at h; dsimp only at h
          cases hbp : bef[p]? with
          | none => rw [hbp] at h; dsimp only at h; cases h
          | some b =>
            rw [hbp] at h; dsimp only at h
            simp only [Option.some.injEq] at h; subst h
            refine ⟨fun e' he' hb' => ?_, fun q hq => ?_⟩
            · rcases List.mem_cons.1 he' with rfl | he'
              · exact ⟨p, hp, (List.getElem?_eq_some_iff.1 hbp).1, tb_or.2 (.inl (tb_or.2 (.inr (tb_one.2 rfl))))⟩
              · obtain ⟨p', h1, h2, h3⟩ := g1 e' he' hb'
                exact ⟨p', h1, h2, tb_or.2 (.inl (tb_or.2 (.inl h3)))⟩
            · rcases tb_or.1 hq with hq | hq
              · rcases tb_or.1 hq with hq | hq
                · obtain ⟨e', h1, h2⟩ := g2 q hq
                  exact ⟨e', List.mem_cons_of_mem _ h1, h2⟩
                · exact ⟨e, by simp, hb, p, b, hp, hbp, .inl (tb_one.1 hq)⟩
              · exact ⟨e, by simp, hb, p, b, hp, hbp, .inr hq⟩

structure DrawAt (P : Program) (d nt : Nat) (ops : List Oper) (order bef : List Nat) (is : List EI) (j : Nat) (i m : Nat) (o : Oper) (it : EI) : Prop where
  hord : order[j]? = some i
  hop : ops[i]? = some o
  hbef : bef[j]? = some m
  hit : is[j]? = some it
  ok : itemOk P d nt ops o it = true
  mask : befOf order (bef.take j) o.after.toList = some m

theorem drawOk_spec {P : Program} {d nt : Nat} {ops : List Oper} {order : List Nat} : ∀ {js ms : List Nat} {is : List EI} {done : List Nat}, drawOk P d nt ops order js ms is done = true →
    js.length = ms.length ∧ is.length = ms.length ∧ ∀ k j m, js[k]? = some j → ms[k]? = some m → ∃ o it, ops[j]? = some o ∧ is[k]? = some it ∧ itemOk P d nt ops o it = true ∧ befOf order (done ++ ms.take k) o.after.toList = some m
  | [], [], [], _, _ => ⟨rfl, rfl, fun k j m h => by simp at h⟩
  | j :: js, m :: ms, i :: is, done, h => by
    simp only [drawOk] at h
    cases ho : ops[j]? with
    | none => rw [ho] at h; cases h
    | some o =>
      rw [ho] at h
      simp only [Bool.and_eq_true, beq_iff_eq] at h
      obtain ⟨⟨h1, h2⟩, h3⟩ := h
      obtain ⟨l1, l2, hr⟩ := drawOk_spec h3
      refine ⟨by simp [l1], by simp [l2], fun k j' m' e1 e2 => ?_⟩
      cases k with
      | zero => simp at e1 e2; subst e1; subst e2; exact ⟨o, i, ho, rfl, h1, by simpa using h2⟩
      | succ k =>
        simp at e1 e2
        obtain ⟨o', it, g1, g2, g3, g4⟩ := hr k j' m' e1 e2
        exact ⟨o', it, g1, by simpa using g2, g3, by simpa [List.append_assoc] using g4⟩
  | [], _ :: _, _, _, h => by simp [drawOk] at h
  | _ :: _, [], _, _, h => by simp [drawOk] at h
  | [], [], _ :: _, _, h => by simp [drawOk] at h
  | _ :: _, _ :: _, [], _, h => by simp [drawOk] at h

/-- All that is checked of a region of open order. -/
structure RC (P : Program) (d nt : Nat) (ops : Array Oper) (order bef : List Nat) (is : List EI) : Prop where
  ord : Ord ops.size order
  lb : bef.length = ops.size
  li : is.length = ops.size
  at' : ∀ j, j < ops.size → ∃ i m o it, DrawAt P d nt ops.toList order bef is j i m o it
  slots : ∀ (j : Nat) (x : EI), is[j]? = some x → mOk d (x.grd ++ x.op.slots) = true
  pair : ∀ (j : Nat) (x : EI) (i : Nat) (y : EI), is[j]? = some x → is[i]? = some y → pairOk bef x j y i = true

theorem RC.mk' {P : Program} {d nt : Nat} {ops : Array Oper} {order bef : List Nat} {is : List EI} (h1 : orderOk ops.size order = true) (h2 : drawOk P d nt ops.toList order order bef is [] = true) (h3 : slotsOk d bef is = true) : RC P d nt ops order bef is := by
  have ho := orderOk_spec h1
  obtain ⟨l1, l2, hd⟩ := drawOk_spec h2
  have lb : bef.length = ops.size := by rw [← l1, ho.len]
  simp only [slotsOk, List.all_eq_true, Bool.and_eq_true] at h3
  have hm : ∀ j x, is[j]? = some x → (x, j) ∈ is.zipIdx := fun j x e => by
    rw [List.mem_zipIdx_iff_getElem?]; exact e
  refine ⟨ho, lb, by rw [l2, lb], ?_, ?_, ?_⟩
  · intro j hj
    obtain ⟨i, hi⟩ := ho.get hj
    have hb : bef[j]? = some (bef[j]'(by omega)) := List.getElem?_eq_getElem (by omega)
    obtain ⟨o, it, g1, g2, g3, g4⟩ := hd j i _ hi hb
    exact ⟨i, _, o, it, ⟨hi, g1, hb, g2, g3, by simpa using g4⟩⟩
  · intro j x e; exact (h3 (x, j) (hm j x e)).1
  · intro j x i y e e'; exact (h3 (x, j) (hm j x e)).2 (y, i) (hm i y e')

theorem getD_of {l : List Nat} {j m : Nat} (h : l[j]? = some m) : l.getD j 0 = m := by simp [List.getD, h]

/-! ### hidden blocks -/
theorem hide_get : ∀ (l : List Nat) (σ : St) (b : Nat), (σ.hide l).get b = if b ∈ l ∧ (σ.get b).isSome = true then some .dead else σ.get b
  | [], σ, b => by simp [St.hide]
  | c :: l, σ, b => by
    have e : St.hide σ (c :: l) = St.hide ⟨hput σ.h c .dead, σ.n, σ.base, σ.mods⟩ l := rfl
    have hg : ∀ b, (⟨hput σ.h c .dead, σ.n, σ.base, σ.mods⟩ : St).get b = if b = c ∧ (σ.get c).isSome = true then some .dead else σ.get b := by
      intro b
      rw [get_eq, get_eq, get_eq, hget_hput]
      by_cases h : b = c
      · subst h; by_cases h' : b < σ.n <;> simp [h']
      · by_cases h' : b < σ.n <;> simp [h', h]
    rw [e, hide_get l, hg]
    by_cases h : b = c
    · subst h
      cases hb : σ.get b <;> simp
    · simp [h]
theorem hide_n : ∀ (l : List Nat) (σ : St), (σ.hide l).n = σ.n
  | [], _ => rfl
  | c :: l, σ => hide_n l ⟨hput σ.h c .dead, σ.n, σ.base, σ.mods⟩
theorem hide_base : ∀ (l : List Nat) (σ : St), (σ.hide l).base = σ.base
  | [], _ => rfl
  | c :: l, σ => hide_base l ⟨hput σ.h c .dead, σ.n, σ.base, σ.mods⟩
theorem hide_mods : ∀ (l : List Nat) (σ : St), (σ.hide l).mods = σ.mods
  | [], _ => rfl
  | c :: l, σ => hide_mods l ⟨hput σ.h c .dead, σ.n, σ.base, σ.mods⟩

theorem unhide_get (σ₀ : St) : ∀ (l : List Nat) (σ : St) (b : Nat), (St.unhide σ₀ l σ).get b = if b ∈ l ∧ (σ.get b).isSome = true ∧ (σ₀.get b).isSome = true then σ₀.get b else σ.get b
  | [], σ, b => by simp [St.unhide]
  | c :: l, σ, b => by
    cases hc : σ₀.get c with
    | none =>
      have e : St.unhide σ₀ (c :: l) σ = St.unhide σ₀ l σ := by simp [St.unhide, hc]
      rw [e, unhide_get σ₀ l]
      by_cases h : b = c
      · subst h; simp [hc]
      · simp [h]
    | some o =>
      have e : St.unhide σ₀ (c :: l) σ = St.unhide σ₀ l ⟨hput σ.h c o, σ.n, σ.base, σ.mods⟩ := by simp [St.unhide, hc]
      have hg : ∀ b, (⟨hput σ.h c o, σ.n, σ.base, σ.mods⟩ : St).get b = if b = c ∧ (σ.get c).isSome = true then some o else σ.get b := by
        intro b
        rw [get_eq, get_eq, get_eq, hget_hput]
        by_cases h : b = c
        · subst h; by_cases h' : b < σ.n <;> simp [h']
        · by_cases h' : b < σ.n <;> simp [h', h]
      rw [e, unhide_get σ₀ l, hg]
      by_cases h : b = c
      · subst h
        cases hb : σ.get b <;> simp [hc]
      · simp [h]
theorem unhide_n (σ₀ : St) : ∀ (l : List Nat) (σ : St), (St.unhide σ₀ l σ).n = σ.n
  | [], _ => rfl
  | c :: l, σ => by
    cases hc : σ₀.get c with
    | none => simp only [St.unhide, hc]; exact unhide_n σ₀ l σ
    | some o => simp only [St.unhide, hc]; exact unhide_n σ₀ l ⟨hput σ.h c o, σ.n, σ.base, σ.mods⟩
theorem unhide_base (σ₀ : St) : ∀ (l : List Nat) (σ : St), (St.unhide σ₀ l σ).base = σ.base
  | [], _ => rfl
  | c :: l, σ => by
    cases hc : σ₀.get c with
    | none => simp only [St.unhide, hc]; exact unhide_base σ₀ l σ
    | some o => simp only [St.unhide, hc]; exact unhide_base σ₀ l ⟨hput σ.h c o, σ.n, σ.base, σ.mods⟩
theorem unhide_mods (σ₀ : St) : ∀ (l : List Nat) (σ : St), (St.unhide σ₀ l σ).mods = σ.mods
  | [], _ => rfl
  | c :: l, σ => by
    cases hc : σ₀.get c with
    | none => simp only [St.unhide, hc]; exact unhide_mods σ₀ l σ
    | some o => simp only [St.unhide, hc]; exact unhide_mods σ₀ l ⟨hput σ.h c o, σ.n, σ.base, σ.mods⟩

theorem mem_nmerge (base x : Nat) : ∀ (l m : List Nat), x ∈ nmerge base l m ↔ (x ∈ l ∧ x < base) ∨ x ∈ m
  | [], m => by simp [show nmerge base [] m = m from rfl]
  | b :: l, m => by
    have e : nmerge base (b :: l) m = nmerge base l (Bool.rec (motive := fun _ => List Nat) m (nins b m) (Nat.blt b base)) := rfl
    rw [e, mem_nmerge base x l]
    by_cases h : b < base
    · rw [blt_iff.2 h]
      show _ ∨ x ∈ nins b m ↔ _
      rw [mem_nins]
      simp only [List.mem_cons]
      constructor
      · rintro (h1 | h1 | h1)
        · exact .inl ⟨.inr h1.1, h1.2⟩
        · exact .inl ⟨.inl h1, by omega⟩
        · exact .inr h1
      · rintro (⟨h1 | h1, h2⟩ | h1)
        · exact .inr (.inl h1)
        · exact .inl ⟨h1, h2⟩
        · exact .inr (.inr h1)
    · rw [blt_false.2 h]
      show _ ∨ x ∈ m ↔ _
      simp only [List.mem_cons]
      constructor
      · rintro (h1 | h1)
        · exact .inl ⟨.inr h1.1, h1.2⟩
        · exact .inr h1
      · rintro (⟨h1 | h1, h2⟩ | h1)
        · subst h1; exact absurd h2 h
        · exact .inl ⟨h1, h2⟩
        · exact .inr h1

theorem back_get (σ τ : St) (b : Nat) : (σ.back τ).get b = τ.get b := rfl
theorem enter_get (σ : St) (b : Nat) : σ.enter.get b = σ.get b := rfl

/-! ### relations that go over -/
section
variable {P : Program} {N0 : Nat} {μ μ' μ₀ : Mp} {σ σ' σ₀ τ : St} {w w' w₀ : World}

/-- Fewer live blocks. -/
theorem SR.less (h : SR P N0 μ σ w) (hn : σ'.n = σ.n) (hg : ∀ b o, σ'.get b = some o → o ≠ .dead → σ.get b = some o) : SR P N0 μ σ' w where
  upto := by rw [Mp.upto, hn]; exact h.upto
  obj := fun b o h1 h2 => h.obj b o (hg b o h1 h2) h2
  own := fun b o c d h1 h2 h3 => h.own b o c d (hg b o h1 (free_ne_dead h2)) h2 h3
  ro := fun b vs c d h1 h3 => h.ro b vs c d (hg b _ h1 (by simp)) h3
  inj := fun b₁ b₂ o₁ o₂ c d₁ d₂ h1 h2 f1 f2 => h.inj b₁ b₂ o₁ o₂ c d₁ d₂ (hg _ _ h1 (free_ne_dead f1)) (hg _ _ h2 (free_ne_dead f2)) f1 f2
  size := h.size
  plc := h.plc

theorem hide_live {l : List Nat} {b : Nat} {o : Obj} (h : (σ.hide l).get b = some o) (h2 : o ≠ .dead) : b ∉ l ∧ σ.get b = some o := by
  rw [hide_get] at h
  split at h
  · simp only [Option.some.injEq] at h; exact absurd h.symm h2
  · rename_i hc
    refine ⟨fun hb => hc ⟨hb, by rw [h]; rfl⟩, h⟩

theorem hide_of {l : List Nat} {b : Nat} (h : b ∉ l) : (σ.hide l).get b = σ.get b := by
  rw [hide_get, if_neg (fun hc => h hc.1)]

/-- The state behind, seen alike. -/
theorem Post.see (h : Post P N0 μ₀ σ₀ w₀ μ σ w) (hn : σ'.n = σ.n) (hb : σ'.base = σ.base) (hm : ∀ x, x ∈ σ'.mods ↔ x ∈ σ.mods) (hg : ∀ b, σ'.get b = σ.get b) : Post P N0 μ₀ σ₀ w₀ μ σ' w where
  agree := h.agree
  sr := h.sr.less hn (fun b o h1 _ => by rw [← hg]; exact h1)
  keep := h.keep
  img := fun b o c d h1 => h.img b o c d (by rw [← hg]; exact h1)
  n := by rw [hn]; exact h.n
  size := h.size
  os := h.os
  tape := h.tape
  output := h.output
  base := hb.trans h.base
  mods := fun b hb => (hm b).2 (h.mods b hb)
  ext := fun b h1 h2 h3 => by rw [hg]; exact h.ext b h1 h2 (fun hb => h3 ((hm b).2 hb))
  keys := fun b h1 => by rw [hg]; exact h.keys b h1
  same := fun b o c d h1 h2 => h.same b o c d h1 (fun hb => h2 ((hm b).2 hb))

/-- A block that is not placed yet. -/
theorem Post.dead (h : Post P N0 μ₀ σ₀ w₀ μ σ w) : Post P N0 μ₀ σ₀ w₀ μ (σ.add .dead) w where
  agree := h.agree
  sr := {
    upto := fun b hb => h.sr.upto b (by rw [n_add] at hb; omega)
    obj := fun b o h1 h2 => by
      rw [get_add] at h1; split at h1
      · cases h1; exact absurd rfl h2
      · exact h.sr.obj b o h1 h2
    own := fun b o c d h1 h2 h3 => by
      rw [get_add] at h1; split at h1
      · cases h1; cases h2
      · exact h.sr.own b o c d h1 h2 h3
    ro := fun b vs c d h1 h3 => by
      rw [get_add] at h1; split at h1
      · cases h1
      · exact h.sr.ro b vs c d h1 h3
    inj := fun b₁ b₂ o₁ o₂ c d₁ d₂ h1 h2 f1 f2 => by
      rw [get_add] at h1 h2
      split at h1
      · cases h1; cases f1
      · split at h2
        · cases h2; cases f2
        · exact h.sr.inj b₁ b₂ o₁ o₂ c d₁ d₂ h1 h2 f1 f2
    size := h.sr.size
    plc := h.sr.plc }
  keep := h.keep
  img := fun b o c d h1 h2 h3 h4 => by
    rw [get_add] at h1; split at h1
    · cases h1; cases h2
    · exact h.img b o c d h1 h2 h3 h4
  n := by rw [n_add]; have := h.n; omega
  size := h.size
  os := h.os
  tape := h.tape
  output := h.output
  base := h.base
  mods := h.mods
  ext := fun b h1 h2 h3 => by
    rw [get_add, if_neg (by have := h.n; omega)]; exact h.ext b h1 h2 h3
  keys := fun b h1 => by
    rw [get_add]; split
    · rfl
    · exact h.keys b h1
  same := h.same

/-- A block that was not placed comes to stand at a new block of the machine's. -/
theorem Post.fill (h : Post P N0 μ₀ σ₀ w₀ μ σ w) {b : Nat} {o : Obj} {x : Go.Obj} (hb : σ.get b = some .dead) (hp : μ.pl b = none) (h0 : σ₀.n ≤ b) (s : Nat) (hf : o.free = true)
    (hw : w'.heap = w.heap.push x) (e1 : w'.os = w.os) (e2 : w'.tape = w.tape) (e3 : w'.output = w.output)
    (ho : ObjR P (μ.new b w.heap.size 0 s) o (some x) w.heap.size 0) (hn : σ'.n = σ.n) (hba : σ'.base = σ.base) (hm : ∀ x, x ∈ σ'.mods ↔ x ∈ σ.mods) (hg : ∀ c, σ'.get c = if c = b then some o else σ.get c) :
    Post P N0 μ₀ σ₀ w₀ (μ.new b w.heap.size 0 s) σ' w' ∧ μ.le (μ.new b w.heap.size 0 s) := by
  have hle : μ.le (μ.new b w.heap.size 0 s) := by
    refine ⟨fun b' y e => ?_, fun b' c d e => ?_⟩
    · rw [Mp.new_pl_ne μ (by rintro rfl; rw [hp] at e; cases e)]; exact e
    · have := h.sr.plc b' c d e
      simp only [Mp.new]; rw [if_neg (by omega)]
  have hbn : b < σ.n := get_lt hb
  have hpl : ∀ b', b' ≠ b → (μ.new b w.heap.size 0 s).pl b' = μ.pl b' := fun b' e => Mp.new_pl_ne μ e
  have hpb : (μ.new b w.heap.size 0 s).pl b = some (w.heap.size, 0) := Mp.new_pl _ _ _ _ _
  have hsz : w'.heap.size = w.heap.size + 1 := by rw [hw]; simp
  refine ⟨?_, hle⟩
  exact {
    agree := ⟨fun b' hb' => by rw [hpl b' (by omega)]; exact h.agree.pl b' hb', fun b' c d hb' e => by
      have e' : μ.pl b' = some (c, d) := (h.agree.pl b' hb').trans e
      rw [hle.sz b' c d e']; exact h.agree.sz b' c d hb' e⟩
    sr := {
      upto := fun b' hb' => by rw [hpl b' (by omega)]; exact h.sr.upto b' (by omega)
      obj := fun b' o' h1 h2 => by
        rw [hg] at h1; split at h1
        · rename_i e; subst e; cases h1
          exact ⟨_, _, hpb, by rw [hw, push_new]; exact ho⟩
        · rename_i e
          obtain ⟨c, d, g1, g2⟩ := h.sr.obj b' o' h1 h2
          exact ⟨c, d, hle.pl b' _ g1, by rw [hw, push_old _ _ (h.sr.plc b' c d g1)]; exact g2.mono hle g1⟩
      own := fun b' o' c d h1 h2 h3 => by
        rw [hg] at h1; split at h1
        · rename_i e; subst e; rw [hpb] at h3; cases h3; exact h.sr.size
        · rename_i e; rw [hpl b' e] at h3; exact h.sr.own b' o' c d h1 h2 h3
      ro := fun b' vs c d h1 h3 => by
        rw [hg] at h1; split at h1
        · cases h1; cases hf
        · rename_i e; rw [hpl b' e] at h3; exact h.sr.ro b' vs c d h1 h3
      inj := fun b₁ b₂ o₁ o₂ c d₁ d₂ h1 h2 f1 f2 p1 p2 => by
        rw [hg] at h1 h2
        by_cases x1 : b₁ = b <;> by_cases x2 : b₂ = b
        · rw [x1, x2]
        · subst x1; rw [hpb] at p1; cases p1; rw [hpl b₂ x2] at p2
          have := h.sr.plc b₂ _ _ p2; omega
        · subst x2; rw [hpb] at p2; cases p2; rw [hpl b₁ x1] at p1
          have := h.sr.plc b₁ _ _ p1; omega
        · rw [if_neg x1] at h1; rw [if_neg x2] at h2; rw [hpl b₁ x1] at p1; rw [hpl b₂ x2] at p2
          exact h.sr.inj b₁ b₂ o₁ o₂ c d₁ d₂ h1 h2 f1 f2 p1 p2
      size := by rw [hsz]; have := h.sr.size; omega
      plc := fun b' c d h1 => by
        by_cases e : b' = b
        · subst e; rw [hpb] at h1; cases h1; omega
        · rw [hpl b' e] at h1; have := h.sr.plc b' c d h1; omega }
    keep := fun c hc hi => by
      rw [hw, push_old _ _ (Nat.lt_of_lt_of_le hc h.size)]; exact h.keep c hc hi
    img := fun b' o' c d h1 h2 h3 hc => by
      rw [hg] at h1; split at h1
      · rename_i e; subst e; rw [hpb] at h3; cases h3; have := h.size; omega
      · rename_i e; rw [hpl b' e] at h3; exact h.img b' o' c d h1 h2 h3 hc
    n := by rw [hn]; exact h.n
    size := by rw [hsz]; have := h.size; omega
    os := e1.trans h.os
    tape := e2.trans h.tape
    output := e3.trans h.output
    base := hba.trans h.base
    mods := fun x hx => (hm x).2 (h.mods x hx)
    ext := fun b' h1 h2 h3 => by
      rw [hg, if_neg (by omega)]; exact h.ext b' h1 h2 (fun hx => h3 ((hm b').2 hx))
    keys := fun b' h1 => by
      rw [hg]; split
      · rfl
      · exact h.keys b' h1
    same := fun b' o' c d h1 h2 h3 h4 h5 => by
      have h6 : μ.pl b' = some (c, d) := by rw [h.agree.pl b' (get_lt h3)]; exact h5
      rw [hw, push_old _ _ (h.sr.plc b' c d h6)]
      exact h.same b' o' c d h1 (fun hx => h2 ((hm b').2 hx)) h3 h4 h5 }

/-- A serial operation, done while the blocks of H are hidden; those of U are not placed yet. -/
theorem Post.serial {U H : List Nat} (h : Post P N0 μ₀ σ₀ w₀ μ (σ.hide U) w) (hUH : ∀ b ∈ U, b ∈ H) (h0 : ∀ b ∈ H, σ₀.n ≤ b) (hk : ∀ b ∈ H, (σ.get b).isSome = true)
    (hp : Post P N0 μ ((σ.hide H).enter) w μ' τ w') : Post P N0 μ₀ σ₀ w₀ μ' ((St.unhide σ H (σ.back τ)).hide U) w' := by
  have hn : ((σ.hide H).enter).n = σ.n := hide_n H σ
  have hUn : (σ.hide U).n = σ.n := hide_n U σ
  have hN : ((St.unhide σ H (σ.back τ)).hide U).n = τ.n := by rw [hide_n, unhide_n]; rfl
  have e1 : ∀ b, ((σ.hide H).enter).get b = if b ∈ H then some .dead else σ.get b := by
    intro b; rw [enter_get, hide_get]
    by_cases hb : b ∈ H
    · rw [if_pos ⟨hb, hk b hb⟩, if_pos hb]
    · rw [if_neg (fun hc => hb hc.1), if_neg hb]
  have keysH : ∀ b ∈ H, (τ.get b).isSome = true := fun b hb => hp.keys b (by rw [e1, if_pos hb]; rfl)
  -- what is live behind it
  have live : ∀ b o, ((St.unhide σ H (σ.back τ)).hide U).get b = some o → o ≠ .dead → (b ∈ H ∧ (σ.hide U).get b = some o) ∨ (b ∉ H ∧ τ.get b = some o) := by
    intro b o h1 h2
    obtain ⟨hbU, h1⟩ := hide_live h1 h2
    rw [unhide_get, back_get] at h1
    by_cases hb : b ∈ H
    · left
      rw [if_pos ⟨hb, keysH b hb, hk b hb⟩] at h1
      exact ⟨hb, by rw [hide_of hbU]; exact h1⟩
    · right
      rw [if_neg (fun hc => hb hc.1)] at h1
      exact ⟨hb, h1⟩
  -- what was free in the hidden state was free
  have fr : ∀ b o, ((σ.hide H).enter).get b = some o → o ≠ .dead → b ∉ H ∧ (σ.hide U).get b = some o := by
    intro b o h1 h2
    rw [e1] at h1
    split at h1
    · simp only [Option.some.injEq] at h1; exact absurd h1.symm h2
    · rename_i hb
      exact ⟨hb, by rw [hide_of (fun hu => hb (hUH b hu))]; exact h1⟩
  have stay : ∀ b o c d, b ∈ H → (σ.hide U).get b = some o → o ≠ .dead → μ.pl b = some (c, d) → w'.heap[c]? = w.heap[c]? := by
    intro b o c d hb h1 h2 h3
    refine hp.keep c (h.sr.plc b c d h3) ?_
    intro b' o' d' g1 g2 g3
    obtain ⟨k1, k2⟩ := fr b' o' g1 (free_ne_dead g2)
    by_cases hfo : o.free = true
    · have := h.sr.inj b' b o' o c d' d k2 h1 g2 hfo g3 h3
      subst this; exact k1 hb
    · cases o with
      | cells ro vs => cases ro with
        | false => exact hfo rfl
        | true => have h4 := h.sr.ro b vs c d h1 h3; have h5 := h.sr.own b' o' c d' k2 g2 g3; omega
      | dead => exact h2 rfl
      | _ => exact hfo rfl
  have hpl : ∀ b x, μ.pl b = some x → μ'.pl b = some x := (h.sr.upto.le (by rw [hUn, ← hn]; exact hp.agree)).pl
  have hle : μ.le μ' := h.sr.upto.le (by rw [hUn, ← hn]; exact hp.agree)
  have hback : ∀ b ∈ H, ∀ c d, μ'.pl b = some (c, d) → b < σ.n → μ.pl b = some (c, d) := fun b hb c d e hbn => by
    rw [← hp.agree.pl b (by rw [hn]; exact hbn)]; exact e
  have hHn : ∀ b ∈ H, b < σ.n := fun b hb => by
    obtain ⟨o, ho⟩ := Option.isSome_iff_exists.1 (hk b hb); exact get_lt ho
  exact {
    agree := h.agree.trans hp.agree (by have := h.n; rw [hUn] at this; rw [hn]; exact this)
    sr := {
      upto := by rw [Mp.upto, hN]; exact hp.sr.upto
      obj := fun b o h1 h2 => by
        rcases live b o h1 h2 with ⟨hb, g1⟩ | ⟨hb, g1⟩
        · obtain ⟨c, d, k1, k2⟩ := h.sr.obj b o g1 h2
          exact ⟨c, d, hpl b _ k1, by rw [stay b o c d hb g1 h2 k1]; exact k2.mono hle k1⟩
        · exact hp.sr.obj b o g1 h2
      own := fun b o c d h1 h2 h3 => by
        rcases live b o h1 (free_ne_dead h2) with ⟨hb, g1⟩ | ⟨hb, g1⟩
        · exact h.sr.own b o c d g1 h2 (hback b hb c d h3 (hHn b hb))
        · exact hp.sr.own b o c d g1 h2 h3
      ro := fun b vs c d h1 h3 => by
        rcases live b _ h1 (by simp) with ⟨hb, g1⟩ | ⟨hb, g1⟩
        · exact h.sr.ro b vs c d g1 (hback b hb c d h3 (hHn b hb))
        · exact hp.sr.ro b vs c d g1 h3
      inj := fun b₁ b₂ o₁ o₂ c d₁ d₂ h1 h2 f1 f2 p1 p2 => by
        rcases live b₁ o₁ h1 (free_ne_dead f1) with ⟨hb1, g1⟩ | ⟨hb1, g1⟩ <;> rcases live b₂ o₂ h2 (free_ne_dead f2) with ⟨hb2, g2⟩ | ⟨hb2, g2⟩
        · exact h.sr.inj b₁ b₂ o₁ o₂ c d₁ d₂ g1 g2 f1 f2 (hback _ hb1 _ _ p1 (hHn _ hb1)) (hback _ hb2 _ _ p2 (hHn _ hb2))
        · exfalso
          have q1 := hback _ hb1 _ _ p1 (hHn _ hb1)
          obtain ⟨b₀, o₀, d₀, k1, k2, k3⟩ := hp.img b₂ o₂ c d₂ g2 f2 p2 (h.sr.plc _ _ _ q1)
          obtain ⟨k4, k5⟩ := fr b₀ o₀ k1 (free_ne_dead k2)
          have := h.sr.inj b₁ b₀ o₁ o₀ c d₁ d₀ g1 k5 f1 k2 q1 k3
          subst this; exact k4 hb1
        · exfalso
          have q2 := hback _ hb2 _ _ p2 (hHn _ hb2)
          obtain ⟨b₀, o₀, d₀, k1, k2, k3⟩ := hp.img b₁ o₁ c d₁ g1 f1 p1 (h.sr.plc _ _ _ q2)
          obtain ⟨k4, k5⟩ := fr b₀ o₀ k1 (free_ne_dead k2)
          have := h.sr.inj b₂ b₀ o₂ o₀ c d₂ d₀ g2 k5 f2 k2 q2 k3
          subst this; exact k4 hb2
        · exact hp.sr.inj b₁ b₂ o₁ o₂ c d₁ d₂ g1 g2 f1 f2 p1 p2
      size := hp.sr.size
      plc := hp.sr.plc }
    keep := fun c hc hi => by
      rw [hp.keep c (Nat.lt_of_lt_of_le hc h.size) ?_, h.keep c hc hi]
      intro b o d h1 h2 h3
      obtain ⟨k1, k2⟩ := fr b o h1 (free_ne_dead h2)
      obtain ⟨b₀, o₀, d₀, g1, g2, g3⟩ := h.img b o c d k2 h2 h3 hc
      exact hi b₀ o₀ d₀ g1 g2 g3
    img := fun b o c d h1 h2 h3 hc => by
      rcases live b o h1 (free_ne_dead h2) with ⟨hb, g1⟩ | ⟨hb, g1⟩
      · exact h.img b o c d g1 h2 (hback b hb c d h3 (hHn b hb)) hc
      · obtain ⟨b₀, o₀, d₀, k1, k2, k3⟩ := hp.img b o c d g1 h2 h3 (Nat.lt_of_lt_of_le hc h.size)
        obtain ⟨k4, k5⟩ := fr b₀ o₀ k1 (free_ne_dead k2)
        exact h.img b₀ o₀ c d₀ k5 k2 k3 hc
    n := by rw [hN]; have h1 := hp.n; rw [hn] at h1; have h2 := h.n; rw [hUn] at h2; omega
    size := Nat.le_trans h.size hp.size
    os := hp.os.trans h.os
    tape := hp.tape.trans h.tape
    output := hp.output.trans h.output
    base := by rw [hide_base, unhide_base]; have := h.base; rw [hide_base] at this; exact this
    mods := fun b hb => by
      rw [hide_mods, unhide_mods]
      have := h.mods b hb; rw [hide_mods] at this
      exact (mem_nmerge σ.base b τ.mods σ.mods).2 (.inr this)
    ext := fun b h1 h2 h3 => by
      rw [hide_mods, unhide_mods] at h3
      have hbase := h.base; rw [hide_base] at hbase
      have hm : ¬ ((b ∈ τ.mods ∧ b < σ.base) ∨ b ∈ σ.mods) := fun hc => h3 ((mem_nmerge σ.base b τ.mods σ.mods).2 hc)
      have hbH : b ∉ H := fun hb => by have := h0 b hb; omega
      have hbU : b ∉ U := fun hb => hbH (hUH b hb)
      have hn0 := h.n; rw [hUn] at hn0
      rw [hide_of hbU, unhide_get, if_neg (fun hc => hbH hc.1), back_get,
        hp.ext b (by show b < (σ.hide H).n; rw [hide_n]; omega) (by rw [hn]; omega) (fun hc => hm (.inl ⟨hc, by rw [hbase]; exact h1⟩)), e1, if_neg hbH, ← hide_of (σ := σ) hbU]
      exact h.ext b h1 h2 (by rw [hide_mods]; exact fun hc => hm (.inr hc))
    keys := fun b h1 => by
      have g1 := h.keys b h1
      have g2 : (σ.get b).isSome = true := by
        rw [hide_get] at g1; split at g1
        · rename_i hc; exact hc.2
        · exact g1
      have g3 : (τ.get b).isSome = true := hp.keys b (by rw [e1]; split; rfl; exact g2)
      rw [hide_get]
      split
      · rfl
      · rw [unhide_get]; split
        · exact g2
        · exact g3
    same := fun b o c d h1 h2 h3 h4 h5 => by
      rw [hide_mods, unhide_mods] at h2
      have hbase := h.base; rw [hide_base] at hbase
      have hm : ¬ ((b ∈ τ.mods ∧ b < σ.base) ∨ b ∈ σ.mods) := fun hc => h2 ((mem_nmerge σ.base b τ.mods σ.mods).2 hc)
      have hbn := get_lt h3
      have hbH : b ∉ H := fun hb => by have := h0 b hb; omega
      have hbU : b ∉ U := fun hb => hbH (hUH b hb)
      have hmU : b ∉ (σ.hide U).mods := by rw [hide_mods]; exact fun hc => hm (.inr hc)
      have hn0 := h.n; rw [hUn] at hn0
      have g1 : (σ.hide U).get b = some o := by rw [h.ext b h1 hbn hmU]; exact h3
      have g2 : ((σ.hide H).enter).get b = some o := by rw [e1, if_neg hbH, ← hide_of (σ := σ) hbU]; exact g1
      rw [hp.same b o c d (by show b < (σ.hide H).n; rw [hide_n]; omega) (fun hc => hm (.inl ⟨hc, by rw [hbase]; exact h1⟩)) g2 h4 (by rw [h.agree.pl b hbn]; exact h5)]
      exact h.same b o c d h1 hmU h3 h4 h5 }

/-- What a serial operation leaves as it was. -/
theorem serial_get {H : List Nat} (hp : Post P N0 μ ((σ.hide H).enter) w μ' τ w') (hk : ∀ b ∈ H, (σ.get b).isSome = true) (b : Nat) (hb : b ∈ H) : (St.unhide σ H (σ.back τ)).get b = σ.get b := by
  have hs : (τ.get b).isSome = true := hp.keys b (by rw [enter_get, hide_get, if_pos ⟨hb, hk b hb⟩]; rfl)
  rw [unhide_get, back_get, if_pos ⟨hb, hs, hk b hb⟩]
theorem serial_get' {H : List Nat} (b : Nat) (hb : b ∉ H) : (St.unhide σ H (σ.back τ)).get b = τ.get b := by
  rw [unhide_get, back_get, if_neg (fun hc => hb hc.1)]

end
end Go.Proofs.Ytnmkbnejapdnnaa.Ev
