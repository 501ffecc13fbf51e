/-
  Structs and arrays compared, maps looked into and turned.
-/
import Derived.Test.YtnmkbnejapdnnaaEvOpE
import Derived.ChangeKeysEq
set_option linter.unusedVariables false
set_option maxRecDepth 4000
namespace Go.Proofs.Ytnmkbnejapdnnaa.Ev
open Go

section
variable {P : Program} {N0 : Nat} {μ : Mp} {σ σ' : St} {w w' : World} {k : Cn} {K : KT} {d nt : Nat} {a : Act} {t : Tr} {o : Oper}

/-! ### plain cells -/
theorem eqs_append : ∀ (l1 l2 : List Lf) (xs ys : List V) (r : Bool), eqs (l1 ++ l2) xs ys = some r →
    ∃ r1, eqs l1 (xs.take l1.length) (ys.take l1.length) = some r1 ∧ (r1 = false → r = false) ∧ (r1 = true → eqs l2 (xs.drop l1.length) (ys.drop l1.length) = some r)
  | [], l2, xs, ys, r, h => ⟨true, by simp [eqs], by simp, fun _ => by simpa using h⟩
  | l :: l1, l2, [], ys, r, h => by cases ys <;> simp [eqs] at h
  | l :: l1, l2, x :: xs, [], r, h => by simp [eqs] at h
  | l :: l1, l2, x :: xs, y :: ys, r, h => by
    simp only [List.cons_append, eqs] at h
    simp only [List.length_cons, List.take_succ_cons, List.drop_succ_cons, eqs]
    split at h
    · rename_i e
      obtain ⟨r1, h1, h2, h3⟩ := eqs_append l1 l2 xs ys r h
      exact ⟨r1, h1, h2, h3⟩
    · rename_i e
      cases h
      exact ⟨false, rfl, fun _ => rfl, by simp⟩
    · cases h

theorem eq1_refl {l : Lf} {x : V} {b : Bool} (h : eq1 l x x = some b) : b = true := by
  cases l <;> cases x <;> simp only [eq1, if_true, Option.some.injEq] at h <;> first | (cases h; done) | (rw [← h]; exact beq_self_eq_true _) | (rw [← h, beq_toListBytes]; exact beq_self_eq_true _)
theorem eqs_refl : ∀ {ls : List Lf} {xs : List V} {r : Bool}, eqs ls xs xs = some r → r = true ∧ xs.length = ls.length
  | [], [], r, h => by simp [eqs] at h; exact ⟨h.symm ▸ rfl, rfl⟩
  | [], _ :: _, r, h => by simp [eqs] at h
  | _ :: _, [], r, h => by simp [eqs] at h
  | l :: ls, x :: xs, r, h => by
    simp only [eqs] at h
    split at h
    · have := eqs_refl h; exact ⟨this.1, by simp [this.2]⟩
    · rename_i e; have := eq1_refl e; cases this
    · cases h

/-- A value of type t, and its cells. -/
def CellsAs (P : Program) (t : TypeId) (x : Value) (us : List Value) : Prop := if isAggT P t = true then x = .agg ⟨us⟩ else us = [x]

theorem part_as {ty : TypeId} {ls : List Lf} (hu : (P.underlying ty).isSome = true) (hz : sizeT P ty = some ls.length) (h1 : isAggT P ty = false → ls.length = 1) {us : List Value} {off : Nat} (hl : off + ls.length ≤ us.length) :
    ∃ x, (part ty ⟨us⟩ off).run P w = .ok x w ∧ CellsAs P ty x ((us.drop off).take ls.length) := by
  have ha := run_isAgg (P := P) (w := w) hu
  have hr := run_sizeOf (P := P) (w := w) hz
  unfold CellsAs
  cases hag : isAggT P ty with
  | true =>
    refine ⟨_, ?_, by simp only [if_true]; rfl⟩
    simp only [part, Sem.run_bind, ha, Result.andThen_ok, hag, if_true, hr, Sem.run_pure]
    congr 2
    apply Array.toList_inj.1
    simp
  | false =>
    have h1 := h1 hag
    have hlt : off < us.length := by omega
    refine ⟨us[off], ?_, ?_⟩
    · simp [part, ha, hag, hlt]
    · simp only [Bool.false_eq_true, if_false, h1]
      apply List.ext_getElem?
      intro i
      rw [seg_get]
      cases i with
      | zero => simp [hlt]
      | succ i => simp

theorem leavesT_some {D : Nat} {ty : TypeId} {ls : List Lf} (h : leavesT P D ty = some ls) : (P.underlying ty).isSome = true ∧ (isAggT P ty = false → ls.length = 1) := by
  cases D with
  | zero => simp [leavesT] at h
  | succ D =>
    simp only [leavesT] at h
    split at h
    · rename_i e; cases h; simp [e]
    · rename_i e; cases h; simp [e]
    · rename_i e; cases h; simp [e]
    · rename_i e; simp [e, isAggT]
    · rename_i e; simp [e, isAggT]
    · cases h

/-- Comparing values of this type. -/
def EqAt (P : Program) (μ : Mp) (ty : TypeId) (ls : List Lf) (dd : Nat) : Prop :=
  ∀ (w : World) (xs ys : List V) (us vs : List Value) (r : Bool) (x y : Value), VRs μ xs us → VRs μ ys vs → eqs ls xs ys = some r → xs.length = ls.length → ys.length = ls.length → CellsAs P ty x us → CellsAs P ty y vs →
    (Op.equalIn dd ty x y).run P w = .ok r w

theorem seg_len {α : Type} {us : List α} {o n : Nat} (h : o + n ≤ us.length) : ((us.drop o).take n).length = n := by simp; omega

theorem eqFields_run {rec : TypeId → Option (List Lf)} {dd : Nat} (hrec : ∀ ty ls, rec ty = some ls → (P.underlying ty).isSome = true ∧ (isAggT P ty = false → ls.length = 1) ∧ EqAt P μ ty ls dd) :
    ∀ (fs : List Field) (off : Nat) (ls : List Lf) (xs ys : List V) (us vs : List Value) (r : Bool) (w : World), leavesF P rec fs off = some ls → VRs μ xs us → VRs μ ys vs → off + ls.length ≤ xs.length → off + ls.length ≤ ys.length →
      eqs ls ((xs.drop off).take ls.length) ((ys.drop off).take ls.length) = some r → (Op.eqFields dd ⟨us⟩ ⟨vs⟩ fs).run P w = .ok r w
  | [], off, ls, xs, ys, us, vs, r, w, h, hx, hy, lx, ly, he => by
    simp only [leavesF] at h; cases h
    simp [eqs] at he; subst he
    simp [Op.eqFields]
  | f :: fs, off, ls, xs, ys, us, vs, r, w, h, hx, hy, lx, ly, he => by
    simp only [leavesF] at h
    split at h
    · cases h
    rename_i hf
    simp only [Bool.and_eq_true, bne_iff_ne, ne_eq, beq_iff_eq] at hf
    split at h
    · cases h
    rename_i l1 hl1
    split at h
    · cases h
    rename_i hsz
    have hsz := beq_iff_eq.1 hsz
    split at h
    · cases h
    rename_i l2 hl2
    cases h
    obtain ⟨g1, g2, g3⟩ := hrec _ _ hl1
    rw [List.length_append] at lx ly he
    obtain ⟨r1, e1, e2, e3⟩ := eqs_append _ _ _ _ _ he
    rw [List.take_take, List.take_take, Nat.min_eq_left (by omega)] at e1
    rw [List.drop_take, List.drop_take, List.drop_drop, List.drop_drop, show l1.length + l2.length - l1.length = l2.length by omega] at e3
    have hxl := VRs_length hx
    have hyl := VRs_length hy
    obtain ⟨x, px, cx⟩ := part_as (P := P) (w := w) g1 hsz g2 (us := us) (off := off) (by omega)
    obtain ⟨y, py, cy⟩ := part_as (P := P) (w := w) g1 hsz g2 (us := vs) (off := off) (by omega)
    have hq := g3 w _ _ _ _ r1 x y (seg_VRs hx off l1.length) (seg_VRs hy off l1.length) e1 (seg_len (by omega)) (seg_len (by omega)) cx cy
    simp only [Op.eqFields, hf.1, not_false_eq_true, ne_eq, if_true, hf.2, Sem.run_bind, px, py, hq, Result.andThen_ok]
    cases r1 with
    | false => simp [e2 rfl]
    | true =>
      simp only [Bool.not_true, Bool.false_eq_true, if_false]
      exact eqFields_run hrec fs (off + l1.length) l2 xs ys us vs r w hl2 hx hy (by omega) (by omega) (e3 rfl)

theorem eqItems_run {ty : TypeId} {ls : List Lf} {dd : Nat} (g1 : (P.underlying ty).isSome = true) (g2 : isAggT P ty = false → ls.length = 1) (g3 : EqAt P μ ty ls dd) (hsz : sizeT P ty = some ls.length) :
    ∀ (n s : Nat) (xs ys : List V) (us vs : List Value) (r : Bool) (w : World), VRs μ xs us → VRs μ ys vs → (s + n) * ls.length ≤ xs.length → (s + n) * ls.length ≤ ys.length →
      eqs (List.replicate n ls).flatten ((xs.drop (s * ls.length)).take (n * ls.length)) ((ys.drop (s * ls.length)).take (n * ls.length)) = some r → (Op.eqItems dd ty ls.length ⟨us⟩ ⟨vs⟩ (List.range' s n)).run P w = .ok r w
  | 0, s, xs, ys, us, vs, r, w, hx, hy, lx, ly, he => by
    simp [eqs] at he; subst he
    simp [Op.eqItems]
  | n + 1, s, xs, ys, us, vs, r, w, hx, hy, lx, ly, he => by
    rw [List.replicate_succ, List.flatten_cons] at he
    obtain ⟨r1, e1, e2, e3⟩ := eqs_append _ _ _ _ _ he
    have m1 : (n + 1) * ls.length = n * ls.length + ls.length := Nat.succ_mul _ _
    have m2 : (s + (n + 1)) * ls.length = s * ls.length + (n * ls.length + ls.length) := by rw [Nat.add_mul, m1]
    have m3 : (s + 1) * ls.length = s * ls.length + ls.length := Nat.succ_mul _ _
    have m4 : (s + 1 + n) * ls.length = s * ls.length + (n * ls.length + ls.length) := by rw [Nat.add_mul, m3]; omega
    rw [List.take_take, List.take_take, Nat.min_eq_left (by omega)] at e1
    rw [List.drop_take, List.drop_take, List.drop_drop, List.drop_drop, show (n + 1) * ls.length - ls.length = n * ls.length by omega] at e3
    have hxl := VRs_length hx
    have hyl := VRs_length hy
    obtain ⟨x, px, cx⟩ := part_as (P := P) (w := w) g1 hsz g2 (us := us) (off := s * ls.length) (by omega)
    obtain ⟨y, py, cy⟩ := part_as (P := P) (w := w) g1 hsz g2 (us := vs) (off := s * ls.length) (by omega)
    have hq := g3 w _ _ _ _ r1 x y (seg_VRs hx _ ls.length) (seg_VRs hy _ ls.length) e1 (seg_len (by omega)) (seg_len (by omega)) cx cy
    rw [List.range'_succ]
    simp only [Op.eqItems, Sem.run_bind, px, py, hq, Result.andThen_ok]
    cases r1 with
    | false => simp [e2 rfl]
    | true =>
      simp only [Bool.not_true, Bool.false_eq_true, if_false]
      exact eqItems_run g1 g2 g3 hsz n (s + 1) xs ys us vs r w hx hy (by omega) (by omega) (by rw [m3]; exact e3 rfl)

theorem flat_len {α : Type} (l : List α) (n : Nat) : (List.replicate n l).flatten.length = n * l.length := by
  induction n with
  | zero => simp
  | succ n ih => rw [List.replicate_succ, List.flatten_cons, List.length_append, ih, Nat.succ_mul]; omega

theorem equal_leaves (dd : Nat) : ∀ (D : Nat) (ty : TypeId) (ls : List Lf), leavesT P D ty = some ls → EqAt P μ ty ls (dd + D)
  | 0, ty, ls, h => by simp [leavesT] at h
  | D + 1, ty, ls, h => by
    intro w xs ys us vs r x y hx hy he lx ly cx cy
    have hleaf : ∀ (l : Lf), isAggT P ty = false → ls = [l] → ∃ v v', VR μ v x ∧ VR μ v' y ∧ eq1 l v v' = some r := by
      intro l hag hl
      subst hl
      unfold CellsAs at cx cy
      rw [hag] at cx cy
      simp only [Bool.false_eq_true, if_false] at cx cy
      subst cx; subst cy
      match xs, lx, ys, ly with
      | [v], _, [v'], _ =>
        obtain ⟨u, us', e, hu, _⟩ := VRs_cons.1 hx
        obtain ⟨u', us'', e', hu', _⟩ := VRs_cons.1 hy
        cases e; cases e'
        refine ⟨v, v', hu, hu', ?_⟩
        simp only [eqs] at he
        split at he
        · rename_i e; rw [e]; exact he
        · rename_i e; rw [e]; exact he
        · cases he
    simp only [leavesT] at h
    rw [show dd + (D + 1) = (dd + D) + 1 by omega]
    split at h
    · rename_i kk hu
      cases h
      obtain ⟨v, v', h1, h2, h3⟩ := hleaf _ (by simp [isAggT, hu]) rfl
      cases v <;> simp [eq1] at h3
      cases v' <;> simp at h3
      obtain ⟨rfl, h3⟩ := h3
      simp only [VR] at h1 h2
      subst h1; subst h2; subst h3
      rw [run_equalIn_int w _ _ _ _ _ _ hu]
    · rename_i hu
      cases h
      obtain ⟨v, v', h1, h2, h3⟩ := hleaf _ (by simp [isAggT, hu]) rfl
      cases v <;> simp [eq1] at h3
      cases v' <;> simp at h3
      simp only [VR] at h1 h2
      subst h1; subst h2; subst h3
      rw [run_equalIn_bool' w _ _ _ _ hu]
    · rename_i hu
      cases h
      obtain ⟨v, v', h1, h2, h3⟩ := hleaf _ (by simp [isAggT, hu]) rfl
      cases v <;> simp [eq1] at h3
      cases v' <;> simp at h3
      simp only [VR] at h1 h2
      subst h1; subst h2; subst h3
      rw [run_equalIn_string w _ _ _ _ hu, ← beq_toListBytes]
    · rename_i fs hu
      split at h
      · cases h
      rename_i hst
      unfold CellsAs at cx cy
      rw [show isAggT P ty = true by simp [isAggT, hu]] at cx cy
      simp only [if_true] at cx cy
      subst cx; subst cy
      have hfo : P.fieldsOf ty = fs := by simp [Program.fieldsOf, hu]
      rw [run_equalIn_struct w _ ty _ _ (by rw [hfo]; exact hu) (by simpa using hst), hfo]
      refine eqFields_run (fun t' ls' h' => ⟨(leavesT_some h').1, (leavesT_some h').2, equal_leaves dd D t' ls' h'⟩) fs.toList 0 ls xs ys us vs r w h hx hy (by omega) (by omega) ?_
      rw [List.drop_zero, List.drop_zero, List.take_of_length_le (by omega), List.take_of_length_le (by omega)]; exact he
    · rename_i n e hu
      split at h
      · cases h
      rename_i l1 hl1
      split at h
      · rename_i hsz
        have hsz := beq_iff_eq.1 hsz
        cases h
        unfold CellsAs at cx cy
        rw [show isAggT P ty = true by simp [isAggT, hu]] at cx cy
        simp only [if_true] at cx cy
        subst cx; subst cy
        obtain ⟨i, hi, hi1⟩ := sizeT_info hsz
        have hc : P.cellsOf e = l1.length := by simp [Program.cellsOf, hi, hi1]
        rw [run_equalIn_array w _ _ _ hu hi, hc, List.range_eq_range']
        rw [flat_len] at lx ly
        refine eqItems_run (leavesT_some hl1).1 (leavesT_some hl1).2 (equal_leaves dd D e l1 hl1) hsz n 0 xs ys us vs r w hx hy (by rw [Nat.zero_add]; omega) (by rw [Nat.zero_add]; omega) ?_
        rw [Nat.zero_mul, List.drop_zero, List.drop_zero, List.take_of_length_le (by omega), List.take_of_length_le (by omega)]; exact he
      · cases h
    · cases h

theorem eql_spec {ls : List Lf} {xs ys : List V} {r : Bool} (h : eql ls xs ys = some r) : eqs ls xs ys = some r ∧ xs.length = ls.length ∧ ys.length = ls.length := by
  unfold eql at h
  split at h
  · rename_i e; simp only [Bool.and_eq_true] at e; exact ⟨h, beq_iff.1 e.1, beq_iff.1 e.2⟩
  · cases h

theorem lfsOk_spec {ty : TypeId} {ls : List Lf} (h : lfsOk P ty ls = true) : leavesT P 20 ty = some ls ∧ sizeT P ty = some ls.length := by
  simp only [lfsOk, Bool.and_eq_true, beq_iff_eq] at h; exact h

theorem equal_at {ty : TypeId} {ls : List Lf} (h : lfsOk P ty ls = true) : EqAt P μ ty ls 10000 := equal_leaves 9980 20 ty ls (lfsOk_spec h).1

theorem s_eqa (hs : SR P N0 μ σ w) (ht : TR μ d t a.tmps) (hn : a.tmps.size = nt) {neg : Bool} {ls : List Lf} {x' y' : Opd} (hop : opOk P d nt o.op o.type (.eqa neg ls x' y') = true) (h : evalOp (.eqa neg ls x' y') K t σ k) : OpS P N0 μ σ w (execOp a.eval o) k := by
  have hk : eqv neg ls (opd t x') (opd t y') k σ := h
  have : ∃ ty x y z, o.op = .binOp (if neg then .neq else .eql) ty x y z ∧ isAggT P ty = true ∧ P.eqGuardType P.depth ty = false ∧ lfsOk P ty ls = true ∧ opdOk d nt x x' = true ∧ opdOk d nt y y' = true := by
    replace hop : ok_eqa P d nt o.op neg ls x' y' = true := hop
    unfold ok_eqa at hop
    split at hop
    · rename_i e; simp only [Bool.and_eq_true] at hop
      obtain ⟨⟨⟨⟨⟨h1, h2⟩, h3⟩, h4⟩, h5⟩, h6⟩ := hop
      exact ⟨_, _, _, _, (beq_iff_eq.1 h1) ▸ e, h2, by simpa using h3, h4, h5, h6⟩
    · cases hop
  obtain ⟨ty, x, y, z, he, hag, hgd, hls, hx, hy⟩ := this
  have vx := opdOk_VR ht hn hx
  have vy := opdOk_VR ht hn hy
  obtain ⟨xs, ex, hk⟩ := vAgg_elim hk
  obtain ⟨ys, ey, hk⟩ := vAgg_elim hk
  rw [ex] at vx; rw [ey] at vy; simp only [VR] at vx vy
  obtain ⟨us, hus, vx⟩ := vx
  obtain ⟨vs, hvs, vy⟩ := vy
  unfold eqc at hk
  split at hk
  · rename_i r hr
    obtain ⟨h1, h2, h3⟩ := eql_spec hr
    have hq := equal_at (μ := μ) hls w xs ys us vs r (.agg ⟨us⟩) (.agg ⟨vs⟩) hus hvs h1 h2 h3 (by simp [CellsAs, hag]) (by simp [CellsAs, hag])
    refine OpS.pure hs hk VR_bool ?_
    have hg := run_eqGuard_agg (P := P) w (if neg then BinOp.neq else BinOp.eql) ty x y ⟨us⟩ ⟨vs⟩ hgd
    rw [show execOp a.eval o = (do Pure.pure (.value (← (do eqGuard (if neg then .neq else .eql) ty x y (.agg ⟨us⟩) (.agg ⟨vs⟩); binOp (if neg then .neq else .eql) ty (.agg ⟨us⟩) (.agg ⟨vs⟩) : Sem Value)))) by simp [execOp, he, vx, vy]]
    refine run_val ?_
    rw [Sem.run_bind, hg, Result.andThen_ok]
    cases neg with
    | false =>
      simp only [Bool.false_eq_true, if_false]
      rw [run_eql_struct, hq]; rfl
    | true =>
      simp only [if_true]
      rw [run_neq_struct, hq]; rfl
  · cases hk

end
end Go.Proofs.Ytnmkbnejapdnnaa.Ev
