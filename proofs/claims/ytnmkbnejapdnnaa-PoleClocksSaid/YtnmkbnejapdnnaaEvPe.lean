/-
  Poles: the fair price.
-/
import Derived.Test.YtnmkbnejapdnnaaEvPd
set_option maxRecDepth 100000
set_option maxHeartbeats 4000000
set_option linter.unusedVariables false
namespace Go.Proofs.Ytnmkbnejapdnnaa.Ev
open Go
attribute [local irreducible] iter slcv slcav slcAt slcsv appP appzP appv mkslP copyv clearv lookv mputv delv mentryv rangev mnextP mcurv
variable {K : KT} {σ : St} {k : Cn}

/-- The clocks differ as they may. -/
def okClk (lo hi : Int) : Bool := decide (-100 ≤ lo ∧ lo ≤ hi ∧ hi ≤ 100)
/-- The error of a sign and clocks. -/
def chkClk (s : List (Int × Int)) (lo hi : Int) : Int := if chkSign s ≠ 0 then chkSign s else if okClk lo hi = false then 2 else 0

theorem c49 (hK : IsK K) {v : V} {s : List (Int × Int)} {lo hi : Int} (hs : SlN σ 2 v (sg s)) (hl : s.length ≤ 1000000) (hk : k (.int .i64 (chkClk s lo hi)) σ) : K (.fn 49) [v, .agg [.int .i64 lo, .int .i64 hi]] σ k := by
  refine k49 hK 0 ?_
  conv => whnf
  refine c17 hK (hs.ge ((Ge.refl σ).enter.add _)) hl ?_
  conv => whnf
  refine brecb (fun h1 => ?_) (fun h1 => ?_)
  · have h1 : chkSign s ≠ 0 := by simpa using h1
    conv => whnf
    refine ret_clean (.int .i64 (chkSign s)) rfl rfl ?_
    rw [show chkClk s lo hi = chkSign s by unfold chkClk; rw [if_pos h1]] at hk; exact hk
  · have h1 : ¬ chkSign s ≠ 0 := by simpa using h1
    conv => whnf
    refine ldrec (congrArg cellsOf (get_add_self _ _)) ?_
    conv => whnf
    refine ldrec (congrArg cellsOf (get_add_self _ _)) ?_
    conv => whnf
    refine c47 hK (xs := [lo, hi]) (SlN.two (get_add_self _ _)) (by simp) ?_
    have hb : (![lo, hi].any (outs (-100) 100)) = decide ((-100 ≤ lo ∧ lo ≤ 100) ∧ (-100 ≤ hi ∧ hi ≤ 100)) := by
      unfold outs
      rw [Bool.eq_iff_iff]; simp
    rw [hb]
    conv => whnf
    by_cases h2 : (-100 ≤ lo ∧ lo ≤ 100) ∧ (-100 ≤ hi ∧ hi ≤ 100)
    · rw [decide_eq_true h2]
      conv => whnf
      refine ldrec (congrArg cellsOf (get_add_some _ (get_add_self _ _))) ?_
      conv => whnf
      refine ldrec (congrArg cellsOf (get_add_some _ (get_add_self _ _))) ?_
      conv => whnf
      refine brec (fun h3 => ?_) (fun h3 => ?_)
      · conv => whnf
        refine ret_clean (.int .i64 2) rfl rfl ?_
        rw [show chkClk s lo hi = 2 by unfold chkClk okClk; rw [if_neg h1, if_pos (by rw [decide_eq_false_iff_not]; omega)]] at hk; exact hk
      · conv => whnf
        refine ret_clean (.int .i64 0) rfl rfl ?_
        rw [show chkClk s lo hi = 0 by unfold chkClk okClk; rw [if_neg h1, if_neg (by rw [decide_eq_false_iff_not]; omega)]] at hk; exact hk
    · rw [decide_eq_false h2]
      conv => whnf
      refine ret_clean (.int .i64 2) rfl rfl ?_
      rw [show chkClk s lo hi = 2 by unfold chkClk okClk; rw [if_neg h1, if_pos (by rw [decide_eq_false_iff_not]; omega)]] at hk; exact hk

theorem c36 (hK : IsK K) {lo hi : Int} (hk : k (.bool (okClk lo hi)) σ) : K (.fn 36) [.agg [.int .i64 lo, .int .i64 hi]] σ k := by
  refine k36 hK 0 ?_
  conv => whnf
  refine ldrec (congrArg cellsOf (get_add_self _ _)) ?_
  conv => whnf
  refine brecb (fun h1 => ?_) (fun h1 => ?_)
  · rw [h1]
    have h1 := of_decide_eq_true h1
    conv => whnf
    refine ldrec (congrArg cellsOf (get_add_self _ _)) ?_
    conv => whnf
    refine ldrec (congrArg cellsOf (get_add_self _ _)) ?_
    conv => whnf
    refine brecb (fun h2 => ?_) (fun h2 => ?_)
    · rw [h2]
      have h2 := of_decide_eq_true h2
      conv => whnf
      refine ldrec (congrArg cellsOf (get_add_self _ _)) ?_
      conv => whnf
      refine ret_clean (.bool (decide (hi ≤ 100))) rfl rfl ?_
      rw [show decide (hi ≤ 100) = okClk lo hi by unfold okClk; rw [decide_eq_decide]; omega]; exact hk
    · rw [h2]
      have h2 := of_decide_eq_false h2
      conv => whnf
      refine ret_clean (.bool false) rfl rfl ?_
      rw [show false = okClk lo hi by unfold okClk; symm; rw [decide_eq_false_iff_not]; omega]; exact hk
  · rw [h1]
    have h1 := of_decide_eq_false h1
    conv => whnf
    refine ret_clean (.bool false) rfl rfl ?_
    rw [show false = okClk lo hi by unfold okClk; symm; rw [decide_eq_false_iff_not]; omega]; exact hk

theorem c74 (hK : IsK K) {x : Int × Int} (hk : k (.int .i64 x.2) σ) : K (.fn 74) [.agg [.int .i64 x.1, .int .i64 x.2]] σ k := by
  refine k74 hK 0 ?_
  conv => whnf
  refine ldrec (congrArg cellsOf (get_add_self _ _)) ?_
  conv => whnf
  exact ret_clean (.int .i64 x.2) rfl rfl hk

/-- The first of the least. -/
def least1 (best x : Int × Int) : Int × Int := if x.2 < best.2 then x else best
theorem least1_pos {best x : Int × Int} (h : x.2 < best.2) : least1 best x = x := if_pos h
theorem least1_neg {best x : Int × Int} (h : ¬ x.2 < best.2) : least1 best x = best := if_neg h
def leastP (l : List (Int × Int)) : Int × Int := l.tail.foldl least1 (l.headD (0, 0))

theorem c73 (hK : IsK K) {v : V} {s : List (Int × Int)} (hs : SlN σ 2 v (sg s)) (hl : s.length ≤ 1000000) (h0 : s.length ≠ 0) (hk : k (.agg [.int .i64 (leastP s).1, .int .i64 (leastP s).2]) σ) : K (.fn 73) [v, .func 74 [] []] σ k := by
  obtain ⟨N, hN⟩ : ∃ N, s.length < N := ⟨_, Nat.lt_succ_self _⟩
  obtain ⟨x0, s, rfl⟩ : ∃ x s', s = x :: s' := by cases s with
    | nil => exact absurd rfl h0
    | cons x s => exact ⟨x, s, rfl⟩
  obtain ⟨b, o, cap, es, ro, vs, e0, h4, h5, h6⟩ := hs.at (sg_get (i := 0) (by simp))
  subst e0
  refine k73 hK N ?_
  conv => whnf
  refine ldrec (congrArg cellsOf (get_add_some _ (σ := σ.enter) h4)) ?_
  refine partv_ok h5 h6 ?_
  conv => whnf
  refine gs_st [.int .i64 x0.1, .int .i64 x0.2] [.int .i64 x0.1, .int .i64 x0.2] (get_add_self _ _) rfl (Nat.le_refl 2) rfl rfl ?_
  have e1 : Ext σ.enter (((σ.enter.add (.cells false [.int .i64 0, .int .i64 0])).add (.cells false [.int .i64 0, .int .i64 0])).put (σ.enter.add (.cells false [.int .i64 0, .int .i64 0])).n (.cells false [.int .i64 x0.1, .int .i64 x0.2])) :=
    (((Ext.refl _).add _).add _).put (by rw [n_add]; exact Nat.le_succ _) (by rw [n_add]; exact Nat.le_succ _) _
  have g1 := get_put_self (σ := (σ.enter.add (.cells false [.int .i64 0, .int .i64 0])).add (.cells false [.int .i64 0, .int .i64 0])) (b := (σ.enter.add (.cells false [.int .i64 0, .int .i64 0])).n) (.cells false [.int .i64 x0.1, .int .i64 x0.2]) (get_add_self _ _)
  have g0 : (((σ.enter.add (.cells false [.int .i64 0, .int .i64 0])).add (.cells false [.int .i64 0, .int .i64 0])).put (σ.enter.add (.cells false [.int .i64 0, .int .i64 0])).n (.cells false [.int .i64 x0.1, .int .i64 x0.2])).get σ.n = some (.cells false [.int .i64 0, .int .i64 0]) := by
    rw [get_put_ne _ (by rw [n_add]; exact Nat.ne_of_lt (Nat.lt_succ_self _))]
    exact get_add_some _ (get_add_self σ.enter _)
  generalize (((σ.enter.add (.cells false [.int .i64 0, .int .i64 0])).add (.cells false [.int .i64 0, .int .i64 0])).put (σ.enter.add (.cells false [.int .i64 0, .int .i64 0])).n (.cells false [.int .i64 x0.1, .int .i64 x0.2])) = σ1 at e1 g1 g0 ⊢
  conv => whnf
  refine slc_ok (l := 1) (h := (sg (x0 :: s)).length) hs (by omega) (by rw [sg_len]; simp) (Nat.le_refl _) (bnd_int (n := 1) rfl) rfl (fun v' hv' => ?_)
  have hv' : SlN σ 2 v' (sg s) := by
    have : ((sg (x0 :: s)).drop 1).take ((sg (x0 :: s)).length - 1) = sg s := by simp [sg]; rw [List.take_of_length_le (by simp)]
    rw [this] at hv'; exact hv'
  conv => whnf
  refine hv'.len ?_
  rw [sg_len s]
  conv => whnf
  refine iter_inv (fun j t σ' => ∃ i : Nat, i + j = s.length ∧ Ext σ.enter σ' ∧ σ'.get σ.n = some (.cells false [.int .i64 0, .int .i64 0]) ∧ σ'.get (σ.n + 1) = some (.cells false [.int .i64 ((s.take i).foldl least1 x0).1, .int .i64 ((s.take i).foldl least1 x0).2]) ∧
    forget M73_0 t = T73_0 (.func 74 [] []) (.ptr σ.n 0) (.ptr (σ.n + 1) 0) v' (.int .i64 s.length) (.int .i64 i)) ?_ (j := s.length) (by simp at hN; omega) ⟨0, by simp, e1, g0, g1, rfl⟩
  rintro j again t σ2 ⟨i, hij, he, hg0, hg1, hf0⟩ hagain
  rw [hf0]
  conv => whnf
  refine brec (fun h1 => ?_) (fun h1 => ?_)
  · have hi : i < s.length := by omega
    obtain ⟨b', o', cap', es', ro', vs', e2, h4', h5', h6'⟩ := hv'.at (sg_get hi)
    subst e2
    conv => whnf
    refine bsk1 (ixOk_nat (by rw [sg_len]; exact hi)) ?_
    conv => whnf
    refine ldrec (congrArg cellsOf (he.get _ _ h4')) ?_
    refine partv_ok h5' h6' ?_
    conv => whnf
    refine gs_st [.int .i64 s[i].1, .int .i64 s[i].2] [.int .i64 s[i].1, .int .i64 s[i].2] (get_add_self _ _) rfl (Nat.le_refl 2) rfl rfl ?_
    have hlt0 : σ.n + 1 < σ2.n := get_lt hg1
    have e3 : Ext σ.enter ((σ2.add (.cells false [.int .i64 0, .int .i64 0])).put σ2.n (.cells false [.int .i64 s[i].1, .int .i64 s[i].2])) := (he.add _).put he.n he.n _
    have ge3 : Ge σ2 ((σ2.add (.cells false [.int .i64 0, .int .i64 0])).put σ2.n (.cells false [.int .i64 s[i].1, .int .i64 s[i].2])) := ((Ge.refl _).add _).put (Nat.le_refl _) _
    have g3 := get_put_self (σ := σ2.add (.cells false [.int .i64 0, .int .i64 0])) (b := σ2.n) (.cells false [.int .i64 s[i].1, .int .i64 s[i].2]) (get_add_self _ _)
    generalize ((σ2.add (.cells false [.int .i64 0, .int .i64 0])).put σ2.n (.cells false [.int .i64 s[i].1, .int .i64 s[i].2])) = σ3 at e3 ge3 g3 ⊢
    have hg0' := ge3.get _ _ hg0
    have hg1' := ge3.get _ _ hg1
    have hst : (s.take (i + 1)).foldl least1 x0 = least1 ((s.take i).foldl least1 x0) s[i] := by
      rw [List.take_succ_eq_append_getElem hi, List.foldl_append]; rfl
    conv => whnf
    refine ldrec (congrArg cellsOf g3) ?_
    refine partv_ok (xs := [.int .i64 s[i].1, .int .i64 s[i].2]) (Nat.le_refl 2) rfl ?_
    conv => whnf
    refine ldrec (congrArg cellsOf hg1') ?_
    refine partv_ok (xs := [.int .i64 ((s.take i).foldl least1 x0).1, .int .i64 ((s.take i).foldl least1 x0).2]) (Nat.le_refl 2) rfl ?_
    conv => whnf
    refine c74 hK ?_
    conv => whnf
    refine c74 hK ?_
    conv => whnf
    refine brec (fun h2 => ?_) (fun h2 => ?_)
    · have hl1 : least1 ((s.take i).foldl least1 x0) s[i] = s[i] := least1_pos h2
      conv => whnf
      refine ldrec (congrArg cellsOf g3) ?_
      refine partv_ok (xs := [.int .i64 s[i].1, .int .i64 s[i].2]) (Nat.le_refl 2) rfl ?_
      conv => whnf
      refine gs_st [.int .i64 s[i].1, .int .i64 s[i].2] [.int .i64 s[i].1, .int .i64 s[i].2] hg1' rfl (Nat.le_refl 2) rfl rfl ?_
      conv => whnf
      refine hagain (j - 1) _ _ (by omega) ⟨i + 1, by omega, e3.put (Nat.le_succ _) (Nat.le_succ _) _, ?_, ?_, ?_⟩
      · rw [get_put_ne _ (by omega)]; exact hg0'
      · rw [hst, hl1]; exact get_put_self _ hg1'
      · rw [show ((i + 1 : Nat) : Int) = wr .i64 (i + 1) by simp at hl; rw [wr_i64 (by omega) (by omega)]; rfl]; rfl
    · have hl1 : least1 ((s.take i).foldl least1 x0) s[i] = (s.take i).foldl least1 x0 := least1_neg h2
      conv => whnf
      refine hagain (j - 1) _ _ (by omega) ⟨i + 1, by omega, e3, hg0', ?_, ?_⟩
      · rw [hst, hl1]; exact hg1'
      · rw [show ((i + 1 : Nat) : Int) = wr .i64 (i + 1) by simp at hl; rw [wr_i64 (by omega) (by omega)]; rfl]; rfl
  · have hi : i = s.length := by omega
    conv => whnf
    refine ldrec (congrArg cellsOf hg1) ?_
    refine partv_ok (xs := [.int .i64 ((s.take i).foldl least1 x0).1, .int .i64 ((s.take i).foldl least1 x0).2]) (Nat.le_refl 2) rfl ?_
    conv => whnf
    refine gs_st [.int .i64 ((s.take i).foldl least1 x0).1, .int .i64 ((s.take i).foldl least1 x0).2] [.int .i64 ((s.take i).foldl least1 x0).1, .int .i64 ((s.take i).foldl least1 x0).2] hg0 rfl (Nat.le_refl 2) rfl rfl ?_
    conv => whnf
    refine ldrec (congrArg cellsOf (get_put_self _ hg0)) ?_
    refine partv_ok (xs := [.int .i64 ((s.take i).foldl least1 x0).1, .int .i64 ((s.take i).foldl least1 x0).2]) (Nat.le_refl 2) rfl ?_
    conv => whnf
    refine ret_clean (.agg [.int .i64 ((s.take i).foldl least1 x0).1, .int .i64 ((s.take i).foldl least1 x0).2]) (he.put (Nat.le_refl _) (Nat.le_refl _) _).mods rfl ?_
    rw [hi, List.take_length]; exact hk

end Go.Proofs.Ytnmkbnejapdnnaa.Ev
