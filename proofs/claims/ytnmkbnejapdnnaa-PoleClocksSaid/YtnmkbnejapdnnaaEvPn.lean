/-
  The law of clocks: what it answers, with Works as it is.
-/
import Derived.Test.YtnmkbnejapdnnaaEvPm
import Derived.Test.YtnmkbnejapdnnaaEvPi
import Derived.Test.YtnmkbnejapdnnaaEvApp
set_option maxRecDepth 100000
set_option maxHeartbeats 4000000
set_option linter.unusedVariables false
namespace Go.Proofs.Ytnmkbnejapdnnaa.Ev
open Go
attribute [local irreducible] iter slcv slcav slcAt slcsv appP appzP appv mkslP copyv clearv lookv mputv delv mentryv rangev mnextP mcurv fairP fairS chkSign fineS okClk
variable {K : KT} {σ : St} {k : Cn}

theorem c8p (hK : IsK K) (hW : Wk K) {v : V} {s : List (Int × Int)} {lo hi w0 w1 tm mi la : Int} (hp : 0 < s.length) (hs : SlN σ 2 v (sg s)) (a0 : 0 ≤ w0 ∧ w0 ≤ 255) (a1 : 0 ≤ w1 ∧ w1 ≤ 255) (a2 : 0 ≤ tm ∧ tm ≤ 255) (a3 : 0 ≤ mi ∧ mi ≤ 65535) (a4 : 0 ≤ la ∧ la ≤ 65535) (hk : k (.bool true) σ) :
    K (.fn 8) [v, .agg [.int .i64 lo, .int .i64 hi], .agg [.int .u8 w0, .int .u8 w1], .int .u8 tm, .int .u16 mi, .int .u16 la] σ k := by
  obtain ⟨bb, oo, cap, es, ro, vs, rfl, h4, h5, h6⟩ := hs.at (sg_get (i := 0) hp)
  obtain ⟨N, hN⟩ : ∃ N, s.length < N := ⟨_, Nat.lt_succ_self _⟩
  obtain ⟨tt, htt⟩ : ∃ tt, tt = 1 + tm % 9 := ⟨_, rfl⟩
  have et : wr .i64 (1 + (wr .i64 tm).tmod 9) = tt := by rw [wr_i64 (n := tm) (by omega) (by omega), Int.tmod_eq_emod_of_nonneg (by omega), wr_i64 (by omega) (by omega)]; exact htt.symm
  have ht0 : 1 ≤ tt ∧ tt ≤ 9 := by omega
  refine k8 hK N ?_
  conv => whnf
  have g7 : ((σ.enter.add (.cells false [.int .i64 lo, .int .i64 hi])).add (.cells false [.int .u8 w0, .int .u8 w1])).get σ.n = some (.cells false [.int .i64 lo, .int .i64 hi]) := get_add_some _ (get_add_self σ.enter _)
  have g8 : ((σ.enter.add (.cells false [.int .i64 lo, .int .i64 hi])).add (.cells false [.int .u8 w0, .int .u8 w1])).get (σ.n + 1) = some (.cells false [.int .u8 w0, .int .u8 w1]) := get_add_self (σ.enter.add _) _
  have e0 : Ext σ.enter ((σ.enter.add (.cells false [.int .i64 lo, .int .i64 hi])).add (.cells false [.int .u8 w0, .int .u8 w1])) := ((Ext.refl σ.enter).add _).add _
  have he0 := hs.enter.ge e0.ge
  have en0 : ((σ.enter.add (.cells false [.int .i64 lo, .int .i64 hi])).add (.cells false [.int .u8 w0, .int .u8 w1])).n = σ.n + 2 := rfl
  refine ldrec (congrArg cellsOf g7) ?_
  refine partv_ok (xs := [.int .i64 lo, .int .i64 hi]) (Nat.le_refl 2) rfl ?_
  conv => whnf
  refine c32 hK he0 ?_
  conv => whnf
  refine brecb (fun hf => ?_) (fun hf => ?_)
  · simp only [hf]
    conv => whnf
    refine hW _ _ ?_
    conv => whnf
    exact ret_clean (.bool true) e0.mods rfl hk
  · simp only [hf]
    have hf : fineS s lo hi = true := by simpa using hf
    conv => whnf
    obtain ⟨hl, hc, hok⟩ := fine_ok hf
    have h0 := chk_len hc
    have hclk := clk_of hc hok
    obtain ⟨_, b1, b2, b3⟩ := chkClk_ok hclk
    refine ldrec (congrArg cellsOf g7) ?_
    refine partv_one (v := .int .i64 lo) rfl ?_
    conv => whnf
    refine ldrec (congrArg cellsOf g8) ?_
    refine partv_one (v := .int .u8 w0) rfl ?_
    conv => whnf
    refine ldrec (congrArg cellsOf g7) ?_
    refine partv_one (v := .int .i64 hi) rfl ?_
    conv => whnf
    refine ldrec (congrArg cellsOf g8) ?_
    refine partv_one (v := .int .u8 w1) rfl ?_
    conv => whnf
    refine c34 hK (a := imax (-100) (wr .i64 (lo - wr .i64 w0))) (b := imin 100 (wr .i64 (hi + wr .i64 w1))) ?_
    have ea : imax (-100) (wr .i64 (lo - wr .i64 w0)) = max (-100) (lo - w0) := by
      rw [wr_i64 (n := w0) (by omega) (by omega), wr_i64 (by omega) (by omega)]; unfold imax; split <;> omega
    have eb : imin 100 (wr .i64 (hi + wr .i64 w1)) = min 100 (hi + w1) := by
      rw [wr_i64 (n := w1) (by omega) (by omega), wr_i64 (by omega) (by omega)]; unfold imin; split <;> omega
    rw [ea, eb]
    obtain ⟨wl, hwl⟩ : ∃ x, x = max (-100) (lo - w0) := ⟨_, rfl⟩
    obtain ⟨wh, hwh⟩ : ∃ x, x = min 100 (hi + w1) := ⟨_, rfl⟩
    rw [← hwl, ← hwh]
    have d1 : -100 ≤ wl ∧ wl ≤ lo := by omega
    have d2 : hi ≤ wh ∧ wh ≤ 100 := by omega
    clear ea eb
    conv => whnf
    refine gs_new (σ₀ := σ.enter) (σ := ((σ.enter.add (.cells false [.int .i64 lo, .int .i64 hi])).add (.cells false [.int .u8 w0, .int .u8 w1])).add (.cells false [.int .i64 0, .int .i64 0])) [.int .i64 wl, .int .i64 wh] [.int .i64 wl, .int .i64 wh] (e0.add _) (Nat.le_add_right σ.n 2) (Nat.le_add_right σ.n 2) (get_add_self _ _) rfl (Nat.le_refl 2) rfl rfl (fun σ1 e1 g9 gk1 n1 => ?_)
    have g7 := gk1 _ _ (show σ.n ≠ σ.n + 2 by omega) (get_add_some _ g7)
    have he1 := hs.enter.ge e1.ge
    have n1' : σ.n + 3 ≤ σ1.n := by rw [n1]; exact Nat.le_refl _
    conv => whnf
    refine ldrec (congrArg cellsOf g7) ?_
    refine partv_ok (xs := [.int .i64 lo, .int .i64 hi]) (Nat.le_refl 2) rfl ?_
    conv => whnf
    obtain ⟨m, hm⟩ : ∃ m, m = mi % 2001 := ⟨_, rfl⟩
    have em : (wr .i64 mi).tmod 2001 = m := by rw [wr_i64 (by omega) (by omega), Int.tmod_eq_emod_of_nonneg (by omega)]; exact hm.symm
    have m0 : 0 ≤ m ∧ m ≤ 2000 := by omega
    have hl6 : s.length ≤ 1000000 := by omega
    have hwclk : chkClk s wl wh = 0 := clk_of hc (by unfold okClk; rw [decide_eq_true_eq]; omega)
    have hw := fair_wide (m := m) h0 b2 d1.2 d2.1
    refine c15e hK he1 hl6 (fair_e (m := (wr .i64 mi).tmod 2001) hclk em m0.1 m0.2) ?_
    conv => whnf
    refine ldrec (congrArg cellsOf g9) ?_
    refine partv_ok (xs := [.int .i64 wl, .int .i64 wh]) (Nat.le_refl 2) rfl ?_
    conv => whnf
    refine c15e hK he1 hl6 (fair_e (m := (wr .i64 mi).tmod 2001) hwclk em m0.1 m0.2) ?_
    conv => whnf
    refine slc_ok (σ := σ1) (l := 0) (h := 1) he1 (by omega) (by omega) (by rw [sg_len]; omega) rfl (bnd_int (kd := .i64) rfl) (fun v1 hv1 => ?_)
    have hv1 : SlN σ1 2 v1 (sg (s.take 1)) := by
      have : ((sg s).drop 0).take (1 - 0) = sg (s.take 1) := by unfold sg; rw [List.drop_zero, List.map_take]
      rw [this] at hv1; exact hv1
    have ht1 : (s.take 1).length = 1 := by rw [List.length_take]; omega
    have h1clk : chkClk (s.take 1) lo hi = 0 := clk_of (chk_take1 hc) hok
    conv => whnf
    refine ldrec (congrArg cellsOf g7) ?_
    refine partv_ok (xs := [.int .i64 lo, .int .i64 hi]) (Nat.le_refl 2) rfl ?_
    conv => whnf
    refine c15e hK hv1.enter (by omega) (fair_e (m := (wr .i64 mi).tmod 2001) h1clk em m0.1 m0.2) ?_
    rw [fair_one ht1 b2]
    conv => whnf
    refine brecb (fun h3 => absurd (of_decide_eq_true h3) (by omega)) (fun h3 => ?_)
    simp only [h3]
    conv => whnf
    refine bsk1 (ixOk_nat (i := 0) (by rw [sg_len]; omega)) ?_
    conv => whnf
    refine ldrec (congrArg cellsOf (e1.get _ _ h4)) ?_
    refine partv_one (v := .int .i64 s[0].2) (seg_at (i := 1) h6 rfl) ?_
    have hct : ct (s.take 1) 0 = s[0].2 := by rw [ct_get (by omega)]; simp
    conv => whnf
    refine brecb (fun h => absurd h (by rw [hct]; simp)) (fun _ => ?_)
    conv => whnf
    refine iter_inv (fun j t σ' => ∃ i x, i + j = s.length ∧ Ext σ.enter σ' ∧ σ'.get σ.n = some (.cells false [.int .i64 lo, .int .i64 hi]) ∧ σ.n + 3 ≤ σ'.n ∧ Own (σ.n + 3) σ' 2 x (sg ((s.take i).map (scl tt))) ∧
      forget M8_0 t = T8_0 (.slice bb oo (sg s).length cap es) (.int .u16 la) (.ptr σ.n 0) (.int .i64 ((wr .i64 mi).tmod 2001)) (.int .i64 (fairP s lo hi m)) (.int .i64 (wr .i64 (1 + (wr .i64 tm).tmod 9))) x (.int .i64 i)) ?_ (j := s.length) hN ⟨0, .nilslice, by simp, e1, g7, n1', .inl ⟨rfl, rfl⟩, rfl⟩
    rintro j again t σ2 ⟨i, x, hij, e2, g7, n2, hx, hf0⟩ hagain
    rw [hf0]
    conv => whnf
    refine brec (fun h1 => ?_) (fun h1 => ?_)
    · have hi : i < s.length := by rw [sg_len] at h1; omega
      obtain ⟨b', o', cap', es', ro', vs', heq, k4, k5, k6⟩ := hs.at (sg_get hi)
      cases heq
      have hcd := cents_bd hc hi
      conv => whnf
      refine bsk1 (ixOk_nat (by rw [sg_len]; exact hi)) ?_
      conv => whnf
      refine ldrec (congrArg cellsOf (e2.get _ _ k4)) ?_
      refine partv_one (v := .int .i64 s[i].1) (seg_at (i := 0) k6 rfl) ?_
      conv => whnf
      refine bsk1 (ixOk_nat (by rw [sg_len]; exact hi)) ?_
      conv => whnf
      refine ldrec (congrArg cellsOf (e2.get _ _ k4)) ?_
      refine partv_one (v := .int .i64 s[i].2) (seg_at (i := 1) k6 rfl) ?_
      conv => whnf
      refine c35 hK (a := s[i].1) (b := wr .i64 (wr .i64 (1 + (wr .i64 tm).tmod 9) * s[i].2)) ?_
      conv => whnf
      have ey : wr .i64 (wr .i64 (1 + (wr .i64 tm).tmod 9) * s[i].2) = tt * s[i].2 := by
        have q1 : tt * s[i].2 ≤ 9 * s[i].2 := Int.mul_le_mul_of_nonneg_right ht0.2 (by omega)
        have q2 : 0 ≤ tt * s[i].2 := Int.mul_nonneg (by omega) (by omega)
        rw [et, wr_i64 (by omega) (by omega)]
      have hst : sg ((s.take (i + 1)).map (scl tt)) = sg ((s.take i).map (scl tt)) ++ [[.int .i64 s[i].1, .int .i64 (tt * s[i].2)]] := by
        rw [List.take_succ_eq_append_getElem hi, List.map_append]; unfold sg; rw [List.map_append]; rfl
      have hlx : (sg ((s.take i).map (scl tt))).length = i := by rw [sg_len, List.length_map, List.length_take]; omega
      refine app_own (σ := (σ2.add (.cells false [.int .i64 s[i].1, .int .i64 (wr .i64 (wr .i64 (1 + (wr .i64 tm).tmod 9) * s[i].2))])).enter) (b := σ2.n) (y := [.int .i64 s[i].1, .int .i64 (tt * s[i].2)]) (hx.add _) (Nat.le_succ_of_le n2) (sg_two _) rfl rfl ?_ (by rw [hlx]; omega) (fun x' τ hx' hn' hg' hm' => ?_)
      · show (σ2.add _).get σ2.n = _
        rw [get_add_self, ey]
      have e3 : Ext σ.enter ((σ2.add (.cells false [.int .i64 s[i].1, .int .i64 (wr .i64 (wr .i64 (1 + (wr .i64 tm).tmod 9) * s[i].2))])).back τ) :=
        ext_back (lo := σ.n + 3) (e2.add _) (Nat.le_add_right σ.n 3) (Nat.le_add_right σ.n 3) hn' hg' (fun c hc => (hm' c hc).elim (fun h => by cases h) id)
      conv => whnf
      refine hagain (j - 1) _ _ (by omega) ⟨i + 1, x', by omega, e3, ?_, ?_, ?_, ?_⟩
      · exact hg' _ _ (by omega) (get_add_some _ g7)
      · exact Nat.le_trans (Nat.le_succ_of_le n2) hn'
      · rw [hst]; exact hx'
      · rw [show ((i + 1 : Nat) : Int) = wr .i64 (i + 1) by rw [wr_i64 (by omega) (by omega)]; rfl]; rfl
    · have hie : i = s.length := by rw [sg_len] at h1; omega
      conv => whnf
      have hxs : SlN σ2 2 x (sg (s.map (scl tt))) := by
        rw [hie, List.take_length] at hx; exact hx.sl (sg_two _)
      have hs2 := hs.enter.ge e2.ge
      refine c18 hK hxs (by rw [List.length_map]; exact hl6) ?_
      conv => whnf
      have rest : ∀ BY : Int, (wr .i64 la).tmod 101 = BY → 0 ≤ BY ∧ BY ≤ 100 → wr .i64 (lo + BY) = lo + BY ∧ wr .i64 (hi + BY) = hi + BY ∧ wr .i64 (m + BY) = m + BY := by
        intro BY _ h
        exact ⟨wr_i64 (by omega) (by omega), wr_i64 (by omega) (by omega), wr_i64 (by omega) (by omega)⟩
      obtain ⟨BY, hBY⟩ : ∃ BY, BY = la % 101 := ⟨_, rfl⟩
      have eb : (wr .i64 la).tmod 101 = BY := by rw [wr_i64 (by omega) (by omega), Int.tmod_eq_emod_of_nonneg (by omega)]; exact hBY.symm
      obtain ⟨w5, w6, w7⟩ := rest BY eb (by omega)
      have hb0 : 0 ≤ BY ∧ BY ≤ 100 := by omega
      clear rest
      have hfb := fairP_bd (m := m) hc b2
      have eq5 : (tt * fairP s lo hi m != wr .i64 (wr .i64 (1 + (wr .i64 tm).tmod 9) * fairP s lo hi m)) = false := by
        have q1 : tt * fairP s lo hi m ≤ 9 * fairP s lo hi m := Int.mul_le_mul_of_nonneg_right ht0.2 (by omega)
        have q2 : 0 ≤ tt * fairP s lo hi m := Int.mul_nonneg (by omega) (by omega)
        rw [et, wr_i64 (by omega) (by omega)]; simp
      refine brecb (fun h4 => ?_) (fun h4 => ?_)
      have hcx : chkSign (s.map (scl tt)) = 0 := by simpa using h4
      conv => whnf
      refine ldrec (congrArg cellsOf g7) ?_
      refine partv_ok (xs := [.int .i64 lo, .int .i64 hi]) (Nat.le_refl 2) rfl ?_
      conv => whnf
      refine c15e hK (x := tt * fairP s lo hi m) (y := 0) (m := (wr .i64 mi).tmod 2001) hxs (by rw [List.length_map]; exact hl6) (by rw [fair_e (clk_of hcx hok) em m0.1 m0.2, fair_scl (by omega) h0 b2]) ?_
      conv => whnf
      refine brec0 eq5 ?_
      all_goals conv => whnf
      all_goals refine ldrec (congrArg cellsOf g7) ?_
      all_goals refine partv_one (v := .int .i64 lo) rfl ?_
      all_goals conv => whnf
      all_goals refine ldrec (congrArg cellsOf g7) ?_
      all_goals refine partv_one (v := .int .i64 hi) rfl ?_
      all_goals conv => whnf
      all_goals refine c34e hK (a := wr .i64 (lo + (wr .i64 la).tmod 101)) (b := wr .i64 (hi + (wr .i64 la).tmod 101)) (a' := lo + BY) (b' := hi + BY) (by rw [eb]; exact w5) (by rw [eb]; exact w6) ?_
      all_goals conv => whnf
      all_goals refine gs_new (σ₀ := σ.enter) (σ := σ2.add (.cells false [.int .i64 0, .int .i64 0])) [.int .i64 (lo + BY), .int .i64 (hi + BY)] [.int .i64 (lo + BY), .int .i64 (hi + BY)] (e2.add _) e2.n (by show σ.n ≤ σ2.n; exact e2.n) (get_add_self _ _) rfl (Nat.le_refl 2) rfl rfl (fun σ3 e3 g10 gk3 n3 => ?_)
      all_goals have g7 := gk3 _ _ (show σ.n ≠ σ2.n by omega) (get_add_some _ g7)
      all_goals have he3 := hs.enter.ge e3.ge
      all_goals conv => whnf
      all_goals refine ldrec (congrArg cellsOf g10) ?_
      all_goals refine partv_ok (xs := [.int .i64 (lo + BY), .int .i64 (hi + BY)]) (Nat.le_refl 2) rfl ?_
      all_goals conv => whnf
      all_goals refine c36 hK ?_
      all_goals conv => whnf
      all_goals refine brecb (fun h6 => ?_) (fun h6 => ?_)
      all_goals simp only [h6]
      all_goals conv => whnf
      all_goals first
        | (refine hW _ _ ?_
           conv => whnf
           exact ret_clean (.bool true) e3.mods rfl hk)
        | skip
      all_goals have hz : okClk (lo + BY) (hi + BY) = true := by simpa using h6
      all_goals refine brecb (fun h7 => ?_) (fun h7 => ?_)
      all_goals conv => whnf
      all_goals first
        | (refine hW _ _ ?_
           conv => whnf
           exact ret_clean (.bool true) e3.mods rfl hk)
        | skip
      all_goals have em2 : wr .i64 ((wr .i64 mi).tmod 2001 + (wr .i64 la).tmod 101) = m + BY := by rw [em, eb]; exact w7
      all_goals have h8 : m + BY ≤ 2000 := by have := of_decide_eq_false h7; rw [em2] at this; omega
      all_goals have hzc : chkClk s (lo + BY) (hi + BY) = 0 := clk_of hc hz
      all_goals refine ldrec (congrArg cellsOf g10) ?_
      all_goals refine partv_ok (xs := [.int .i64 (lo + BY), .int .i64 (hi + BY)]) (Nat.le_refl 2) rfl ?_
      all_goals conv => whnf
      all_goals refine c15e hK (x := fairP s lo hi (m + BY)) (y := 0) (m := (wr .i64 mi).tmod 2001) he3 hl6 (by rw [fair_e hzc em m0.1 m0.2, fair_shift]) ?_
      all_goals conv => whnf
      all_goals refine ldrec (congrArg cellsOf g7) ?_
      all_goals refine partv_ok (xs := [.int .i64 lo, .int .i64 hi]) (Nat.le_refl 2) rfl ?_
      all_goals conv => whnf
      all_goals refine c15e hK he3 hl6 (fair_e (m := wr .i64 ((wr .i64 mi).tmod 2001 + (wr .i64 la).tmod 101)) hclk em2 (by omega) h8) ?_
      all_goals conv => whnf
      all_goals refine brecb (fun h9 => ?_) (fun h9 => absurd h9 (by simp))
      all_goals simp only [h9]
      all_goals conv => whnf
      all_goals refine hW _ _ ?_
      all_goals conv => whnf
      all_goals exact ret_clean (.bool true) e3.mods rfl hk

theorem c8 (hK : IsK K) (hW : Wk K) {v : V} {s : List (Int × Int)} {lo hi w0 w1 tm mi la : Int} (hs : SlN σ 2 v (sg s)) (a0 : 0 ≤ w0 ∧ w0 ≤ 255) (a1 : 0 ≤ w1 ∧ w1 ≤ 255) (a2 : 0 ≤ tm ∧ tm ≤ 255) (a3 : 0 ≤ mi ∧ mi ≤ 65535) (a4 : 0 ≤ la ∧ la ≤ 65535) (hk : k (.bool true) σ) :
    K (.fn 8) [v, .agg [.int .i64 lo, .int .i64 hi], .agg [.int .u8 w0, .int .u8 w1], .int .u8 tm, .int .u16 mi, .int .u16 la] σ k := by
  by_cases hp : 0 < s.length
  · exact c8p hK hW hp hs a0 a1 a2 a3 a4 hk
  refine k8 hK 0 ?_
  conv => whnf
  have g7 : ((σ.enter.add (.cells false [.int .i64 lo, .int .i64 hi])).add (.cells false [.int .u8 w0, .int .u8 w1])).get σ.n = some (.cells false [.int .i64 lo, .int .i64 hi]) := get_add_some _ (get_add_self σ.enter _)
  have e0 : Ext σ.enter ((σ.enter.add (.cells false [.int .i64 lo, .int .i64 hi])).add (.cells false [.int .u8 w0, .int .u8 w1])) := ((Ext.refl σ.enter).add _).add _
  have he0 := hs.enter.ge e0.ge
  refine ldrec (congrArg cellsOf g7) ?_
  refine partv_ok (xs := [.int .i64 lo, .int .i64 hi]) (Nat.le_refl 2) rfl ?_
  conv => whnf
  refine c32 hK he0 ?_
  conv => whnf
  refine brecb (fun hf => ?_) (fun hf => ?_)
  · simp only [hf]
    conv => whnf
    refine hW _ _ ?_
    conv => whnf
    exact ret_clean (.bool true) e0.mods rfl hk
  · have hf : fineS s lo hi = true := by simpa using hf
    exact absurd (chk_len (fine_ok hf).2.1) (by omega)

end Go.Proofs.Ytnmkbnejapdnnaa.Ev
