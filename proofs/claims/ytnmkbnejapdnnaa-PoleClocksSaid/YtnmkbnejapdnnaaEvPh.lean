/-
  Poles: the reference's fair price; the law of signs.
-/
import Derived.Test.YtnmkbnejapdnnaaEvPg
set_option maxRecDepth 100000
set_option maxHeartbeats 4000000
set_option linter.unusedVariables false
namespace Go.Proofs.Ytnmkbnejapdnnaa.Ev
open Go
attribute [local irreducible] iter slcv slcav slcAt slcsv appP appzP appv mkslP copyv clearv lookv mputv delv mentryv rangev mnextP mcurv
variable {K : KT} {σ : St} {k : Cn}

theorem chk_eq {s : List (Int × Int)} {lo hi : Int} (h : ¬ chkSign s ≠ 0) : chkClk s lo hi = if okClk lo hi = false then 2 else 0 := by unfold chkClk; rw [if_neg h]

theorem c16 (hK : IsK K) {v : V} {s : List (Int × Int)} {lo hi m : Int} (hs : SlN σ 2 v (sg s)) (hl : s.length ≤ 1000000) (hk : k (.tup [.int .i64 (fairS s lo hi m).1, .int .i64 (fairS s lo hi m).2]) σ) : K (.fn 16) [v, .agg [.int .i64 lo, .int .i64 hi], .int .i64 m] σ k := by
  obtain ⟨N, hN⟩ : ∃ N, (hi - lo + 1).toNat < N := ⟨_, Nat.lt_succ_self _⟩
  refine k16 hK N ?_
  conv => whnf
  refine c18 hK (hs.ge ((Ge.refl σ).enter.add _)) hl ?_
  conv => whnf
  refine brecb (fun h1 => ?_) (fun h1 => ?_)
  · have h1 : chkSign s ≠ 0 := by simpa using h1
    conv => whnf
    refine c18 hK (hs.ge ((Ge.refl σ).enter.add _)) hl ?_
    conv => whnf
    refine ret_clean (.tup [.int .i64 0, .int .i64 (chkSign s)]) rfl rfl ?_
    have hc : chkClk s lo hi = chkSign s := by unfold chkClk; rw [if_pos h1]
    rw [show fairS s lo hi m = (0, chkSign s) by unfold fairS; rw [hc, if_pos h1]] at hk; exact hk
  · have h1' : ¬ chkSign s ≠ 0 := by simpa using h1
    have h1 : chkSign s = 0 := by omega
    have h0 := chk_len h1
    conv => whnf
    refine ldrec (congrArg cellsOf (get_add_self _ _)) ?_
    refine partv_ok (xs := [.int .i64 lo, .int .i64 hi]) (Nat.le_refl 2) rfl ?_
    conv => whnf
    refine c36 hK ?_
    conv => whnf
    cases h2 : okClk lo hi with
    | false =>
      conv => whnf
      refine ret_clean (.tup [.int .i64 0, .int .i64 2]) rfl rfl ?_
      have hc : chkClk s lo hi = 2 := by rw [chk_eq h1', if_pos h2]
      rw [show fairS s lo hi m = (0, 2) by unfold fairS; rw [hc, if_pos (by omega)]] at hk; exact hk
    | true =>
      have hc : ¬ chkClk s lo hi ≠ 0 := by rw [chk_eq h1', if_neg (by rw [h2]; simp)]; omega
      have hb := of_decide_eq_true h2
      conv => whnf
      refine brecb (fun h3 => ?_) (fun h3 => ?_)
      · rw [h3]
        have h3 := of_decide_eq_true h3
        conv => whnf
        refine ret_clean (.tup [.int .i64 0, .int .i64 3]) rfl rfl ?_
        rw [show fairS s lo hi m = (0, 3) by unfold fairS; rw [if_neg hc, if_pos (.inl h3)]] at hk; exact hk
      · rw [h3]
        have h3 := of_decide_eq_false h3
        conv => whnf
        refine brecb (fun h4 => ?_) (fun h4 => ?_)
        · have h4 := of_decide_eq_true h4
          conv => whnf
          refine ret_clean (.tup [.int .i64 0, .int .i64 3]) rfl rfl ?_
          rw [show fairS s lo hi m = (0, 3) by unfold fairS; rw [if_neg hc, if_pos (.inr h4)]] at hk; exact hk
        · have h4 := of_decide_eq_false h4
          have hf : fairS s lo hi m = (rf s (m + lo) (hi - lo + 1).toNat, 0) := by
            unfold fairS; rw [if_neg hc, if_neg (by omega), fair_eq h1 hb.2.1]
          rw [hf] at hk
          conv => whnf
          refine ldrec (congrArg cellsOf (get_add_self _ _)) ?_
          refine partv_one (v := .int .i64 lo) rfl ?_
          conv => whnf
          refine c33 hK (m := wr .i64 (m + lo)) (hs.ge ((Ge.refl σ).enter.add _)) hl h0 ?_
          rw [wr_i64 (n := m + lo) (by omega) (by omega)]
          conv => whnf
          refine ldrec (congrArg cellsOf (get_add_self _ _)) ?_
          refine partv_one (v := .int .i64 lo) rfl ?_
          conv => whnf
          refine iter_inv (fun j t σ' => ∃ i : Nat, i + j = (hi - lo + 1).toNat ∧ σ' = σ.enter.add (.cells false [.int .i64 lo, .int .i64 hi]) ∧
            forget M16_0 t = T16_0 v (.int .i64 m) (.ptr σ.n 0) (.int .i64 (rf s (m + lo) i)) (.int .i64 (m + lo + i))) ?_ (j := (hi - lo + 1).toNat) hN ⟨0, by simp, rfl, ?_⟩
          · rintro j again t _ ⟨i, hij, rfl, hf0⟩ hagain
            rw [hf0]
            conv => whnf
            refine ldrec (congrArg cellsOf (get_add_self _ _)) ?_
            refine partv_one (v := .int .i64 hi) rfl ?_
            conv => whnf
            refine brec (fun h5 => ?_) (fun h5 => ?_)
            · rw [wr_i64 (by omega) (by omega)] at h5
              conv => whnf
              refine c33 hK (hs.ge ((Ge.refl σ).enter.add _)) hl h0 ?_
              conv => whnf
              refine hagain (j - 1) _ _ (by omega) ⟨i + 1, by omega, rfl, ?_⟩
              rw [show ((m + lo + (i + 1 : Nat) : Int)) = wr .i64 (m + lo + i + 1) by rw [wr_i64 (by omega) (by omega)]; omega]
              rfl
            · rw [wr_i64 (by omega) (by omega)] at h5
              have hi : i = (hi - lo + 1).toNat := by omega
              conv => whnf
              refine ret_clean (.tup [.int .i64 (rf s (m + lo) i), .int .i64 0]) rfl rfl ?_
              rw [hi]; exact hk
          · rw [show (m + lo + (0 : Nat) : Int) = wr .i64 (m + lo) by rw [wr_i64 (by omega) (by omega)]; omega]; rfl

end Go.Proofs.Ytnmkbnejapdnnaa.Ev
