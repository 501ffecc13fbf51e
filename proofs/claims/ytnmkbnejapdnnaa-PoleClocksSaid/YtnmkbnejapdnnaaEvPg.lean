/-
  Poles: the fair price, by prices and by minutes: what the functions answer.
-/
import Derived.Test.YtnmkbnejapdnnaaEvPf
set_option maxRecDepth 100000
set_option maxHeartbeats 4000000
set_option linter.unusedVariables false
namespace Go.Proofs.Ytnmkbnejapdnnaa.Ev
open Go
attribute [local irreducible] iter slcv slcav slcAt slcsv appP appzP appv mkslP copyv clearv lookv mputv delv mentryv rangev mnextP mcurv
variable {K : KT} {σ : St} {k : Cn}

/-- The fair price, if nothing is wrong. -/
def fairS (s : List (Int × Int)) (lo hi m : Int) : Int × Int := if chkClk s lo hi ≠ 0 then (0, chkClk s lo hi) else if m < 0 ∨ 2000 < m then (0, 3) else (fairP s lo hi m, 0)
theorem chkClk_ok {s : List (Int × Int)} {lo hi : Int} (h : chkClk s lo hi = 0) : chkSign s = 0 ∧ -100 ≤ lo ∧ lo ≤ hi ∧ hi ≤ 100 := by
  unfold chkClk at h
  split at h
  · rename_i h1; exact absurd h h1
  · rename_i h1
    refine ⟨by omega, ?_⟩
    split at h
    · omega
    · rename_i h2
      have : okClk lo hi = true := by simpa using h2
      exact of_decide_eq_true this

theorem stood_ne {s : List (Int × Int)} {lo hi m : Int} (h0 : s.length ≠ 0) (hlh : lo ≤ hi) : stood s lo hi m ≠ [] := by
  have hmono := atS_mono h0 (m := m + lo) (m' := m + hi) (by omega)
  have hlt := atS_lt h0 (m + lo)
  have : s[atS s (m + lo)] ∈ stood s lo hi m := mem_stood.2 ⟨atS s (m + lo), by omega, hmono, List.getElem?_eq_getElem hlt⟩
  intro e; rw [e] at this; simp at this
theorem stood_len (s : List (Int × Int)) (lo hi m : Int) : (stood s lo hi m).length ≤ s.length := by
  unfold stood; rw [List.length_take, List.length_drop]; omega

theorem c50 (hK : IsK K) {v : V} {s : List (Int × Int)} {lo hi m : Int} (hs : SlN σ 2 v (sg s)) (hl : s.length ≤ 1000000) (h0 : s.length ≠ 0) (hlh : lo ≤ hi) (b1 : -100 ≤ lo) (b2 : hi ≤ 100) (b3 : 0 ≤ m) (b4 : m ≤ 2000) (hk : k (.int .i64 (fairP s lo hi m)) σ) : K (.fn 50) [v, .agg [.int .i64 lo, .int .i64 hi], .int .i64 m] σ k := by
  refine k50 hK 0 ?_
  conv => whnf
  refine ldrec (congrArg cellsOf (get_add_self _ _)) ?_
  refine partv_one (v := .int .i64 lo) rfl ?_
  conv => whnf
  refine ldrec (congrArg cellsOf (get_add_self _ _)) ?_
  refine partv_one (v := .int .i64 hi) rfl ?_
  conv => whnf
  refine c48 hK (m := wr .i64 (m + lo)) (hs.ge (((Ge.refl σ).enter.add _).enter)) hl h0 ?_
  rw [wr_i64 (n := m + lo) (by omega) (by omega)]
  conv => whnf
  refine c48 hK (m := wr .i64 (m + hi)) (hs.ge (((Ge.refl σ).enter.add _).enter)) hl h0 ?_
  rw [wr_i64 (n := m + hi) (by omega) (by omega)]
  have hlt := atS_lt h0 (m + hi)
  have hmono := atS_mono h0 (m := m + lo) (m' := m + hi) (by omega)
  conv => whnf
  refine slc_ok (σ := σ.enter.add (.cells false [.int .i64 lo, .int .i64 hi])) (l := atS s (m + lo)) (h := atS s (m + hi) + 1) (hs.ge ((Ge.refl σ).enter.add _)) (by omega) (by omega) (by rw [sg_len]; omega) (bnd_int (kd := .i64) rfl) (bnd_int (kd := .i64) ?_) (fun v' hv' => ?_)
  · show V.int .i64 (wr .i64 ((atS s (m + hi) : Nat) + 1)) = _
    rw [wr_i64 (by omega) (by omega)]; rfl
  have hv' : SlN (σ.enter.add (.cells false [.int .i64 lo, .int .i64 hi])) 2 v' (sg (stood s lo hi m)) := by
    have : ((sg s).drop (atS s (m + lo))).take (atS s (m + hi) + 1 - atS s (m + lo)) = sg (stood s lo hi m) := by unfold stood sg; rw [List.map_take, List.map_drop]
    rw [this] at hv'; exact hv'
  conv => whnf
  refine c73 hK hv' (by have := stood_len s lo hi m; omega) (fun e => stood_ne h0 hlh (List.length_eq_zero_iff.1 e)) ?_
  conv => whnf
  exact ret_clean (.int .i64 (fairP s lo hi m)) rfl rfl hk

theorem c15 (hK : IsK K) {v : V} {s : List (Int × Int)} {lo hi m : Int} (hs : SlN σ 2 v (sg s)) (hl : s.length ≤ 1000000) (hk : k (.tup [.int .i64 (fairS s lo hi m).1, .int .i64 (fairS s lo hi m).2]) σ) : K (.fn 15) [v, .agg [.int .i64 lo, .int .i64 hi], .int .i64 m] σ k := by
  refine k15 hK 0 ?_
  conv => whnf
  refine ldrec (congrArg cellsOf (get_add_self _ _)) ?_
  refine partv_ok (xs := [.int .i64 lo, .int .i64 hi]) (Nat.le_refl 2) rfl ?_
  conv => whnf
  refine c49 hK (hs.ge ((Ge.refl σ).enter.add _)) hl ?_
  conv => whnf
  refine brecb (fun h1 => ?_) (fun h1 => ?_)
  · have h1 : chkClk s lo hi ≠ 0 := by simpa using h1
    conv => whnf
    refine ret_clean (.tup [.int .i64 0, .int .i64 (chkClk s lo hi)]) rfl rfl ?_
    rw [show fairS s lo hi m = (0, chkClk s lo hi) by unfold fairS; rw [if_pos h1]] at hk; exact hk
  · have h1' : ¬ chkClk s lo hi ≠ 0 := by simpa using h1
    have h1 : chkClk s lo hi = 0 := by omega
    obtain ⟨hc, b1, hlh, b2⟩ := chkClk_ok h1
    have h0 := chk_len hc
    conv => whnf
    refine c47 hK (xs := [m]) (SlN.one (get_add_self _ _)) (by simp) ?_
    rw [outs_one]
    conv => whnf
    by_cases h2 : m < 0 ∨ 2000 < m
    · rw [decide_eq_true h2]
      conv => whnf
      refine ret_clean (.tup [.int .i64 0, .int .i64 3]) rfl rfl ?_
      rw [show fairS s lo hi m = (0, 3) by unfold fairS; rw [if_neg h1', if_pos h2]] at hk; exact hk
    · rw [decide_eq_false h2]
      conv => whnf
      refine ldrec (congrArg cellsOf (get_add_some _ (get_add_self _ _))) ?_
      refine partv_ok (xs := [.int .i64 lo, .int .i64 hi]) (Nat.le_refl 2) rfl ?_
      conv => whnf
      refine c50 hK (hs.ge (((Ge.refl σ).enter.add _).add _)) hl h0 hlh b1 b2 (by omega) (by omega) ?_
      conv => whnf
      refine ret_clean (.tup [.int .i64 (fairP s lo hi m), .int .i64 0]) rfl rfl ?_
      rw [show fairS s lo hi m = (fairP s lo hi m, 0) by unfold fairS; rw [if_neg h1', if_neg h2]] at hk; exact hk

end Go.Proofs.Ytnmkbnejapdnnaa.Ev
