/-
  The law of signs: what it answers, with Works as it is.
-/
import Derived.Test.YtnmkbnejapdnnaaEvPh
set_option maxRecDepth 100000
set_option maxHeartbeats 4000000
set_option linter.unusedVariables false
namespace Go.Proofs.Ytnmkbnejapdnnaa.Ev
open Go
attribute [local irreducible] iter slcv slcav slcAt slcsv appP appzP appv mkslP copyv clearv lookv mputv delv mentryv rangev mnextP mcurv priceS fairS chkSign
variable {K : KT} {σ : St} {k : Cn}

/-- Works answers true. -/
def Wk (K : KT) : Prop := ∀ (σ : St) (k : Cn), k (.bool true) σ → K (.fn 12) [] σ k

theorem c3 (hK : IsK K) (hW : Wk K) {v : V} {s : List (Int × Int)} {lo hi m : Int} (hs : SlN σ 2 v (sg s)) (hk : k (.bool true) σ) : K (.fn 3) [v, .agg [.int .i64 lo, .int .i64 hi], .int .i64 m] σ k := by
  refine k3 hK 0 ?_
  conv => whnf
  refine hs.len ?_
  rw [sg_len]
  conv => whnf
  refine brec (fun h1 => ?_) (fun h1 => ?_)
  · conv => whnf
    refine hW _ _ ?_
    conv => whnf
    exact ret_clean (.bool true) rfl rfl hk
  · have hl : s.length ≤ 1000000 := by omega
    have he := hs.ge ((Ge.refl σ).enter.add (.cells false [.int .i64 lo, .int .i64 hi]))
    conv => whnf
    refine c13 hK he hl ?_
    conv => whnf
    refine c14 hK he hl ?_
    conv => whnf
    refine ldrec (congrArg cellsOf (get_add_self _ _)) ?_
    refine partv_ok (xs := [.int .i64 lo, .int .i64 hi]) (Nat.le_refl 2) rfl ?_
    conv => whnf
    refine c15 hK he hl ?_
    conv => whnf
    refine ldrec (congrArg cellsOf (get_add_self _ _)) ?_
    refine partv_ok (xs := [.int .i64 lo, .int .i64 hi]) (Nat.le_refl 2) rfl ?_
    conv => whnf
    refine c16 hK he hl ?_
    conv => whnf
    refine c17 hK he hl ?_
    conv => whnf
    refine c18 hK he hl ?_
    conv => whnf
    repeat (simp only [beq_self_eq_true]; conv => whnf)
    refine hW _ _ ?_
    conv => whnf
    exact ret_clean (.bool true) rfl rfl hk

end Go.Proofs.Ytnmkbnejapdnnaa.Ev
