/-
  Poles: what the law of clocks calls.
-/
import Derived.Test.YtnmkbnejapdnnaaEvPl
set_option maxRecDepth 100000
set_option maxHeartbeats 4000000
set_option linter.unusedVariables false
namespace Go.Proofs.Ytnmkbnejapdnnaa.Ev
open Go
attribute [local irreducible] iter slcv slcav slcAt slcsv appP appzP appv mkslP copyv clearv lookv mputv delv mentryv rangev mnextP mcurv
variable {K : KT} {σ : St} {k : Cn}

theorem c34 (hK : IsK K) {a b : Int} (hk : k (.agg [.int .i64 a, .int .i64 b]) σ) : K (.fn 34) [.int .i64 a, .int .i64 b] σ k := by
  refine k34 hK 0 ?_
  conv => whnf
  refine gs_st [.int .i64 a, .int .i64 b] [.int .i64 a, .int .i64 b] (get_add_self _ _) rfl (Nat.le_refl 2) rfl rfl ?_
  conv => whnf
  refine ldrec (congrArg cellsOf (get_put_self _ (get_add_self _ _))) ?_
  refine partv_ok (xs := [.int .i64 a, .int .i64 b]) (Nat.le_refl 2) rfl ?_
  conv => whnf
  exact ret_clean (.agg [.int .i64 a, .int .i64 b]) (((Ext.refl σ.enter).add _).put (Nat.le_refl _) (Nat.le_refl _) _).mods rfl hk
theorem c35 (hK : IsK K) {a b : Int} (hk : k (.agg [.int .i64 a, .int .i64 b]) σ) : K (.fn 35) [.int .i64 a, .int .i64 b] σ k := by
  refine k35 hK 0 ?_
  conv => whnf
  refine gs_st [.int .i64 a, .int .i64 b] [.int .i64 a, .int .i64 b] (get_add_self _ _) rfl (Nat.le_refl 2) rfl rfl ?_
  conv => whnf
  refine ldrec (congrArg cellsOf (get_put_self _ (get_add_self _ _))) ?_
  refine partv_ok (xs := [.int .i64 a, .int .i64 b]) (Nat.le_refl 2) rfl ?_
  conv => whnf
  exact ret_clean (.agg [.int .i64 a, .int .i64 b]) (((Ext.refl σ.enter).add _).put (Nat.le_refl _) (Nat.le_refl _) _).mods rfl hk

/-- Is all well? -/
def fineS (s : List (Int × Int)) (lo hi : Int) : Bool := decide (s.length ≤ 40) && (chkSign s == 0) && okClk lo hi
theorem fine_ok {s : List (Int × Int)} {lo hi : Int} (h : fineS s lo hi = true) : s.length ≤ 40 ∧ chkSign s = 0 ∧ okClk lo hi = true := by
  unfold fineS at h
  rw [Bool.and_eq_true, Bool.and_eq_true] at h
  exact ⟨of_decide_eq_true h.1.1, by simpa using h.1.2, h.2⟩
theorem fineS_eq (s : List (Int × Int)) (lo hi : Int) {a b c : Bool} (h1 : decide ((s.length : Int) ≤ 40) = a) (h2 : (chkSign s == 0) = b) (h3 : okClk lo hi = c) : fineS s lo hi = (a && b && c) := by
  unfold fineS
  rw [← h1, ← h2, ← h3]
  congr 2
  rw [decide_eq_decide]; omega

theorem c32 (hK : IsK K) {v : V} {s : List (Int × Int)} {lo hi : Int} (hs : SlN σ 2 v (sg s)) (hk : k (.bool (fineS s lo hi)) σ) : K (.fn 32) [v, .agg [.int .i64 lo, .int .i64 hi]] σ k := by
  have he := hs.ge ((Ge.refl σ).enter.add (.cells false [.int .i64 lo, .int .i64 hi]))
  refine k32 hK 0 ?_
  conv => whnf
  refine he.len ?_
  rw [sg_len]
  conv => whnf
  refine brecb (fun h1 => ?_) (fun h1 => ?_)
  · simp only [h1]
    have hl : s.length ≤ 1000000 := by have := of_decide_eq_true h1; omega
    conv => whnf
    refine c18 hK he hl ?_
    conv => whnf
    refine brecb (fun h2 => ?_) (fun h2 => ?_)
    · simp only [h2]
      conv => whnf
      refine ldrec (congrArg cellsOf (get_add_self _ _)) ?_
      refine partv_ok (xs := [.int .i64 lo, .int .i64 hi]) (Nat.le_refl 2) rfl ?_
      conv => whnf
      refine c36 hK ?_
      conv => whnf
      refine ret_clean (.bool (okClk lo hi)) rfl rfl ?_
      rw [fineS_eq s lo hi h1 h2 rfl] at hk; exact hk
    · simp only [h2]
      conv => whnf
      refine ret_clean (.bool false) rfl rfl ?_
      rw [fineS_eq s lo hi h1 h2 rfl] at hk; exact hk
  · simp only [h1]
    conv => whnf
    refine ret_clean (.bool false) rfl rfl ?_
    rw [fineS_eq s lo hi h1 rfl rfl] at hk; exact hk

/-- A store into a block of the call's own: what is known behind it. -/
theorem gs_new {σ₀ : St} {b o : Nat} {C vs : List V} (cs ws : List V) (he : Ext σ₀ σ) (hb : σ₀.n ≤ b) (hb0 : σ₀.base ≤ b) (h : σ.get b = some (.cells false vs)) (hc : C = cs) (hl : o + cs.length ≤ vs.length) (ho : ones cs = true) (hw : setAt vs o cs = ws)
    (hk : ∀ σ1, Ext σ₀ σ1 → σ1.get b = some (.cells false ws) → (∀ b' x, b' ≠ b → σ.get b' = some x → σ1.get b' = some x) → σ1.n = σ.n → k .bot σ1) : gs (wrs σ b o C) k :=
  gs_st cs ws h hc hl ho hw (hk _ (he.put hb hb0 _) (get_put_self _ h) (fun b' x hne hx => by rw [get_put_ne _ hne]; exact hx) rfl)

theorem c15e (hK : IsK K) {v : V} {s : List (Int × Int)} {lo hi m x y : Int} (hs : SlN σ 2 v (sg s)) (hl : s.length ≤ 1000000) (e : fairS s lo hi m = (x, y)) (hk : k (.tup [.int .i64 x, .int .i64 y]) σ) : K (.fn 15) [v, .agg [.int .i64 lo, .int .i64 hi], .int .i64 m] σ k := c15 hK hs hl (by rw [e]; exact hk)
theorem fair_e {s : List (Int × Int)} {lo hi m m' : Int} (h : chkClk s lo hi = 0) (em : m = m') (h1 : 0 ≤ m') (h2 : m' ≤ 2000) : fairS s lo hi m = (fairP s lo hi m', 0) := by rw [em]; exact fairS_of h h1 h2

theorem sg_two (s : List (Int × Int)) : ∀ z ∈ sg s, z.length = 2 := by
  intro z hz
  obtain ⟨p, _, rfl⟩ := List.mem_map.1 hz
  rfl

theorem c34e (hK : IsK K) {a b a' b' : Int} (ea : a = a') (eb : b = b') (hk : k (.agg [.int .i64 a', .int .i64 b']) σ) : K (.fn 34) [.int .i64 a, .int .i64 b] σ k := by
  subst ea eb; exact c34 hK hk

end Go.Proofs.Ytnmkbnejapdnnaa.Ev
