/-
  Poles: the price at a minute.
-/
import Derived.Test.YtnmkbnejapdnnaaEvPb
set_option maxRecDepth 100000
set_option linter.unusedVariables false
namespace Go.Proofs.Ytnmkbnejapdnnaa.Ev
open Go
attribute [local irreducible] iter slcv slcav slcAt slcsv appP appzP appv mkslP copyv clearv lookv mputv delv mentryv rangev mnextP mcurv
variable {K : KT} {σ : St} {k : Cn}

/-- The last price of the first n + 1 that stands from this minute or before, the first one if none does. -/
def atI (s : List (Int × Int)) (m : Int) : Nat → Nat
  | 0 => 0
  | n + 1 => if m < fr s (n + 1) then atI s m n else n + 1
def atS (s : List (Int × Int)) (m : Int) : Nat := atI s m (s.length - 1)
theorem atI_le (s : List (Int × Int)) (m : Int) : ∀ n, atI s m n ≤ n
  | 0 => Nat.le_refl _
  | n + 1 => by
    unfold atI; split
    · have := atI_le s m n; omega
    · exact Nat.le_refl _
theorem atS_lt {s : List (Int × Int)} (h : s.length ≠ 0) (m : Int) : atS s m < s.length := by
  have := atI_le s m (s.length - 1); unfold atS; omega

theorem c48 (hK : IsK K) {v : V} {s : List (Int × Int)} {m : Int} (hs : SlN σ 2 v (sg s)) (hl : s.length ≤ 1000000) (h0 : s.length ≠ 0) (hk : k (.int .i64 (atS s m)) σ) : K (.fn 48) [v, .int .i64 m] σ k := by
  obtain ⟨N, hN⟩ : ∃ N, s.length < N := ⟨_, Nat.lt_succ_self _⟩
  refine k48 hK N ?_
  conv => whnf
  refine hs.len ?_
  rw [sg_len]
  conv => whnf
  refine iter_inv (fun j t σ' => j < s.length ∧ σ' = σ.enter ∧ forget M48_0 t = T48_0 v (.int .i64 m) (.int .i64 j) ∧ atI s m j = atS s m) ?_ (j := s.length - 1) (by omega) ⟨by omega, rfl, ?_, rfl⟩
  · rintro j again t _ ⟨hj, rfl, hf0, hp⟩ hagain
    rw [hf0]
    conv => whnf
    refine brecb (fun h1 => ?_) (fun h1 => ?_)
    · rw [h1]
      have h1 : 0 < j := by have := of_decide_eq_true h1; omega
      obtain ⟨b, o, cap, es, ro, vs, rfl, h2, h4, h5⟩ := hs.at (sg_get hj)
      obtain ⟨i, rfl⟩ : ∃ i, j = i + 1 := ⟨j - 1, by omega⟩
      have hfr := fr_get hj
      conv => whnf
      refine bsk1 (ixOk_nat (by rw [sg_len]; exact hj)) ?_
      conv => whnf
      refine ldrec (congrArg cellsOf h2) ?_
      refine partv_one (v := .int .i64 s[i + 1].1) (seg_at (i := 0) h5 rfl) ?_
      conv => whnf
      refine brecb (fun h3 => ?_) (fun h3 => ?_)
      · have h3 := of_decide_eq_true h3
        conv => whnf
        refine hagain i _ _ (by omega) ⟨by omega, rfl, ?_, ?_⟩
        · rw [show (i : Int) = wr .i64 (((i + 1 : Nat) : Int) - 1) by rw [wr_i64 (by omega) (by omega)]; omega]; rfl
        · rw [← hp]; show atI s m i = if m < fr s (i + 1) then atI s m i else i + 1
          rw [if_pos (by rw [hfr]; exact h3)]
      · have h3 := of_decide_eq_false h3
        conv => whnf
        refine ret_clean (.int .i64 (i + 1 : Nat)) rfl rfl ?_
        rw [show i + 1 = atS s m by rw [← hp]; show i + 1 = if m < fr s (i + 1) then atI s m i else i + 1; rw [if_neg (by rw [hfr]; exact h3)]]; exact hk
    · rw [h1]
      have h1 : j = 0 := by have := of_decide_eq_false h1; omega
      subst h1
      conv => whnf
      refine ret_clean (.int .i64 (0 : Nat)) rfl rfl ?_
      rw [show 0 = atS s m from hp]; exact hk
  · rw [show ((s.length - 1 : Nat) : Int) = wr .i64 ((s.length : Int) - 1) by rw [wr_i64 (by omega) (by omega)]; omega]; rfl

/-- What Price answers. -/
def priceS (s : List (Int × Int)) (m : Int) : Int × Int := if chkSign s ≠ 0 then (0, chkSign s) else if m < 0 ∨ 2000 < m then (0, 3) else (ct s (atS s m), 0)
theorem chk_len {s : List (Int × Int)} (h : chkSign s = 0) : s.length ≠ 0 := by
  intro h0; unfold chkSign at h; rw [if_pos (.inl h0)] at h; omega
theorem outs_one (lo hi m : Int) : (![m].any (outs lo hi)) = !decide (m < lo ∨ hi < m) := by
  unfold outs; by_cases h1 : m < lo <;> by_cases h2 : m > hi
  · simp [h1]
  · simp [h1]
  · have h2 : hi < m := h2
    simp [h2]
  · have h3 : ¬ (m < lo ∨ hi < m) := by omega
    simp only [List.any_cons, List.any_nil, decide_eq_false h1, decide_eq_false h2, decide_eq_false h3]; rfl

theorem c13 (hK : IsK K) {v : V} {s : List (Int × Int)} {m : Int} (hs : SlN σ 2 v (sg s)) (hl : s.length ≤ 1000000)
    (hk : k (.tup [.int .i64 (priceS s m).1, .int .i64 (priceS s m).2]) σ) : K (.fn 13) [v, .int .i64 m] σ k := by
  refine k13 hK 0 ?_
  conv => whnf
  refine c17 hK hs.enter hl ?_
  conv => whnf
  refine brecb (fun h1 => ?_) (fun h1 => ?_)
  · have h1 : chkSign s ≠ 0 := by simpa using h1
    conv => whnf
    refine ret_clean (.tup [.int .i64 0, .int .i64 (chkSign s)]) rfl rfl ?_
    rw [show priceS s m = (0, chkSign s) by unfold priceS; rw [if_pos h1]] at hk; exact hk
  · have h1 : chkSign s = 0 := by simpa using h1
    have h0 := chk_len h1
    have h1' : ¬ chkSign s ≠ 0 := by omega
    conv => whnf
    refine c47 hK (xs := [m]) (SlN.one (get_add_self _ _)) (by simp) ?_
    · rw [outs_one]
      conv => whnf
      by_cases h2 : m < 0 ∨ 2000 < m
      · rw [decide_eq_true h2]
        conv => whnf
        refine ret_clean (.tup [.int .i64 0, .int .i64 3]) rfl rfl ?_
        rw [show priceS s m = (0, 3) by unfold priceS; rw [if_neg h1', if_pos h2]] at hk; exact hk
      · rw [decide_eq_false h2]
        conv => whnf
        refine c48 hK (hs.ge ((Ge.refl σ).enter.add _)) hl h0 ?_
        have hlt := atS_lt h0 m
        obtain ⟨b, o, cap, es, ro, vs, rfl, h3, h4, h5⟩ := hs.at (sg_get hlt)
        have hc := ct_get hlt
        conv => whnf
        refine bsk1 (ixOk_nat (by rw [sg_len]; exact hlt)) ?_
        conv => whnf
        refine ldrec (congrArg cellsOf (get_add_some _ (σ := σ.enter) h3)) ?_
        refine partv_one (v := .int .i64 s[atS s m].2) (seg_at (i := 1) h5 rfl) ?_
        conv => whnf
        refine ret_clean (.tup [.int .i64 s[atS s m].2, .int .i64 0]) rfl rfl ?_
        rw [show priceS s m = (s[atS s m].2, 0) by unfold priceS; rw [if_neg h1', if_neg h2, hc]] at hk; exact hk

end Go.Proofs.Ytnmkbnejapdnnaa.Ev
