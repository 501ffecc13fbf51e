/-
  Poles: signs are checked.
-/
import Derived.Test.YtnmkbnejapdnnaaEvPa
set_option maxRecDepth 100000
set_option linter.unusedVariables false
namespace Go.Proofs.Ytnmkbnejapdnnaa.Ev
open Go
attribute [local irreducible] iter slcv slcav slcAt slcsv appP appzP appv mkslP copyv clearv lookv mputv delv mentryv rangev mnextP mcurv
variable {K : KT} {σ : St} {k : Cn}

/-- The minute from which the i-th price stands. -/
def fr (s : List (Int × Int)) (i : Nat) : Int := (s.getD i (0, 0)).1
/-- The i-th price. -/
def ct (s : List (Int × Int)) (i : Nat) : Int := (s.getD i (0, 0)).2
theorem fr_get {s : List (Int × Int)} {i : Nat} (h : i < s.length) : fr s i = s[i].1 := by simp [fr, List.getD, h]
theorem ct_get {s : List (Int × Int)} {i : Nat} (h : i < s.length) : ct s i = s[i].2 := by simp [ct, List.getD, h]

def okAt (s : List (Int × Int)) (i : Nat) : Bool := decide ((if i = 0 then fr s 0 = 0 else fr s (i - 1) < fr s i) ∧ fr s i ≤ 2000)
def okSign (s : List (Int × Int)) : Bool := (List.range s.length).all (okAt s)
def okCents (s : List (Int × Int)) : Bool := s.all fun p => decide (1 ≤ p.2 ∧ p.2 ≤ 100000)
/-- What CheckSign answers. -/
def chkSign (s : List (Int × Int)) : Int := if s.length = 0 ∨ 30 < s.length then 6 else if okSign s = false then 3 else if okCents s = false then 22 else 0

theorem okSign_bad {s : List (Int × Int)} {i : Nat} (h : i < s.length) (hb : okAt s i = false) : okSign s = false := by
  unfold okSign
  rw [List.all_eq_false]
  exact ⟨i, by simpa using h, by rw [hb]; simp⟩
theorem okSign_all {s : List (Int × Int)} (h : ∀ i, i < s.length → okAt s i = true) : okSign s = true := by
  unfold okSign
  rw [List.all_eq_true]
  intro i hi; exact h i (by simpa using hi)

theorem fr_nonneg {s : List (Int × Int)} : ∀ i, (∀ j, j ≤ i → okAt s j = true) → 0 ≤ fr s i
  | 0, h => by
    have := of_decide_eq_true (h 0 (by omega)); simp only [if_true] at this; omega
  | i + 1, h => by
    have h1 := fr_nonneg i (fun j hj => h j (by omega))
    have := of_decide_eq_true (h (i + 1) (by omega)); rw [if_neg (by omega), Nat.add_sub_cancel] at this; omega

theorem c52 (hK : IsK K) {x : Int × Int} (hk : k (.bool (!decide (1 ≤ x.2 ∧ x.2 ≤ 100000))) σ) : K (.fn 52) [.agg [.int .i64 x.1, .int .i64 x.2]] σ k := by
  refine k52 hK 0 ?_
  conv => whnf
  refine ldrec (congrArg cellsOf (get_add_self _ _)) ?_
  conv => whnf
  refine c47 hK (xs := [x.2]) (SlN.one (get_add_self _ _)) (by simp) ?_
  · conv => whnf
    rw [leave_clean rfl rfl]
    show k (.bool (!!(outs 1 100000 x.2 || false))) σ
    have : (!!(outs 1 100000 x.2 || false)) = (!decide (1 ≤ x.2 ∧ x.2 ≤ 100000)) := by
      unfold outs
      by_cases h1 : x.2 < 1 <;> by_cases h2 : x.2 > 100000 <;> simp [h1, h2] <;> omega
    rw [this]; exact hk

theorem c17 (hK : IsK K) {v : V} {s : List (Int × Int)} (hs : SlN σ 2 v (sg s)) (hl : s.length ≤ 1000000) (hk : k (.int .i64 (chkSign s)) σ) : K (.fn 17) [v] σ k := by
  obtain ⟨N, hN⟩ : ∃ N, s.length < N := ⟨_, Nat.lt_succ_self _⟩
  refine k17 hK N ?_
  conv => whnf
  refine hs.len ?_
  rw [sg_len]
  conv => whnf
  refine brecb (fun h1 => ?_) (fun h1 => ?_)
  · rw [h1]
    conv => whnf
    refine ret_clean (.int .i64 6) rfl rfl ?_
    have : s.length = 0 := by simpa using h1
    rw [show (6 : Int) = chkSign s by unfold chkSign; rw [if_pos (.inl this)]]; exact hk
  · rw [h1]
    have h1 : s.length ≠ 0 := by simpa using h1
    conv => whnf
    refine hs.len ?_
    rw [sg_len]
    conv => whnf
    refine brecb (fun h2 => ?_) (fun h2 => ?_)
    · conv => whnf
      refine ret_clean (.int .i64 6) rfl rfl ?_
      have : 30 < s.length := by have := of_decide_eq_true h2; omega
      rw [show (6 : Int) = chkSign s by unfold chkSign; rw [if_pos (.inr this)]]; exact hk
    · have h2 : ¬ 30 < s.length := by have := of_decide_eq_false h2; omega
      have h0 : ¬ (s.length = 0 ∨ 30 < s.length) := by omega
      conv => whnf
      refine hs.len ?_
      rw [sg_len]
      conv => whnf
      refine iter_inv (fun j t σ' => ∃ i : Nat, i + j = s.length ∧ Ext σ.enter σ' ∧ forget M17_0 t = T17_0 v (.int .i64 (if i = 0 then 0 else fr s (i - 1) + 1)) v (.int .i64 s.length) (.int .i64 i) ∧ ∀ j < i, okAt s j = true) ?_ hN ⟨0, by simp, Ext.refl _, rfl, by simp⟩
      rintro j again t σ1 ⟨i, hij, he, hf0, hp⟩ hagain
      rw [hf0]
      conv => whnf
      refine brec (fun h3 => ?_) (fun h3 => ?_)
      · have hi : i < s.length := by omega
        obtain ⟨b, o, cap, es, ro, vs, rfl, h4, h5, h6⟩ := hs.at (sg_get hi)
        have h4' := he.get _ _ h4
        conv => whnf
        refine bsk1 (ixOk_nat (by rw [sg_len]; exact hi)) ?_
        conv => whnf
        refine ldrec (congrArg cellsOf h4') ?_
        refine partv_ok h5 h6 ?_
        conv => whnf
        refine gs_step (wrs_eq (get_add_self _ _) (Nat.le_refl 2) rfl) ?_
        have hrd := get_put_self (σ := σ1.add (.cells false [V.int .i64 0, V.int .i64 0])) (b := σ1.n) (.cells false (setAt [V.int .i64 0, V.int .i64 0] 0 [V.int .i64 s[i].1, V.int .i64 s[i].2])) (get_add_self _ _)
        have he2 : Ext σ.enter ((σ1.add (.cells false [V.int .i64 0, V.int .i64 0])).put σ1.n (.cells false (setAt [V.int .i64 0, V.int .i64 0] 0 [V.int .i64 s[i].1, V.int .i64 s[i].2]))) := (he.add _).put he.n he.n _
        have hfi : fr s i = s[i].1 := fr_get hi
        have bad : okAt s i = false → k (.int .i64 3) σ := fun hb => by
          rw [show (3 : Int) = chkSign s by unfold chkSign; rw [if_neg h0, if_pos (okSign_bad hi hb)]]; exact hk
        have fin : ∀ t', forget M17_0 t' = T17_0 (.slice b o (sg s).length cap es) (.int .i64 (wr .i64 (s[i].1 + 1))) (.slice b o (sg s).length cap es) (.int .i64 s.length) (.int .i64 (wr .i64 (i + 1))) → okAt s i = true → again t' _ _ :=
          fun t' ht' hok => hagain (j - 1) t' _ (by omega) ⟨i + 1, by omega, he2, by
            have := of_decide_eq_true hok
            have h0 : 0 ≤ s[i].1 := by
              rw [← hfi]
              exact fr_nonneg i (fun j hj => by
                rcases Nat.lt_or_eq_of_le hj with hj | rfl
                · exact hp j hj
                · exact hok)
            rw [ht', if_neg (by omega), Nat.add_sub_cancel, hfi, wr_i64 (by omega) (by omega), wr_i64 (by omega) (by omega)]; rfl, fun j hj => by
            rcases Nat.lt_succ_iff_lt_or_eq.1 hj with hj | rfl
            · exact hp j hj
            · exact hok⟩
        conv => whnf
        refine ldrec (congrArg cellsOf hrd) ?_
        conv => whnf
        refine brecb (fun h7 => ?_) (fun h7 => ?_)
        · rw [h7]
          conv => whnf
          refine ret_clean (.int .i64 3) he2.mods rfl (bad ?_)
          have h7 := of_decide_eq_true h7
          unfold okAt
          rw [decide_eq_false_iff_not]
          by_cases hi0 : i = 0
          · subst hi0; simp only [if_true] at h7 ⊢; omega
          · rw [if_neg hi0] at h7 ⊢; omega
        · rw [h7]
          have h7 := of_decide_eq_false h7
          conv => whnf
          refine brecb (fun h8 => ?_) (fun h8 => ?_)
          · rw [h8]
            have h8 : i = 0 := by simpa using h8
            conv => whnf
            refine ldrec (congrArg cellsOf hrd) ?_
            conv => whnf
            refine brecb (fun h9 => ?_) (fun h9 => ?_)
            · rw [h9]
              conv => whnf
              refine ret_clean (.int .i64 3) he2.mods rfl (bad ?_)
              have h9 := of_decide_eq_true h9
              unfold okAt
              rw [decide_eq_false_iff_not, if_pos h8]
              subst h8; omega
            · rw [h9]
              have h9 := of_decide_eq_false h9
              conv => whnf
              refine ldrec (congrArg cellsOf hrd) ?_
              conv => whnf
              refine brec (fun h10 => ?_) (fun h10 => ?_)
              · conv => whnf
                refine ret_clean (.int .i64 3) he2.mods rfl (bad ?_)
                unfold okAt
                rw [decide_eq_false_iff_not]; omega
              · conv => whnf
                refine ldrec (congrArg cellsOf hrd) ?_
                conv => whnf
                refine fin _ rfl ?_
                unfold okAt
                rw [decide_eq_true_eq, if_pos h8]
                subst h8; simp only [if_true] at h7; omega
          · rw [h8]
            have h8 : i ≠ 0 := by simpa using h8
            conv => whnf
            refine ldrec (congrArg cellsOf hrd) ?_
            conv => whnf
            refine brec (fun h10 => ?_) (fun h10 => ?_)
            · conv => whnf
              refine ret_clean (.int .i64 3) he2.mods rfl (bad ?_)
              unfold okAt
              rw [decide_eq_false_iff_not]; omega
            · conv => whnf
              refine ldrec (congrArg cellsOf hrd) ?_
              conv => whnf
              refine fin _ rfl ?_
              unfold okAt
              rw [decide_eq_true_eq, if_neg h8]
              rw [if_neg h8] at h7; omega
      · have hi : i = s.length := by omega
        have hok : okSign s = true := okSign_all (fun j hj => hp j (by omega))
        conv => whnf
        refine c51 hK (hs.ge ((Ge.refl σ).enter.ext he)) (fun x => !decide (1 ≤ x.2 ∧ x.2 ≤ 100000)) hl (fun σ' hg x hx k' hk' => c52 hK hk') ?_
        have hc : s.any (fun x => !decide (1 ≤ x.2 ∧ x.2 ≤ 100000)) = !okCents s := by
          unfold okCents; rw [List.any_eq_not_all_not]; simp
        rw [hc]
        conv => whnf
        refine brecb (fun h4 => ?_) (fun h4 => ?_)
        · conv => whnf
          refine ret_clean (.int .i64 22) he.mods rfl ?_
          rw [show (22 : Int) = chkSign s by unfold chkSign; rw [if_neg h0, if_neg (by rw [hok]; simp), if_pos (by simpa using h4)]]; exact hk
        · conv => whnf
          refine ret_clean (.int .i64 0) he.mods rfl ?_
          rw [show (0 : Int) = chkSign s by unfold chkSign; rw [if_neg h0, if_neg (by rw [hok]; simp), if_neg (by simpa using h4)]]; exact hk

end Go.Proofs.Ytnmkbnejapdnnaa.Ev
