/-
  Poles: the reference's signs and prices.
-/
import Derived.Test.YtnmkbnejapdnnaaEvPc
set_option maxRecDepth 100000
set_option maxHeartbeats 4000000
set_option linter.unusedVariables false
namespace Go.Proofs.Ytnmkbnejapdnnaa.Ev
open Go
attribute [local irreducible] iter slcv slcav slcAt slcsv appP appzP appv mkslP copyv clearv lookv mputv delv mentryv rangev mnextP mcurv
variable {K : KT} {σ : St} {k : Cn}

theorem c18 (hK : IsK K) {v : V} {s : List (Int × Int)} (hs : SlN σ 2 v (sg s)) (hl : s.length ≤ 1000000) (hk : k (.int .i64 (chkSign s)) σ) : K (.fn 18) [v] σ k := by
  obtain ⟨N, hN⟩ : ∃ N, s.length < N := ⟨_, Nat.lt_succ_self _⟩
  refine k18 hK N ?_
  conv => whnf
  refine hs.len ?_
  rw [sg_len]
  conv => whnf
  refine brecb (fun h1 => ?_) (fun h1 => ?_)
  · rw [h1]
    have h1 := of_decide_eq_true h1
    conv => whnf
    refine ret_clean (.int .i64 6) rfl rfl ?_
    rw [show (6 : Int) = chkSign s by unfold chkSign; rw [if_pos (.inl (by omega))]]; exact hk
  · rw [h1]
    have h1 := of_decide_eq_false h1
    conv => whnf
    refine hs.len ?_
    rw [sg_len]
    conv => whnf
    refine brecb (fun h2 => ?_) (fun h2 => ?_)
    · have h2 := of_decide_eq_true h2
      conv => whnf
      refine ret_clean (.int .i64 6) rfl rfl ?_
      rw [show (6 : Int) = chkSign s by unfold chkSign; rw [if_pos (.inr (by omega))]]; exact hk
    · have h2 := of_decide_eq_false h2
      have h0 : ¬ (s.length = 0 ∨ 30 < s.length) := by omega
      conv => whnf
      refine iter_inv (fun j t σ' => ∃ i : Nat, i + j = s.length ∧ σ' = σ.enter ∧ forget M18_0 t = T18_0 v (.int .i64 i) ∧ ∀ j < i, okAt s j = true) ?_ hN ⟨0, by simp, rfl, rfl, by simp⟩
      rintro j again t _ ⟨i, hij, rfl, hf0, hp⟩ hagain
      rw [hf0]
      conv => whnf
      refine hs.len ?_
      rw [sg_len]
      conv => whnf
      refine brec (fun h3 => ?_) (fun h3 => ?_)
      · have hi : i < s.length := by omega
        obtain ⟨b, o, cap, es, ro, vs, rfl, h4, h5, h6⟩ := hs.at (sg_get hi)
        have hfi : fr s i = s[i].1 := fr_get hi
        have bad : okAt s i = false → k (.int .i64 3) σ := fun hb => by
          rw [show (3 : Int) = chkSign s by unfold chkSign; rw [if_neg h0, if_pos (okSign_bad hi hb)]]; exact hk
        have fin : ∀ t', forget M18_0 t' = T18_0 (.slice b o (sg s).length cap es) (.int .i64 (wr .i64 (i + 1))) → okAt s i = true → again t' _ _ :=
          fun t' ht' hok => hagain (j - 1) t' _ (by omega) ⟨i + 1, by omega, rfl, by rw [ht', wr_i64 (by omega) (by omega)]; rfl, fun j hj => by
            rcases Nat.lt_succ_iff_lt_or_eq.1 hj with hj | rfl
            · exact hp j hj
            · exact hok⟩
        conv => whnf
        refine brecb (fun h7 => ?_) (fun h7 => ?_)
        · rw [h7]
          have h7 : i = 0 := by simpa using h7
          subst h7
          conv => whnf
          refine bsk1 (ixOk_nat (by rw [sg_len]; exact hi)) ?_
          conv => whnf
          refine ldrec (congrArg cellsOf h4) ?_
          refine partv_one (v := .int .i64 s[0].1) (seg_at (i := 0) h6 rfl) ?_
          conv => whnf
          refine brecb (fun h8 => ?_) (fun h8 => ?_)
          · rw [h8]
            have h8 : s[0].1 ≠ 0 := by simpa using h8
            conv => whnf
            refine ret_clean (.int .i64 3) rfl rfl (bad ?_)
            unfold okAt
            rw [decide_eq_false_iff_not, if_pos rfl]; omega
          · rw [h8]
            have h8 : s[0].1 = 0 := by simpa using h8
            conv => whnf
            refine bsk1 (ixOk_nat (by rw [sg_len]; exact hi)) ?_
            conv => whnf
            refine ldrec (congrArg cellsOf h4) ?_
            refine partv_one (v := .int .i64 s[0].1) (seg_at (i := 0) h6 rfl) ?_
            conv => whnf
            refine brec (fun h10 => ?_) (fun h10 => ?_)
            · omega
            · conv => whnf
              refine fin _ rfl ?_
              unfold okAt
              rw [decide_eq_true_eq, if_pos rfl]; omega
        · rw [h7]
          have h7 : i ≠ 0 := by simpa using h7
          obtain ⟨i, rfl⟩ : ∃ i', i = i' + 1 := ⟨i - 1, by omega⟩
          obtain ⟨_, _, _, _, _, _, e1, h4', h5', h6'⟩ := hs.at (sg_get (i := i) (by omega))
          cases e1
          rw [h4] at h4'; cases h4'
          have hfi' : fr s i = s[i].1 := fr_get (by omega)
          conv => whnf
          refine brecb (fun h8 => ?_) (fun h8 => ?_)
          · rw [h8]
            conv => whnf
            refine bsk1 (ixOk_nat (by rw [sg_len]; exact hi)) ?_
            conv => whnf
            refine ldrec (congrArg cellsOf h4) ?_
            refine partv_one (v := .int .i64 s[i + 1].1) (seg_at (i := 0) h6 rfl) ?_
            conv => whnf
            have e2 : wr .i64 (((i + 1 : Nat) : Int) - 1) = (i : Int) := by rw [wr_i64 (by omega) (by omega)]; omega
            refine bsk1 (by rw [e2]; exact ixOk_nat (by rw [sg_len]; omega)) ?_
            rw [e2]
            conv => whnf
            refine ldrec (congrArg cellsOf h4) ?_
            refine partv_one (v := .int .i64 s[i].1) (seg_at (i := 0) h6' rfl) ?_
            conv => whnf
            refine brecb (fun h9 => ?_) (fun h9 => ?_)
            · rw [h9]
              have h9 := of_decide_eq_true h9
              conv => whnf
              refine ret_clean (.int .i64 3) rfl rfl (bad ?_)
              unfold okAt
              rw [decide_eq_false_iff_not, if_neg (by omega), Nat.add_sub_cancel]; omega
            · rw [h9]
              have h9 := of_decide_eq_false h9
              conv => whnf
              refine bsk1 (ixOk_nat (by rw [sg_len]; exact hi)) ?_
              conv => whnf
              refine ldrec (congrArg cellsOf h4) ?_
              refine partv_one (v := .int .i64 s[i + 1].1) (seg_at (i := 0) h6 rfl) ?_
              conv => whnf
              refine brec (fun h10 => ?_) (fun h10 => ?_)
              · conv => whnf
                refine ret_clean (.int .i64 3) rfl rfl (bad ?_)
                unfold okAt
                rw [decide_eq_false_iff_not, if_neg (by omega), Nat.add_sub_cancel]; omega
              · conv => whnf
                refine fin _ rfl ?_
                unfold okAt
                rw [decide_eq_true_eq, if_neg (by omega), Nat.add_sub_cancel]; omega
          · have h8 := of_decide_eq_false h8; omega
      · have hok : okSign s = true := okSign_all (fun j hj => hp j (by omega))
        conv => whnf
        refine iter_inv (fun j t σ' => ∃ i : Nat, i + j = s.length ∧ σ' = σ.enter ∧ forget M18_1 t = T18_1 v (.int .i64 i) ∧ ∀ j < i, 1 ≤ ct s j ∧ ct s j ≤ 100000) ?_ hN ⟨0, by simp, rfl, rfl, by simp⟩
        rintro j again t _ ⟨i, hij, rfl, hf0, hp⟩ hagain
        rw [hf0]
        conv => whnf
        refine hs.len ?_
        rw [sg_len]
        conv => whnf
        refine brec (fun h3 => ?_) (fun h3 => ?_)
        · have hi : i < s.length := by omega
          obtain ⟨b, o, cap, es, ro, vs, rfl, h4, h5, h6⟩ := hs.at (sg_get hi)
          have hfi : ct s i = s[i].2 := ct_get hi
          have bad : ¬ (1 ≤ ct s i ∧ ct s i ≤ 100000) → k (.int .i64 22) σ := fun hb => by
            rw [show (22 : Int) = chkSign s by
              unfold chkSign; rw [if_neg h0, if_neg (by rw [hok]; simp), if_pos]
              unfold okCents; rw [List.all_eq_false]; exact ⟨s[i], by simp, by rw [← hfi]; simpa using hb⟩]; exact hk
          conv => whnf
          refine bsk1 (ixOk_nat (by rw [sg_len]; exact hi)) ?_
          conv => whnf
          refine ldrec (congrArg cellsOf h4) ?_
          refine partv_one (v := .int .i64 s[i].2) (seg_at (i := 1) h6 rfl) ?_
          conv => whnf
          refine brecb (fun h7 => ?_) (fun h7 => ?_)
          · rw [h7]
            have h7 := of_decide_eq_true h7
            conv => whnf
            refine ret_clean (.int .i64 22) rfl rfl (bad (by omega))
          · rw [h7]
            have h7 := of_decide_eq_false h7
            conv => whnf
            refine bsk1 (ixOk_nat (by rw [sg_len]; exact hi)) ?_
            conv => whnf
            refine ldrec (congrArg cellsOf h4) ?_
            refine partv_one (v := .int .i64 s[i].2) (seg_at (i := 1) h6 rfl) ?_
            conv => whnf
            refine brec (fun h8 => ?_) (fun h8 => ?_)
            · conv => whnf
              refine ret_clean (.int .i64 22) rfl rfl (bad (by omega))
            · conv => whnf
              refine hagain (j - 1) _ _ (by omega) ⟨i + 1, by omega, rfl, ?_, fun j hj => ?_⟩
              · rw [show ((i + 1 : Nat) : Int) = wr .i64 (i + 1) by rw [wr_i64 (by omega) (by omega)]; rfl]; rfl
              · rcases Nat.lt_succ_iff_lt_or_eq.1 hj with hj | rfl
                · exact hp j hj
                · omega
        · have hc : okCents s = true := by
            unfold okCents; rw [List.all_eq_true]
            intro x hx
            obtain ⟨i', hi', rfl⟩ := List.getElem_of_mem hx
            have := hp i' (by omega); rw [ct_get hi'] at this; simpa using this
          conv => whnf
          refine ret_clean (.int .i64 0) rfl rfl ?_
          rw [show (0 : Int) = chkSign s by unfold chkSign; rw [if_neg h0, if_neg (by rw [hok]; simp), if_neg (by rw [hc]; simp)]]; exact hk

/-- The reference's choice: the last of the first n prices that stands. -/
def lst (s : List (Int × Int)) (m : Int) : Nat → Nat
  | 0 => 0
  | n + 1 => if fr s n ≤ m then n else lst s m n
theorem lst_at (s : List (Int × Int)) (m : Int) : ∀ n, lst s m (n + 1) = atI s m n
  | 0 => by show (if fr s 0 ≤ m then 0 else 0) = 0; split <;> rfl
  | n + 1 => by
    show (if fr s (n + 1) ≤ m then n + 1 else lst s m (n + 1)) = if m < fr s (n + 1) then atI s m n else n + 1
    rw [lst_at s m n]
    by_cases h : fr s (n + 1) ≤ m
    · rw [if_pos h, if_neg (by omega)]
    · rw [if_neg h, if_pos (by omega)]
theorem lst_le (s : List (Int × Int)) (m : Int) : ∀ n, n ≠ 0 → lst s m n < n
  | 0, h => absurd rfl h
  | n + 1, _ => by rw [lst_at]; have := atI_le s m n; omega

theorem c33 (hK : IsK K) {v : V} {s : List (Int × Int)} {m : Int} (hs : SlN σ 2 v (sg s)) (hl : s.length ≤ 1000000) (h0 : s.length ≠ 0) (hk : k (.int .i64 (ct s (atS s m))) σ) : K (.fn 33) [v, .int .i64 m] σ k := by
  obtain ⟨N, hN⟩ : ∃ N, s.length < N := ⟨_, Nat.lt_succ_self _⟩
  have hz : 0 < s.length := by omega
  obtain ⟨b, o, cap, es, ro, vs, rfl, h4, h5, h6⟩ := hs.at (sg_get hz)
  refine k33 hK N ?_
  conv => whnf
  refine bsk1 (ixOk_nat (i := 0) (by rw [sg_len]; exact hz)) ?_
  conv => whnf
  refine ldrec (congrArg cellsOf h4) ?_
  refine partv_one (v := .int .i64 s[0].2) (seg_at (i := 1) h6 rfl) ?_
  conv => whnf
  refine iter_inv (fun j t σ' => ∃ i : Nat, i + j = s.length ∧ σ' = σ.enter ∧ forget M33_0 t = T33_0 (.slice b o (sg s).length cap es) (.int .i64 m) (.int .i64 (ct s (lst s m i))) (.int .i64 i)) ?_ hN ⟨0, by simp, rfl, ?_⟩
  · rintro j again t _ ⟨i, hij, rfl, hf0⟩ hagain
    rw [hf0]
    conv => whnf
    refine brecb (fun h1 => ?_) (fun h1 => ?_)
    · have h1 := of_decide_eq_true h1
      have hi : i < s.length := by have := sg_len s; omega
      obtain ⟨_, _, _, _, _, _, e1, h4', h5', h6'⟩ := hs.at (sg_get hi)
      cases e1
      rw [h4] at h4'; cases h4'
      have hfi := fr_get hi
      have hci := ct_get hi
      have fin : ∀ t', forget M33_0 t' = T33_0 (.slice b o (sg s).length cap es) (.int .i64 m) (.int .i64 (ct s (lst s m (i + 1)))) (.int .i64 (wr .i64 (i + 1))) → again t' _ _ :=
        fun t' ht' => hagain (j - 1) t' _ (by omega) ⟨i + 1, by omega, rfl, by rw [ht', wr_i64 (by omega) (by omega)]; rfl⟩
      conv => whnf
      refine bsk1 (ixOk_nat (by rw [sg_len]; exact hi)) ?_
      conv => whnf
      refine ldrec (congrArg cellsOf h4) ?_
      refine partv_one (v := .int .i64 s[i].1) (seg_at (i := 0) h6' rfl) ?_
      conv => whnf
      refine brec (fun h2 => ?_) (fun h2 => ?_)
      · conv => whnf
        refine bsk1 (ixOk_nat (by rw [sg_len]; exact hi)) ?_
        conv => whnf
        refine ldrec (congrArg cellsOf h4) ?_
        refine partv_one (v := .int .i64 s[i].2) (seg_at (i := 1) h6' rfl) ?_
        conv => whnf
        refine fin _ ?_
        rw [show lst s m (i + 1) = i by show (if fr s i ≤ m then i else lst s m i) = i; rw [if_pos (by omega)], hci]; rfl
      · conv => whnf
        refine fin _ ?_
        rw [show lst s m (i + 1) = lst s m i by show (if fr s i ≤ m then i else lst s m i) = _; rw [if_neg (by omega)]]; rfl
    · have h1 := of_decide_eq_false h1
      have hi : i = s.length := by have := sg_len s; omega
      conv => whnf
      refine ret_clean (.int .i64 (ct s (lst s m i))) rfl rfl ?_
      rw [show lst s m i = atS s m by rw [hi]; unfold atS; rw [← lst_at]; congr 1; omega]; exact hk
  · rw [show lst s m 0 = 0 from rfl, ct_get hz]; rfl

theorem c14 (hK : IsK K) {v : V} {s : List (Int × Int)} {m : Int} (hs : SlN σ 2 v (sg s)) (hl : s.length ≤ 1000000)
    (hk : k (.tup [.int .i64 (priceS s m).1, .int .i64 (priceS s m).2]) σ) : K (.fn 14) [v, .int .i64 m] σ k := by
  refine k14 hK 0 ?_
  conv => whnf
  refine c18 hK hs.enter hl ?_
  conv => whnf
  refine brecb (fun h1 => ?_) (fun h1 => ?_)
  · have h1 : chkSign s ≠ 0 := by simpa using h1
    conv => whnf
    refine c18 hK hs.enter hl ?_
    conv => whnf
    refine ret_clean (.tup [.int .i64 0, .int .i64 (chkSign s)]) rfl rfl ?_
    rw [show priceS s m = (0, chkSign s) by unfold priceS; rw [if_pos h1]] at hk; exact hk
  · have h1 : chkSign s = 0 := by simpa using h1
    have h0 := chk_len h1
    have h1' : ¬ chkSign s ≠ 0 := by omega
    conv => whnf
    refine brecb (fun h2 => ?_) (fun h2 => ?_)
    · rw [h2]
      have h2 := of_decide_eq_true h2
      conv => whnf
      refine ret_clean (.tup [.int .i64 0, .int .i64 3]) rfl rfl ?_
      rw [show priceS s m = (0, 3) by unfold priceS; rw [if_neg h1', if_pos (.inl h2)]] at hk; exact hk
    · rw [h2]
      have h2 := of_decide_eq_false h2
      conv => whnf
      refine brec (fun h3 => ?_) (fun h3 => ?_)
      · conv => whnf
        refine ret_clean (.tup [.int .i64 0, .int .i64 3]) rfl rfl ?_
        rw [show priceS s m = (0, 3) by unfold priceS; rw [if_neg h1', if_pos (.inr h3)]] at hk; exact hk
      · conv => whnf
        refine c33 hK hs.enter hl h0 ?_
        conv => whnf
        refine ret_clean (.tup [.int .i64 (ct s (atS s m)), .int .i64 0]) rfl rfl ?_
        rw [show priceS s m = (ct s (atS s m), 0) by unfold priceS; rw [if_neg h1', if_neg (by omega)]] at hk; exact hk

end Go.Proofs.Ytnmkbnejapdnnaa.Ev
