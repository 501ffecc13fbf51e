/-
  Poles: checks of signs, the price at a minute, the fair price: what the functions answer.
-/
import Derived.Test.YtnmkbnejapdnnaaEvK
set_option maxRecDepth 100000
set_option linter.unusedVariables false
namespace Go.Proofs.Ytnmkbnejapdnnaa.Ev
open Go
attribute [local irreducible] iter slcv slcav slcAt slcsv appP appzP appv mkslP copyv clearv lookv mputv delv mentryv rangev mnextP mcurv
variable {K : KT} {σ : St} {k : Cn}

/-- Whole numbers, one a cell. -/
def il (xs : List Int) : List (List V) := xs.map fun x => [.int .i64 x]
/-- Prices, two cells each. -/
def sg (s : List (Int × Int)) : List (List V) := s.map fun p => [.int .i64 p.1, .int .i64 p.2]
theorem il_get {xs : List Int} {i : Nat} (h : i < xs.length) : (il xs)[i]? = some [.int .i64 xs[i]] := by simp [il, h]
theorem sg_get {s : List (Int × Int)} {i : Nat} (h : i < s.length) : (sg s)[i]? = some [.int .i64 s[i].1, .int .i64 s[i].2] := by simp [sg, h]
theorem il_len (xs : List Int) : (il xs).length = xs.length := by simp [il]
theorem sg_len (s : List (Int × Int)) : (sg s).length = s.length := by simp [sg]

theorem c56 (hK : IsK K) {v : V} {xs : List Int} (hs : SlN σ 1 v (il xs)) {g : Nat} {fx fc : List V} (p : Int → Bool) (hl : xs.length ≤ 1000000)
    (hf : ∀ σ', Ge σ σ' → ∀ x ∈ xs, ∀ k' : Cn, k' (.bool (p x)) σ' → K (.fn g) (fx ++ [.int .i64 x] ++ fc) σ' k') (hk : k (.int .i64 (idx p xs)) σ) : K (.fn 56) [v, .func g fx fc] σ k := by
  obtain ⟨N, hN⟩ : ∃ N, xs.length < N := ⟨_, Nat.lt_succ_self _⟩
  refine k56 hK N ?_
  conv => whnf
  refine hs.len ?_
  rw [il_len]
  conv => whnf
  refine iter_inv (fun j t σ' => ∃ i : Nat, i + j = xs.length ∧ σ' = σ.enter ∧ forget M56_0 t = T56_0 v (.func g fx fc) (.int .i64 xs.length) (.int .i64 i) ∧ ∀ x ∈ xs.take i, p x = false) ?_ hN ⟨0, by simp, rfl, rfl, by simp⟩
  rintro j again t _ ⟨i, hij, rfl, hf0, hp⟩ hagain
  rw [hf0]
  conv => whnf
  refine brec (fun h1 => ?_) (fun h1 => ?_)
  · conv => whnf
    have hi : i < xs.length := by omega
    obtain ⟨b, o, cap, es, ro, vs, rfl, h2, h4, h5⟩ := hs.at (il_get hi)
    refine bsk1 (ixOk_nat (by rw [il_len]; exact hi)) ?_
    conv => whnf
    refine ldrec (congrArg cellsOf h2) ?_
    refine nth_ok (v := .int .i64 xs[i]) (seg1 h5) ?_
    conv => whnf
    refine hf _ (Ge.refl σ).enter xs[i] (by simp) _ ?_
    conv => whnf
    refine brecb (fun h6 => ?_) (fun h6 => ?_)
    · conv => whnf
      rw [leave_clean rfl rfl]
      show k (.int .i64 i) σ
      rw [← idx_here hi hp h6]; exact hk
    · conv => whnf
      refine hagain (j - 1) _ _ (by omega) ⟨i + 1, by omega, rfl, ?_, take_false hi hp h6⟩
      rw [show ((i + 1 : Nat) : Int) = wr .i64 (i + 1) by rw [wr_i64 (by omega) (by omega)]; rfl]; rfl
  · conv => whnf
    rw [leave_clean rfl rfl]
    show k (.int .i64 (-1)) σ
    rw [← idx_none (p := p) (xs := xs) (by rw [List.take_of_length_le (by omega)] at hp; exact hp)]; exact hk

theorem c75 (hK : IsK K) {v : V} {xs : List (Int × Int)} (hs : SlN σ 2 v (sg xs)) {g : Nat} {fx fc : List V} (p : Int × Int → Bool) (hl : xs.length ≤ 1000000)
    (hf : ∀ σ', Ge σ σ' → ∀ x ∈ xs, ∀ k' : Cn, k' (.bool (p x)) σ' → K (.fn g) (fx ++ [.agg [.int .i64 x.1, .int .i64 x.2]] ++ fc) σ' k') (hk : k (.int .i64 (idx p xs)) σ) : K (.fn 75) [v, .func g fx fc] σ k := by
  obtain ⟨N, hN⟩ : ∃ N, xs.length < N := ⟨_, Nat.lt_succ_self _⟩
  refine k75 hK N ?_
  conv => whnf
  refine hs.len ?_
  rw [sg_len]
  conv => whnf
  refine iter_inv (fun j t σ' => ∃ i : Nat, i + j = xs.length ∧ σ' = σ.enter ∧ forget M75_0 t = T75_0 v (.func g fx fc) (.int .i64 xs.length) (.int .i64 i) ∧ ∀ x ∈ xs.take i, p x = false) ?_ hN ⟨0, by simp, rfl, rfl, by simp⟩
  rintro j again t _ ⟨i, hij, rfl, hf0, hp⟩ hagain
  rw [hf0]
  conv => whnf
  refine brec (fun h1 => ?_) (fun h1 => ?_)
  · conv => whnf
    have hi : i < xs.length := by omega
    obtain ⟨b, o, cap, es, ro, vs, rfl, h2, h4, h5⟩ := hs.at (sg_get hi)
    refine bsk1 (ixOk_nat (by rw [sg_len]; exact hi)) ?_
    conv => whnf
    refine ldrec (congrArg cellsOf h2) ?_
    refine partv_ok h4 h5 ?_
    conv => whnf
    refine hf _ (Ge.refl σ).enter xs[i] (by simp) _ ?_
    conv => whnf
    refine brecb (fun h6 => ?_) (fun h6 => ?_)
    · conv => whnf
      rw [leave_clean rfl rfl]
      show k (.int .i64 i) σ
      rw [← idx_here hi hp h6]; exact hk
    · conv => whnf
      refine hagain (j - 1) _ _ (by omega) ⟨i + 1, by omega, rfl, ?_, take_false hi hp h6⟩
      rw [show ((i + 1 : Nat) : Int) = wr .i64 (i + 1) by rw [wr_i64 (by omega) (by omega)]; rfl]; rfl
  · conv => whnf
    rw [leave_clean rfl rfl]
    show k (.int .i64 (-1)) σ
    rw [← idx_none (p := p) (xs := xs) (by rw [List.take_of_length_le (by omega)] at hp; exact hp)]; exact hk

theorem c71 (hK : IsK K) {v : V} {xs : List Int} (hs : SlN σ 1 v (il xs)) {g : Nat} {fx fc : List V} (p : Int → Bool) (hl : xs.length ≤ 1000000)
    (hf : ∀ σ', Ge σ σ' → ∀ x ∈ xs, ∀ k' : Cn, k' (.bool (p x)) σ' → K (.fn g) (fx ++ [.int .i64 x] ++ fc) σ' k') (hk : k (.bool (xs.any p)) σ) : K (.fn 71) [v, .func g fx fc] σ k := by
  refine k71 hK 0 ?_
  conv => whnf
  refine c56 hK hs.enter p hl (fun σ' h => hf σ' ((Ge.refl σ).enter.trans h)) ?_
  conv => whnf
  rw [leave_clean rfl rfl]
  show k (.bool (decide (idx p xs ≥ 0))) σ
  rw [idx_ge]; exact hk

theorem c51 (hK : IsK K) {v : V} {xs : List (Int × Int)} (hs : SlN σ 2 v (sg xs)) {g : Nat} {fx fc : List V} (p : Int × Int → Bool) (hl : xs.length ≤ 1000000)
    (hf : ∀ σ', Ge σ σ' → ∀ x ∈ xs, ∀ k' : Cn, k' (.bool (p x)) σ' → K (.fn g) (fx ++ [.agg [.int .i64 x.1, .int .i64 x.2]] ++ fc) σ' k') (hk : k (.bool (xs.any p)) σ) : K (.fn 51) [v, .func g fx fc] σ k := by
  refine k51 hK 0 ?_
  conv => whnf
  refine c75 hK hs.enter p hl (fun σ' h => hf σ' ((Ge.refl σ).enter.trans h)) ?_
  conv => whnf
  rw [leave_clean rfl rfl]
  show k (.bool (decide (idx p xs ≥ 0))) σ
  rw [idx_ge]; exact hk

/-- Is it outside? -/
def outs (lo hi n : Int) : Bool := decide (n < lo) || decide (n > hi)

theorem c72 (hK : IsK K) {lo hi n : Int} {b c : Nat} {r r' : Bool} (h1 : σ.get b = some (.cells r [.int .i64 lo])) (h2 : σ.get c = some (.cells r' [.int .i64 hi])) (hk : k (.bool (outs lo hi n)) σ) : K (.fn 72) [.int .i64 n, .ptr b 0, .ptr c 0] σ k := by
  refine k72 hK 0 ?_
  conv => whnf
  refine ldrec (congrArg cellsOf h1) ?_
  conv => whnf
  unfold outs at hk
  refine brecb (fun h3 => ?_) (fun h3 => ?_)
  · rw [h3] at hk ⊢
    conv => whnf
    rw [leave_clean rfl rfl]; exact hk
  · rw [h3] at hk ⊢
    conv => whnf
    refine ldrec (congrArg cellsOf h2) ?_
    conv => whnf
    rw [leave_clean rfl rfl]; exact hk

theorem c47 (hK : IsK K) {v : V} {xs : List Int} (hs : SlN σ 1 v (il xs)) (hl : xs.length ≤ 1000000) {lo hi : Int} (hk : k (.bool (!xs.any (outs lo hi))) σ) : K (.fn 47) [.int .i64 lo, .int .i64 hi, v] σ k := by
  refine k47 hK 0 ?_
  conv => whnf
  refine c71 hK (hs.ge (((Ge.refl σ).enter.add _).add _)) (outs lo hi) hl (fun σ' hg x hx k' hk' => ?_) ?_
  · refine c72 hK (hg.get _ _ (get_add_some _ (get_add_self _ _))) (hg.get _ _ (get_add_self _ _)) hk'
  · conv => whnf
    rw [leave_clean rfl rfl]; exact hk

end Go.Proofs.Ytnmkbnejapdnnaa.Ev
