/-
  Poles: the fair price when clocks are wider, when a sign has one price, when prices are scaled, when clocks are shifted: plain law.
-/
import Derived.Test.YtnmkbnejapdnnaaEvPh
set_option maxRecDepth 100000
set_option maxHeartbeats 4000000
set_option linter.unusedVariables false
namespace Go.Proofs.Ytnmkbnejapdnnaa.Ev
open Go

theorem fair_wide {s : List (Int × Int)} {lo hi lo' hi' m : Int} (h0 : s.length ≠ 0) (h : lo ≤ hi) (h1 : lo' ≤ lo) (h2 : hi ≤ hi') : fairP s lo' hi' m ≤ fairP s lo hi m := by
  obtain ⟨_, x, hx, l2⟩ := leastP_spec (stood_ne (lo := lo) (hi := hi) (m := m) h0 h)
  obtain ⟨l1, _⟩ := leastP_spec (stood_ne (lo := lo') (hi := hi') (m := m) h0 (by omega))
  unfold fairP
  rw [l2]
  obtain ⟨i, g1, g2, g3⟩ := mem_stood.1 hx
  have a1 := atS_mono h0 (m := m + lo') (m' := m + lo) (by omega)
  have a2 := atS_mono h0 (m := m + hi) (m' := m + hi') (by omega)
  exact l1 x (mem_stood.2 ⟨i, by omega, by omega, g3⟩)

theorem fair_one {s : List (Int × Int)} {lo hi m : Int} (h1 : s.length = 1) (h : lo ≤ hi) : fairP s lo hi m = ct s 0 := by
  obtain ⟨_, x, hx, l2⟩ := leastP_spec (stood_ne (lo := lo) (hi := hi) (m := m) (s := s) (by omega) h)
  unfold fairP
  rw [l2]
  obtain ⟨i, _, _, g3⟩ := mem_stood.1 hx
  obtain ⟨hi, g4⟩ := List.getElem?_eq_some_iff.1 g3
  obtain rfl : i = 0 := by omega
  rw [ct_get hi, g4]

theorem fair_shift (s : List (Int × Int)) (lo hi m b : Int) : fairP s (lo + b) (hi + b) m = fairP s lo hi (m + b) := by
  unfold fairP stood
  rw [show m + (lo + b) = m + b + lo by omega, show m + (hi + b) = m + b + hi by omega]

/-- Prices times t. -/
def scl (t : Int) (p : Int × Int) : Int × Int := (p.1, t * p.2)
theorem fr_scl (s : List (Int × Int)) (t : Int) (i : Nat) : fr (s.map (scl t)) i = fr s i := by
  unfold fr scl
  rw [List.getD, List.getD, List.getElem?_map]
  cases s[i]? <;> rfl
theorem atI_scl (s : List (Int × Int)) (t m : Int) : ∀ n, atI (s.map (scl t)) m n = atI s m n
  | 0 => rfl
  | n + 1 => by rw [atI_succ, atI_succ, fr_scl, atI_scl s t m n]
theorem atS_scl (s : List (Int × Int)) (t m : Int) : atS (s.map (scl t)) m = atS s m := by
  unfold atS; rw [List.length_map, atI_scl]
theorem stood_scl (s : List (Int × Int)) (t lo hi m : Int) : stood (s.map (scl t)) lo hi m = (stood s lo hi m).map (scl t) := by
  unfold stood; rw [atS_scl, atS_scl, List.map_take, List.map_drop]
theorem least1_scl {t : Int} (ht : 0 < t) (b x : Int × Int) : least1 (scl t b) (scl t x) = scl t (least1 b x) := by
  by_cases h : x.2 < b.2
  · rw [least1_pos h, least1_pos (Int.mul_lt_mul_of_pos_left h ht)]
  · rw [least1_neg h, least1_neg (by
      have := Int.mul_le_mul_of_nonneg_left (Int.not_lt.1 h) (Int.le_of_lt ht)
      show ¬ t * x.2 < t * b.2
      omega)]
theorem foldl_scl {t : Int} (ht : 0 < t) : ∀ (l : List (Int × Int)) (b : Int × Int), (l.map (scl t)).foldl least1 (scl t b) = scl t (l.foldl least1 b)
  | [], b => rfl
  | x :: l, b => by
    show (l.map (scl t)).foldl least1 (least1 (scl t b) (scl t x)) = _
    rw [least1_scl ht, foldl_scl ht l]; rfl
theorem fair_scl {s : List (Int × Int)} {t lo hi m : Int} (ht : 0 < t) (h0 : s.length ≠ 0) (h : lo ≤ hi) : fairP (s.map (scl t)) lo hi m = t * fairP s lo hi m := by
  have hne := stood_ne (lo := lo) (hi := hi) (m := m) h0 h
  unfold fairP
  rw [stood_scl]
  cases hs : stood s lo hi m with
  | nil => exact absurd hs hne
  | cons x l =>
    show ((l.map (scl t)).foldl least1 (scl t x)).2 = t * (l.foldl least1 x).2
    rw [foldl_scl ht]; rfl

theorem chk_take1 {s : List (Int × Int)} (h : chkSign s = 0) : chkSign (s.take 1) = 0 := by
  obtain ⟨h0, _, hs, hc⟩ := chk_ok h
  obtain ⟨x, s, rfl⟩ : ∃ x s', s = x :: s' := by cases s with
    | nil => exact absurd rfl h0
    | cons x s => exact ⟨x, s, rfl⟩
  have a := okSign_get hs (i := 0) (by simp)
  have e : okSign [x] = true := by
    have : okSign [x] = okAt [x] 0 := by simp [okSign]
    rw [this]; exact a
  have e2 : okCents [x] = true := by
    have : okCents [x] = decide (1 ≤ x.2 ∧ x.2 ≤ 100000) := by simp [okCents]
    rw [this]
    unfold okCents at hc
    rw [List.all_cons, Bool.and_eq_true] at hc
    exact hc.1
  show chkSign [x] = 0
  unfold chkSign
  rw [if_neg (by simp), if_neg (by rw [e]; simp), if_neg (by rw [e2]; simp)]

theorem cents_bd {s : List (Int × Int)} (h : chkSign s = 0) {i : Nat} (hi : i < s.length) : 1 ≤ s[i].2 ∧ s[i].2 ≤ 100000 := by
  obtain ⟨_, _, _, hc⟩ := chk_ok h
  unfold okCents at hc
  exact of_decide_eq_true (List.all_eq_true.1 hc s[i] (List.getElem_mem hi))
theorem clk_of {s : List (Int × Int)} {lo hi : Int} (h : chkSign s = 0) (hc : okClk lo hi = true) : chkClk s lo hi = 0 := by
  rw [chk_eq (by omega), if_neg (by rw [hc]; simp)]
theorem fairS_of {s : List (Int × Int)} {lo hi m : Int} (h : chkClk s lo hi = 0) (h1 : 0 ≤ m) (h2 : m ≤ 2000) : fairS s lo hi m = (fairP s lo hi m, 0) := by
  unfold fairS; rw [if_neg (by omega), if_neg (by omega)]
theorem fairP_bd {s : List (Int × Int)} {lo hi m : Int} (h : chkSign s = 0) (hl : lo ≤ hi) : 1 ≤ fairP s lo hi m ∧ fairP s lo hi m ≤ 100000 := by
  obtain ⟨_, x, hx, l2⟩ := leastP_spec (stood_ne (lo := lo) (hi := hi) (m := m) (s := s) (chk_len h) hl)
  unfold fairP
  rw [l2]
  obtain ⟨i, _, _, g3⟩ := mem_stood.1 hx
  obtain ⟨hi, g4⟩ := List.getElem?_eq_some_iff.1 g3
  rw [← g4]; exact cents_bd h hi

end Go.Proofs.Ytnmkbnejapdnnaa.Ev
