/-
  Poles: the least price while clocks differ, by prices and by minutes: plain law.
-/
import Derived.Test.YtnmkbnejapdnnaaEvPe
set_option maxRecDepth 100000
set_option maxHeartbeats 4000000
set_option linter.unusedVariables false
namespace Go.Proofs.Ytnmkbnejapdnnaa.Ev
open Go

theorem atI_succ (s : List (Int × Int)) (m : Int) (n : Nat) : atI s m (n + 1) = if m < fr s (n + 1) then atI s m n else n + 1 := rfl
theorem atI_spec (s : List (Int × Int)) (m : Int) : ∀ n, (atI s m n = 0 ∨ fr s (atI s m n) ≤ m) ∧ ∀ j, atI s m n < j → j ≤ n → m < fr s j
  | 0 => ⟨.inl rfl, fun j h1 h2 => by omega⟩
  | n + 1 => by
    obtain ⟨h1, h2⟩ := atI_spec s m n
    rw [atI_succ]
    by_cases h : m < fr s (n + 1)
    · rw [if_pos h]
      refine ⟨h1, fun j h3 h4 => ?_⟩
      by_cases e : j = n + 1
      · subst e; exact h
      · exact h2 j h3 (by omega)
    · rw [if_neg h]
      exact ⟨.inr (by omega), fun j h3 h4 => by omega⟩
theorem atS_spec {s : List (Int × Int)} (h0 : s.length ≠ 0) (m : Int) : (atS s m = 0 ∨ fr s (atS s m) ≤ m) ∧ ∀ j, atS s m < j → j < s.length → m < fr s j := by
  obtain ⟨h1, h2⟩ := atI_spec s m (s.length - 1)
  exact ⟨h1, fun j h3 h4 => h2 j h3 (by omega)⟩
theorem atS_mono {s : List (Int × Int)} (h0 : s.length ≠ 0) {m m' : Int} (h : m ≤ m') : atS s m ≤ atS s m' := by
  obtain ⟨h1, _⟩ := atS_spec h0 m
  obtain ⟨_, h2⟩ := atS_spec h0 m'
  rcases h1 with h1 | h1
  · omega
  · apply Nat.le_of_not_lt
    intro hlt
    have := h2 (atS s m) hlt (atS_lt h0 m)
    omega

theorem okSign_get {s : List (Int × Int)} (h : okSign s = true) {i : Nat} (hi : i < s.length) : okAt s i = true := by
  unfold okSign at h
  rw [List.all_eq_true] at h
  exact h i (by simpa using hi)
theorem fr_mono {s : List (Int × Int)} (h : okSign s = true) {i : Nat} : ∀ j, i < j → j < s.length → fr s i < fr s j
  | 0, h1, _ => by omega
  | j + 1, h1, h2 => by
    have := of_decide_eq_true (okSign_get h h2)
    rw [if_neg (by omega), Nat.add_sub_cancel] at this
    by_cases e : i = j
    · subst e; exact this.1
    · have := fr_mono h (i := i) j (by omega) (by omega); omega
theorem atS_fr {s : List (Int × Int)} (h : okSign s = true) {i : Nat} (hi : i < s.length) : atS s (fr s i) = i := by
  have h0 : s.length ≠ 0 := by omega
  obtain ⟨h1, h2⟩ := atS_spec h0 (fr s i)
  apply Nat.le_antisymm
  · rcases h1 with h1 | h1
    · omega
    · apply Nat.le_of_not_lt
      intro hlt
      have := fr_mono h _ hlt (atS_lt h0 _); omega
  · apply Nat.le_of_not_lt
    intro hlt
    have := h2 i hlt hi; omega

theorem chk_ok {s : List (Int × Int)} (h : chkSign s = 0) : s.length ≠ 0 ∧ s.length ≤ 30 ∧ okSign s = true ∧ okCents s = true := by
  unfold chkSign at h
  split at h
  · omega
  · split at h
    · omega
    · split at h
      · omega
      · refine ⟨by omega, by omega, by simp_all, by simp_all⟩

/-! ### the least of a list -/
theorem foldl_least (l : List (Int × Int)) : ∀ b : Int × Int, (∀ x ∈ b :: l, (l.foldl least1 b).2 ≤ x.2) ∧ ∃ x ∈ b :: l, (l.foldl least1 b).2 = x.2 := by
  induction l with
  | nil => intro b; exact ⟨by simp, b, by simp, rfl⟩
  | cons y l ih =>
    intro b
    obtain ⟨h1, x, h2, h3⟩ := ih (least1 b y)
    have hb : (least1 b y).2 ≤ b.2 ∧ (least1 b y).2 ≤ y.2 := by
      by_cases h : y.2 < b.2
      · rw [least1_pos h]; omega
      · rw [least1_neg h]; omega
    have hc : least1 b y = b ∨ least1 b y = y := by
      by_cases h : y.2 < b.2
      · exact .inr (least1_pos h)
      · exact .inl (least1_neg h)
    have h0 := h1 _ (List.mem_cons_self ..)
    refine ⟨fun z hz => ?_, ?_⟩
    · show (l.foldl least1 (least1 b y)).2 ≤ z.2
      rcases List.mem_cons.1 hz with rfl | hz
      · omega
      · rcases List.mem_cons.1 hz with rfl | hz
        · omega
        · exact h1 z (List.mem_cons_of_mem _ hz)
    · show ∃ x ∈ b :: y :: l, (l.foldl least1 (least1 b y)).2 = x.2
      rcases List.mem_cons.1 h2 with rfl | h2
      · rcases hc with e | e
        · exact ⟨b, by simp, by rw [h3, e]⟩
        · exact ⟨y, by simp, by rw [h3, e]⟩
      · exact ⟨x, by simp [h2], h3⟩
theorem leastP_spec {l : List (Int × Int)} (h : l ≠ []) : (∀ x ∈ l, (leastP l).2 ≤ x.2) ∧ ∃ x ∈ l, (leastP l).2 = x.2 := by
  cases l with
  | nil => exact absurd rfl h
  | cons x l => exact foldl_least l x

/-- The reference's least price: of n minutes from a on. -/
def rf (s : List (Int × Int)) (a : Int) : Nat → Int
  | 0 => ct s (atS s a)
  | n + 1 => imin (rf s a n) (ct s (atS s (a + n)))
theorem imin_le (a b : Int) : imin a b ≤ a ∧ imin a b ≤ b ∧ (imin a b = a ∨ imin a b = b) := by
  unfold imin; split <;> omega
theorem rf_spec (s : List (Int × Int)) (a : Int) : ∀ n, (∀ c : Nat, c < n → rf s a n ≤ ct s (atS s (a + c))) ∧ rf s a n ≤ ct s (atS s a) ∧ (rf s a n = ct s (atS s a) ∨ ∃ c : Nat, c < n ∧ rf s a n = ct s (atS s (a + c)))
  | 0 => ⟨fun c hc => by omega, by unfold rf; omega, .inl rfl⟩
  | n + 1 => by
    obtain ⟨h1, h2, h3⟩ := rf_spec s a n
    have e : rf s a (n + 1) = imin (rf s a n) (ct s (atS s (a + n))) := rfl
    obtain ⟨g1, g2, g3⟩ := imin_le (rf s a n) (ct s (atS s (a + n)))
    rw [← e] at g1 g2 g3
    refine ⟨fun c hc => ?_, by omega, ?_⟩
    · by_cases ec : c = n
      · subst ec; exact g2
      · have := h1 c (by omega); omega
    · rcases g3 with g3 | g3
      · rcases h3 with h3 | ⟨c, hc, h3⟩
        · exact .inl (by omega)
        · exact .inr ⟨c, by omega, by omega⟩
      · exact .inr ⟨n, by omega, g3⟩

/-- The prices that stood. -/
def stood (s : List (Int × Int)) (lo hi m : Int) : List (Int × Int) := (s.drop (atS s (m + lo))).take (atS s (m + hi) + 1 - atS s (m + lo))
/-- The fair price. -/
def fairP (s : List (Int × Int)) (lo hi m : Int) : Int := (leastP (stood s lo hi m)).2

theorem mem_stood {s : List (Int × Int)} {lo hi m : Int} {x : Int × Int} : x ∈ stood s lo hi m ↔ ∃ i, atS s (m + lo) ≤ i ∧ i ≤ atS s (m + hi) ∧ s[i]? = some x := by
  unfold stood
  rw [List.mem_iff_getElem?]
  constructor
  · rintro ⟨j, hj⟩
    rw [List.getElem?_take] at hj
    split at hj
    · rw [List.getElem?_drop] at hj
      exact ⟨_, by omega, by omega, hj⟩
    · cases hj
  · rintro ⟨i, h1, h2, h3⟩
    refine ⟨i - atS s (m + lo), ?_⟩
    rw [List.getElem?_take, if_pos (by omega), List.getElem?_drop, show atS s (m + lo) + (i - atS s (m + lo)) = i by omega]; exact h3

theorem fair_eq {s : List (Int × Int)} {lo hi m : Int} (hc : chkSign s = 0) (hlh : lo ≤ hi) : fairP s lo hi m = rf s (m + lo) (hi - lo + 1).toNat := by
  obtain ⟨h0, _, hs, _⟩ := chk_ok hc
  have hmono := atS_mono h0 (m := m + lo) (m' := m + hi) (by omega)
  obtain ⟨r1, r2, r3⟩ := rf_spec s (m + lo) (hi - lo + 1).toNat
  have hne : stood s lo hi m ≠ [] := by
    have hlt := atS_lt h0 (m + lo)
    have : s[atS s (m + lo)] ∈ stood s lo hi m := mem_stood.2 ⟨atS s (m + lo), by omega, hmono, List.getElem?_eq_getElem hlt⟩
    intro e; rw [e] at this; simp at this
  obtain ⟨l1, x, hx, l2⟩ := leastP_spec hne
  unfold fairP
  apply Int.le_antisymm
  · -- the least of the prices is not above the least of the minutes
    have key : ∀ mm : Int, m + lo ≤ mm → mm ≤ m + hi → (leastP (stood s lo hi m)).2 ≤ ct s (atS s mm) := by
      intro mm h1 h2
      have hlt := atS_lt h0 mm
      rw [ct_get hlt]
      exact l1 _ (mem_stood.2 ⟨atS s mm, atS_mono h0 h1, atS_mono h0 h2, List.getElem?_eq_getElem hlt⟩)
    rcases r3 with r3 | ⟨c, hc, r3⟩
    · rw [r3]; exact key _ (by omega) (by omega)
    · rw [r3]; exact key _ (by omega) (by omega)
  · obtain ⟨i, h1, h2, h3⟩ := mem_stood.1 hx
    have hi' : i < s.length := (List.getElem?_eq_some_iff.1 h3).1
    have hci : ct s i = x.2 := by rw [ct_get hi']; rw [List.getElem?_eq_getElem hi'] at h3; cases h3; rfl
    rw [l2, ← hci]
    by_cases e : i = atS s (m + lo)
    · rw [e]; exact r2
    · obtain ⟨_, a2⟩ := atS_spec h0 (m + lo)
      obtain ⟨b1, _⟩ := atS_spec h0 (m + hi)
      have h4 := a2 i (by omega) hi'
      have h5 : fr s i ≤ m + hi := by
        rcases b1 with b1 | b1
        · omega
        · by_cases e2 : i = atS s (m + hi)
          · rw [e2]; exact b1
          · have := fr_mono hs (i := i) (atS s (m + hi)) (by omega) (atS_lt h0 _); omega
      have := r1 (fr s i - (m + lo)).toNat (by omega)
      rw [show m + lo + (((fr s i - (m + lo)).toNat : Nat) : Int) = fr s i by omega, atS_fr hs hi'] at this
      exact this

end Go.Proofs.Ytnmkbnejapdnnaa.Ev
