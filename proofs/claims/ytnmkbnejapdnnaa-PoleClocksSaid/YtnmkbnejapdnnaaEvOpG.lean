/-
  Maps: looked into, turned, ranged over.
-/
import Derived.Test.YtnmkbnejapdnnaaEvOpF
set_option linter.unusedVariables false
set_option maxRecDepth 4000
namespace Go.Proofs.Ytnmkbnejapdnnaa.Ev
open Go

section
variable {P : Program} {N0 : Nat} {μ : Mp} {σ σ' : St} {w w' : World} {k : Cn} {K : KT} {d nt : Nat} {a : Act} {t : Tr} {o : Oper}

/-! ### keys -/
theorem forIn_ok {α : Type} {f : α → PUnit → Sem (ForInStep PUnit)} : ∀ (l : List α), (∀ x ∈ l, (f x ⟨⟩).run P w = .ok (.yield ⟨⟩) w) → (forIn l PUnit.unit f).run P w = .ok ⟨⟩ w
  | [], _ => by simp
  | x :: l, h => by
    rw [List.forIn_cons, Sem.run_bind, h x (by simp), Result.andThen_ok]
    exact forIn_ok l (fun y hy => h y (by simp [hy]))

theorem leavesF_mem {rec : TypeId → Option (List Lf)} : ∀ (fs : List Field) (off : Nat) (ls : List Lf), leavesF P rec fs off = some ls → ∀ f ∈ fs, ∃ l1, rec f.type = some l1 ∧ sizeT P f.type = some l1.length ∧ f.offset + l1.length ≤ off + ls.length
  | [], off, ls, h, f, hf => by simp at hf
  | g :: fs, off, ls, h, f, hf => by
    simp only [leavesF] at h
    split at h
    · cases h
    rename_i hg
    simp only [Bool.and_eq_true, bne_iff_ne, ne_eq, beq_iff_eq] at hg
    split at h
    · cases h
    rename_i l1 hl1
    split at h
    · cases h
    rename_i hsz
    split at h
    · cases h
    rename_i l2 hl2
    cases h
    rcases List.mem_cons.1 hf with rfl | hf
    · exact ⟨l1, hl1, beq_iff_eq.1 hsz, by rw [hg.2, List.length_append]; omega⟩
    · obtain ⟨l, e1, e2, e3⟩ := leavesF_mem fs (off + l1.length) l2 hl2 f hf
      exact ⟨l, e1, e2, by rw [List.length_append]; omega⟩

theorem check_leaves (em : Bool) (dd : Nat) : ∀ (D : Nat) (ty : TypeId) (ls : List Lf), leavesT P D ty = some ls → ∀ (w : World) (x : Value) (us : List Value), us.length = ls.length → CellsAs P ty x us → (Instr.checkKey em (dd + D) ty x).run P w = .ok () w
  | 0, ty, ls, h => by simp [leavesT] at h
  | D + 1, ty, ls, h => by
    intro w x us hl cx
    simp only [leavesT] at h
    rw [show dd + (D + 1) = (dd + D) + 1 by omega]
    split at h
    · rename_i kk hu
      simp [Instr.checkKey, run_underlying hu]
    · rename_i hu
      simp [Instr.checkKey, run_underlying hu]
    · rename_i hu
      simp [Instr.checkKey, run_underlying hu]
    · rename_i fs hu
      split at h
      · cases h
      unfold CellsAs at cx
      rw [show isAggT P ty = true by simp [isAggT, hu]] at cx
      simp only [if_true] at cx
      subst cx
      simp only [Instr.checkKey, Sem.run_bind, run_underlying hu, Result.andThen_ok]
      rw [← Array.forIn_toList]
      refine (congrArg (fun r => Result.andThen r _) (forIn_ok _ fun f hf => ?_)).trans rfl
      obtain ⟨l1, e1, e2, e3⟩ := leavesF_mem _ _ _ h f hf
      obtain ⟨y, py, cy⟩ := part_as (P := P) (w := w) (leavesT_some e1).1 e2 (leavesT_some e1).2 (us := us) (off := f.offset) (by omega)
      have ih := check_leaves em dd D _ _ e1 w y _ (seg_len (by omega)) cy
      by_cases hn : f.name = "_"
      · simp [hn]
      · simp [hn, py, ih]
    · rename_i n e hu
      split at h
      · cases h
      rename_i l1 hl1
      split at h
      · rename_i hsz
        have hsz := beq_iff_eq.1 hsz
        cases h
        unfold CellsAs at cx
        rw [show isAggT P ty = true by simp [isAggT, hu]] at cx
        simp only [if_true] at cx
        subst cx
        rw [flat_len] at hl
        simp only [Instr.checkKey, Sem.run_bind, run_underlying hu, Result.andThen_ok]
        simp only [Std.Legacy.Range.forIn_eq_forIn_range', Std.Legacy.Range.size, Nat.sub_zero, Nat.add_one_sub_one, Nat.div_one]
        refine (congrArg (fun r => Result.andThen r _) (forIn_ok _ fun i hi => ?_)).trans rfl
        have hi : i < n := by simpa using hi
        have hle : (i + 1) * l1.length ≤ n * l1.length := Nat.mul_le_mul_right _ hi
        rw [Nat.succ_mul] at hle
        obtain ⟨y, py, cy⟩ := part_as (P := P) (w := w) (leavesT_some hl1).1 hsz (leavesT_some hl1).2 (us := us) (off := i * l1.length) (by omega)
        have ih := check_leaves em dd D _ _ hl1 w y _ (seg_len (by omega)) cy
        have hr := run_sizeOf (P := P) (w := w) hsz
        simp [hr, py, ih]
      · cases h
    · cases h

theorem keyLs_spec {ty : TypeId} {ls : List Lf} (h : keyLs P ty ls = true) : lfsOk P ty ls = true ∧ isAggT P ty = !(Nat.beq ls.length 1) := by
  simp only [keyLs, Bool.and_eq_true, beq_iff_eq] at h; exact h

theorem keyCs_as {ty : TypeId} {ls : List Lf} (h : keyLs P ty ls = true) {v : V} {x : Value} {xs : List V} (hv : VR μ v x) (hc : keyCs ls v = some xs) : ∃ us, VRs μ xs us ∧ CellsAs P ty x us := by
  have hag := (keyLs_spec h).2
  unfold keyCs at hc
  split at hc
  · have : isAggT P ty = false := by rw [hag]; rfl
    split at hc <;> first | (cases hc; done) | (cases hc; exact ⟨[x], VRs_cons.2 ⟨x, [], rfl, hv, VRs_nil.2 rfl⟩, by simp [CellsAs, this]⟩)
  · rename_i hne
    have : isAggT P ty = true := by
      rw [hag]
      match ls, hne with
      | [], _ => rfl
      | [l], hne => exact absurd rfl (hne l)
      | _ :: _ :: _, _ => rfl
    split at hc
    · cases hc
      simp only [VR] at hv
      obtain ⟨us, hus, rfl⟩ := hv
      exact ⟨us, hus, by simp [CellsAs, this]⟩
    · cases hc

theorem eqk_spec {ls : List Lf} {v v' : V} {r : Bool} (h : eqk ls v v' = some r) : ∃ xs ys, keyCs ls v = some xs ∧ keyCs ls v' = some ys ∧ eqs ls xs ys = some r ∧ xs.length = ls.length ∧ ys.length = ls.length := by
  unfold eqk at h
  split at h
  · rename_i xs ys h1 h2
    obtain ⟨g1, g2, g3⟩ := eql_spec h
    exact ⟨xs, ys, h1, h2, g1, g2, g3⟩
  · cases h

theorem eqk_run {ty : TypeId} {ls : List Lf} (hk : keyLs P ty ls = true) {v v' : V} {x y : Value} {r : Bool} (hv : VR μ v x) (hv' : VR μ v' y) (h : eqk ls v v' = some r) : (Op.equal ty x y).run P w = .ok r w := by
  obtain ⟨xs, ys, h1, h2, h3, h4, h5⟩ := eqk_spec h
  obtain ⟨us, hus, cx⟩ := keyCs_as hk hv h1
  obtain ⟨vs, hvs, cy⟩ := keyCs_as hk hv' h2
  exact equal_at (keyLs_spec hk).1 w xs ys us vs r x y hus hvs h3 h4 h5 cx cy

theorem keyOk_check {ty : TypeId} {ls : List Lf} (hk : keyLs P ty ls = true) {v : V} {x : Value} (hv : VR μ v x) (h : keyOk ls v = true) (em : Bool) : (Instr.checkKey em 10000 ty x).run P w = .ok () w := by
  unfold keyOk at h
  split at h
  · rename_i r hr
    obtain ⟨xs, ys, h1, h2, h3, h4, h5⟩ := eqk_spec hr
    obtain ⟨us, hus, cx⟩ := keyCs_as hk hv h1
    exact check_leaves em 9980 20 ty ls (lfsOk_spec (keyLs_spec hk).1).1 w x us (by rw [VRs_length hus]; exact h4) cx
  · cases h

/-- What is found. -/
def FR (μ : Mp) : Option (Nat × V) → Option (Nat × Value) → Prop
  | none, r => r = none
  | some (i, v), r => ∃ u, r = some (i, u) ∧ VR μ v u

theorem findAsking_run {ty : TypeId} {ls : List Lf} (hk : keyLs P ty ls = true) {kx : V} {x : Value} (hx : VR μ kx x) : ∀ (es : List (V × V × Nat)) (l : List MapEntry) (i : Nat) (res : Option (Nat × V)), ERs μ es l → findk ls kx es i = some res →
    ∃ r, FR μ res r ∧ (Instr.findAsking ty x l i).run P w = .ok r w
  | [], l, i, res, he, h => by
    simp only [ERs] at he; subst he
    simp only [findk] at h; cases h
    exact ⟨none, rfl, by simp [Instr.findAsking]⟩
  | e :: es, l, i, res, he, h => by
    obtain ⟨m, ms, rfl, h1, h2, h3, h4⟩ := he
    simp only [findk] at h
    split at h
    · rename_i hq
      cases h
      have := eqk_run (P := P) (w := w) hk hx h1 hq
      exact ⟨_, ⟨m.val, rfl, h2⟩, by simp [Instr.findAsking, this]⟩
    · rename_i hq
      obtain ⟨r, g1, g2⟩ := findAsking_run hk hx es ms (i + 1) res h4 h
      have := eqk_run (P := P) (w := w) hk hx h1 hq
      exact ⟨r, g1, by simp [Instr.findAsking, this, g2]⟩
    · cases h

theorem eqs1 {l : Lf} {x y : V} {r : Bool} (h : eqs [l] [x] [y] = some r) : eq1 l x y = some r := by
  simp only [eqs] at h
  split at h
  · rename_i e; cases h; exact e
  · rename_i e; cases h; exact e
  · cases h
theorem eq1_int {l : Lf} {kd kd' : IntKind} {n m : Int} {r : Bool} (h : eq1 l (.int kd n) (.int kd' m) = some r) : kd = kd' ∧ (n == m) = r := by
  cases l <;> simp [eq1] at h
  exact h
theorem eq1_str {l : Lf} {n m : ByteArray} {r : Bool} (h : eq1 l (.str n) (.str m) = some r) : (n == m) = r := by
  cases l <;> simp [eq1] at h
  exact h
theorem eq1_bool {l : Lf} {n m : Bool} {r : Bool} (h : eq1 l (.bool n) (.bool m) = some r) : (n == m) = r := by
  cases l <;> simp only [eq1, Option.some.injEq] at h <;> first | exact h | cases h

/-- Two keys: of one cell each, or structs. -/
theorem eqk_cases {ls : List Lf} {v v' : V} {r : Bool} (h : eqk ls v v' = some r) :
    (∃ kd n m, v = .int kd n ∧ v' = .int kd m ∧ (n == m) = r) ∨ (∃ s s', v = .str s ∧ v' = .str s' ∧ (s == s') = r) ∨ (∃ b b', v = .bool b ∧ v' = .bool b' ∧ (b == b') = r) ∨ (∃ xs ys, v = .agg xs ∧ v' = .agg ys ∧ eqs ls xs ys = some r) ∨
    (∃ l, ls = [l] ∧ eq1 l v v' = some r) := by
  obtain ⟨xs, ys, h1, h2, h3, _, _⟩ := eqk_spec h
  unfold keyCs at h1 h2
  split at h1
  · have e1 : xs = [v] := by split at h1 <;> first | (cases h1; rfl; done) | cases h1
    have e2 : ys = [v'] := by simp only at h2; split at h2 <;> first | (cases h2; rfl; done) | cases h2
    subst e1; subst e2
    exact .inr (.inr (.inr (.inr ⟨_, rfl, eqs1 h3⟩)))
  · rename_i hne
    have e1 : v = .agg xs := by split at h1 <;> first | (cases h1; rfl; done) | cases h1
    have e2 : v' = .agg ys := by
      split at h2
      · exact (hne _ rfl).elim
      · split at h2 <;> first | (cases h2; rfl; done) | cases h2
    subst e1; subst e2
    exact .inr (.inr (.inr (.inl ⟨xs, ys, rfl, rfl, h3⟩)))

theorem eq1_cases {l : Lf} {v v' : V} {r : Bool} (h : eq1 l v v' = some r) : (∃ kd n m, v = .int kd n ∧ v' = .int kd m ∧ (n == m) = r) ∨ (∃ s s', v = .str s ∧ v' = .str s' ∧ (s == s') = r) ∨ (∃ b b', v = .bool b ∧ v' = .bool b' ∧ (b == b') = r) := by
  cases l with
  | int kk =>
    cases v <;> cases v' <;> simp [eq1] at h
    obtain ⟨rfl, h⟩ := h
    exact .inl ⟨_, _, _, rfl, rfl, h⟩
  | str =>
    cases v <;> cases v' <;> simp [eq1] at h
    exact .inr (.inl ⟨_, _, rfl, rfl, h⟩)
  | bool =>
    cases v <;> cases v' <;> simp only [eq1, Option.some.injEq] at h <;> first | (cases h; done) | exact .inr (.inr ⟨_, _, rfl, rfl, h⟩)

theorem eqk_cases' {ls : List Lf} {v v' : V} {r : Bool} (h : eqk ls v v' = some r) :
    (∃ kd n m, v = .int kd n ∧ v' = .int kd m ∧ (n == m) = r) ∨ (∃ s s', v = .str s ∧ v' = .str s' ∧ (s == s') = r) ∨ (∃ b b', v = .bool b ∧ v' = .bool b' ∧ (b == b') = r) ∨ (∃ xs ys, v = .agg xs ∧ v' = .agg ys ∧ eqs ls xs ys = some r) := by
  rcases eqk_cases h with h | h | h | h | ⟨l, rfl, hq⟩
  · exact .inl h
  · exact .inr (.inl h)
  · exact .inr (.inr (.inl h))
  · exact .inr (.inr (.inr h))
  · rcases eq1_cases hq with h | h | h
    · exact .inl h
    · exact .inr (.inl h)
    · exact .inr (.inr (.inl h))

theorem sameNow_eq {ls : List Lf} {v v' : V} {x y : Value} {kd : TypeDesc} {b r : Bool} (hv : VR μ v x) (hv' : VR μ v' y) (h : eqk ls v v' = some r) (hs : Instr.sameNow kd x y = some b) : b = r := by
  rcases eqk_cases' h with ⟨kk, n, m, rfl, rfl, hq⟩ | ⟨n, m, rfl, rfl, hq⟩ | ⟨n, m, rfl, rfl, hq⟩ | ⟨xs, ys, rfl, rfl, hq⟩ <;> simp only [VR] at hv hv'
  · subst hv; subst hv'
    cases kd <;> simp [Instr.sameNow] at hs
    rw [← hs, hq]
  · subst hv; subst hv'
    cases kd <;> simp [Instr.sameNow] at hs
    rw [← hs, hq]
  · subst hv; subst hv'
    cases kd <;> simp only [Instr.sameNow, Option.some.injEq] at hs <;> first | (cases hs; done) | rw [← hs, hq]
  · obtain ⟨us, _, rfl⟩ := hv
    simp [Instr.sameNow] at hs

theorem findNow_run {ls : List Lf} {kx : V} {x : Value} (hx : VR μ kx x) {kd : TypeDesc} : ∀ (es : List (V × V × Nat)) (l : List MapEntry) (i : Nat) (res : Option (Nat × V)) (r : Option (Nat × Value)), ERs μ es l → findk ls kx es i = some res → Instr.findNow kd x l i = some r → FR μ res r
  | [], l, i, res, r, he, h, hf => by
    simp only [ERs] at he; subst he
    simp only [findk] at h; cases h
    simp only [Instr.findNow] at hf; cases hf
    rfl
  | e :: es, l, i, res, r, he, h, hf => by
    obtain ⟨m, ms, rfl, h1, h2, h3, h4⟩ := he
    simp only [findk] at h
    simp only [Instr.findNow] at hf
    split at hf
    · rename_i hs
      split at h
      · cases h; cases hf; exact ⟨m.val, rfl, h2⟩
      · rename_i hq; have := sameNow_eq hx h1 hq hs; cases this
      · cases h
    · rename_i hs
      split at h
      · rename_i hq; have := sameNow_eq hx h1 hq hs; cases this
      · exact findNow_run hx es ms (i + 1) res r h4 h hf
      · cases h
    · cases hf

theorem findKey_run {ty : TypeId} {ls : List Lf} (hk : keyLs P ty ls = true) {kx : V} {x : Value} (hx : VR μ kx x) {es : List (V × V × Nat)} {l : List MapEntry} {res : Option (Nat × V)} (he : ERs μ es l) (h : findk ls kx es 0 = some res) :
    ∃ r, FR μ res r ∧ (Instr.findKey ty x l).run P w = .ok r w := by
  obtain ⟨kd, hu⟩ := Option.isSome_iff_exists.1 (leavesT_some (lfsOk_spec (keyLs_spec hk).1).1).1
  cases e : Instr.findNow kd x l 0 with
  | some r => exact ⟨r, findNow_run hx es l 0 res r he h e, by simp [Instr.findKey, run_underlying hu, e]⟩
  | none =>
    obtain ⟨r, g1, g2⟩ := findAsking_run (w := w) hk hx es l 0 res he h
    exact ⟨r, g1, by simp [Instr.findKey, run_underlying hu, e, g2]⟩

theorem bytes_eq {n m : ByteArray} (h : (n == m) = true) : n = m := by
  obtain ⟨n⟩ := n
  obtain ⟨m⟩ := m
  congr 1
  have : (n == m) = true := h
  exact beq_iff_eq.1 this

theorem sameBits1 (n : Nat) {l : Lf} {x y : V} {u v : Value} (hu : VR μ x u) (hv : VR μ y v) (h : eq1 l x y = some true) : Instr.sameBits n v u = true := by
  rcases eq1_cases h with ⟨kk, a, b, rfl, rfl, hq⟩ | ⟨a, b, rfl, rfl, hq⟩ | ⟨a, b, rfl, rfl, hq⟩ <;> simp only [VR] at hu hv <;> subst hu <;> subst hv
  · have := beq_iff_eq.1 hq; subst this; simp [Instr.sameBits]
  · simp only [Instr.sameBits, beq_toListBytes]; rw [beq_toListBytes] at hq; rw [beq_iff_eq.1 hq]; exact beq_self_eq_true _
  · have := beq_iff_eq.1 hq; subst this; simp [Instr.sameBits]

theorem sameBits_cells (n : Nat) : ∀ (ls : List Lf) (xs ys : List V) (us vs : List Value), VRs μ xs us → VRs μ ys vs → eqs ls xs ys = some true → us.length = vs.length ∧ ((vs.zip us).all fun (x, y) => Instr.sameBits n x y) = true
  | [], xs, ys, us, vs, hx, hy, h => by
    cases xs <;> cases ys <;> simp [eqs] at h
    rw [VRs_nil.1 hx, VRs_nil.1 hy]; simp
  | l :: ls, [], ys, us, vs, hx, hy, h => by simp [eqs] at h
  | l :: ls, x :: xs, [], us, vs, hx, hy, h => by simp [eqs] at h
  | l :: ls, x :: xs, y :: ys, us, vs, hx, hy, h => by
    obtain ⟨u, us, rfl, hu, hx⟩ := VRs_cons.1 hx
    obtain ⟨v, vs, rfl, hv, hy⟩ := VRs_cons.1 hy
    simp only [eqs] at h
    split at h
    · rename_i e
      obtain ⟨g1, g2⟩ := sameBits_cells n ls xs ys us vs hx hy h
      refine ⟨by simp [g1], ?_⟩
      rw [List.zip_cons_cons, List.all_cons, g2, Bool.and_true]
      exact sameBits1 n hu hv e
    · cases h
    · cases h

theorem eqk_bits {ls : List Lf} {v v' : V} {x y : Value} (hv : VR μ v x) (hv' : VR μ v' y) (h : eqk ls v v' = some true) : Instr.sameBits 10000 y x = true := by
  rcases eqk_cases h with ⟨kk, a, b, rfl, rfl, hq⟩ | ⟨a, b, rfl, rfl, hq⟩ | ⟨a, b, rfl, rfl, hq⟩ | ⟨xs, ys, rfl, rfl, hq⟩ | ⟨l, rfl, hq⟩
  · exact sameBits1 (l := .int kk) 10000 hv hv' (by simp only [eq1, if_true, hq])
  · exact sameBits1 (l := .str) 10000 hv hv' (by simp only [eq1, hq])
  · exact sameBits1 (l := .bool) 10000 hv hv' (by simp only [eq1, hq])
  · simp only [VR] at hv hv'
    obtain ⟨us, hus, rfl⟩ := hv
    obtain ⟨vs, hvs, rfl⟩ := hv'
    obtain ⟨g1, g2⟩ := sameBits_cells 9999 ls xs ys us vs hus hvs hq
    show Instr.sameBits (9999 + 1) (.agg ⟨vs⟩) (.agg ⟨us⟩) = true
    simp only [Instr.sameBits, List.size_toArray, g1, beq_self_eq_true, Bool.true_and]
    exact g2
  · exact sameBits1 10000 hv hv' hq

/-! ### entries -/
theorem ERs_length : ∀ {es : List (V × V × Nat)} {l : List MapEntry}, ERs μ es l → l.length = es.length
  | [], l, h => by simp only [ERs] at h; subst h; rfl
  | e :: es, l, h => by obtain ⟨m, ms, rfl, _, _, _, h⟩ := h; simp [ERs_length h]
theorem ERs_get : ∀ {es : List (V × V × Nat)} {l : List MapEntry}, ERs μ es l → ∀ (i : Nat) e, es[i]? = some e → ∃ m, l[i]? = some m ∧ VR μ e.1 m.key ∧ VR μ e.2.1 m.val ∧ e.2.2 = m.born
  | [], l, h, i, e, he => by simp at he
  | e' :: es, l, h, i, e, he => by
    obtain ⟨m, ms, rfl, h1, h2, h3, h⟩ := h
    cases i with
    | zero => simp at he; subst he; exact ⟨m, rfl, h1, h2, h3⟩
    | succ i => simp at he; simpa using ERs_get h i e he
theorem ERs_append : ∀ {es fs : List (V × V × Nat)} {l m : List MapEntry}, ERs μ es l → ERs μ fs m → ERs μ (es ++ fs) (l ++ m)
  | [], fs, l, m, h, h' => by simp only [ERs] at h; subst h; exact h'
  | e :: es, fs, l, m, h, h' => by
    obtain ⟨x, xs, rfl, h1, h2, h3, h⟩ := h
    exact ⟨x, xs ++ m, rfl, h1, h2, h3, ERs_append h h'⟩
theorem ERs_modify {f : V × V × Nat → V × V × Nat} {g : MapEntry → MapEntry} (hfg : ∀ e m, VR μ e.1 m.key → VR μ e.2.1 m.val → e.2.2 = m.born → VR μ (f e).1 (g m).key ∧ VR μ (f e).2.1 (g m).val ∧ (f e).2.2 = (g m).born) :
    ∀ {es : List (V × V × Nat)} {l : List MapEntry} (i : Nat), ERs μ es l → ERs μ (es.modify i f) (l.modify i g)
  | [], l, i, h => by simp only [ERs] at h; subst h; cases i <;> exact rfl
  | e :: es, l, 0, h => by
    obtain ⟨x, xs, rfl, h1, h2, h3, h⟩ := h
    obtain ⟨g1, g2, g3⟩ := hfg e x h1 h2 h3
    exact ⟨g x, xs, rfl, g1, g2, g3, h⟩
  | e :: es, l, i + 1, h => by
    obtain ⟨x, xs, rfl, h1, h2, h3, h⟩ := h
    exact ⟨x, xs.modify i g, rfl, h1, h2, h3, ERs_modify hfg i h⟩
theorem ERs_erase : ∀ {es : List (V × V × Nat)} {l : List MapEntry} (i : Nat), ERs μ es l → ERs μ (es.eraseIdx i) (l.eraseIdx i)
  | [], l, i, h => by simp only [ERs] at h; subst h; exact rfl
  | e :: es, l, 0, h => by
    obtain ⟨x, xs, rfl, h1, h2, h3, h⟩ := h
    exact h
  | e :: es, l, i + 1, h => by
    obtain ⟨x, xs, rfl, h1, h2, h3, h⟩ := h
    exact ⟨x, xs.eraseIdx i, rfl, h1, h2, h3, ERs_erase i h⟩

theorem mapOf_spec {b : Nat} {x : List (V × V × Nat) × Nat} (h : mapOf (σ.get b) = some x) : σ.get b = some (.map x.1 x.2) := by
  unfold mapOf at h
  split at h
  · rename_i e; cases h; exact e
  · cases h

theorem SR.map (hs : SR P N0 μ σ w) {b : Nat} {es : List (V × V × Nat)} {clock : Nat} (h : σ.get b = some (.map es clock)) : ∃ c arr, μ.pl b = some (c, 0) ∧ w.heap[c]? = some (.map arr clock) ∧ ERs μ es arr.toList ∧ c < w.heap.size := by
  obtain ⟨c, d, hp, hd, arr, h1, h2⟩ := hs.obj b _ h (by simp)
  subst hd
  exact ⟨c, arr, hp, h1, h2, (Array.getElem?_eq_some_iff.1 h1).1⟩

theorem run_getObj {c : Nat} {x : Go.Obj} (h : w.heap[c]? = some x) (hn : ∀ a b d, x ≠ .cells a b d) : (getObj c).run P w = .ok x w := by
  cases x <;> first | exact absurd rfl (hn _ _ _) | simp only [getObj, Sem.run, h]
theorem run_setObj {c : Nat} {x y : Go.Obj} (h : w.heap[c]? = some x) (hn : ∀ a b d, x ≠ .cells a b d) : (setObj c y).run P w = .ok () { w with heap := w.heap.setIfInBounds c y } := by
  cases x <;> first | exact absurd rfl (hn _ _ _) | simp only [setObj, Sem.run, h]

theorem map_post (hs : SR P N0 μ σ w) {b : Nat} {o₀ o' : Obj} {c : Nat} {x y : Go.Obj} (hg : σ.get b = some o₀) (hf : o₀.free = true) (hp : μ.pl b = some (c, 0)) (hx : w.heap[c]? = some x) (hro : ∀ vs, o' ≠ .cells true vs) (ho : ObjR P μ o' (some y) c 0) :
    Post P N0 μ σ w μ (σ.put b o') { w with heap := w.heap.setIfInBounds c y } := by
  have hlt := (Array.getElem?_eq_some_iff.1 hx).1
  exact Post.put hs hg hf hp hro (by simp) (x := y) (by simp [hlt]) (fun k hk => by simp [Array.getElem?_setIfInBounds_ne (Ne.symm hk)]) rfl rfl rfl (fun _ => ho)

theorem s_look (hs : SR P N0 μ σ w) (ht : TR μ d t a.tmps) (hn : a.tmps.size = nt) {ls : List Lf} {zero : V} {x' k' : Opd} {ok : Bool} (hop : opOk P d nt o.op o.type (.look ls zero x' k' ok) = true) (h : evalOp (.look ls zero x' k' ok) K t σ k) : OpS P N0 μ σ w (execOp a.eval o) k := by
  have hk : lookv ls zero ok (opd t x') (opd t k') k σ := h
  have : ∃ ty x kx kt el, o.op = .lookup ty x kx ok ∧ P.underlying ty = some (.map kt el) ∧ keyLs P kt ls = true ∧ zeroVOk (zeroT P el) zero = true ∧ opdOk d nt x x' = true ∧ opdOk d nt kx k' = true := by
    replace hop : ok_look P d nt o.op ls zero x' k' ok = true := hop
    unfold ok_look at hop
    split at hop
    · rename_i e
      split at hop
      · rename_i kt el hel
        simp only [Bool.and_eq_true, beq_iff_eq] at hop
        obtain ⟨⟨⟨⟨h1, h2⟩, rfl⟩, h4⟩, h5⟩ := hop
        exact ⟨_, _, _, kt, el, e, mapKE_spec hel, h1, h2, h4, h5⟩
      · cases hop
    · cases hop
  obtain ⟨ty, x, kx, kt, el, he, hu, hls, hz, hx, hkx⟩ := this
  have vx := opdOk_VR ht hn hx
  have vk := opdOk_VR ht hn hkx
  generalize opd t x' = m at hk vx
  generalize opd t k' = key at hk vk
  unfold lookv at hk
  split at hk
  · cases hk
  rename_i es hes
  split at hk
  · rename_i hkey
    obtain ⟨arr, her, hmx⟩ : ∃ arr : Array MapEntry, ERs μ es arr.toList ∧ ((a.eval x = .map none ∧ arr = #[]) ∨ ∃ c clock, a.eval x = .map (some c) ∧ (getObj c).run P w = .ok (.map arr clock) w) := by
      unfold entriesOf at hes
      split at hes
      · cases hes; simp only [VR] at vx; exact ⟨#[], rfl, .inl ⟨vx, rfl⟩⟩
      · rename_i b
        cases hm : mapOf (σ.get b) with
        | none => rw [hm] at hes; cases hes
        | some p =>
          rw [hm] at hes; cases hes
          obtain ⟨c, arr, hp, h1, h2, _⟩ := hs.map (mapOf_spec hm)
          simp only [VR] at vx
          obtain ⟨c', hp', vx⟩ := vx
          rw [hp] at hp'; cases hp'
          exact ⟨arr, h2, .inr ⟨c, p.2, vx, run_getObj h1 (by simp)⟩⟩
      · cases hes
    have hck := keyOk_check (P := P) (w := w) hls vk hkey arr.isEmpty
    have hzv : ∃ z, (zeroValue el).run P w = .ok z w ∧ VR μ zero z := by
      unfold zeroVOk at hz
      split at hz
      · rename_i z e; exact ⟨z, run_zeroValue e, constOk_VR hz⟩
      · cases hz
    obtain ⟨z, hz1, hz2⟩ := hzv
    rw [show execOp a.eval o = (do Pure.pure (.value (← Instr.lookup ty (a.eval x) (a.eval kx) ok))) by simp [execOp, he]]
    split at hk
    · rename_i i v hfnd
      obtain ⟨r, ⟨u, rfl, hr⟩, hrun⟩ := findKey_run (P := P) (w := w) hls vk her hfnd
      have hl : ∀ b, b = ok → (Instr.lookup ty (a.eval x) (a.eval kx) b).run P w = .ok (if b = true then .tuple #[u, .bool true] else u) w := by
        intro b _
        rcases hmx with ⟨e1, e2⟩ | ⟨c, clock, e1, e2⟩
        · rw [e2] at hck hrun
          simp only [Instr.lookup, Sem.run_bind, run_underlying hu, Result.andThen_ok, e1, Sem.run_pure, hck, hrun]
        · simp only [Instr.lookup, Sem.run_bind, run_underlying hu, Result.andThen_ok, e1, e2, Sem.run_pure, hck, hrun]
      cases ok with
      | true => exact OpS.val hs (cv := .tuple #[u, .bool true]) (by simpa using hk) (by simp only [VR]; exact ⟨[u, .bool true], VRs_cons.2 ⟨_, _, rfl, hr, VRs_cons.2 ⟨_, _, rfl, VR_bool, VRs_nil.2 rfl⟩⟩, rfl⟩) (hl true rfl)
      | false => exact OpS.val hs (by simpa using hk) hr (hl false rfl)
    · rename_i hfnd
      obtain ⟨r, hr, hrun⟩ := findKey_run (P := P) (w := w) hls vk her hfnd
      have hr : r = none := hr
      subst hr
      have hl : ∀ b, b = ok → (Instr.lookup ty (a.eval x) (a.eval kx) b).run P w = .ok (if b = true then .tuple #[z, .bool false] else z) w := by
        intro b _
        rcases hmx with ⟨e1, e2⟩ | ⟨c, clock, e1, e2⟩
        · rw [e2] at hck hrun
          simp only [Instr.lookup, Sem.run_bind, run_underlying hu, Result.andThen_ok, e1, Sem.run_pure, hck, hrun, hz1]
        · simp only [Instr.lookup, Sem.run_bind, run_underlying hu, Result.andThen_ok, e1, e2, Sem.run_pure, hck, hrun, hz1]
      cases ok with
      | true => exact OpS.val hs (cv := .tuple #[z, .bool false]) (by simpa using hk) (by simp only [VR]; exact ⟨[z, .bool false], VRs_cons.2 ⟨_, _, rfl, hz2, VRs_cons.2 ⟨_, _, rfl, VR_bool, VRs_nil.2 rfl⟩⟩, rfl⟩) (hl true rfl)
      | false => exact OpS.val hs (by simpa using hk) hz2 (hl false rfl)
    · cases hk
  · cases hk

end
end Go.Proofs.Ytnmkbnejapdnnaa.Ev
