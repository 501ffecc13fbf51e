/-
  Regions of open order: whatever order the machine takes.
-/
import Derived.Test.YtnmkbnejapdnnaaEvRegA
set_option linter.unusedVariables false
set_option maxRecDepth 4000
namespace Go.Proofs.Ytnmkbnejapdnnaa.Ev
open Go

/-! ### one item -/
noncomputable def putd (it : EI) (t : Tr) (v : V) : Tr :=
  match it.dst with
  | some q => stt q t v
  | none => t

def gP (it : EI) (t : Tr) (yes no : Prop) : Prop :=
  match it with
  | .g c b _ _ => wantP (gt c t) b yes no
  | .gu c b _ => wantP (gt c t) b yes no
  | _ => yes

def gYes (it : EI) (t : Tr) : Prop :=
  match it with
  | .g c b _ _ => gt c t = .bool b
  | .gu c b _ => gt c t = .bool b
  | _ => True

def gNo (it : EI) (t : Tr) : Prop :=
  match it with
  | .g c b _ _ => (∃ x, gt c t = .bool x ∧ x ≠ b) ∨ ∃ vs, gt c t = .tup vs
  | .gu c b _ => (∃ x, gt c t = .bool x ∧ x ≠ b) ∨ ∃ vs, gt c t = .tup vs
  | _ => False

theorem dI_eq (j m : Nat) (it : EI) (rest : Cd) (ev : List (Nat × Evt)) (K : KT) (t : Tr) (σ : St) (k : Tr → St → Prop) :
    dI j m it rest ev K t σ k = gP it t (dOp j m it.op (fun v ev K t σ k => rest ev K (putd it t v) σ k) ev K t σ k) (rest ev K (putd it t (.tup [])) σ k) := by cases it <;> rfl

theorem gP_elim {it : EI} {t : Tr} {yes no : Prop} (h : gP it t yes no) : (gYes it t ∧ yes) ∨ (gNo it t ∧ no) := by
  cases it with
  | u op => exact .inl ⟨trivial, h⟩
  | s q op => exact .inl ⟨trivial, h⟩
  | g c b q op => exact wantP_elim h
  | gu c b op => exact wantP_elim h

theorem gYes_ag {it : EI} {t t' : Tr} (h : AgS it.grd t t') (hg : gYes it t) : gYes it t' := by
  cases it with
  | u op => trivial
  | s q op => trivial
  | g c b q op => show gt c t' = _; rw [← h c (by simp [EI.grd])]; exact hg
  | gu c b op => show gt c t' = _; rw [← h c (by simp [EI.grd])]; exact hg
theorem gNo_ag {it : EI} {t t' : Tr} (h : AgS it.grd t t') (hg : gNo it t) : gNo it t' := by
  cases it with
  | u op => exact hg.elim
  | s q op => exact hg.elim
  | g c b q op => show (∃ x, gt c t' = .bool x ∧ x ≠ b) ∨ ∃ vs, gt c t' = .tup vs; rw [← h c (by simp [EI.grd])]; exact hg
  | gu c b op => show (∃ x, gt c t' = .bool x ∧ x ≠ b) ∨ ∃ vs, gt c t' = .tup vs; rw [← h c (by simp [EI.grd])]; exact hg

section
variable {P : Program} {N0 : Nat} {μ μ' μ₀ : Mp} {σ σ' σ₀ τ : St} {w w' w₀ : World} {K : KT} {d nt : Nat} {a : Act} {t t' : Tr} {o : Oper} {it : EI}

theorem itemOk_op {ops : List Oper} (h : itemOk P d nt ops o it = true) : opOk P d nt o.op o.type it.op = true := by
  cases it <;> simp only [itemOk, Bool.and_eq_true] at h <;> exact h.2
theorem itemOk_dst {ops : List Oper} (h : itemOk P d nt ops o it = true) : (it.dst = none ∧ o.dst = none) ∨ ∃ i, it.dst = some (pth d i) ∧ o.dst = some i ∧ i < nt := by
  cases it <;> simp only [itemOk, Bool.and_eq_true, Option.isNone_iff_eq_none] at h
  · exact .inl ⟨rfl, h.1.1⟩
  · obtain ⟨i, h1, rfl, h3⟩ := dstOk_spec h.1.1; exact .inr ⟨i, rfl, h1, h3⟩
  · obtain ⟨i, h1, rfl, h3⟩ := dstOk_spec h.1.1; exact .inr ⟨i, rfl, h1, h3⟩
  · exact .inl ⟨rfl, h.1.1⟩

theorem wanted_item {ops : Array Oper} (h : itemOk P d nt ops.toList o it = true) (hn : a.tmps.size = nt) (hv : ∀ c ∈ it.grd, ∀ i, i < nt → c = pth d i → VR μ (gt c t) (a.tmps.getD i undef)) :
    (gYes it t → Region.wanted o (yielded ops a.tmps) = true) ∧ (gNo it t → Region.wanted o (yielded ops a.tmps) = false) := by
  have key : ∀ (c : Pth) (b : Bool), grdOk d nt ops.toList o.guard c b = true → c ∈ it.grd → (gt c t = .bool b → Region.wanted o (yielded ops a.tmps) = true) ∧ (((∃ x, gt c t = .bool x ∧ x ≠ b) ∨ ∃ vs, gt c t = .tup vs) → Region.wanted o (yielded ops a.tmps) = false) := by
    intro c b hg hc
    constructor
    · intro e
      have hw : wantP (gt c t) b True False := by rw [e]; cases b <;> exact trivial
      rcases wanted_of hn hg (hv c hc) hw with ⟨_, _, h⟩ | ⟨_, h, _⟩
      · exact h
      · exact h.elim
    · intro e
      have hw : wantP (gt c t) b False True := by
        rcases e with ⟨x, e, hx⟩ | ⟨vs, e⟩
        · rw [e]; cases x <;> cases b <;> first | exact trivial | exact absurd rfl hx
        · rw [e]; exact trivial
      rcases wanted_of hn hg (hv c hc) hw with ⟨_, h, _⟩ | ⟨_, _, h⟩
      · exact h.elim
      · exact h
  cases it <;> simp only [itemOk, Bool.and_eq_true, Option.isNone_iff_eq_none] at h
  · exact ⟨fun _ => wanted_none h.1.2, fun h => h.elim⟩
  · exact ⟨fun _ => wanted_none h.1.2, fun h => h.elim⟩
  · exact key _ _ h.1.2 (by simp [EI.grd])
  · exact key _ _ h.1.2 (by simp [EI.grd])

/-! ### events -/
theorem nmem_iff {b : Nat} : ∀ {l : List Nat}, nmem b l = true ↔ b ∈ l
  | [] => by simp [show nmem b [] = false from rfl]
  | c :: l => by
    have e : nmem b (c :: l) = Bool.rec (motive := fun _ => Bool) (nmem b l) true (Nat.beq c b) := rfl
    rw [e]
    by_cases h : c = b
    · subst h; rw [beq_iff.2 rfl]; simp
    · rw [beq_false.2 h]; show nmem b l = true ↔ _; rw [nmem_iff]; simp [Ne.symm h]

theorem okRd_spec {m r of' : Nat} {n : Option Nat} : ∀ {ev : List (Nat × Evt)}, okRd m r of' n ev = true → ∀ i b, (i, Evt.al b) ∈ ev → tb m i = true ∨ b ≠ r
  | [], _, i, b, h => by simp at h
  | (j, e) :: l, h, i, b, hm => by
    simp only [okRd, Bool.and_eq_true, Bool.or_eq_true] at h
    rcases List.mem_cons.1 hm with hm | hm
    · cases hm
      rcases h.1 with h1 | h1
      · exact .inl h1
      · simp at h1; exact .inr (beq_false.1 h1)
    · exact okRd_spec h.2 i b hm
theorem okSe_spec {m : Nat} {chg : List Nat} : ∀ {ev : List (Nat × Evt)}, okSe m chg σ τ ev = true → ∀ i r of' n, (i, Evt.rd r of' n) ∈ ev → tb m i = true ∨ r ∉ chg ∨ segSame σ τ r of' n = true
  | [], _, i, r, of', n, h => by simp at h
  | (j, e) :: l, h, i, r, of', n, hm => by
    simp only [okSe, Bool.and_eq_true, Bool.or_eq_true] at h
    rcases List.mem_cons.1 hm with hm | hm
    · cases hm
      rcases h.1 with h1 | h1
      · exact .inl h1
      · right
        simp only [Bool.or_eq_true, Bool.not_eq_true'] at h1
        rcases h1 with h1 | h1
        · left; intro hc; rw [nmem_iff.2 hc] at h1; cases h1
        · exact .inr h1
    · exact okSe_spec h.2 i r of' n hm
theorem mem_hid {m b : Nat} : ∀ {ev : List (Nat × Evt)}, b ∈ hid m ev ↔ ∃ i, (i, Evt.al b) ∈ ev ∧ tb m i = false
  | [] => by simp [hid]
  | (j, e) :: l => by
    simp only [hid]
    cases hb : tb m j with
    | true =>
      dsimp only
      rw [mem_hid]
      constructor
      · rintro ⟨i, h1, h2⟩; exact ⟨i, List.mem_cons_of_mem _ h1, h2⟩
      · rintro ⟨i, h1, h2⟩
        rcases List.mem_cons.1 h1 with h1 | h1
        · cases h1; rw [hb] at h2; cases h2
        · exact ⟨i, h1, h2⟩
    | false =>
      dsimp only
      cases e with
      | al c =>
        dsimp only
        rw [List.mem_cons, mem_hid]
        constructor
        · rintro (rfl | ⟨i, h1, h2⟩)
          · exact ⟨j, by simp, hb⟩
          · exact ⟨i, List.mem_cons_of_mem _ h1, h2⟩
        · rintro ⟨i, h1, h2⟩
          rcases List.mem_cons.1 h1 with h1 | h1
          · cases h1; exact .inl rfl
          · exact .inr ⟨i, h1, h2⟩
      | rd r o' n =>
        dsimp only
        rw [mem_hid]
        constructor
        · rintro ⟨i, h1, h2⟩; exact ⟨i, List.mem_cons_of_mem _ h1, h2⟩
        · rintro ⟨i, h1, h2⟩
          rcases List.mem_cons.1 h1 with h1 | h1
          · cases h1
          · exact ⟨i, h1, h2⟩
      | se c s s' =>
        dsimp only
        rw [mem_hid]
        constructor
        · rintro ⟨i, h1, h2⟩; exact ⟨i, List.mem_cons_of_mem _ h1, h2⟩
        · rintro ⟨i, h1, h2⟩
          rcases List.mem_cons.1 h1 with h1 | h1
          · cases h1
          · exact ⟨i, h1, h2⟩

theorem read_lt {op : EOp} {x : Opd} {n : Option Nat} {k : Cn} (hc : clsOf op = .read x n) {r : Nat × Nat} (hr : vblk (opd t x) = some r) (h : evalOp op K t σ k) : r.1 < σ.n := by
  have key : ∀ b, (∃ y, cellsOf (σ.get b) = some y) ∨ (∃ y, mapOf (σ.get b) = some y) → b < σ.n := by
    intro b hb
    cases e : σ.get b with
    | none => rw [e] at hb; rcases hb with ⟨y, hb⟩ | ⟨y, hb⟩ <;> cases hb
    | some o => exact get_lt e
  cases op <;> first
    | (cases hc; done)
    | skip
  case ld n' y =>
    cases hc
    have h : ldv n' (opd t x) k σ := h
    cases hx : opd t x <;> rw [hx] at h hr <;> first | (cases hr; done) | (exact False.elim h) | skip
    case ptr b o' =>
      cases hr
      have h : Option.rec (motive := fun _ => Sk) fail (fun vs => partv o' n' vs) (cellsOf (σ.get b)) k σ := h
      cases e : cellsOf (σ.get b) with
      | none => rw [e] at h; exact False.elim h
      | some y => exact key b (.inl ⟨y, e⟩)
  case look ls z y z' ok =>
    cases hc
    have h : lookv ls z ok (opd t x) (opd t z') k σ := h
    unfold lookv at h
    cases hx : opd t x <;> rw [hx] at h hr <;> first | (cases hr; done) | skip
    case ptr b o' => exact False.elim h
    case map b =>
      cases hr
      cases e : mapOf (σ.get b) with
      | none => simp [entriesOf, e] at h
      | some y => exact key b (.inr ⟨y, e⟩)
  case lenm y =>
    cases hc
    have h : mlenv (opd t x) k σ := h
    unfold mlenv at h
    cases hx : opd t x <;> rw [hx] at h hr <;> first | (cases hr; done) | skip
    case ptr b o' => exact False.elim h
    case map b =>
      cases hr
      cases e : mapOf (σ.get b) with
      | none => simp [entriesOf, e] at h
      | some y => exact key b (.inr ⟨y, e⟩)

/-! ### slots that are not known yet -/
noncomputable def er (qs : List Pth) (t : Tr) : Tr := qs.foldr (fun q t => stt q t .bot) t

theorem gt_er (hd : nt ≤ 16 ^ d) : ∀ (qs : List Pth), (∀ q ∈ qs, ∃ i, q = pth d i ∧ i < nt) → ∀ i, i < 16 ^ d → gt (pth d i) (er qs t) = if pth d i ∈ qs then .bot else gt (pth d i) t
  | [], _, i, hi => by simp [er]
  | q :: qs, hq, i, hi => by
    obtain ⟨j, rfl, hj⟩ := hq q (by simp)
    have e : er (pth d j :: qs) t = stt (pth d j) (er qs t) .bot := rfl
    rw [e, gt_stt d i j _ _ hi (Nat.lt_of_lt_of_le hj hd), gt_er hd qs (fun q h => hq q (by simp [h])) i hi]
    by_cases h : i = j
    · subst h; simp
    · have hne : pth d i ≠ pth d j := by
        intro he
        have h1 := gt_stt d i j t (.bool true) hi (Nat.lt_of_lt_of_le hj hd)
        have h2 := gt_stt d i j t (.bool false) hi (Nat.lt_of_lt_of_le hj hd)
        have h3 := gt_stt d i i t (.bool true) hi hi
        have h4 := gt_stt d i i t (.bool false) hi hi
        rw [if_neg h] at h1 h2
        rw [if_pos rfl] at h3 h4
        rw [← he] at h1 h2
        rw [h3] at h1; rw [h4] at h2
        rw [← h1] at h2; cases h2
      rw [if_neg h]
      simp [hne]

theorem pth_inj (hd : nt ≤ 16 ^ d) {i j : Nat} (hi : i < 16 ^ d) (hj : j < 16 ^ d) (he : pth d i = pth d j) : i = j := by
  rcases Nat.decEq i j with h | h
  · exfalso
    have h1 := gt_stt d i j Tr.root (.bool true) hi hj
    have h2 := gt_stt d i j Tr.root (.bool false) hi hj
    have h3 := gt_stt d i i Tr.root (.bool true) hi hi
    have h4 := gt_stt d i i Tr.root (.bool false) hi hi
    rw [if_neg h] at h1 h2
    rw [if_pos rfl] at h3 h4
    rw [← he] at h1 h2
    rw [h3] at h1; rw [h4] at h2
    rw [← h1] at h2; cases h2
  · exact h

theorem mOk_spec {ps : List Pth} (h : mOk d ps = true) {p : Pth} (hp : p ∈ ps) : ∃ i, p = pth d i ∧ i < 16 ^ d := by
  obtain ⟨ts, rfl, ht⟩ := mask_paths h
  obtain ⟨i, h1, rfl⟩ := List.mem_map.1 hp
  exact ⟨i, rfl, ht i h1⟩

/-- Writing one slot leaves the others. -/
theorem ag_stt {ps : List Pth} (hm : mOk d ps = true) {i : Nat} (hi : i < 16 ^ d) (hn : pth d i ∉ ps) (v : V) : AgS ps t (stt (pth d i) t v) := by
  intro p hp
  obtain ⟨j, rfl, hj⟩ := mOk_spec hm hp
  rw [gt_stt d j i t v hj hi, if_neg]
  rintro rfl; exact hn hp

theorem ag_er (hd : nt ≤ 16 ^ d) {ps qs : List Pth} (hm : mOk d ps = true) (hq : ∀ q ∈ qs, ∃ i, q = pth d i ∧ i < nt) (hn : ∀ p ∈ ps, p ∉ qs) : AgS ps t (er qs t) := by
  intro p hp
  obtain ⟨j, rfl, hj⟩ := mOk_spec hm hp
  rw [gt_er hd qs hq j hj, if_neg (hn _ hp)]

theorem AgS.trans {ps : List Pth} {t₁ t₂ t₃ : Tr} (h : AgS ps t₁ t₂) (h' : AgS ps t₂ t₃) : AgS ps t₁ t₃ := fun p hp => (h p hp).trans (h' p hp)

end
end Go.Proofs.Ytnmkbnejapdnnaa.Ev
