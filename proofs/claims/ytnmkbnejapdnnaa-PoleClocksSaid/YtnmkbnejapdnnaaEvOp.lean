/-
  Operations that look at no memory: what the evaluator says of them the machine does.
-/
import Derived.Test.YtnmkbnejapdnnaaEvHeap
set_option linter.unusedVariables false
set_option maxRecDepth 4000
namespace Go.Proofs.Ytnmkbnejapdnnaa.Ev
open Go

/-! ### what it is to be done -/
def CallGo (P : Program) (f : Nat) (args : Array Value) (w : World) (cv : Value) (w' : World) : Prop :=
  ∀ cs, ∃ fr, Steps P (lone (Frame.enter P f args .normal) cs w) (lone fr cs w') ∧ fr.fn = f ∧ fr.leaving P w' (.returned cv)

def RoundGo (P : Program) (l f : Nat) (tmps : Array Value) (assign body : Code) (w : World) (cv : Value) (w' : World) : Prop :=
  ∀ c cs, Steps P (lone (Frame.round l f tmps assign body .normal) (c :: cs) w) (lone (c.finish cv) cs w')

inductive SemGo (P : Program) (s : Sem Next) (w : World) : Value → World → Prop
  | value {v w'} (h : s.run P w = .ok (.value v) w') : SemGo P s w v w'
  | skip {w'} (h : s.run P w = .ok .skip w') : SemGo P s w undef w'
  | enter {f args w₁ v w'} (h : s.run P w = .ok (.enter f args) w₁) (hc : CallGo P f args w₁ v w') : SemGo P s w v w'
  | round {l f tmps assign body w₁ v w'} (h : s.run P w = .ok (.round l f tmps assign body) w₁) (hc : RoundGo P l f tmps assign body w₁ v w') : SemGo P s w v w'

/-- What is shown of an operation: it is done, and what stands behind it is asked of what it leaves. -/
def OpS (P : Program) (N0 : Nat) (μ : Mp) (σ : St) (w : World) (s : Sem Next) (k : Cn) : Prop :=
  ∃ v σ' μ' w' cv, k v σ' ∧ Post P N0 μ σ w μ' σ' w' ∧ VR μ' v cv ∧ SemGo P s w cv w'

variable {P : Program} {N0 : Nat} {μ : Mp} {σ : St} {w w' : World} {k : Cn}

theorem run_val {s : Sem Value} {cv : Value} (h : s.run P w = .ok cv w') : (do pure (.value (← s)) : Sem Next).run P w = .ok (.value cv) w' := by
  show (s >>= fun x => pure (Next.value x)).run P w = _
  rw [Sem.run_bind, h]; rfl
theorem run_unit {s : Sem Unit} (h : s.run P w = .ok () w') : (do s; pure .skip : Sem Next).run P w = .ok .skip w' := by
  show (s >>= fun _ => pure Next.skip).run P w = _
  rw [Sem.run_bind, h]; rfl

theorem OpS.pure (hs : SR P N0 μ σ w) {v : V} {cv : Value} {s : Sem Next} (hk : k v σ) (hv : VR μ v cv) (h : s.run P w = .ok (.value cv) w) : OpS P N0 μ σ w s k :=
  ⟨v, σ, μ, w, cv, hk, Post.refl hs, hv, .value h⟩
theorem OpS.val (hs : SR P N0 μ σ w) {v : V} {cv : Value} {s : Sem Value} (hk : k v σ) (hv : VR μ v cv) (h : s.run P w = .ok cv w) : OpS P N0 μ σ w (do Pure.pure (.value (← s))) k :=
  OpS.pure hs hk hv (run_val h)

/-! ### what the eliminators say -/
theorem vInt_elim {v : V} {f : IntKind → Int → Sk} (h : vInt v f k σ) : ∃ kd n, v = .int kd n ∧ f kd n k σ := by
  cases v <;> first | exact ⟨_, _, rfl, h⟩ | exact False.elim h
theorem vBool_elim {v : V} {f : Bool → Sk} (h : vBool v f k σ) : ∃ b, v = .bool b ∧ f b k σ := by
  cases v <;> first | exact ⟨_, rfl, h⟩ | exact False.elim h
theorem vStr_elim {v : V} {f : ByteArray → Sk} (h : vStr v f k σ) : ∃ s, v = .str s ∧ f s k σ := by
  cases v <;> first | exact ⟨_, rfl, h⟩ | exact False.elim h
theorem vPtr_elim {v : V} {f : Nat → Nat → Sk} (h : vPtr v f k σ) : ∃ b o, v = .ptr b o ∧ f b o k σ := by
  cases v <;> first | exact ⟨_, _, rfl, h⟩ | exact False.elim h
theorem vAgg_elim {v : V} {f : List V → Sk} (h : vAgg v f k σ) : ∃ cs, v = .agg cs ∧ f cs k σ := by
  cases v <;> first | exact ⟨_, rfl, h⟩ | exact False.elim h
theorem vTup_elim {v : V} {f : List V → Sk} (h : vTup v f k σ) : ∃ cs, v = .tup cs ∧ f cs k σ := by
  cases v <;> first | exact ⟨_, rfl, h⟩ | exact False.elim h
theorem vSlice_elim {v : V} {f : Nat → Nat → Nat → Nat → Option Nat → Sk} (h : vSlice v f k σ) : ∃ b o l c e, v = .slice b o l c e ∧ f b o l c e k σ := by
  cases v <;> first | exact ⟨_, _, _, _, _, rfl, h⟩ | exact False.elim h
theorem boolRec_elim {b : Bool} {f : Sk} (h : Bool.rec (motive := fun _ => Sk) fail f b k σ) : b = true ∧ f k σ := by
  cases b
  · exact False.elim h
  · exact ⟨rfl, h⟩
theorem ixOk_iff {i : Int} {n : Nat} : ixOk i n = true ↔ 0 ≤ i ∧ i < n := by
  cases i with
  | ofNat m => simp [ixOk]
  | negSucc m => simp [ixOk]

theorem nth_elim {l : List V} {n : Nat} (h : nth l n k σ) : ∃ v, l[n]? = some v ∧ k v σ := by
  induction l generalizing n with
  | nil => exact False.elim h
  | cons x l ih =>
    cases n with
    | zero => exact ⟨x, rfl, h⟩
    | succ n => obtain ⟨v, e, hk⟩ := ih h; exact ⟨v, by simpa using e, hk⟩

/-! ### values of the machine's make -/
theorem VR_cells {v : V} {u : Value} (h : VR μ v u) (ho : ones v.cells = true) : VRs μ v.cells u.cells.toList := by
  cases v with
  | agg cs => simp only [VR] at h; obtain ⟨us, h1, rfl⟩ := h; exact h1
  | bot => cases ho
  | tup cs => cases ho
  | bool b => simp only [VR] at h; subst h; exact VRs_cons.2 ⟨_, [], rfl, by simp [VR], VRs_nil.2 rfl⟩
  | int kd n => simp only [VR] at h; subst h; exact VRs_cons.2 ⟨_, [], rfl, by simp [VR], VRs_nil.2 rfl⟩
  | str s => simp only [VR] at h; subst h; exact VRs_cons.2 ⟨_, [], rfl, by simp [VR], VRs_nil.2 rfl⟩
  | ptr b o => have h' := h; simp only [VR] at h; obtain ⟨c, d, _, rfl⟩ := h; exact VRs_cons.2 ⟨_, [], rfl, h', VRs_nil.2 rfl⟩
  | nilptr => simp only [VR] at h; subst h; exact VRs_cons.2 ⟨_, [], rfl, by simp [VR], VRs_nil.2 rfl⟩
  | slice b o l c e => have h' := h; simp only [VR] at h; obtain ⟨c, d, o', cap', _, rfl, _⟩ := h; exact VRs_cons.2 ⟨_, [], rfl, h', VRs_nil.2 rfl⟩
  | nilslice => simp only [VR] at h; subst h; exact VRs_cons.2 ⟨_, [], rfl, by simp [VR], VRs_nil.2 rfl⟩
  | map b => have h' := h; simp only [VR] at h; obtain ⟨c, _, rfl⟩ := h; exact VRs_cons.2 ⟨_, [], rfl, h', VRs_nil.2 rfl⟩
  | nilmap => simp only [VR] at h; subst h; exact VRs_cons.2 ⟨_, [], rfl, by simp [VR], VRs_nil.2 rfl⟩
  | func f x y => have h' := h; simp only [VR] at h; obtain ⟨us, ws, _, _, rfl⟩ := h; exact VRs_cons.2 ⟨_, [], rfl, h', VRs_nil.2 rfl⟩
  | yield l => have h' := h; simp only [VR] at h; obtain ⟨c, _, rfl⟩ := h; exact VRs_cons.2 ⟨_, [], rfl, h', VRs_nil.2 rfl⟩
  | nilfunc => simp only [VR] at h; subst h; exact VRs_cons.2 ⟨_, [], rfl, by simp [VR], VRs_nil.2 rfl⟩

theorem ones_cons (v : V) (l : List V) : ones (v :: l) = (v.one && ones l) := by
  show Bool.rec (motive := fun _ => Bool) false (ones l) v.one = _
  cases v.one <;> rfl

/-- A value of one cell, as the machine stores it. -/
theorem VR_oneCell {v : V} {u : Value} (h : VR μ v u) (ho : v.one = true) : u.oneCell' = true := by
  cases v <;> simp only [VR] at h <;> first | (cases ho; done) | (subst h; rfl) | (obtain ⟨_, _, _, rfl⟩ := h; rfl) | (obtain ⟨_, _, _, _, _, rfl, _⟩ := h; rfl) | (obtain ⟨_, _, rfl⟩ := h; rfl) | (obtain ⟨_, _, _, _, rfl⟩ := h; rfl)

theorem cellOk_VR {v : Value} {x : V} (h : cellOk v x = true) : VR μ x v := by
  cases x <;> simp only [cellOk] at h <;> first | (cases h; done) | skip
  case bool b => cases v <;> simp at h; subst h; simp [VR]
  case int kd n => cases v <;> simp at h; obtain ⟨rfl, rfl⟩ := h; simp [VR]
  case str s =>
    cases v <;> simp at h
    rename_i t
    have : s = t := by cases s; cases t; simp at h; rw [h]
    subst this; simp [VR]
  case nilptr => split at h <;> simp_all [VR]
  case nilslice => split at h <;> simp_all [VR]
  case nilmap => split at h <;> simp_all [VR]
  case nilfunc => cases v <;> simp at h; simp [VR]

theorem cellsOk_VRs : ∀ {vs : List Value} {xs : List V}, cellsOk vs xs = true → VRs μ xs vs
  | [], [], _ => VRs_nil.2 rfl
  | [], x :: xs, h => by simp [cellsOk] at h
  | v :: vs, [], h => by simp [cellsOk] at h
  | v :: vs, x :: xs, h => by
    simp only [cellsOk, Bool.and_eq_true] at h
    exact VRs_cons.2 ⟨v, vs, rfl, cellOk_VR h.1, cellsOk_VRs h.2⟩

theorem constOk_VR {v : Value} {x : V} (h : constOk v x = true) : VR μ x v := by
  cases x
  case agg cs =>
    simp only [constOk] at h
    cases v <;> simp at h
    rename_i a
    simp only [VR]
    exact ⟨a.toList, cellsOk_VRs h, by simp⟩
  all_goals exact cellOk_VR (by simpa [constOk] using h)

theorem zeroOk_spec {v : Option Value} {zs : List V} (h : zeroOk v zs = true) : ∃ z, v = some z ∧ VRs μ zs z.cells.toList := by
  cases v with
  | none => cases h
  | some z => exact ⟨z, rfl, cellsOk_VRs h⟩

/-! ### operands -/
theorem opdOk_VR {d nt : Nat} {a : Act} {t : Tr} (ht : TR μ d t a.tmps) (hn : a.tmps.size = nt) {x : Operand} {y : Opd} (h : opdOk d nt x y = true) : VR μ (opd t y) (a.eval x) := by
  cases x with
  | tmp i =>
    cases y with
    | t p =>
      simp only [opdOk, Bool.and_eq_true] at h
      have e := beq_iff_eq.1 h.1
      subst e
      exact ht.get (by rw [hn]; exact blt_iff.1 h.2)
    | c v => simp [opdOk] at h
  | const v =>
    cases y with
    | t p => simp [opdOk] at h
    | c z => simp only [opdOk] at h; exact constOk_VR h
  | global g => simp [opdOk] at h
  | func f =>
    cases y with
    | t p => simp [opdOk] at h
    | c z =>
      cases z <;> simp only [opdOk] at h <;> first | (cases h; done) | skip
      rename_i g x y
      cases x <;> cases y <;> simp at h
      subst h
      show VR μ (.func f [] []) (.func (.func f) #[] #[])
      simp [VR, VRs]

theorem opdsOk_VRs {d nt : Nat} {a : Act} {t : Tr} (ht : TR μ d t a.tmps) (hn : a.tmps.size = nt) : ∀ {xs : List Operand} {ys : List Opd}, opdsOk d nt xs ys = true → VRs μ (opds t ys) (xs.map a.eval)
  | [], [], _ => VRs_nil.2 rfl
  | [], y :: ys, h => by simp [opdsOk] at h
  | x :: xs, [], h => by simp [opdsOk] at h
  | x :: xs, y :: ys, h => by
    simp only [opdsOk, Bool.and_eq_true] at h
    exact VRs_cons.2 ⟨_, _, rfl, opdOk_VR ht hn h.1, opdsOk_VRs ht hn h.2⟩

/-! ### types -/
theorem run_underlying {t : TypeId} {d : TypeDesc} (h : P.underlying t = some d) : (underlying t).run P w = .ok d w := by simp [underlying, h]
theorem sizeT_info {t : TypeId} {s : Nat} (h : sizeT P t = some s) : ∃ i, P.info? t = some i ∧ i.size = s := by
  unfold sizeT at h; cases e : P.info? t with
  | none => rw [e] at h; cases h
  | some i => rw [e] at h; cases h; exact ⟨i, rfl, rfl⟩
theorem run_sizeOf {t : TypeId} {s : Nat} (h : sizeT P t = some s) : (sizeOf t).run P w = .ok s w := by
  obtain ⟨i, e, rfl⟩ := sizeT_info h; simp [sizeOf, typeInfo, e]
theorem run_bytes {t : TypeId} {s : Nat} (h : bytesT P t = some s) : ∃ i, (typeInfo t).run P w = .ok i w ∧ i.bytes = s := by
  unfold bytesT at h; cases e : P.info? t with
  | none => rw [e] at h; cases h
  | some i => rw [e] at h; cases h; exact ⟨i, by simp [typeInfo, e], rfl⟩
theorem run_zeroValue {t : TypeId} {z : Value} (h : zeroT P t = some z) : (zeroValue t).run P w = .ok z w := by
  unfold zeroT at h; cases e : P.info? t with
  | none => rw [e] at h; cases h
  | some i => rw [e] at h; simp at h; simp [zeroValue, typeInfo, e, h]
theorem run_isAgg {t : TypeId} (h : (P.underlying t).isSome = true) : (isAgg t).run P w = .ok (isAggT P t) w := by
  cases e : P.underlying t with
  | none => rw [e] at h; cases h
  | some d => simp [isAgg, underlying, e, isAggT]; cases d <;> rfl

theorem isInt_spec {t : TypeId} {kd : IntKind} (h : isInt P t = some kd) : P.underlying t = some (.int kd) := by
  unfold isInt at h
  split at h
  · cases h; assumption
  · cases h
theorem sliceElem_spec {t e : TypeId} (h : sliceElem P t = some e) : P.underlying t = some (.slice e) := by
  unfold sliceElem at h
  split at h
  · cases h; assumption
  · cases h
theorem mapKE_spec {t : TypeId} {x : TypeId × TypeId} (h : mapKE P t = some x) : P.underlying t = some (.map x.1 x.2) := by
  unfold mapKE at h
  split at h
  · cases h; assumption
  · cases h

/-! ### whole numbers -/
theorem wrap_i64 {n : Int} (h0 : -9223372036854775808 ≤ n) (h1 : n ≤ 9223372036854775807) : IntKind.i64.wrap n = n := by
  have e1 : (2 : Int) ^ (64 : Nat) = 18446744073709551616 := by decide
  have e2 : (2 : Int) ^ (64 - 1 : Nat) = 9223372036854775808 := by decide
  simp only [IntKind.wrap, IntKind.bits, IntKind.signed, Bool.true_and, decide_eq_true_eq, e1, e2]
  split <;> omega

theorem fits63_spec {n : Int} (h : fits63 n = true) : -9223372036854775808 ≤ n ∧ n ≤ 9223372036854775807 := by
  cases n with
  | ofNat m => have := Nat.le_of_ble_eq_true h; constructor <;> simp <;> omega
  | negSucc m => have := Nat.le_of_ble_eq_true h; constructor <;> omega

theorem wr_eq (kd : IntKind) (n : Int) : wr kd n = kd.wrap n := by
  unfold wr
  cases h : inR kd n with
  | true =>
    cases kd <;> first | (cases h; done) | skip
    have := fits63_spec h
    exact (wrap_i64 this.1 this.2).symm
  | false => rfl

theorem kindIx_inj {a b : IntKind} (h : kindIx a = kindIx b) : a = b := by cases a <;> cases b <;> first | rfl | (cases h; done)
end Go.Proofs.Ytnmkbnejapdnnaa.Ev
