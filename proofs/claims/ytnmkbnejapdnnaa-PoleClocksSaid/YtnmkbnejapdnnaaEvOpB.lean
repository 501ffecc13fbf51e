/-
  Operators of two operands, and parts of values.
-/
import Derived.Test.YtnmkbnejapdnnaaEvOpA
import GoSem.Dispatch
set_option linter.unusedVariables false
set_option maxRecDepth 4000
namespace Go.Proofs.Ytnmkbnejapdnnaa.Ev
open Go

section
variable {P : Program} {N0 : Nat} {μ : Mp} {σ : St} {w w' : World} {k : Cn} {K : KT} {d nt : Nat} {a : Act} {t : Tr} {o : Oper}

theorem VR_int {kd : IntKind} {n : Int} : VR μ (.int kd n) (.int kd n) := by simp [VR]
theorem VR_bool {b : Bool} : VR μ (.bool b) (.bool b) := by simp [VR]
theorem VR_str {s : ByteArray} : VR μ (.str s) (.string s) := by simp [VR]

theorem ibin_run {op : BinOp} {kd kd' : IntKind} {n b : Int} (hkd : kindOk op kd kd' = true) (hk : ibin op kd n b k σ) :
    ∃ v cv, k v σ ∧ (∀ μ, VR μ v cv) ∧ ∀ (w : World) ty x y, (do eqGuard op ty x y (.int kd n) (.int kd' b); binOp op ty (.int kd n) (.int kd' b) : Sem Value).run P w = .ok cv w := by
  have hkk : isShift op = false → kd = kd' := by
    intro h
    simp only [kindOk, h, Bool.or_false] at hkd
    exact kindIx_inj (beq_iff.1 hkd)
  cases op
  case quo =>
    have hk : (if b = 0 then False else k (.int kd (wr kd (n.tdiv b))) σ) := hk
    cases hkk rfl
    split at hk
    · cases hk
    · rename_i hb
      exact ⟨_, .int kd (kd.wrap (n.tdiv b)), hk, fun μ => by simp [VR, wr_eq], fun w ty x y => by simp [eqGuard, binOp, Op.intDiv, hb]⟩
  case rem =>
    have hk : (if b = 0 then False else k (.int kd (n.tmod b)) σ) := hk
    cases hkk rfl
    split at hk
    · cases hk
    · rename_i hb
      exact ⟨_, .int kd (n.tmod b), hk, fun μ => by simp [VR], fun w ty x y => by simp [eqGuard, binOp, Op.intDiv, hb]⟩
  case shl =>
    have hk : (if b < 0 then False else k (.int kd (kd.wrap (n * 2 ^ (Nat.min b.toNat kd.bits)))) σ) := hk
    split at hk
    · cases hk
    · rename_i hb
      exact ⟨_, _, hk, fun μ => VR_int, fun w ty x y => by simp [eqGuard, binOp, Op.shift, hb]⟩
  case shr =>
    have hk : (if b < 0 then False else k (.int kd (n.fdiv (2 ^ (Nat.min b.toNat kd.bits)))) σ) := hk
    split at hk
    · cases hk
    · rename_i hb
      exact ⟨_, _, hk, fun μ => VR_int, fun w ty x y => by simp [eqGuard, binOp, Op.shift, hb]⟩
  case add => cases hkk rfl; exact ⟨_, .int kd (kd.wrap (n + b)), hk, fun μ => by simp [VR, wr_eq], fun w ty x y => by simp [eqGuard, binOp, Op.intArith]⟩
  case sub => cases hkk rfl; exact ⟨_, .int kd (kd.wrap (n - b)), hk, fun μ => by simp [VR, wr_eq], fun w ty x y => by simp [eqGuard, binOp, Op.intArith]⟩
  case mul => cases hkk rfl; exact ⟨_, .int kd (kd.wrap (n * b)), hk, fun μ => by simp [VR, wr_eq], fun w ty x y => by simp [eqGuard, binOp, Op.intArith]⟩
  all_goals
    cases hkk rfl
    first
    | refine ⟨_, _, hk, fun μ => VR_int, fun w ty x y => ?_⟩
    | refine ⟨_, _, hk, fun μ => VR_bool, fun w ty x y => ?_⟩
    simp [eqGuard, binOp, Op.intBits, Op.intCmp]

theorem strOp_run {op : BinOp} {s s' : ByteArray} (hk : strOp op s s' k σ) :
    ∃ v cv, k v σ ∧ (∀ μ, VR μ v cv) ∧ ∀ (w : World) ty x y, (do eqGuard op ty x y (.string s) (.string s'); binOp op ty (.string s) (.string s') : Sem Value).run P w = .ok cv w := by
  cases op <;> first | exact False.elim hk | skip
  case add =>
    have hk : (if s.size + s'.size < 4294967296 then k (.str (s ++ s')) σ else False) := hk
    split at hk
    · rename_i hs
      refine ⟨_, _, hk, fun μ => VR_str, fun w ty x y => ?_⟩
      have e : IntKind.i64.max = 9223372036854775807 := by decide
      have : ¬ ((s.size : Int) + s'.size > 9223372036854775807) := by omega
      simp [eqGuard, binOp, Op.stringOp, e]
      omega
    · cases hk
  all_goals
    refine ⟨_, _, hk, fun μ => VR_bool, fun w ty x y => ?_⟩
    simp [eqGuard, binOp, Op.stringOp]

theorem bin_elim {op : BinOp} {x y : V} (h : bin op x y k σ) : (∃ kd n kd' b, x = .int kd n ∧ y = .int kd' b ∧ kindOk op kd kd' = true ∧ ibin op kd n b k σ) ∨ (∃ s s', x = .str s ∧ y = .str s' ∧ strOp op s s' k σ) := by
  cases x <;> first | exact False.elim h | skip
  case int kd n =>
    have h : bInt op kd n y k σ := h
    obtain ⟨kd', b, e, h⟩ := vInt_elim h
    obtain ⟨h1, h2⟩ := boolRec_elim h
    exact .inl ⟨kd, n, kd', b, rfl, e, h1, h2⟩
  case str s =>
    have h : bStr op s y k σ := h
    obtain ⟨s', e, h⟩ := vStr_elim h
    exact .inr ⟨s, s', rfl, e, h⟩

theorem s_bin (hs : SR P N0 μ σ w) (ht : TR μ d t a.tmps) (hn : a.tmps.size = nt) {op : BinOp} {x' y' : Opd} (hop : opOk P d nt o.op o.type (.bin op x' y') = true) (h : evalOp (.bin op x' y') K t σ k) : OpS P N0 μ σ w (execOp a.eval o) k := by
  have hk : bin op (opd t x') (opd t y') k σ := h
  have : ∃ ty x y z, o.op = .binOp op ty x y z ∧ opdOk d nt x x' = true ∧ opdOk d nt y y' = true := by
    replace hop : ok_bin d nt o.op op x' y' = true := hop
    unfold ok_bin at hop
    split at hop
    · rename_i e; simp at hop; exact ⟨_, _, _, _, hop.1.1 ▸ e, hop.1.2, hop.2⟩
    · cases hop
  obtain ⟨ty, x, y, z, he, hx, hy⟩ := this
  have vx := opdOk_VR ht hn hx
  have vy := opdOk_VR ht hn hy
  have hex : execOp a.eval o = (do Pure.pure (.value (← (do eqGuard op ty x y (a.eval x) (a.eval y); binOp op ty (a.eval x) (a.eval y) : Sem Value)))) := by simp [execOp, he]
  rw [hex]
  rcases bin_elim hk with ⟨kd, n, kd', b, ex, ey, h1, h2⟩ | ⟨s, s', ex, ey, h2⟩
  · obtain ⟨v, cv, g1, g2, g3⟩ := ibin_run (P := P) h1 h2
    rw [ex] at vx; rw [ey] at vy; simp only [VR] at vx vy
    refine OpS.val hs g1 (g2 _) ?_
    rw [vx, vy]; exact g3 w ty x y
  · obtain ⟨v, cv, g1, g2, g3⟩ := strOp_run (P := P) h2
    rw [ex] at vx; rw [ey] at vy; simp only [VR] at vx vy
    refine OpS.val hs g1 (g2 _) ?_
    rw [vx, vy]; exact g3 w ty x y

theorem isBool_spec {t : TypeId} (h : isBool P t = true) : P.underlying t = some .bool := by
  unfold isBool at h
  split at h
  · assumption
  · cases h

theorem equal_succ (t : TypeId) (x y : Value) : Op.equal t x y = Op.equalIn (9999 + 1) t x y := rfl

theorem run_equal_bool {t : TypeId} (h : P.underlying t = some .bool) (x y : Bool) : (Op.equal t (.bool x) (.bool y)).run P w = .ok (x == y) w := by
  rw [equal_succ, Op.equalIn]; simp [underlying, h]
theorem run_equal_ptr {t el : TypeId} (h : P.underlying t = some (.pointer el)) (x y : Option Addr) (hx : x = none ∨ y = none) : (Op.equal t (.pointer x) (.pointer y)).run P w = .ok (x.isNone && y.isNone) w := by
  rw [equal_succ, Op.equalIn]; rcases hx with rfl | rfl
  · simp [underlying, h]
  · cases x <;> simp [underlying, h]
theorem run_equal_slice {t el : TypeId} (h : P.underlying t = some (.slice el)) (x y : Option Addr) (l c l' c' : Nat) (hx : x = none ∨ y = none) : (Op.equal t (.slice x l c) (.slice y l' c')).run P w = .ok (x.isNone && y.isNone) w := by
  rw [equal_succ, Op.equalIn]; rcases hx with rfl | rfl
  · simp [underlying, h]
  · cases x <;> simp [underlying, h]
theorem run_equal_map {t k e : TypeId} (h : P.underlying t = some (.map k e)) (x y : Option Nat) (hx : x = none ∨ y = none) : (Op.equal t (.map x) (.map y)).run P w = .ok (x.isNone && y.isNone) w := by
  rw [equal_succ, Op.equalIn]; rcases hx with rfl | rfl
  · simp [underlying, h]
  · cases x <;> simp [underlying, h]
theorem run_equal_func0 {t : TypeId} {e1 e2 e3} (h : P.underlying t = some (.func e1 e2 e3)) : (Op.equal t .nilFunc .nilFunc).run P w = .ok true w := by
  rw [equal_succ, Op.equalIn]; simp [underlying, h]
theorem run_equal_func1 {t : TypeId} {e1 e2 e3} (h : P.underlying t = some (.func e1 e2 e3)) (f : Fn) (x y : Array Value) : (Op.equal t .nilFunc (.func f x y)).run P w = .ok false w := by
  rw [equal_succ, Op.equalIn]; simp [underlying, h]
theorem run_equal_func2 {t : TypeId} {e1 e2 e3} (h : P.underlying t = some (.func e1 e2 e3)) (f : Fn) (x y : Array Value) : (Op.equal t (.func f x y) .nilFunc).run P w = .ok false w := by
  rw [equal_succ, Op.equalIn]; simp [underlying, h]

theorem nk_ptr {t : TypeId} (h : nkOk P t .ptr = true) : ∃ el, P.underlying t = some (.pointer el) := by
  simp only [nkOk] at h; split at h
  · exact ⟨_, by assumption⟩
  · cases h
theorem nk_slice {t : TypeId} (h : nkOk P t .slice = true) : ∃ el, P.underlying t = some (.slice el) := by
  simp only [nkOk] at h; split at h
  · exact ⟨_, by assumption⟩
  · cases h
theorem nk_map {t : TypeId} (h : nkOk P t .map = true) : ∃ el e, P.underlying t = some (.map el e) := by
  simp only [nkOk] at h; split at h
  · exact ⟨_, _, by assumption⟩
  · cases h
theorem nk_func {t : TypeId} (h : nkOk P t .func = true) : ∃ e1 e2 e3, P.underlying t = some (.func e1 e2 e3) := by
  simp only [nkOk] at h; split at h
  · exact ⟨_, _, _, by assumption⟩
  · cases h

theorem s_eqb (hs : SR P N0 μ σ w) (ht : TR μ d t a.tmps) (hn : a.tmps.size = nt) {neg : Bool} {x' y' : Opd} (hop : opOk P d nt o.op o.type (.eqb neg x' y') = true) (h : evalOp (.eqb neg x' y') K t σ k) : OpS P N0 μ σ w (execOp a.eval o) k := by
  have hk : eqbv neg (opd t x') (opd t y') k σ := h
  have : ∃ ty x y z, o.op = .binOp (if neg then .neq else .eql) ty x y z ∧ isBool P ty = true ∧ opdOk d nt x x' = true ∧ opdOk d nt y y' = true := by
    replace hop : ok_eqb P d nt o.op neg x' y' = true := hop
    unfold ok_eqb at hop
    split at hop
    · rename_i e; simp only [Bool.and_eq_true] at hop; exact ⟨_, _, _, _, (beq_iff_eq.1 hop.1.1.1) ▸ e, hop.1.1.2, hop.1.2, hop.2⟩
    · cases hop
  obtain ⟨ty, x, y, z, he, hty, hx, hy⟩ := this
  have vx := opdOk_VR ht hn hx
  have vy := opdOk_VR ht hn hy
  obtain ⟨b, ex, hk⟩ := vBool_elim hk
  obtain ⟨b', ey, hk⟩ := vBool_elim hk
  rw [ex] at vx; rw [ey] at vy; simp only [VR] at vx vy
  refine OpS.pure hs hk VR_bool ?_
  have hu := isBool_spec hty
  cases neg <;> simp [execOp, he, vx, vy, eqGuard, binOp, run_equal_bool hu]

theorem isNil_elim {kd : Nk} {x : V} {b : Bool} (h : isNil kd x = some b) : (kd = .ptr ∧ ((x = .nilptr ∧ b = true) ∨ ∃ c o, x = .ptr c o ∧ b = false)) ∨ (kd = .slice ∧ ((x = .nilslice ∧ b = true) ∨ ∃ c o l m e, x = .slice c o l m e ∧ b = false)) ∨
    (kd = .map ∧ ((x = .nilmap ∧ b = true) ∨ ∃ c, x = .map c ∧ b = false)) ∨ (kd = .func ∧ ((x = .nilfunc ∧ b = true) ∨ ∃ f u v, x = .func f u v ∧ b = false)) := by
  cases kd <;> cases x <;> simp [isNil] at h <;> simp [h]

theorem eqnv_elim {kd : Nk} {neg : Bool} {x y : V} (h : eqnv kd neg x y k σ) : ∃ b b', isNil kd x = some b ∧ isNil kd y = some b' ∧ (b = true ∨ b' = true) ∧ k (.bool (if neg then !(b && b') else b && b')) σ := by
  unfold eqnv at h
  split at h
  · rename_i b h1 h2; exact ⟨true, b, h1, h2, .inl rfl, by simpa using h⟩
  · rename_i h1 h2; exact ⟨false, true, h1, h2, .inr rfl, by cases neg <;> simpa using h⟩
  · cases h

theorem s_eqn (hs : SR P N0 μ σ w) (ht : TR μ d t a.tmps) (hn : a.tmps.size = nt) {kd : Nk} {neg : Bool} {x' y' : Opd} (hop : opOk P d nt o.op o.type (.eqn kd neg x' y') = true) (h : evalOp (.eqn kd neg x' y') K t σ k) : OpS P N0 μ σ w (execOp a.eval o) k := by
  have hk : eqnv kd neg (opd t x') (opd t y') k σ := h
  have : ∃ ty x y z, o.op = .binOp (if neg then .neq else .eql) ty x y z ∧ nkOk P ty kd = true ∧ opdOk d nt x x' = true ∧ opdOk d nt y y' = true := by
    replace hop : ok_eqn P d nt o.op kd neg x' y' = true := hop
    unfold ok_eqn at hop
    split at hop
    · rename_i e; simp only [Bool.and_eq_true] at hop; exact ⟨_, _, _, _, (beq_iff_eq.1 hop.1.1.1) ▸ e, hop.1.1.2, hop.1.2, hop.2⟩
    · cases hop
  obtain ⟨ty, x, y, z, he, hty, hx, hy⟩ := this
  have vx := opdOk_VR ht hn hx
  have vy := opdOk_VR ht hn hy
  obtain ⟨b, b', h1, h2, hor, hk⟩ := eqnv_elim hk
  refine OpS.pure hs hk VR_bool ?_
  rcases isNil_elim h1 with ⟨rfl, g1⟩ | ⟨rfl, g1⟩ | ⟨rfl, g1⟩ | ⟨rfl, g1⟩ <;> rcases isNil_elim h2 with ⟨e, g2⟩ | ⟨e, g2⟩ | ⟨e, g2⟩ | ⟨e, g2⟩ <;> first | (cases e; done) | skip
  · obtain ⟨el, hu⟩ := nk_ptr hty
    rcases g1 with ⟨ex, rfl⟩ | ⟨c, o', ex, rfl⟩ <;> rcases g2 with ⟨ey, rfl⟩ | ⟨c', o'', ey, rfl⟩ <;> rw [ex] at vx <;> rw [ey] at vy <;> simp only [VR] at vx vy <;>
      first | (simp at hor; done) | ((try obtain ⟨_, _, _, vx⟩ := vx); (try obtain ⟨_, _, _, vy⟩ := vy); cases neg <;> simp [execOp, he, vx, vy, eqGuard, binOp, run_equal_ptr hu])
  · obtain ⟨el, hu⟩ := nk_slice hty
    rcases g1 with ⟨ex, rfl⟩ | ⟨_, _, _, _, _, ex, rfl⟩ <;> rcases g2 with ⟨ey, rfl⟩ | ⟨_, _, _, _, _, ey, rfl⟩ <;> rw [ex] at vx <;> rw [ey] at vy <;> simp only [VR] at vx vy <;>
      first | (simp at hor; done) | ((try obtain ⟨_, _, _, _, _, vx, _⟩ := vx); (try obtain ⟨_, _, _, _, _, vy, _⟩ := vy); cases neg <;> simp [execOp, he, vx, vy, eqGuard, binOp, run_equal_slice hu])
  · obtain ⟨el, el', hu⟩ := nk_map hty
    rcases g1 with ⟨ex, rfl⟩ | ⟨_, ex, rfl⟩ <;> rcases g2 with ⟨ey, rfl⟩ | ⟨_, ey, rfl⟩ <;> rw [ex] at vx <;> rw [ey] at vy <;> simp only [VR] at vx vy <;>
      first | (simp at hor; done) | ((try obtain ⟨_, _, vx⟩ := vx); (try obtain ⟨_, _, vy⟩ := vy); cases neg <;> simp [execOp, he, vx, vy, eqGuard, binOp, run_equal_map hu])
  · obtain ⟨e1, e2, e3, hu⟩ := nk_func hty
    rcases g1 with ⟨ex, rfl⟩ | ⟨_, _, _, ex, rfl⟩ <;> rcases g2 with ⟨ey, rfl⟩ | ⟨_, _, _, ey, rfl⟩ <;> rw [ex] at vx <;> rw [ey] at vy <;> simp only [VR] at vx vy <;>
      first | (simp at hor; done) | ((try obtain ⟨_, _, _, _, vx⟩ := vx); (try obtain ⟨_, _, _, _, vy⟩ := vy); cases neg <;> simp [execOp, he, vx, vy, eqGuard, binOp, run_equal_func0 hu, run_equal_func1 hu, run_equal_func2 hu])

/-! ### parts -/
theorem seg_VRs {vs : List V} {us : List Value} (h : VRs μ vs us) (o n : Nat) : VRs μ (seg vs o n) ((us.drop o).take n) := VRs_take n (VRs_drop o h)

theorem partv_run {off : Nat} {n : Option Nat} {cs : List V} {us : List Value} {ty : TypeId} (hn : nOk P ty n = true) (hv : VRs μ cs us) (h : partv off n cs k σ) :
    ∃ v cv, k v σ ∧ VR μ v cv ∧ (part ty ⟨us⟩ off).run P w = .ok cv w := by
  unfold nOk at hn
  simp only [Bool.and_eq_true] at hn
  obtain ⟨hu, hn⟩ := hn
  have ha := run_isAgg (P := P) (w := w) hu
  cases n with
  | none =>
    have h : nth cs off k σ := h
    obtain ⟨v, e, hk⟩ := nth_elim h
    obtain ⟨u, eu, hr⟩ := VRs_get hv off v e
    simp at hn
    exact ⟨v, u, hk, hr, by simp [part, ha, hn, eu]⟩
  | some m =>
    simp only [Bool.and_eq_true, beq_iff_eq] at hn
    have h : (if off + m ≤ cs.length then k (.agg (seg cs off m)) σ else False) := h
    split at h
    · refine ⟨_, .agg ⟨(us.drop off).take m⟩, h, by simp only [VR]; exact ⟨_, seg_VRs hv off m, rfl⟩, ?_⟩
      have hsz := run_sizeOf (P := P) (w := w) hn.2
      simp only [part, Sem.run_bind, ha, Result.andThen_ok, hn.1, if_true, hsz, Sem.run_pure]
      congr 2
      apply Array.toList_inj.1
      simp
    · cases h

theorem s_fld (hs : SR P N0 μ σ w) (ht : TR μ d t a.tmps) (hn : a.tmps.size = nt) {off : Nat} {n : Option Nat} {y : Opd} (hop : opOk P d nt o.op o.type (.fld off n y) = true) (h : evalOp (.fld off n y) K t σ k) : OpS P N0 μ σ w (execOp a.eval o) k := by
  have hk : fldv off n (opd t y) k σ := h
  have : ∃ ty x i f, o.op = .field ty x i ∧ fieldOk P ty i off = some f ∧ nOk P f.type n = true ∧ opdOk d nt x y = true := by
    replace hop : ok_fld P d nt o.op off n y = true := hop
    unfold ok_fld at hop
    split at hop
    · rename_i e
      split at hop
      · rename_i f hf
        simp only [Bool.and_eq_true] at hop
        exact ⟨_, _, _, f, e, hf, hop.1, hop.2⟩
      · cases hop
    · cases hop
  obtain ⟨ty, x, i, f, he, hf, hsz, hx⟩ := this
  have hv := opdOk_VR ht hn hx
  obtain ⟨cs, e, hk⟩ := vAgg_elim hk
  rw [e] at hv; simp only [VR] at hv
  obtain ⟨us, hus, hv⟩ := hv
  obtain ⟨fs, hu, hfi, hoff⟩ : ∃ fs : Array Field, P.underlying ty = some (.struct fs) ∧ fs[i]? = some f ∧ f.offset = off := by
    unfold fieldOk at hf
    split at hf
    · rename_i fs hu
      split at hf
      · rename_i f' hfi
        split at hf
        · cases hf; rename_i ho; exact ⟨fs, hu, hfi, by simpa using ho⟩
        · cases hf
      · cases hf
    · cases hf
  obtain ⟨v, cv, g1, g2, g3⟩ := partv_run (P := P) (w := w) hsz hus hk
  refine OpS.pure hs g1 g2 ?_
  simp [execOp, he, Instr.field, underlying, hu, hfi, hv, asAgg, hoff, g3]

theorem asIntOf_run (kd : IntKind) (n : Int) : (asIntOf (.int kd n)).run P w = .ok (kd, n) w := by simp [asIntOf]

theorem s_ixs (hs : SR P N0 μ σ w) (ht : TR μ d t a.tmps) (hn : a.tmps.size = nt) {es : Nat} {x' i' : Opd} (hop : opOk P d nt o.op o.type (.ixs es x' i') = true) (h : evalOp (.ixs es x' i') K t σ k) : OpS P N0 μ σ w (execOp a.eval o) k := by
  have hk : ixsv es (opd t x') (opd t i') k σ := h
  have : ∃ ty x i el, o.op = .indexAddr ty x i ∧ P.underlying ty = some (.slice el) ∧ sizeT P el = some es ∧ opdOk d nt x x' = true ∧ opdOk d nt i i' = true := by
    replace hop : ok_ixs P d nt o.op es x' i' = true := hop
    unfold ok_ixs at hop
    split at hop
    · rename_i e
      split at hop
      · rename_i el hel
        simp only [Bool.and_eq_true, beq_iff_eq] at hop
        exact ⟨_, _, _, el, e, sliceElem_spec hel, hop.1.1, hop.1.2, hop.2⟩
      · cases hop
    · cases hop
  obtain ⟨ty, x, i, el, he, hu, hsz, hx, hi⟩ := this
  have vx := opdOk_VR ht hn hx
  have vi := opdOk_VR ht hn hi
  obtain ⟨b, o', len, cap, e, ex, hk⟩ := vSlice_elim hk
  obtain ⟨kd, n, ei, hk⟩ := vInt_elim hk
  obtain ⟨hix, hk⟩ := boolRec_elim hk
  have hix := ixOk_iff.1 hix
  rw [ex] at vx; rw [ei] at vi; simp only [VR] at vx vi
  obtain ⟨c, d', o'', cap', hp, vx, hl, ho, _⟩ := vx
  have hcap : cap ≠ 0 := by omega
  have ho : o'' = o' + d' := by omega
  refine OpS.pure hs hk (cv := .pointer (some ⟨c, o' + n.toNat * es + d', none⟩)) (by simp only [VR]; exact ⟨c, d', hp, rfl⟩) ?_
  have hr := run_sizeOf (P := P) (w := w) hsz
  have hadd : (⟨c, o'', none⟩ : Addr).add (n.toNat * es) = ⟨c, o' + n.toNat * es + d', none⟩ := by
    unfold Addr.add
    split
    · simp; omega
    · simp; omega
  simp [execOp, he, Instr.indexAt, asIntOf, underlying, hu, vx, vi, hix, hr, hadd]

theorem s_ixa (hs : SR P N0 μ σ w) (ht : TR μ d t a.tmps) (hn : a.tmps.size = nt) {m es : Nat} {x' i' : Opd} (hop : opOk P d nt o.op o.type (.ixa m es x' i') = true) (h : evalOp (.ixa m es x' i') K t σ k) : OpS P N0 μ σ w (execOp a.eval o) k := by
  have hk : ixav m es (opd t x') (opd t i') k σ := h
  have : ∃ ty x i el, o.op = .indexAddr ty x i ∧ P.underlying ty = some (.array m el) ∧ sizeT P el = some es ∧ opdOk d nt x x' = true ∧ opdOk d nt i i' = true := by
    replace hop : ok_ixa P d nt o.op m es x' i' = true := hop
    unfold ok_ixa at hop
    split at hop
    · rename_i e
      split at hop
      · rename_i m' el hel
        simp only [Bool.and_eq_true, beq_iff_eq] at hop
        obtain ⟨⟨⟨rfl, h2⟩, h3⟩, h4⟩ := hop
        exact ⟨_, _, _, el, e, hel, h2, h3, h4⟩
      · cases hop
    · cases hop
  obtain ⟨ty, x, i, el, he, hu, hsz, hx, hi⟩ := this
  have vx := opdOk_VR ht hn hx
  have vi := opdOk_VR ht hn hi
  obtain ⟨b, o', ex, hk⟩ := vPtr_elim hk
  obtain ⟨kd, n, ei, hk⟩ := vInt_elim hk
  obtain ⟨hix, hk⟩ := boolRec_elim hk
  have hix := ixOk_iff.1 hix
  rw [ex] at vx; rw [ei] at vi; simp only [VR] at vx vi
  obtain ⟨c, d', hp, vx⟩ := vx
  refine OpS.pure hs hk (cv := .pointer (some ⟨c, o' + n.toNat * es + d', none⟩)) (by simp only [VR]; exact ⟨c, d', hp, rfl⟩) ?_
  have hr := run_sizeOf (P := P) (w := w) hsz
  have hadd : (⟨c, o' + d', none⟩ : Addr).add (n.toNat * es) = ⟨c, o' + n.toNat * es + d', none⟩ := by
    unfold Addr.add
    split
    · simp; omega
    · simp; omega
  simp [execOp, he, Instr.indexAt, asIntOf, underlying, hu, vx, vi, hix, hr, hadd, Instr.sureAddr]

theorem s_ixv (hs : SR P N0 μ σ w) (ht : TR μ d t a.tmps) (hn : a.tmps.size = nt) {m es : Nat} {nn : Option Nat} {x' i' : Opd} (hop : opOk P d nt o.op o.type (.ixv m es nn x' i') = true) (h : evalOp (.ixv m es nn x' i') K t σ k) : OpS P N0 μ σ w (execOp a.eval o) k := by
  have hk : ixvv m es nn (opd t x') (opd t i') k σ := h
  have : ∃ ty x i el, o.op = .index ty x i ∧ P.underlying ty = some (.array m el) ∧ sizeT P el = some es ∧ nOk P el nn = true ∧ opdOk d nt x x' = true ∧ opdOk d nt i i' = true := by
    replace hop : ok_ixv P d nt o.op m es nn x' i' = true := hop
    unfold ok_ixv at hop
    split at hop
    · rename_i e
      split at hop
      · rename_i m' el hel
        simp only [Bool.and_eq_true, beq_iff_eq] at hop
        obtain ⟨⟨⟨⟨rfl, h2⟩, h3⟩, h4⟩, h5⟩ := hop
        exact ⟨_, _, _, el, e, hel, h2, h3, h4, h5⟩
      · cases hop
    · cases hop
  obtain ⟨ty, x, i, el, he, hu, hsz, hno, hx, hi⟩ := this
  have vx := opdOk_VR ht hn hx
  have vi := opdOk_VR ht hn hi
  obtain ⟨cs, ex, hk⟩ := vAgg_elim hk
  obtain ⟨kd, n, ei, hk⟩ := vInt_elim hk
  obtain ⟨hix, hk⟩ := boolRec_elim hk
  have hix := ixOk_iff.1 hix
  rw [ex] at vx; rw [ei] at vi; simp only [VR] at vx vi
  obtain ⟨us, hus, vx⟩ := vx
  obtain ⟨v, cv, g1, g2, g3⟩ := partv_run (P := P) (w := w) hno hus hk
  refine OpS.pure hs g1 g2 ?_
  have hr := run_sizeOf (P := P) (w := w) hsz
  simp [execOp, he, Instr.index, asIntOf, underlying, hu, vx, vi, hix, hr, g3]

theorem s_ixstr (hs : SR P N0 μ σ w) (ht : TR μ d t a.tmps) (hn : a.tmps.size = nt) {x' i' : Opd} (hop : opOk P d nt o.op o.type (.ixstr x' i') = true) (h : evalOp (.ixstr x' i') K t σ k) : OpS P N0 μ σ w (execOp a.eval o) k := by
  have hk : ixstrv (opd t x') (opd t i') k σ := h
  have : ∃ ty x i, o.op = .index ty x i ∧ P.underlying ty = some .string ∧ opdOk d nt x x' = true ∧ opdOk d nt i i' = true := by
    replace hop : ok_ixstr P d nt o.op x' i' = true := hop
    unfold ok_ixstr at hop
    split at hop
    · rename_i e
      simp only [Bool.and_eq_true] at hop
      obtain ⟨⟨h1, h2⟩, h3⟩ := hop
      unfold isStr at h1
      split at h1
      · rename_i hu; exact ⟨_, _, _, e, hu, h2, h3⟩
      · cases h1
    · cases hop
  obtain ⟨ty, x, i, he, hu, hx, hi⟩ := this
  have vx := opdOk_VR ht hn hx
  have vi := opdOk_VR ht hn hi
  obtain ⟨s, ex, hk⟩ := vStr_elim hk
  obtain ⟨kd, n, ei, hk⟩ := vInt_elim hk
  rw [ex] at vx; rw [ei] at vi; simp only [VR] at vx vi
  split at hk
  · rename_i h0
    split at hk
    · rename_i c hc
      have hc' : s[n.toNat]? = some c := by
        have : s.data[n.toNat]? = some c := by simpa using hc
        obtain ⟨h1, h2⟩ := Array.getElem?_eq_some_iff.1 this
        have hsz : n.toNat < s.size := h1
        simp only [getElem?, decidableGetElem?]
        rw [dif_pos hsz]
        exact congrArg some h2
      refine OpS.pure hs hk (cv := .int .u8 c.toNat) (by simp [VR]) ?_
      simp [execOp, he, Instr.index, asIntOf, underlying, hu, vx, vi, h0, hc']
    · cases hk
  · cases hk

theorem s_ext (hs : SR P N0 μ σ w) (ht : TR μ d t a.tmps) (hn : a.tmps.size = nt) {i : Nat} {x' : Opd} (hop : opOk P d nt o.op o.type (.ext x' i) = true) (h : evalOp (.ext x' i) K t σ k) : OpS P N0 μ σ w (execOp a.eval o) k := by
  have hk : extv (opd t x') i k σ := h
  have : ∃ x, o.op = .extract x i ∧ opdOk d nt x x' = true := by
    replace hop : ok_ext d nt o.op x' i = true := hop
    unfold ok_ext at hop
    split at hop
    · rename_i e; simp at hop; exact ⟨_, hop.1 ▸ e, hop.2⟩
    · cases hop
  obtain ⟨x, he, hx⟩ := this
  have vx := opdOk_VR ht hn hx
  obtain ⟨cs, ex, hk⟩ := vTup_elim hk
  obtain ⟨v, e, hk⟩ := nth_elim hk
  rw [ex] at vx; simp only [VR] at vx
  obtain ⟨us, hus, vx⟩ := vx
  obtain ⟨u, eu, hr⟩ := VRs_get hus i v e
  refine OpS.pure hs hk hr ?_
  simp [execOp, he, Instr.extract, vx, eu]

end
end Go.Proofs.Ytnmkbnejapdnnaa.Ev
