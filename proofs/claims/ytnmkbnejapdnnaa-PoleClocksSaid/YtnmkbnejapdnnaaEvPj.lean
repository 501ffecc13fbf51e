/-
  Poles: the types of the laws' arguments, opened.
-/
import Derived.Test.YtnmkbnejapdnnaaEvLaw
import Derived.Test.YtnmkbnejapdnnaaEvPa
import Derived.Test.YtnmkbnejapdnnaaRows
set_option maxRecDepth 100000
set_option linter.unusedVariables false
namespace Go.Proofs.Ytnmkbnejapdnnaa.Ev
open Go Go.ChangeShapes Go.WideShapes Go.RowKit

theorem own : ownKnob Try.prog.godebug = none := by kernel_rfl
theorem laidOut : laidOutB Try.prog = true := by kernel_rfl

section
variable {H : Type} {enc : TypeId × Value → H} {P : Program} {W : World} {base : Nat} {sp : Nat → Bool} {hd : Bool} {t : TypeId}

/-- Two whole numbers. -/
theorem trod_two {f0 f1 : Field} (ht : P.underlying t = some (.struct #[f0, f1])) (h0 : P.underlying f0.type = some (.int .i64)) (h1 : P.underlying f1.type = some (.int .i64)) (c0 : P.cellsOf f0.type = 1) (c1 : P.cellsOf f1.type = 1) (o0 : f0.offset = 0) (o1 : f1.offset = 1) (hc : P.cellsOf t = 2)
    {n : Nat} {cs : List Value} {y : DataW H × List MemPlace} (h : DataW.trod enc P W base sp hd n t cs = some y) : ∃ x : Int × Int, cs = [.int .i64 x.1, .int .i64 x.2] := by
  obtain ⟨xs, m, rfl, _, hl, hx, hf⟩ := DataW.trod_struct ht h
  have g0 := hf 0 f0 rfl
  have g1 := hf 1 f1 rfl
  rw [hc] at hl
  rw [c0, o0] at g0
  rw [c1, o1] at g1
  obtain ⟨a, b, rfl⟩ : ∃ a b, cs = [a, b] := by
    match cs, hl with
    | [a, b], _ => exact ⟨a, b, rfl⟩
  have hx : xs.length = 2 := hx
  rw [List.getElem?_eq_getElem (by omega)] at g0 g1
  obtain ⟨i, hi, _⟩ := DataW.trod_int h0 g0
  obtain ⟨j, hj, _⟩ := DataW.trod_int h1 g1
  have hi : [a] = [Value.int .i64 i] := hi
  have hj : [b] = [Value.int .i64 j] := hj
  simp at hi hj
  exact ⟨(i, j), by rw [hi, hj]⟩

theorem open_two {f0 f1 : Field} (ht : P.underlying t = some (.struct #[f0, f1])) (h0 : P.underlying f0.type = some (.int .i64)) (h1 : P.underlying f1.type = some (.int .i64)) (c0 : P.cellsOf f0.type = 1) (c1 : P.cellsOf f1.type = 1) (o0 : f0.offset = 0) (o1 : f1.offset = 1) (hc : P.cellsOf t = 2)
    {v : Value} {d : DataW H} {ps : List MemPlace} (hval : Value.okWide P W .any base t v) (h : DataW.Trod enc P W 0 sp hd t v d ps) : ∃ x : Int × Int, v = .agg ⟨[.int .i64 x.1, .int .i64 x.2]⟩ := by
  simp only [Value.okWide, ht] at hval
  obtain ⟨cs, rfl, _, _⟩ := hval
  obtain ⟨fuel, hf⟩ := h
  obtain ⟨x, hx⟩ := trod_two ht h0 h1 c0 c1 o0 o1 hc hf
  have hx : cs.toList = [.int .i64 x.1, .int .i64 x.2] := hx
  refine ⟨x, ?_⟩
  rw [← hx]
end

/-- A price. -/
theorem price (W : World) : ElemT Try.prog W 54 2 (Int × Int) (fun p => [.int .i64 p.1, .int .i64 p.2]) (fun p => [.int .i64 p.1, .int .i64 p.2]) where
  cells := by kernel_rfl
  pos := by omega
  opens := fun H enc n cs y h => trod_two Try.underlying54 (by exact Try.underlying2) (by exact Try.underlying2) (by kernel_rfl) (by kernel_rfl) rfl rfl (by kernel_rfl) h
  vr := fun μ x => by simp [VR, VRs]
  len := fun _ => rfl

theorem open_range {H : Type} {enc : TypeId × Value → H} {W : World} {base : Nat} {v : Value} {d : DataW H} {ps : List MemPlace} (hval : Value.okWide Try.prog W .any base 24 v) (h : DataW.Trod enc Try.prog W 0 (fun _ => true) true 24 v d ps) : ∃ x : Int × Int, v = .agg ⟨[.int .i64 x.1, .int .i64 x.2]⟩ :=
  open_two Try.underlying24 (by exact Try.underlying2) (by exact Try.underlying2) (by kernel_rfl) (by kernel_rfl) rfl rfl (by kernel_rfl) hval h

theorem open_bytes {H : Type} {enc : TypeId × Value → H} {W : World} {base : Nat} {v : Value} {d : DataW H} {ps : List MemPlace} (hval : Value.okWide Try.prog W .any base 56 v) (h : DataW.Trod enc Try.prog W 0 (fun _ => true) true 56 v d ps) :
    ∃ x : Int × Int, v = .agg ⟨[.int .u8 x.1, .int .u8 x.2]⟩ ∧ (Lit.int .u8 x.1).wf = true ∧ (Lit.int .u8 x.2).wf = true := by
  simp only [Value.okWide, Try.underlying56] at hval
  obtain ⟨cs, rfl, _, _⟩ := hval
  obtain ⟨fuel, hf⟩ := h
  obtain ⟨xs, m, rfl, _, hl, hx, hg⟩ := DataW.trod_array Try.underlying56 hf
  have g0 := hg 0 (by omega)
  have g1 := hg 1 (by omega)
  rw [show Try.prog.cellsOf 56 = 2 by kernel_rfl] at hl
  rw [show Try.prog.cellsOf 5 = 1 by kernel_rfl] at g0 g1
  have hl : cs.toList.length = 2 := hl
  have g0 : DataW.trod enc Try.prog W 0 (fun _ => true) true m 5 ((cs.toList.drop (0 * 1)).take 1) = xs[0]? := g0
  have g1 : DataW.trod enc Try.prog W 0 (fun _ => true) true m 5 ((cs.toList.drop (1 * 1)).take 1) = xs[1]? := g1
  obtain ⟨a, b, hab⟩ : ∃ a b, cs.toList = [a, b] := by
    match cs.toList, hl with
    | [a, b], _ => exact ⟨a, b, rfl⟩
  rw [hab] at g0 g1
  rw [List.getElem?_eq_getElem (by omega)] at g0 g1
  obtain ⟨i, hi, _, w0⟩ := DataW.trod_int Try.underlying5 g0
  obtain ⟨j, hj, _, w1⟩ := DataW.trod_int Try.underlying5 g1
  have hi : [a] = [Value.int .u8 i] := hi
  have hj : [b] = [Value.int .u8 j] := hj
  simp at hi hj
  refine ⟨(i, j), ?_, w0, w1⟩
  rw [hi, hj] at hab
  rw [← hab]

end Go.Proofs.Ytnmkbnejapdnnaa.Ev
