/-
  The statement PoleClocksSaid.
-/
import Derived.Test.YtnmkbnejapdnnaaEvPw
import Derived.Test.YtnmkbnejapdnnaaEvPn
import Derived.Test.YtnmkbnejapdnnaaEvPj
set_option maxRecDepth 100000
set_option linter.unusedVariables false
namespace Go.Proofs.Ytnmkbnejapdnnaa
open Go.ChangeShapes Go.WideShapes Go.ChangeAt Go.RowKit Go.Proofs.Ytnmkbnejapdnnaa.Ev

theorem poleClocks_lifted (os : Os) (started : os.Started) (H : Type) (enc : TypeId × Value → H) :
    ReturnsInHanded {} Try.checked os 8 .any (Rows.poleClocksSpec.pre6 enc Try.prog Try.f8 Rows.poleClocksRow.domain false) (Rows.poleClocksSpec.post enc Try.prog Try.f8 false true false false) := by
  refine returnsInHanded_of_change_sized (C := Try.checked) own started (by kernel_rfl) Try.func8
    (ChangeSpec.witness6 (enc := enc) (C := Try.checked) false ⟨#[], #[.slice none 0 0, .agg #[.int .i64 0, .int .i64 0], .agg #[.int .u8 0, .int .u8 0], .int .u8 0, .int .u16 0, .int .u16 0], []⟩ 8 (by kernel_rfl) (by kernel_rfl) (by kernel_rfl) (by kernel_rfl)) ?_
  intro W base args ds gs before hval0 hW hcnd hsz0 _
  have hval : ∀ (j : Nat) t v, Try.f8.params[j]? = some t → args[j]? = some v → Value.okWide Try.prog W .any base t v := hval0
  have hW' := hW
  obtain ⟨p, q, hA0, hV, rfl, hfz, hnd⟩ := hW
  have hA : DataW.TrodAll enc Try.prog W 0 (fun _ => true) true Try.f8.params.toList args.toList ds p := hA0
  rw [Try.params8] at hA hval
  obtain ⟨v0, vs0, d0, ds0, p0, q0, hargs, rfl, rfl, h0, r0⟩ := trodAll_cons hA
  obtain ⟨v1, vs1, d1, ds1, p1, q1, rfl, rfl, rfl, h1, r1⟩ := trodAll_cons r0
  obtain ⟨v2, vs2, d2, ds2, p2, q2, rfl, rfl, rfl, h2, r2⟩ := trodAll_cons r1
  obtain ⟨v3, vs3, d3, ds3, p3, q3, rfl, rfl, rfl, h3, r3⟩ := trodAll_cons r2
  obtain ⟨v4, vs4, d4, ds4, p4, q4, rfl, rfl, rfl, h4, r4⟩ := trodAll_cons r3
  obtain ⟨v5, vs5, d5, ds5, p5, q5, rfl, rfl, rfl, h5, r5⟩ := trodAll_cons r4
  obtain ⟨rfl, rfl, rfl⟩ := trodAll_nil r5
  obtain rfl : args = #[v0, v1, v2, v3, v4, v5] := by cases args; simp_all
  obtain ⟨rfl, rfl⟩ := trodVars_none hV
  have lt : ∀ {t v d ps}, DataW.Trod enc Try.prog W 0 (fun _ => true) true t v d ps → ∀ x ∈ ps, x.block < W.heap.size := by
    intro t v d ps h; obtain ⟨m, hm⟩ := h; exact DataW.trod_lt m _ _ _ hm
  have k0 := h0
  have k1 := h1
  have k2 := h2
  obtain ⟨a3, rfl, rfl, rfl, w3⟩ := open_int Try.underlying5 (hval 3 5 v3 rfl rfl) h3
  obtain ⟨a4, rfl, rfl, rfl, w4⟩ := open_int Try.underlying50 (hval 4 50 v4 rfl rfl) h4
  obtain ⟨a5, rfl, rfl, rfl, w5⟩ := open_int Try.underlying50 (hval 5 50 v5 rfl rfl) h5
  obtain ⟨c, rfl⟩ := open_range (hval 1 24 v1 rfl rfl) h1
  obtain ⟨b, rfl, wb⟩ := open_bytes (hval 2 56 v2 rfl rfl) h2
  obtain ⟨μ, σ, V0, s, hs, _, _, hv0, hs0⟩ := open_slice (W := W) Try.underlying22 (price W) (hval 0 22 v0 rfl rfl) h0 (SRo.empty Try.prog W)
  have run : Kt Try.prog W.heap.size (.fn 8) [V0, .agg [.int .i64 c.1, .int .i64 c.2], .agg [.int .u8 b.1, .int .u8 b.2], .int .u8 a3, .int .u16 a4, .int .u16 a5] σ (fun v _ => v = .bool true) :=
    c8 (isK _) (fun σ k hk => Kt.closed_eq E0_ok rfl run12_eq hk) hs0 (bounds_u8 wb.1) (bounds_u8 wb.2) (bounds_u8 w3) (bounds_u16 w4) (bounds_u16 w5) rfl
  refine (law_calls (us := [v0, _, _, _, _, _]) run hs (by simp [VR, VRs]; exact hv0)).mono fun e W' ⟨he, bel⟩ => ?_
  subst he
  exact ⟨_, rfl, _, _, _, [], _, [], hW', trodAll_mk1 (shut_bool Try.underlying4 _),
    trodAll_cons_mk (Below.trod laidOut (by kernel_rfl) (of_decide_eq_true (by kernel_rfl)) k0 bel (lt k0)) (trodAll_cons_mk (Below.trod laidOut (by kernel_rfl) (of_decide_eq_true (by kernel_rfl)) k1 bel (lt k1)) (trodAll_cons_mk (Below.trod laidOut (by kernel_rfl) (of_decide_eq_true (by kernel_rfl)) k2 bel (lt k2)) (trodAll_cons_mk (shut_int Try.underlying5 w3) (trodAll_cons_mk (shut_int Try.underlying50 w4) (trodAll_cons_mk (shut_int Try.underlying50 w5) trodAll_mk0))))),
    rfl, bel.frame _, fun h => by cases h⟩

theorem poleClocks_holds : Rows.PoleClocksSaid :=
  OpenClaim.holds_of_wide 8 Try.f8 rfl rfl rfl rfl rfl rfl rfl ⟨rfl, rfl, rfl, rfl, rfl⟩ rfl rfl rfl rfl rfl (by kernel_rfl) Try.func8 (by kernel_rfl)
    (of_decide_eq_true (by kernel_rfl)) (by unfold Func.isWrapper; first | (rw [if_pos (by decide +kernel)]; kernel_rfl) | (rw [if_neg (by decide +kernel)]; exact ⟨rfl, rfl⟩))
    (fun os started H enc _ => poleClocks_lifted os started H enc)
#print axioms poleClocks_holds

end Go.Proofs.Ytnmkbnejapdnnaa
