/-
  'append' of zero values; calls.
-/
import Derived.Test.YtnmkbnejapdnnaaEvOpL
set_option linter.unusedVariables false
set_option maxRecDepth 4000
namespace Go.Proofs.Ytnmkbnejapdnnaa.Ev
open Go

section
variable {P : Program} {N0 : Nat} {μ : Mp} {σ σ' : St} {w w' : World} {k : Cn} {K : KT} {d nt : Nat} {a : Act} {t : Tr} {o : Oper}

theorem append_eqz {ty u rt el : TypeId} {i : TypeInfo} {z : Value} (hu : P.underlying ty = some (.slice el)) {ku : IntKind} (hu' : P.underlying u = some (.int ku)) (hi : P.info? el = some i) (hz : i.zero = some z) (base : Option Addr) (sLen sCap n : Nat) (kd : IntKind)
    (hn : n ≤ 1073741824) (hb : i.bytes ≤ 262144) (h1 : 0 < i.bytes) (h2 : sLen + n ≤ sCap ∨ Builtin.nextslicecap (sLen + n) sCap * i.bytes ≤ 281474976710656) :
    (Builtin.append_ #[ty, u] rt #[.slice base sLen sCap, .int kd n]).run P w = (appTail el i.size i.bytes sLen sCap n base (.slice base sLen sCap) z (if n * i.size = 0 then pure #[] else do pure (Builtin.zeroCells z.cells n))).run P w := by
  have hw : IntKind.i64.wrap (n : Int) = n := wrap_i64 (by omega) (by omega)
  have h0 : ¬ ((n : Int) < 0) := by omega
  have hmul : n * i.bytes ≤ 281474976710656 := Nat.le_trans (Nat.mul_le_mul hn hb) (by decide)
  have h3 : ¬ ((281474976710656 : Int) < (n : Int) * (i.bytes : Int)) := by
    have : ((n * i.bytes : Nat) : Int) ≤ ((281474976710656 : Nat) : Int) := Int.ofNat_le.2 hmul
    rw [Int.natCast_mul] at this; omega
  by_cases hc : sLen + n ≤ sCap
  · by_cases h4 : n * i.size = 0
    · cases base <;> simp [Builtin.append_, appTail, underlying, hu, hu', sizeOf, typeInfo, hi, asInt, asIntOf, hw, h0, h3, hc, h4, zeroValue, hz]
    · cases base <;> simp [Builtin.append_, appTail, underlying, hu, hu', sizeOf, typeInfo, hi, asInt, asIntOf, hw, h0, h3, hc, h4, zeroValue, hz]
  · have h2' : ¬ (281474976710656 < Builtin.nextslicecap (sLen + n) sCap * i.bytes) := by rcases h2 with h2 | h2 <;> omega
    have hneed : ¬ (9223372036854775807 < (sLen : Int) + n) := by
      have g1 := le_nextslicecap (need := sLen + n) (old := sCap) (by omega)
      have g2 : Builtin.nextslicecap (sLen + n) sCap * 1 ≤ Builtin.nextslicecap (sLen + n) sCap * i.bytes := Nat.mul_le_mul_left _ h1
      omega
    by_cases h4 : n * i.size = 0
    · simp [Builtin.append_, appTail, underlying, hu, hu', sizeOf, typeInfo, hi, asInt, asIntOf, hw, h0, h3, hc, h4, zeroValue, hz, h2', hneed]
    · simp [Builtin.append_, appTail, underlying, hu, hu', sizeOf, typeInfo, hi, asInt, asIntOf, hw, h0, h3, hc, h4, zeroValue, hz, h2', hneed]

theorem s_appz (hs : SR P N0 μ σ w) (ht : TR μ d t a.tmps) (hn : a.tmps.size = nt) {es bytes : Nat} {zs : List V} {x' y' : Opd} (hop : opOk P d nt o.op o.type (.appz es bytes zs x' y') = true) (h : evalOp (.appz es bytes zs x' y') K t σ k) : OpS P N0 μ σ w (execOp a.eval o) k := by
  have hk : appzP es bytes zs σ (opd t x') (opd t y') k := h
  have : ∃ c ty u el ku, o.op = .call c ∧ bltOk c .append = true ∧ opdsOk d nt c.args.toList [x', y'] = true ∧ c.argTypes = #[ty, u] ∧ P.underlying ty = some (.slice el) ∧ sizeT P el = some es ∧ bytesT P el = some bytes ∧ P.underlying u = some (.int ku) ∧ zeroOk (zeroT P el) zs = true ∧ zs.length = es ∧ 0 < bytes ∧ bytes ≤ 262144 ∧ 0 < es := by
    replace hop : ok_appz P d nt o.op es bytes zs x' y' = true := hop
    unfold ok_appz at hop
    split at hop
    · rename_i e; simp only [Bool.and_eq_true] at hop
      obtain ⟨⟨h1, h2⟩, h3⟩ := hop
      split at h3
      · rename_i ty u ht'
        split at h3
        · rename_i el hel
          simp only [Bool.and_eq_true, beq_iff_eq] at h3
          obtain ⟨⟨⟨⟨⟨⟨⟨g1, g2⟩, g3⟩, g4⟩, g5⟩, g6⟩, g7⟩, g8⟩ := h3
          obtain ⟨ku, hku⟩ := Option.isSome_iff_exists.1 g3
          exact ⟨_, ty, u, el, ku, e, h1, h2, Array.toList_inj.1 (by simpa using ht'), sliceElem_spec hel, g1, g2, isInt_spec hku, g4, g5, blt_iff.1 g6, Nat.le_of_ble_eq_true g7, blt_iff.1 g8⟩
        · cases h3
      · cases h3
    · cases hop
  obtain ⟨c, ty, u, el, ku, he, hb, hxs, hty, hu, hsz, hby, hku, hz, hzl, hb0, hb1, he0⟩ := this
  obtain ⟨consts, hex⟩ := exec_blt he hb a.eval
  obtain ⟨ux, uy, hargs, vx, vy⟩ := args2 ht hn hxs
  rw [hex, hargs, hty]
  obtain ⟨i, hi, hi1⟩ := sizeT_info hsz
  have hi2 : i.bytes = bytes := by unfold bytesT at hby; rw [hi] at hby; simpa using hby
  obtain ⟨z, hz1⟩ : ∃ z, zeroT P el = some z := by
    cases e : zeroT P el with
    | none => rw [e] at hz; cases hz
    | some z => exact ⟨z, rfl⟩
  have hzi : i.zero = some z := by unfold zeroT at hz1; rw [hi] at hz1; exact hz1
  have hzv : VRs μ zs z.cells.toList := by rw [hz1] at hz; exact cellsOk_VRs hz
  have hzs : z.cells.size = es := by rw [← hzl, ← VRs_length hzv]; simp
  unfold appzP at hk
  split at hk
  · rename_i kd n e
    rw [e] at vy; simp only [VR] at vy; subst vy
    split at hk
    · rename_i hcond
      obtain ⟨v, σ', happ, hk2⟩ := gvs_elim hk
      obtain ⟨m, rfl⟩ : ∃ m : Nat, n = m := ⟨n.toNat, by omega⟩
      simp only [Int.toNat_natCast] at happ
      have hrun : ∀ w' : World, w'.heap = w.heap → ((if m * es = 0 then pure #[] else do pure (Builtin.zeroCells z.cells m) : Sem (Array Value))).run P w' = .ok (List.replicate m z.cells.toList).flatten.toArray w' := by
        intro w' _
        by_cases h4 : m * es = 0
        · have : m = 0 := by rcases Nat.mul_eq_zero.1 h4 with h | h <;> omega
          subst this; simp
        · rw [if_neg h4, Sem.run_pure]
          congr 1
          apply Array.toList_inj.1
          rw [zeroCells_list _ _ (by omega)]
      obtain ⟨base, sLen, sCap, μ', w', cv, rfl, g1, g2, g3, g4⟩ := appTail_post (el := el) (zero := z) hs vx happ (news := (List.replicate m z.cells.toList).flatten) (by rw [zrow_eq]; exact flat_VRs hzv m) (by rw [zrow_eq, flat_len, hzl]) hzs he0 hb0 hrun
      have := append_eqz (P := P) (w := w) (rt := o.type) hu hku hi hzi base sLen sCap m kd (by omega) (by omega) (by omega) (by rw [hi2]; exact g3)
      rw [hi1, hi2] at this
      refine ⟨v, σ', μ', w', cv, hk2, g1, g2, .value ?_⟩
      simp only [builtin]
      refine run_val ?_
      rw [this]; exact g4
    · cases hk
  · cases hk

/-! ### calls -/
/-- What is asked of the calls' table. -/
inductive TgtGo (P : Program) (μ : Mp) : Tgt → List Value → World → Value → World → Prop
  | fn {f us w cv w'} (h : CallGo P f ⟨us⟩ w cv w') (hb : ∃ fn c, P.funcs[f]? = some fn ∧ fn.body = some c ∧ fn.name ≠ "runtime.NumGoroutine") : TgtGo P μ (.fn f) us w cv w'
  | yield {l us w cv w' c} (hp : μ.pl l = some (c, 0)) (h : SemGo P (Instr.yield c ⟨us⟩) w cv w') : TgtGo P μ (.yield l) us w cv w'

def KOk (P : Program) (N0 : Nat) (K : KT) : Prop :=
  ∀ (T : Tgt) (args : List V) (μ : Mp) (σ : St) (w : World) (us : List Value) (k : Cn), K T args σ k → SR P N0 μ σ w → VRs μ args us → (∀ l, T = .yield l → ∃ c, μ.pl l = some (c, 0)) →
    ∃ v σ' μ' w' cv, k v σ' ∧ Post P N0 μ σ w μ' σ' w' ∧ VR μ' v cv ∧ TgtGo P μ T us w cv w'

theorem run_callFunc {f : Nat} {args : Array Value} (hb : ∃ fn c, P.funcs[f]? = some fn ∧ fn.body = some c ∧ fn.name ≠ "runtime.NumGoroutine") : (callFunc f args).run P w = .ok (.enter f args) w := by
  obtain ⟨fn, c, h1, h2, h3⟩ := hb
  simp [callFunc, h1, h2, h3]

theorem s_call (hK : KOk P N0 K) (hs : SR P N0 μ σ w) (ht : TR μ d t a.tmps) (hn : a.tmps.size = nt) {f : Nat} {xs : List Opd} (hop : opOk P d nt o.op o.type (.call f xs) = true) (h : evalOp (.call f xs) K t σ k) : OpS P N0 μ σ w (execOp a.eval o) k := by
  have hk : K (.fn f) (opds t xs) σ k := h
  have : ∃ c, o.op = .call c ∧ c.callee = .value (.func f) ∧ opdsOk d nt c.args.toList xs = true := by
    replace hop : ok_call d nt o.op f xs = true := hop
    unfold ok_call at hop
    split at hop
    · rename_i c e
      simp only [Bool.and_eq_true] at hop
      obtain ⟨h1, h2⟩ := hop
      unfold calleeIs at h1
      split at h1
      · rename_i g hg
        unfold isFn at h1
        split at h1
        · have := beq_iff_eq.1 h1; subst this; exact ⟨c, e, hg, h2⟩
        · cases h1
      · cases h1
    · cases hop
  obtain ⟨c, he, hc, hxs⟩ := this
  obtain ⟨v, σ', μ', w', cv, g1, g2, g3, g4⟩ := hK _ _ μ σ w _ k hk hs (opdsOk_VRs ht hn hxs) (fun l h => by cases h)
  refine ⟨v, σ', μ', w', cv, g1, g2, g3, ?_⟩
  cases g4 with
  | fn h hb =>
    refine .enter (args := ⟨c.args.toList.map a.eval⟩) (w₁ := w) ?_ h
    have : c.args.map a.eval = ⟨c.args.toList.map a.eval⟩ := by apply Array.toList_inj.1; simp
    have hcf := run_callFunc (P := P) (w := w) (args := ⟨c.args.toList.map a.eval⟩) hb
    simp [execOp, he, resolve, hc, Deferred.ofValue, Act.eval, invoke, this]
    simpa using hcf

theorem s_calld (hK : KOk P N0 K) (hs : SR P N0 μ σ w) (ht : TR μ d t a.tmps) (hn : a.tmps.size = nt) {x' : Opd} {xs : List Opd} (hop : opOk P d nt o.op o.type (.calld x' xs) = true) (h : evalOp (.calld x' xs) K t σ k) : OpS P N0 μ σ w (execOp a.eval o) k := by
  have hk : calldP K (opd t x') (opds t xs) σ k := h
  have : ∃ c x, o.op = .call c ∧ c.callee = .value x ∧ opdOk d nt x x' = true ∧ opdsOk d nt c.args.toList xs = true := by
    replace hop : ok_calld d nt o.op x' xs = true := hop
    unfold ok_calld at hop
    split at hop
    · rename_i c e
      simp only [Bool.and_eq_true] at hop
      obtain ⟨h1, h2⟩ := hop
      unfold calleeOpd at h1
      split at h1
      · rename_i g hg; exact ⟨c, _, e, hg, h1, h2⟩
      · cases h1
    · cases hop
  obtain ⟨c, x, he, hc, hx, hxs⟩ := this
  have vx := opdOk_VR ht hn hx
  have vxs := opdsOk_VRs ht hn hxs
  have hargs : c.args.map a.eval = ⟨c.args.toList.map a.eval⟩ := by apply Array.toList_inj.1; simp
  generalize opd t x' = v at hk vx
  cases v <;> first | exact False.elim hk | skip
  case func f fx fc =>
    have hk : K (.fn f) (fx ++ opds t xs ++ fc) σ k := hk
    simp only [VR] at vx
    obtain ⟨us, ws, h1, h2, vx⟩ := vx
    obtain ⟨v, σ', μ', w', cv, g1, g2, g3, g4⟩ := hK _ _ μ σ w _ k hk hs (VRs_append (VRs_append h1 vxs) h2) (fun l h => by cases h)
    refine ⟨v, σ', μ', w', cv, g1, g2, g3, ?_⟩
    cases g4 with
    | fn h hb =>
      refine .enter (args := ⟨us ++ c.args.toList.map a.eval ++ ws⟩) (w₁ := w) ?_ h
      have hcf := run_callFunc (P := P) (w := w) (args := ⟨us ++ c.args.toList.map a.eval ++ ws⟩) hb
      simp [execOp, he, resolve, hc, vx, Deferred.ofValue, invoke, hargs]
      simpa using hcf
  case yield l =>
    have hk : K (.yield l) (opds t xs) σ k := hk
    simp only [VR] at vx
    obtain ⟨cc, hp, vx⟩ := vx
    obtain ⟨v, σ', μ', w', cv, g1, g2, g3, g4⟩ := hK _ _ μ σ w _ k hk hs vxs (fun l h => by cases h; exact ⟨cc, hp⟩)
    refine ⟨v, σ', μ', w', cv, g1, g2, g3, ?_⟩
    cases g4 with
    | yield hp' h =>
      rw [hp] at hp'; cases hp'
      have : execOp a.eval o = Instr.yield cc ⟨c.args.toList.map a.eval⟩ := by
        simp [execOp, he, resolve, hc, vx, Deferred.ofValue, invoke, hargs]
      rw [this]; exact h

end
end Go.Proofs.Ytnmkbnejapdnnaa.Ev
