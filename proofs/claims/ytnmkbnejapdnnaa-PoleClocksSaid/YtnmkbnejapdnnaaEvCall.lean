/-
  Rounds; all calls by fuel; what the machine does of a call.
-/
import Derived.Test.YtnmkbnejapdnnaaEvFn
set_option linter.unusedVariables false
set_option maxRecDepth 4000
namespace Go.Proofs.Ytnmkbnejapdnnaa.Ev
open Go

section
variable {P : Program} {N0 : Nat} {μ μ' μ'' : Mp} {σ σ' τ : St} {w w' w'' : World} {K : KT} {d nt N n : Nat} {a a' : Act} {t : Tr} {k : Cn}

theorem pathsOk_length : ∀ {ts : List Tmp} {ps : List Pth}, pathsOk d nt ts ps = true → ts.length = ps.length
  | [], [], _ => rfl
  | [], _ :: _, h => by simp [pathsOk] at h
  | _ :: _, [], h => by simp [pathsOk] at h
  | t :: ts, p :: ps, h => by simp only [pathsOk, Bool.and_eq_true] at h; simp [pathsOk_length h.2]

theorem setps_TR (hd : nt ≤ 16 ^ d) : ∀ {ts : List Tmp} {ps : List Pth} {vs : List V} {us : List Value} {t : Tr} {tmps : Array Value}, pathsOk d nt ts ps = true → VRs μ vs us → TR μ d t tmps → tmps.size = nt →
    TR μ d (setps ps vs t) ((ts.zip us).foldl (fun tmps (t, a) => tmps.setIfInBounds t a) tmps) ∧ ((ts.zip us).foldl (fun tmps (t, a) => tmps.setIfInBounds t a) tmps).size = nt
  | [], [], vs, us, t, tmps, _, _, ht, hn => by simp only [List.zip_nil_left, List.foldl_nil]; cases vs <;> exact ⟨ht, hn⟩
  | [], _ :: _, _, _, _, _, h, _, _, _ => by simp [pathsOk] at h
  | _ :: _, [], _, _, _, _, h, _, _, _ => by simp [pathsOk] at h
  | x :: ts, p :: ps, [], us, t, tmps, h, hv, ht, hn => by rw [VRs_nil.1 hv]; exact ⟨ht, hn⟩
  | x :: ts, p :: ps, v :: vs, us, t, tmps, h, hv, ht, hn => by
    simp only [pathsOk, Bool.and_eq_true, beq_iff_eq] at h
    obtain ⟨⟨rfl, h1⟩, h2⟩ := h
    obtain ⟨u, us, rfl, hv1, hv2⟩ := VRs_cons.1 hv
    exact setps_TR hd (ts := ts) (ps := ps) h2 hv2 (ht.set (by rw [hn]; exact hd) (by rw [hn]; exact blt_iff.1 h1) hv1) (by simp [hn])

theorem zip_fold (ps : Array Tmp) (us : List Value) (tmps : Array Value) : (ps.zip ⟨us⟩).foldl (fun tmps (t, a) => tmps.setIfInBounds t a) tmps = (ps.toList.zip us).foldl (fun tmps (t, a) => tmps.setIfInBounds t a) tmps := by
  rw [← Array.foldl_toList, Array.toList_zip]

theorem SR.loop (hs : SR P N0 μ σ w) {l fn : Nat} {a : Tr} {ps : List Pth} {asg body : EC} {s : LSt} {pe : Option (Option Nat)} (h : σ.get l = some (.loop fn a ps asg body s pe)) {c : Nat} (hp : μ.pl l = some (c, 0)) :
    ∃ L dp nt, w.heap[c]? = some (.loop L) ∧ LoopOk P μ dp nt fn a ps asg body s pe L := by
  obtain ⟨c', d', g1, g2⟩ := hs.obj l _ h (by simp)
  rw [hp] at g1; cases g1
  obtain ⟨_, L, dp, nt, h1, h2⟩ := g2
  exact ⟨L, dp, nt, h1, h2⟩

theorem loop_put (hs : SR P N0 μ σ w) {l fn : Nat} {t : Tr} {ps : List Pth} {asg body : EC} {s s' : LSt} {pe pe' : Option (Option Nat)} (h : σ.get l = some (.loop fn t ps asg body s pe)) {c : Nat} (hp : μ.pl l = some (c, 0)) {L L' : Go.Loop} {dp nt : Nat} (hL : w.heap[c]? = some (.loop L)) (hok : LoopOk P μ dp nt fn t ps asg body s pe L)
    (e : L' = { L with state := L'.state, pending := L'.pending }) (h1 : stOk s' L'.state) (h2 : pendOk pe' L'.pending) : Post P N0 μ σ w μ (σ.put l (.loop fn t ps asg body s' pe')) (w.putObj c (.loop L')) := by
  refine Post.put hs h rfl hp (by simp) World.putObj_size (World.putObj_heap_same (Array.getElem?_eq_some_iff.1 hL).1) (fun k hk => World.putObj_heap_other hk) rfl rfl rfl (fun _ => ⟨rfl, L', dp, nt, rfl, ?_⟩)
  exact { fn := by rw [e]; exact hok.fn, size := by rw [e]; exact hok.size, le := hok.le, pos := hok.pos, tr := by rw [e]; exact hok.tr, ps := by rw [e]; exact hok.ps, na := hok.na, nb := hok.nb, asg := by rw [e]; exact hok.asg, body := by rw [e]; exact hok.body, st := h1, pend := h2 }

theorem callY_sound (hmo : P.follows .mixedOrders = true) (hK : KOk P N0 K) {l : Nat} {args : List V} {us : List Value} (hs : SR P N0 μ σ w) (hv : VRs μ args us) {c : Nat} (hp : μ.pl l = some (c, 0)) (h : callY n K l args σ k) :
    ∃ v σ' μ' w' cv, k v σ' ∧ Post P N0 μ σ w μ' σ' w' ∧ VR μ' v cv ∧ TgtGo P μ (.yield l) us w cv w' := by
  unfold callY at h
  split at h
  · rename_i fn t ps asg body hl
    obtain ⟨hlen, h⟩ := boolRecP_elim h
    have hlen := beq_iff.1 hlen
    obtain ⟨L, dp, nt, hL, hok⟩ := hs.loop hl hp
    have hps := pathsOk_length hok.ps
    have hul := VRs_length hv
    have hy := run_yield (P := P) (args := ⟨us⟩) hL (by simp at hps ⊢; omega)
    have hst : L.state = .ready := hok.st
    obtain ⟨t1, n1⟩ := setps_TR hok.le hok.ps hv hok.tr hok.size
    rw [zip_fold] at hy
    let a0 : Act := { tmps := (L.params.toList.zip us).foldl (fun tmps (t, a) => tmps.setIfInBounds t a) L.tmps, defers := [] }
    let b : Frame := Frame.round c L.fn a0.tmps L.assign L.body .normal
    have hfr : b = b.atR a0 [.code L.assign, .beginRound, .code L.body] := rfl
    have hbr : b.roundOf = some c := rfl
    have hbk : b.kind = .normal := rfl
    have hbf : b.fn = fn := hok.fn
    obtain ⟨ex, t', σ1, μ1, w1, a1, g1, g2, g3, g4, g5, g6⟩ := code_sound hmo hK hok.le hok.pos b L.assign asg _ μ σ w _ a0 hok.asg (.inr hok.na) hs t1 n1 (by rw [hbf]; exact h)
    cases ex with
    | exit id => exact False.elim g1
    | ret => exact False.elim g1
    | nrm =>
    have g1 : asgB n K l fn body k t' σ1 := g1
    unfold asgB at g1
    split at g1
    · rename_i fn1 t2 ps1 asg1 body1 hl1
      have hp1 : μ1.pl l = some (c, 0) := (g2.agree.pl l (get_lt hl)).trans hp
      obtain ⟨L1, dp1, nt1, hL1, hok1⟩ := g2.sr.loop hl1 hp1
      have hst1 : L1.state = .ready := hok1.st
      have hpe1 : L1.pending = none := hok1.pend
      have hbeg := run_beginRound (P := P) hL1 hst1
      have q2 := loop_put (s' := .busy) (pe' := none) (L' := { L1 with state := .busy }) g2.sr hl1 hp1 hL1 hok1 rfl rfl hpe1
      have tr1 : TR μ1 dp t' a1.tmps := g3
      obtain ⟨ex, t3, σ3, μ3, w3, a3, r1, r2, r3, r4, r5, r6⟩ := code_sound hmo hK hok.le hok.pos b L.body body _ μ1 _ _ t' a1 hok.body (.inr hok.nb) q2.sr tr1 g4 (by rw [hbf]; exact g1)
      have r1 : roundK l k ex t3 σ3 := r1
      unfold roundK at r1
      split at r1
      · rename_i fn3 t4 ps3 asg3 body3 pe3 hl3
        have hp3 : μ3.pl l = some (c, 0) := by
          rw [r2.agree.pl l (Nat.lt_of_lt_of_le (get_lt hl1) q2.n)]; exact hp1
        obtain ⟨L3, dp3, nt3, hL3, hok3⟩ := r2.sr.loop hl3 hp3
        have pall := g2.trans (q2.trans r2)
        have st0 : ∀ cf cs, Steps P (lone b (cf :: cs) w) (lone (b.atR a1 [.code L.body]) (cf :: cs) (w1.putObj c (.loop { L1 with state := .busy }))) := fun cf cs => by
          rw [hfr]; exact Steps.trans (g6 [.beginRound, .code L.body] (cf :: cs)) (.one (stepR_beginRound hbr hbeg))
        have fin : ∀ (v : V) (bo : Bool) (s' : LSt) (pe' : Option (Option Nat)) (jump : Option Code), v = .bool bo → k v (σ3.put l (.loop fn3 t4 ps3 asg3 body3 s' pe')) → bo = jump.isNone →
            stOk s' (if jump.isNone then .ready else .done) → pendOk pe' jump →
            (∀ cf cs w4 v, (Instr.endRound c jump).run P w3 = .ok v w4 → Steps P (lone (b.atR a1 [.code L.body]) (cf :: cs) (w1.putObj c (.loop { L1 with state := .busy }))) (lone (cf.finish v) cs w4)) →
            ∃ v σ' μ' w' cv, k v σ' ∧ Post P N0 μ σ w μ' σ' w' ∧ VR μ' v cv ∧ TgtGo P μ (.yield l) us w cv w' := by
          intro v bo s' pe' jump ev hk ebo h1 h2 hst
          have her := run_endRound (P := P) jump hL3
          have q4 := loop_put (s' := s') (pe' := pe') (L' := { L3 with state := if jump.isNone then .ready else .done, pending := jump }) r2.sr hl3 hp3 hL3 hok3 rfl h1 h2
          exact ⟨v, _, μ3, _, .bool jump.isNone, hk, pall.trans q4, by rw [ev, ebo]; simp [VR], .yield hp (.round hy (fun cf cs => (st0 cf cs).trans (hst cf cs _ _ her)))⟩
        cases ex with
        | nrm =>
          refine fin (.bool true) true .ready none none rfl r1 rfl rfl rfl (fun cf cs w4 v her => ?_)
          exact Steps.trans (r6 [] (cf :: cs)) (.one (stepR_round_end hbr hbk her))
        | exit id =>
          refine fin (.bool false) false .done (some (some id)) (some (.exit id)) rfl r1 rfl rfl rfl (fun cf cs w4 v her => ?_)
          obtain ⟨k1, x1, x2⟩ := (r6 [] (cf :: cs)).2 rfl
          exact Steps.trans x2 (.one (stepR_round_exit hbr hbk x1 her))
        | ret =>
          refine fin (.bool false) false .done (some none) (some .ret) rfl r1 rfl rfl rfl (fun cf cs w4 v her => ?_)
          obtain ⟨k1, x2⟩ := r6 [] (cf :: cs)
          exact Steps.trans x2 (.one (stepR_round_ret hbr hbk her))
      · cases r1
    · cases g1
  · cases h

/-- All of a table. -/
def BT.All (Q : Nat → EF → Prop) : BT → Prop
  | .nil => True
  | .leaf f e => Q f e
  | .node _ l r => BT.All Q l ∧ BT.All Q r

theorem BT.find_all {Q : Nat → EF → Prop} : ∀ {b : BT}, BT.All Q b → ∀ {f : Nat} {e : EF}, b.find f = some e → Q f e
  | .nil, _, f, e, h => by cases h
  | .leaf g e', hq, f, e, h => by
    have h : Bool.rec (motive := fun _ => Option EF) none (some e') (Nat.beq g f) = some e := h
    by_cases hg : g = f
    · subst hg; rw [beq_iff.2 rfl] at h; cases h; exact hq
    · rw [beq_false.2 hg] at h; cases h
  | .node m l r, hq, f, e, h => by
    have h : Bool.rec (motive := fun _ => Option EF) (r.find f) (l.find f) (Nat.blt f m) = some e := h
    cases hm : Nat.blt f m
    · rw [hm] at h; exact BT.find_all hq.2 h
    · rw [hm] at h; exact BT.find_all hq.1 h

/-- What is asked of a table of functions. -/
structure EnvOk (P : Program) (N0 : Nat) (E : Env) : Prop where
  mixed : P.follows .mixedOrders = true
  fn : ∀ f e, E.fn.find f = some e → ∃ fc, P.funcs[f]? = some fc ∧ fnOk P fc e = true
  ext : ∀ f F, E.ext f = some F → ∀ (args : List V) (μ : Mp) (σ : St) (w : World) (us : List Value) (k : Cn), F args σ k → SR P N0 μ σ w → VRs μ args us →
    ∃ v σ' μ' w' cv, k v σ' ∧ Post P N0 μ σ w μ' σ' w' ∧ VR μ' v cv ∧ TgtGo P μ (.fn f) us w cv w'

theorem callN_sound {E : Env} (hE : EnvOk P N0 E) : ∀ n, KOk P N0 (callN E n)
  | 0 => fun T args μ σ w us k h => False.elim h
  | n + 1 => by
    have ih := callN_sound hE n
    intro T args μ σ w us k h hs hv hp
    cases T with
    | fn f =>
      have h : callF E n (callN E n) f args σ k := h
      unfold callF at h
      split at h
      · rename_i F hF; exact hE.ext f F hF args μ σ w us k h hs hv
      · split at h
        · rename_i e he
          obtain ⟨fc, h1, h2⟩ := hE.fn f e he
          exact callE_sound hE.mixed ih h1 h2 hs hv h
        · cases h
    | yield l =>
      have h : callY n (callN E n) l args σ k := h
      obtain ⟨c, hc⟩ := hp l rfl
      exact callY_sound hE.mixed ih hs hv hc h

/-! ### what the machine does -/
/-- What the machine does of a call. -/
def Kt (P : Program) (N0 : Nat) : KT := fun T args σ k => ∀ (μ : Mp) (w : World) (us : List Value), SR P N0 μ σ w → VRs μ args us → (∀ l, T = .yield l → ∃ c, μ.pl l = some (c, 0)) →
  ∃ v σ' μ' w' cv, k v σ' ∧ Post P N0 μ σ w μ' σ' w' ∧ VR μ' v cv ∧ TgtGo P μ T us w cv w'

theorem Kt_ok : KOk P N0 (Kt P N0) := fun T args μ σ w us k h hs hv hp => h μ w us hs hv hp

theorem Kt.mono {T : Tgt} {args : List V} {σ : St} {k k' : Cn} (h : Kt P N0 T args σ k) (hk : ∀ v σ', k v σ' → k' v σ') : Kt P N0 T args σ k' := fun μ w us hs hv hp =>
  let ⟨v, σ', μ', w', cv, g1, g2, g3, g4⟩ := h μ w us hs hv hp; ⟨v, σ', μ', w', cv, hk _ _ g1, g2, g3, g4⟩

/-- A function by its code. -/
theorem Kt.fn (hmo : P.follows .mixedOrders = true) {f : Nat} {fn : Func} {e : EF} (hf : P.funcs[f]? = some fn) (hok : fnOk P fn e = true) (N : Nat) {args : List V} {σ : St} {k : Cn} (h : callE N (Kt P N0) f e args σ k) : Kt P N0 (.fn f) args σ k :=
  fun μ w us hs hv _ => callE_sound hmo Kt_ok hf hok hs hv h

/-- A round. -/
theorem Kt.yield (hmo : P.follows .mixedOrders = true) {l : Nat} (N : Nat) {args : List V} {σ : St} {k : Cn} (h : callY N (Kt P N0) l args σ k) : Kt P N0 (.yield l) args σ k := fun μ w us hs hv hp => by
  obtain ⟨c, hc⟩ := hp l rfl; exact callY_sound hmo Kt_ok hs hv hc h

/-- A call by fuel. -/
theorem Kt.run {E : Env} (hE : EnvOk P N0 E) (n : Nat) {T : Tgt} {args : List V} {σ : St} {k : Cn} (h : callN E n T args σ k) : Kt P N0 T args σ k := fun μ w us hs hv hp => callN_sound hE n T args μ σ w us k h hs hv hp

/-! ### closed runs -/
def St.empty : St := ⟨[], 0, 0, []⟩

theorem SR.empty (w : World) : SR P w.heap.size ⟨fun _ => none, fun _ => 0⟩ .empty w where
  upto := fun _ _ => rfl
  obj := fun b o h => by cases h
  own := fun b o c d h => by cases h
  ro := fun b vs c d h => by cases h
  inj := fun b₁ b₂ o₁ o₂ c d₁ d₂ h => by cases h
  size := Nat.le_refl _
  plc := fun b c d h => by cases h

/-- The heap grows by what nobody looks at. -/
theorem Post.grow (hs : SR P N0 μ σ w) (hsz : w.heap.size ≤ w'.heap.size) (hk : ∀ c, c < w.heap.size → w'.heap[c]? = w.heap[c]?) (e1 : w'.os = w.os) (e2 : w'.tape = w.tape) (e3 : w'.output = w.output) : Post P N0 μ σ w μ σ w' where
  agree := Agree.refl _ _
  sr := ⟨hs.upto, fun b o h1 h2 => by
      obtain ⟨c, d, g1, g2⟩ := hs.obj b o h1 h2
      exact ⟨c, d, g1, by rw [hk c (hs.plc b c d g1)]; exact g2⟩, hs.own, hs.ro, hs.inj, Nat.le_trans hs.size hsz, fun b c d h1 => Nat.lt_of_lt_of_le (hs.plc b c d h1) hsz⟩
  keep := fun c hc _ => hk c hc
  img := fun b o c d h1 h2 h3 _ => ⟨b, o, d, h1, h2, h3⟩
  n := Nat.le_refl _
  size := hsz
  os := e1
  tape := e2
  output := e3
  base := rfl
  mods := fun _ h => h
  ext := fun _ _ _ _ => rfl
  keys := fun _ h => h
  same := fun b o c d _ _ _ _ h5 => hk c (hs.plc b c d h5)

/-- A plain value: it leads nowhere. -/
def V.plain : V → Bool
  | .bool _ => true
  | .int _ _ => true
  | .str _ => true
  | _ => false

/-- A closed run, anywhere. -/
theorem Kt.closed {E : Env} (hE : ∀ N0, EnvOk P N0 E) (n : Nat) {f : Nat} {v : V} (hv : v.plain = true) (h : callN E n (.fn f) [] .empty (fun v' _ => v' = v)) {σ : St} {k : Cn} (hk : k v σ) : Kt P N0 (.fn f) [] σ k := by
  intro μ w us hs hvs hp
  rw [VRs_nil.1 hvs]
  obtain ⟨v', σ', μ', w', cv, rfl, g2, g3, g4⟩ := callN_sound (hE w.heap.size) n (.fn f) [] _ _ w [] _ h (SR.empty w) (VRs_nil.2 rfl) (fun l e => by cases e)
  refine ⟨v', σ, μ, w', cv, hk, Post.grow hs g2.size (fun c hc => g2.keep c hc (fun b o d h1 => by cases h1)) g2.os g2.tape g2.output, ?_, ?_⟩
  · cases v' <;> first | (cases hv; done) | exact g3
  · cases g4 with
    | fn h hb => exact .fn h hb

end
end Go.Proofs.Ytnmkbnejapdnnaa.Ev
