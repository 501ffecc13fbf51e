/-
  Functions: what the evaluator says of a call the machine does.
-/
import Derived.Test.YtnmkbnejapdnnaaEvCodeT
set_option linter.unusedVariables false
set_option maxRecDepth 4000
namespace Go.Proofs.Ytnmkbnejapdnnaa.Ev
open Go

section
variable {P : Program} {N0 : Nat} {μ μ' μ'' : Mp} {σ σ' τ : St} {w w' w'' : World} {K : KT} {d nt N n : Nat} {a a' : Act} {t : Tr} {k : Cn}

/-! ### leaving a function -/
/-- Nothing is placed from n on. -/
def Mp.cut (μ : Mp) (n : Nat) : Mp := ⟨fun b => if b < n then μ.pl b else none, μ.sz⟩

theorem cut_agree (μ : Mp) (n : Nat) : Agree n μ (μ.cut n) := ⟨fun b hb => by simp [Mp.cut, hb], fun _ _ _ _ _ => rfl⟩
theorem cut_upto (μ : Mp) (n : Nat) : (μ.cut n).upto n := fun b hb => by simp [Mp.cut]; omega
theorem cut_pl {μ : Mp} {n b : Nat} {x : Nat × Nat} (h : (μ.cut n).pl b = some x) : b < n ∧ μ.pl b = some x := by
  unfold Mp.cut at h; dsimp only at h; split at h
  · exact ⟨by assumption, h⟩
  · cases h

/-- With all that was made. -/
theorem Post.back (hp : Post P N0 μ σ.enter w μ' τ w') : Post P N0 μ σ w μ' (σ.back τ) w' where
  agree := hp.agree
  sr := hp.sr.less rfl (fun b o h _ => h)
  keep := hp.keep
  img := hp.img
  n := hp.n
  size := hp.size
  os := hp.os
  tape := hp.tape
  output := hp.output
  base := rfl
  mods := fun b hb => (mem_nmerge σ.base b τ.mods σ.mods).2 (.inr hb)
  ext := fun b h1 h2 h3 => hp.ext b h2 h2 (fun hc => h3 ((mem_nmerge σ.base b τ.mods σ.mods).2 (.inl ⟨hc, h1⟩)))
  keys := hp.keys
  same := fun b o c d h1 h2 h3 h4 h5 => hp.same b o c d (get_lt h3) (fun hc => h2 ((mem_nmerge σ.base b τ.mods σ.mods).2 (.inl ⟨hc, h1⟩))) h3 h4 h5

theorem refold_spec (τ : St) : ∀ (l : List Nat) (σ : St), (refold τ l σ).n = σ.n ∧ (refold τ l σ).base = σ.base ∧ (∀ x, x ∈ (refold τ l σ).mods ↔ x ∈ σ.mods ∨ (x ∈ l ∧ x < σ.base ∧ (τ.get x).isSome = true)) ∧
    ∀ b, (refold τ l σ).get b = if b ∈ l ∧ (σ.get b).isSome = true ∧ (τ.get b).isSome = true then τ.get b else σ.get b
  | [], σ => ⟨rfl, rfl, fun x => by simp [refold], fun b => by simp [refold]⟩
  | c :: l, σ => by
    cases hc : τ.get c with
    | none =>
      have e : refold τ (c :: l) σ = refold τ l σ := by simp [refold, hc]
      rw [e]
      obtain ⟨h1, h2, h3, h4⟩ := refold_spec τ l σ
      refine ⟨h1, h2, fun x => ?_, fun b => ?_⟩
      · rw [h3]
        by_cases hx : x = c
        · subst hx; simp [hc]
        · simp [hx]
      · rw [h4]
        by_cases hx : b = c
        · subst hx; simp [hc]
        · simp [hx]
    | some o =>
      have e : refold τ (c :: l) σ = refold τ l (σ.put c o) := by simp [refold, hc]
      rw [e]
      obtain ⟨h1, h2, h3, h4⟩ := refold_spec τ l (σ.put c o)
      refine ⟨h1, h2, fun x => ?_, fun b => ?_⟩
      · rw [h3, mods_put, base_put]
        by_cases hx : x = c
        · subst hx
          simp only [hc, List.mem_cons, true_or, Option.isSome_some, and_true, true_and]
          constructor
          · rintro ((h | h) | h)
            · exact .inr h
            · exact .inl h
            · exact .inr h.2
          · rintro (h | h)
            · exact .inl (.inr h)
            · exact .inl (.inl h)
        · simp [hx]
      · rw [h4, get_put]
        by_cases hx : b = c
        · subst hx
          cases hb : σ.get b <;> simp [hc]
        · simp [hx]

theorem clean_spec {l : List Nat} (h : clean n τ l = true) : ∀ b ∈ l, ∃ o, τ.get b = some o ∧ o.bel n = true := by
  induction l with
  | nil => intro b hb; simp at hb
  | cons c l ih =>
    intro b hb
    unfold clean at h
    cases hc : τ.get c with
    | none => rw [hc] at h; cases h
    | some o =>
      rw [hc] at h
      dsimp only at h
      cases ho : o.bel n with
      | false => rw [ho] at h; cases h
      | true =>
        rw [ho] at h
        rcases List.mem_cons.1 hb with rfl | hb
        · exact ⟨o, hc, ho⟩
        · exact ih h b hb

/-- Without what was made. -/
theorem Post.refold (hs : SR P N0 μ σ w) (hp : Post P N0 μ σ.enter w μ' τ w') (hc : clean σ.n τ τ.mods = true) : Post P N0 μ σ w (μ'.cut σ.n) (Ev.refold τ τ.mods σ) w' := by
  obtain ⟨r1, r2, r3, r4⟩ := refold_spec τ τ.mods σ
  have hcl := clean_spec hc
  have hag : Agree σ.n μ (μ'.cut σ.n) := hp.agree.trans (cut_agree μ' σ.n) (Nat.le_refl _)
  have hle : μ.le (μ'.cut σ.n) := hs.upto.le hag
  -- what stands in it
  have hg : ∀ b o, (Ev.refold τ τ.mods σ).get b = some o → (σ.get b).isSome = true ∧ τ.get b = some o := by
    intro b o h
    rw [r4] at h
    split at h
    · rename_i h1; exact ⟨h1.2.1, h⟩
    · rename_i h1
      have hb : (σ.get b).isSome = true := by rw [h]; rfl
      refine ⟨hb, ?_⟩
      have hbn := get_lt h
      have hnm : b ∉ τ.mods := fun hm => h1 ⟨hm, hb, hp.keys b hb⟩
      rw [hp.ext b hbn hbn hnm]; exact h
  have hlt : ∀ b, (σ.get b).isSome = true → b < σ.n := fun b hb => by
    obtain ⟨o, ho⟩ := Option.isSome_iff_exists.1 hb; exact get_lt ho
  have hpl : ∀ b x, b < σ.n → μ'.pl b = some x → (μ'.cut σ.n).pl b = some x := fun b x hb e => by
    rw [(cut_agree μ' σ.n).pl b hb]; exact e
  exact {
    agree := hag
    sr := {
      upto := by rw [r1]; exact cut_upto _ _
      obj := fun b o h1 h2 => by
        obtain ⟨g1, g2⟩ := hg b o h1
        have hbn := hlt b g1
        obtain ⟨c, d, q1, q2⟩ := hp.sr.obj b o g2 h2
        refine ⟨c, d, hpl b _ hbn q1, ?_⟩
        by_cases hm : b ∈ τ.mods
        · obtain ⟨o', e1, e2⟩ := hcl b hm
          rw [g2] at e1; cases e1
          exact q2.bel (cut_agree μ' σ.n |> fun h => ⟨fun b hb => (h.pl b hb).symm, fun b c d hb e => rfl⟩) hbn (hpl b _ hbn q1) e2
        · have hσ : σ.get b = some o := by
            have := hp.ext b hbn hbn hm
            rw [g2] at this; exact this.symm
          obtain ⟨c', d', k1, k2⟩ := hs.obj b o hσ h2
          have := (hp.agree.pl b hbn).trans k1
          rw [q1] at this; cases this
          rw [hp.same b o c d hbn hm hσ h2 k1]
          exact k2.mono hle k1
      own := fun b o c d h1 h2 h3 => hp.sr.own b o c d (hg b o h1).2 h2 (cut_pl h3).2
      ro := fun b vs c d h1 h3 => hp.sr.ro b vs c d (hg b _ h1).2 (cut_pl h3).2
      inj := fun b₁ b₂ o₁ o₂ c d₁ d₂ h1 h2 f1 f2 p1 p2 => hp.sr.inj b₁ b₂ o₁ o₂ c d₁ d₂ (hg _ _ h1).2 (hg _ _ h2).2 f1 f2 (cut_pl p1).2 (cut_pl p2).2
      size := hp.sr.size
      plc := fun b c d h => hp.sr.plc b c d (cut_pl h).2 }
    keep := hp.keep
    img := fun b o c d h1 h2 h3 hc => hp.img b o c d (hg b o h1).2 h2 (cut_pl h3).2 hc
    n := by rw [r1]; exact Nat.le_refl _
    size := hp.size
    os := hp.os
    tape := hp.tape
    output := hp.output
    base := r2
    mods := fun b hb => (r3 b).2 (.inl hb)
    ext := fun b h1 h2 h3 => by
      have hnm : ¬ (b ∈ τ.mods ∧ (τ.get b).isSome = true) := fun hm => h3 ((r3 b).2 (.inr ⟨hm.1, h1, hm.2⟩))
      rw [r4, if_neg (fun hc => hnm ⟨hc.1, hc.2.2⟩)]
    keys := fun b hb => by
      rw [r4]; split
      · rename_i h; exact h.2.2
      · exact hb
    same := fun b o c d h1 h2 h3 h4 h5 => by
      have hb : (σ.get b).isSome = true := by rw [h3]; rfl
      exact hp.same b o c d (get_lt h3) (fun hm => h2 ((r3 b).2 (.inr ⟨hm, h1, hp.keys b hb⟩))) h3 h4 h5 }

theorem Post.leave (hs : SR P N0 μ σ w) (hp : Post P N0 μ σ.enter w μ' τ w') {v : V} {cv : Value} (hv : VR μ' v cv) : ∃ μ'', Post P N0 μ σ w μ'' (σ.leave τ v) w' ∧ VR μ'' v cv := by
  unfold St.leave
  split
  · rename_i h
    simp only [Bool.and_eq_true] at h
    refine ⟨_, hp.refold hs h.2, VR.bel (μ' := μ') ⟨fun b hb => ((cut_agree μ' σ.n).pl b hb).symm, fun b c d hb e => rfl⟩ h.1 hv⟩
  · exact ⟨μ', hp.back, hv⟩

theorem SR.enter (hs : SR P N0 μ σ w) : SR P N0 μ σ.enter w := hs.less rfl (fun b o h _ => h)

/-! ### the marks are taken -/
def shut (w : World) : List Nat → World
  | [] => w
  | r :: rs => shut (w.putObj r (.deferred none)) rs

theorem shut_size (rs : List Nat) : ∀ w : World, (shut w rs).heap.size = w.heap.size := by
  induction rs with
  | nil => intro w; rfl
  | cons r rs ih => intro w; rw [shut, ih, World.putObj_size]
theorem shut_other (rs : List Nat) : ∀ (w : World) (c : Nat), c ∉ rs → (shut w rs).heap[c]? = w.heap[c]? := by
  induction rs with
  | nil => intro w c _; rfl
  | cons r rs ih =>
    intro w c hc
    simp only [List.mem_cons, not_or] at hc
    rw [shut, ih _ c hc.2, World.putObj_heap_other hc.1]
theorem shut_rest (rs : List Nat) : ∀ w : World, (shut w rs).os = w.os ∧ (shut w rs).tape = w.tape ∧ (shut w rs).output = w.output := by
  induction rs with
  | nil => intro w; exact ⟨rfl, rfl, rfl⟩
  | cons r rs ih => intro w; exact ih _

/-- Blocks that nothing of the abstract heap stands in are turned. -/
theorem Post.shut {rs : List Nat} (hp : Post P N0 μ σ w μ' τ w') (hr : ∀ r ∈ rs, w.heap.size ≤ r ∧ w'.heap[r]? = some (.deferred (some []))) (h0 : N0 ≤ w.heap.size) : Post P N0 μ σ w μ' τ (Ev.shut w' rs) := by
  obtain ⟨e1, e2, e3⟩ := shut_rest rs w'
  have hold : ∀ c, c < w.heap.size → (Ev.shut w' rs).heap[c]? = w'.heap[c]? := fun c hc => shut_other rs w' c (fun hm => by have := (hr c hm).1; omega)
  have hlive : ∀ b o c d, τ.get b = some o → o ≠ .dead → μ'.pl b = some (c, d) → c ∉ rs := by
    intro b o c d h1 h2 h3 hm
    obtain ⟨c', d', g1, g2⟩ := hp.sr.obj b o h1 h2
    rw [h3] at g1; cases g1
    rw [(hr c hm).2] at g2
    cases o with
    | cells ro vs => obtain ⟨_, _, _, _, _, e, _⟩ := g2; cases e
    | map es cl => obtain ⟨_, _, e, _⟩ := g2; cases e
    | iter m s l => obtain ⟨_, _, _, e⟩ := g2; cases e
    | loop fn a ps asg body s p => obtain ⟨_, _, _, _, e, _⟩ := g2; cases e
    | dead => exact h2 rfl
  exact {
    agree := hp.agree
    sr := ⟨hp.sr.upto, fun b o h1 h2 => by
      obtain ⟨c, d, g1, g2⟩ := hp.sr.obj b o h1 h2
      exact ⟨c, d, g1, by rw [shut_other rs w' c (hlive b o c d h1 h2 g1)]; exact g2⟩, hp.sr.own, hp.sr.ro, hp.sr.inj, by rw [shut_size]; exact hp.sr.size, fun b c d h1 => by rw [shut_size]; exact hp.sr.plc b c d h1⟩
    keep := fun c hc hi => by rw [hold c hc]; exact hp.keep c hc hi
    img := hp.img
    n := hp.n
    size := by rw [shut_size]; exact hp.size
    os := e1.trans hp.os
    tape := e2.trans hp.tape
    output := e3.trans hp.output
    base := hp.base
    mods := hp.mods
    ext := hp.ext
    keys := hp.keys
    same := fun b o c d h1 h2 h3 h4 h5 => by
      have hbn := get_lt h3
      have h6 : μ'.pl b = some (c, d) := (hp.agree.pl b hbn).trans h5
      have h7 : τ.get b = some o := (hp.ext b h1 hbn h2).trans h3
      rw [shut_other rs w' c (hlive b o c d h7 h4 h6)]
      exact hp.same b o c d h1 h2 h3 h4 h5 }

theorem unwind_marks (fr : Frame) (hm : fr.mode = .returning) : ∀ (rs : List Nat) (w : World) (cs : List Frame), rs.Nodup → (∀ r ∈ rs, w.heap[r]? = some (.deferred (some []))) →
    Steps P (lone { fr with defers := rs.map (fun r => { target := .collected r, args := #[] }) } cs w) (lone { fr with defers := [] } cs (shut w rs))
  | [], w, cs, _, _ => .refl _ _
  | r :: rs, w, cs, hn, hr => by
    rw [List.nodup_cons] at hn
    have h1 := run_takeDeferred (P := P) (hr r (by simp))
    refine .head (step_lone_go (fr' := { fr with defers := rs.map (fun r => { target := .collected r, args := #[] }) }) (cs' := cs) (w' := w.putObj r (.deferred none)) ?_) ?_
    · simp [stepG, unwind, hm, Sem.runT_eq, h1]
    · exact unwind_marks fr hm rs _ cs hn.2 (fun x hx => by
        rw [World.putObj_heap_other (by rintro rfl; exact hn.1 hx)]; exact hr x (by simp [hx]))

/-! ### results -/
def resF (tmps : Array Value) (r : ResultVar) : Sem Value :=
  match r with
  | .tmp t => pure (tmps.getD t undef)
  | .cell x ty => do loadVar ty (← asAddr (tmps.getD x undef))

theorem results_eq (fn : Func) (tmps : Array Value) : results fn tmps = (do
    let vs ← fn.results.mapM (resF tmps)
    pure (if h : vs.size = 1 then vs[0] else .tuple vs)) := rfl

theorem ress_sound {es : List ERes} {rs : List ResultVar} (hr : resOk P d nt rs es = true) (hs : SR P N0 μ τ w) (ht : TR μ d t a.tmps) (hn : a.tmps.size = nt) : ∀ {kk : List V → St → Prop}, ress t es kk τ →
    ∃ vs us, kk vs τ ∧ VRs μ vs us ∧ (rs.mapM (resF a.tmps)).run P w = .ok us w := by
  induction rs generalizing es with
  | nil =>
    intro kk h
    cases es with
    | nil => exact ⟨[], [], h, VRs_nil.2 rfl, by simp⟩
    | cons e es => simp [resOk] at hr
  | cons r rs ih =>
    intro kk h
    cases es with
    | nil => cases r <;> simp [resOk] at hr
    | cons e es =>
      cases r with
      | tmp i =>
        cases e with
        | t p =>
          simp only [resOk, Bool.and_eq_true, beq_iff_eq] at hr
          obtain ⟨⟨rfl, h1⟩, h2⟩ := hr
          have h : ress t es (fun vs σ => kk (gt (pth d i) t :: vs) σ) τ := h
          obtain ⟨vs, us, g1, g2, g3⟩ := ih h2 h
          have hv := ht.get (t := i) (by rw [hn]; exact blt_iff.1 h1)
          refine ⟨_, _ :: us, g1, VRs_cons.2 ⟨_, us, rfl, hv, g2⟩, ?_⟩
          rw [List.mapM_cons]
          simp only [Sem.run_bind, show (resF a.tmps (ResultVar.tmp i)).run P w = .ok (a.tmps.getD i undef) w from rfl, Sem.run_pure, Result.andThen_ok, g3]
        | cell p n => simp [resOk] at hr
      | cell i ty =>
        cases e with
        | t p => simp [resOk] at hr
        | cell p n =>
          simp only [resOk, Bool.and_eq_true, beq_iff_eq] at hr
          obtain ⟨⟨⟨rfl, h1⟩, h3⟩, h2⟩ := hr
          have h : ldv n (gt (pth d i) t) (fun v σ => ress t es (fun vs σ => kk (v :: vs) σ) σ) τ := h
          have hv := ht.get (t := i) (by rw [hn]; exact blt_iff.1 h1)
          obtain ⟨v, cv, ad, q1, q2, q3, q4⟩ := ldv_run hs h3 hv h
          obtain ⟨vs, us, g1, g2, g3⟩ := ih h2 q1
          refine ⟨_, cv :: us, g1, VRs_cons.2 ⟨_, us, rfl, q2, g2⟩, ?_⟩
          rw [List.mapM_cons]
          have hc : (resF a.tmps (ResultVar.cell i ty)).run P w = .ok cv w := by simp [resF, q3, asAddr, q4]
          simp only [Sem.run_bind, hc, Sem.run_pure, Result.andThen_ok, g3]

theorem results_run {fn : Func} {us : List Value} {vs : List V} (hv : VRs μ vs us)
    (h : (fn.results.toList.mapM (resF a.tmps)).run P w = .ok us w) :
    ∃ cv, (results fn a.tmps).run P w = .ok cv w ∧ VR μ (resv vs) cv := by
  have hm : (fn.results.mapM (resF a.tmps)).run P w = .ok ⟨us⟩ w := by
    rw [Array.mapM_eq_mapM_toList, Sem.run_map, h]; rfl
  rw [results_eq, Sem.run_bind, hm]
  simp only [Result.andThen_ok, Sem.run_pure]
  by_cases h1 : us.length = 1
  · obtain ⟨u, rfl⟩ := List.length_eq_one_iff.1 h1
    have hl := VRs_length hv
    obtain ⟨v, rfl⟩ := List.length_eq_one_iff.1 (by rw [← hl]; rfl : vs.length = 1)
    obtain ⟨_, _, e, hv', _⟩ := VRs_cons.1 hv
    cases e
    exact ⟨u, by simp, hv'⟩
  · refine ⟨.tuple ⟨us⟩, by simp [h1], ?_⟩
    have hl := VRs_length hv
    have e : resv vs = .tup vs := by
      cases vs with
      | nil => rfl
      | cons v vs => cases vs with
        | nil => rw [hl] at h1; exact absurd rfl h1
        | cons v' vs => rfl
    rw [e]; simp only [VR]; exact ⟨us, hv, rfl⟩

/-! ### a call -/
theorem initT_gt (hd : nt ≤ 16 ^ d) : ∀ (vs : List V) (i : Nat) (t : Tr), i + vs.length ≤ nt → ∀ j, j < 16 ^ d → gt (pth d j) (initT d i vs t) = if i ≤ j ∧ j < i + vs.length then vs.getD (j - i) .bot else gt (pth d j) t
  | [], i, t, _, j, _ => by
    rw [if_neg (by intro h; simp at h; omega)]; try rfl
  | v :: vs, i, t, h, j, hj => by
    have e : initT d i (v :: vs) t = initT d (i + 1) vs (stt (pth d i) t v) := rfl
    rw [List.length_cons] at h
    rw [e, initT_gt hd vs (i + 1) _ (by omega) j hj, gt_stt d j i t v hj (by omega)]
    rw [List.length_cons]
    by_cases h1 : i + 1 ≤ j ∧ j < i + 1 + vs.length
    · rw [if_pos h1, if_pos (by omega), show j - i = (j - (i + 1)) + 1 by omega]; rfl
    · rw [if_neg h1]
      by_cases h2 : j = i
      · subst h2; rw [if_pos rfl, if_pos (by omega)]; simp
      · rw [if_neg h2, if_neg (by omega)]

theorem enter_TR (hd : nt ≤ 16 ^ d) (h0 : 0 < d) {args : List V} {us : List Value} (hv : VRs μ args us) (hl : args.length ≤ nt) : TR μ d (initT d 0 args Tr.root) (⟨us⟩ ++ Array.replicate (nt - us.length) undef : Array Value) := by
  intro j v e
  have hul := VRs_length hv
  have hj : j < nt := by
    have := (Array.getElem?_eq_some_iff.1 e).1
    simp at this; omega
  rw [initT_gt hd args 0 Tr.root (by omega) j (by omega)]
  by_cases h : 0 ≤ j ∧ j < 0 + args.length
  · rw [if_pos h]
    have hj' : j < args.length := by omega
    obtain ⟨u, e1, e2⟩ := VRs_get hv j _ (List.getElem?_eq_getElem hj')
    have : (⟨us⟩ ++ Array.replicate (nt - us.length) undef : Array Value)[j]? = us[j]? := by
      rw [Array.getElem?_append_left (by simpa using (by omega : j < us.length))]; simp
    rw [this, e1] at e; cases e
    simpa [List.getD, List.getElem?_eq_getElem hj'] using e2
  · rw [if_neg h, gt_root d j (by omega) h0]; simp [VR]

theorem noBot_one {vs : List V} : noBot vs = true → True := fun _ => trivial

theorem callE_sound (hmo : P.follows .mixedOrders = true) (hK : KOk P N0 K) {f : Nat} {fn : Func} {e : EF} (hf : P.funcs[f]? = some fn) (hok : fnOk P fn e = true) {args : List V} {us : List Value} (hs : SR P N0 μ σ w) (hv : VRs μ args us) (h : callE N K f e args σ k) :
    ∃ v σ' μ' w' cv, k v σ' ∧ Post P N0 μ σ w μ' σ' w' ∧ VR μ' v cv ∧ TgtGo P μ (.fn f) us w cv w' := by
  unfold fnOk at hok
  cases hb : fn.body with
  | none => rw [hb] at hok; cases hok
  | some c =>
  rw [hb] at hok
  simp only [Bool.and_eq_true, Bool.not_eq_true'] at hok
  obtain ⟨⟨⟨⟨⟨c1, c2⟩, c3⟩, c4⟩, c5⟩, c6⟩ := hok
  have hd : fn.ntmps ≤ 16 ^ e.depth := Nat.le_of_ble_eq_true c4
  have h0 : 0 < e.depth := blt_iff.1 c5
  obtain ⟨hna, h⟩ := boolRecP_elim h
  have hna : args.length = e.nargs := beq_iff.1 hna
  have hul := VRs_length hv
  have hle : args.length ≤ fn.ntmps := by rw [hna]; exact Nat.le_of_ble_eq_true c3
  let a0 : Act := { tmps := ⟨us⟩ ++ Array.replicate (fn.ntmps - us.length) undef, defers := [] }
  let b : Frame := Frame.enter P f ⟨us⟩ .normal
  have hfr : b = b.atR a0 [.code c] := by simp [b, a0, Frame.enter, Frame.atR, hf, hb]
  have hbr : b.roundOf = none := rfl
  have hbk : b.kind = .normal := rfl
  have hsz : a0.tmps.size = fn.ntmps := by simp [a0]; omega
  have hCode : CodeEnd P N0 e.depth fn.ntmps b μ σ.enter w a0 (fnK e σ k) (fun kk => .code c :: kk) :=
    code_sound hmo hK hd h0 b c e.body (fnK e σ k) μ σ.enter w _ a0 c1 (.inl hbr) hs.enter (enter_TR hd h0 hv hle) hsz h
  obtain ⟨ex, t', τ, μ', w', a', g1, g2, g3, g4, g5, g6⟩ := hCode
  have hres : ress t' e.results (retP σ k) τ ∧ ∃ todo : List Frame → List Item, ∀ cs, Steps P (lone (b.atR a0 [.code c]) cs w) (lone { b.atR a' (todo cs) with mode := .returning } cs w') := by
    cases ex with
    | nrm => exact ⟨g1, fun _ => [], fun cs => Steps.trans (g6 [] cs) (.one (stepR_end hbr))⟩
    | exit id => exact False.elim g1
    | ret =>
      refine ⟨g1, fun cs => .code .ret :: Classical.choose (g6 [] cs), fun cs => ?_⟩
      exact Steps.trans (Classical.choose_spec (g6 [] cs)) (.one (stepR_ret hbr))
  obtain ⟨hres, todo, hst⟩ := hres
  obtain ⟨rs, d1, d2, d3⟩ := g5
  have d1 : a'.defers = rs.map (fun r => { target := .collected r, args := #[] }) := by simpa [a0] using d1
  have hp := g2.shut d3 hs.size
  obtain ⟨vs, uus, q1, q2, q3⟩ := ress_sound c2 hp.sr g3 g4 hres
  unfold retP at q1
  split at q1
  · rename_i hnb
    obtain ⟨cv, r1, r2⟩ := results_run (fn := fn) q2 q3
    obtain ⟨μ'', p1, p2⟩ := Post.leave hs hp r2
    refine ⟨resv vs, _, μ'', _, cv, q1, p1, p2, .fn (fun cs => ?_) ⟨fn, c, hf, hb, by simpa using c6⟩⟩
    refine ⟨{ b.atR a' (todo cs) with mode := .returning, defers := [] }, ?_, rfl, rfl, rfl, rfl, fn, hf, r1⟩
    show Steps P (lone b cs w) _
    rw [hfr]
    refine Steps.trans (hst cs) ?_
    have := unwind_marks (P := P) { b.atR a' (todo cs) with mode := .returning } rfl rs w' cs d2 (fun r hr => (d3 r hr).2)
    have e1 : ({ ({ b.atR a' (todo cs) with mode := .returning } : Frame) with defers := rs.map (fun r => { target := .collected r, args := #[] }) } : Frame) = { b.atR a' (todo cs) with mode := .returning } := by
      rw [← d1]; rfl
    rw [e1] at this
    exact this
  · cases q1

end
end Go.Proofs.Ytnmkbnejapdnnaa.Ev
