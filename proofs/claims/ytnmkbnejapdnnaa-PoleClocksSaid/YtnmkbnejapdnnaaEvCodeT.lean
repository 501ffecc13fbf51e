/-
  Code: what the evaluator says of it the machine does.
-/
import Derived.Test.YtnmkbnejapdnnaaEvCodeS
set_option linter.unusedVariables false
set_option maxRecDepth 4000
namespace Go.Proofs.Ytnmkbnejapdnnaa.Ev
open Go

section
variable {P : Program} {N0 : Nat} {μ μ' μ'' : Mp} {σ σ' σ'' : St} {w w' w'' : World} {K : KT} {d nt N : Nat} {a a' a'' : Act} {t : Tr}

theorem step_endRangeFunc {b : Frame} {l : Nat} {r : Go.Loop} (h : w.heap[l]? = some (.loop r)) (hb : r.state ≠ .busy) {kk : List Item} {cs : List Frame} :
    step P (lone (b.atR a (.endRangeFunc l :: kk)) cs w) = .next (lone (b.atR a ((r.pending.map Item.code).toList ++ kk)) cs (w.putObj l (.loop { r with state := .exhausted }))) := by
  have hr := run_endLoop (P := P) h hb
  exact step_lone_go (by simp [stepG, stepG.exec, Frame.atR, Sem.runT_eq, hr])

theorem rfunc_sound (hK : KOk P N0 K) (hd : nt ≤ 16 ^ d) (h0 : 0 < d) (b : Frame) (hb : b.roundOf = none) (k : Kx) {f : Operand} {ps : Array Tmp} {asg body : Code} {f' : Opd} {ps' : List Pth} {x y : EC}
    (hc : codeOk P d nt (.rangeFunc f ps asg body) (.rfunc f' ps' x y) = true) (hs : SR P N0 μ σ w) (ht : TR μ d t a.tmps) (hn : a.tmps.size = nt) (h : evalC (.rfunc f' ps' x y) K N b.fn t σ k) :
    CodeEnd P N0 d nt b μ σ w a k (fun kk => .code (.rangeFunc f ps asg body) :: kk) := by
  simp only [codeOk, Bool.and_eq_true] at hc
  obtain ⟨⟨⟨⟨⟨c1, c2⟩, c3⟩, c4⟩, c5⟩, c6⟩ := hc
  have h : rfP K (opd t f') σ.n (σ.add (.loop b.fn t ps' x y .ready none)) (fun _ σ' => rfK σ.n t k σ') := h
  have hv := opdOk_VR ht hn c1
  unfold rfP at h
  generalize hv' : opd t f' = fv at h hv
  cases fv <;> first | exact False.elim h | skip
  rename_i g first cap
  dsimp only at h
  simp only [VR] at hv
  obtain ⟨us, ws, v1, v2, hv⟩ := hv
  -- the two new blocks
  have p1 : Post P N0 μ σ w μ σ (w.alloc (.deferred (some []))) := Post.push hs _ rfl rfl rfl rfl
  let L : Go.Loop := { state := .ready, pending := none, fn := b.fn, tmps := a.tmps, params := ps, assign := asg, body := body, defers := w.heap.size }
  have hwa : (w.alloc (.deferred (some []))).heap.size = w.heap.size + 1 := by show (w.heap.push _).size = _; simp
  have p2 := Post.add p1.sr (.loop b.fn t ps' x y .ready none) (.loop L) 0 rfl (w' := (w.alloc (.deferred (some []))).alloc (.loop L)) rfl rfl rfl rfl (fun μ' ha hp hz =>
    ⟨rfl, L, d, nt, rfl, { fn := rfl, size := hn, le := hd, pos := h0, tr := ht.go hs.upto ha, ps := c2, na := c3, nb := c4, asg := c5, body := c6, st := rfl, pend := rfl }⟩)
  rw [hwa] at p2
  have p12 := p1.trans p2
  have hpl : (μ.new σ.n (w.heap.size + 1) 0 0).pl σ.n = some (w.heap.size + 1, 0) := Mp.new_pl _ _ _ _ _
  have hargs : VRs (μ.new σ.n (w.heap.size + 1) 0 0) (first ++ [.yield σ.n] ++ cap) (us ++ [.func (.yield (w.heap.size + 1)) #[] #[]] ++ ws) := by
    refine VRs_append (VRs_append (v1.go hs.upto p12.agree) ?_) (v2.go hs.upto p12.agree)
    exact VRs_cons.2 ⟨_, [], rfl, by simp only [VR]; exact ⟨_, hpl, rfl⟩, VRs_nil.2 rfl⟩
  obtain ⟨v, σ2, μ2, w2, cv, g1, g2, g3, g4⟩ := hK (.fn g) _ _ _ _ _ _ h p12.sr hargs (fun l e => by cases e)
  cases g4 with
  | fn hcall hbody =>
  -- the record behind the call
  unfold rfK at g1
  cases hl : σ2.get σ.n with
  | none => rw [hl] at g1; exact False.elim g1
  | some ob =>
    rw [hl] at g1
    cases ob <;> first | exact False.elim g1 | skip
    rename_i fn2 a2 ps2 asg2 body2 s2 pend2
    dsimp only at g1
    have hpl2 : μ2.pl σ.n = some (w.heap.size + 1, 0) := by rw [g2.agree.pl σ.n (by rw [n_add]; omega)]; exact hpl
    obtain ⟨c, d', q1, q2⟩ := g2.sr.obj _ _ hl (by simp)
    rw [hpl2] at q1; cases q1
    obtain ⟨_, L2, dp2, nt2, q3, q4⟩ := q2
    have hbusy : L2.state ≠ .busy := by
      have := q4.st
      cases s2 with
      | ready => simp only [stOk] at this; rw [this]; simp
      | busy => exact False.elim g1
      | done => simp only [stOk] at this; rw [this]; simp
    have hput : Post P N0 μ2 σ2 w2 μ2 (σ2.put σ.n .dead) (w2.putObj (w.heap.size + 1) (.loop { L2 with state := .exhausted })) :=
      Post.put g2.sr hl rfl hpl2 (by simp) (World.putObj_size) (World.putObj_heap_same (Array.getElem?_eq_some_iff.1 q3).1) (fun k hk => World.putObj_heap_other hk) rfl rfl rfl (fun h => absurd rfl h)
    have pall := p12.trans (g2.trans hput)
    have hdef : ((w.alloc (.deferred (some []))).alloc (.loop L)).heap[w.heap.size]? = some (.deferred (some [])) := by
      show ((w.heap.push _).push _)[w.heap.size]? = _
      rw [push_old _ _ (by simp)]; simp
    have hdfs : Dfs w a { a with defers := { target := .collected w.heap.size, args := #[] } :: a.defers } (w2.putObj (w.heap.size + 1) (.loop { L2 with state := .exhausted })) :=
      ⟨[w.heap.size], rfl, by simp, fun r hr => by
        simp only [List.mem_singleton] at hr; subst hr
        exact ⟨Nat.le_refl _, (g2.trans hput).keepDef p12.sr hdef⟩⟩
    have htr : TR μ2 d t ({ a with defers := { target := .collected w.heap.size, args := #[] } :: a.defers } : Act).tmps := ht.go hs.upto pall.agree
    have hsteps : ∀ kk cs, Steps P (lone (b.atR a (.code (.rangeFunc f ps asg body) :: kk)) cs w)
        (lone (b.atR { a with defers := { target := .collected w.heap.size, args := #[] } :: a.defers } ((L2.pending.map Item.code).toList ++ kk)) cs (w2.putObj (w.heap.size + 1) (.loop { L2 with state := .exhausted }))) := by
      intro kk cs
      refine .head (step_rangeFunc hb hv hbody rfl) ?_
      obtain ⟨fr, s1, s2, s3⟩ := hcall (b.atR { a with defers := { target := .collected w.heap.size, args := #[] } :: a.defers } (.inRangeFunc (w.heap.size + 1) :: kk) :: cs)
      have harr : (⟨us⟩ ++ #[.func (.yield (w.heap.size + 1)) #[] #[]] ++ ⟨ws⟩ : Array Value) = ⟨us ++ [.func (.yield (w.heap.size + 1)) #[] #[]] ++ ws⟩ := by
        apply Array.toList_inj.1; simp
      rw [harr]
      refine Steps.trans s1 (.head (step_leave_returned s3) (.head ?_ (.refl _ _)))
      have := step_endRangeFunc (P := P) (w := w2) (a := { a with defers := { target := .collected w.heap.size, args := #[] } :: a.defers }) (b := b) (l := w.heap.size + 1) (r := L2) q3 hbusy (kk := kk) (cs := cs)
      exact this
    have hpd := q4.pend
    have fin : ∀ (ex : Ex), k ex t (σ2.put σ.n .dead) → (∀ kk cs, Arr P (lone (b.atR a (.code (.rangeFunc f ps asg body) :: kk)) cs w) b kk cs ex { a with defers := { target := .collected w.heap.size, args := #[] } :: a.defers } (w2.putObj (w.heap.size + 1) (.loop { L2 with state := .exhausted }))) →
        CodeEnd P N0 d nt b μ σ w a k (fun kk => .code (.rangeFunc f ps asg body) :: kk) := fun ex e1 e2 =>
      ⟨ex, t, _, μ2, _, _, e1, pall, htr, hn, hdfs, e2⟩
    cases s2 with
    | busy => exact False.elim g1
    | _ =>
      dsimp only at g1
      cases pend2 with
      | none =>
        simp only [pendOk] at hpd
        refine fin .nrm g1 (fun kk cs => ?_)
        have := hsteps kk cs; rw [show (L2.pending.map Item.code).toList = [] by rw [hpd]; rfl] at this; exact this
      | some pe =>
        cases pe with
        | none =>
          simp only [pendOk] at hpd
          refine fin .ret g1 (fun kk cs => ?_)
          have := hsteps kk cs; rw [show (L2.pending.map Item.code).toList = [Item.code .ret] by rw [hpd]; rfl] at this; exact ⟨kk, this⟩
        | some id =>
          simp only [pendOk] at hpd
          refine fin (.exit id) g1 (fun kk cs => ?_)
          have := hsteps kk cs; rw [show (L2.pending.map Item.code).toList = [Item.code (.exit id)] by rw [hpd]; rfl] at this
          exact ⟨fun k' hk => this.trans (.one (stepR_exit hk)), fun hk => ⟨kk, hk, this⟩⟩

theorem Arr_block {m : Machine} {b : Frame} {id : Nat} {kk : List Item} {cs : List Frame} {ex : Ex} (h : Arr P m b (.inBlock id :: kk) cs ex a w) :
    match ex with
    | .nrm => Arr P m b kk cs .nrm a w
    | .exit i => if i = id then Arr P m b kk cs .nrm a w else Arr P m b kk cs (.exit i) a w
    | .ret => Arr P m b kk cs .ret a w := by
  cases ex with
  | nrm => exact Steps.trans h (.one stepR_inBlock)
  | ret => exact h
  | exit i =>
    dsimp only
    split
    · rename_i e; subst e; exact h.1 kk (by simp [exitTo])
    · rename_i e
      have this : (id == i) = false := by simp; exact fun h => e h.symm
      have hx : exitTo i (.inBlock id :: kk) = exitTo i kk := by simp [exitTo, this]
      exact ⟨fun k' hk => h.1 k' (by rw [hx]; exact hk), fun hk => h.2 (by rw [hx]; exact hk)⟩

theorem code_sound (hmo : P.follows .mixedOrders = true) (hK : KOk P N0 K) (hd : nt ≤ 16 ^ d) (h0 : 0 < d) (b : Frame) (c : Code) : ∀ (e : EC) (k : Kx) (μ : Mp) (σ : St) (w : World) (t : Tr) (a : Act),
    codeOk P d nt c e = true → (b.roundOf = none ∨ noRf e = true) → SR P N0 μ σ w → TR μ d t a.tmps → a.tmps.size = nt → evalC e K N b.fn t σ k → CodeEnd P N0 d nt b μ σ w a k (fun kk => .code c :: kk) := by
  induction c with
  | skip =>
    intro e k μ σ w t a hc hb hs ht hn h
    cases e <;> first | (simp [codeOk] at hc; done) | skip
    exact ⟨.nrm, t, σ, μ, w, a, h, Post.refl hs, ht, hn, Dfs.refl _ _ _, fun kk cs => .one stepR_skip⟩
  | label l =>
    intro e k μ σ w t a hc hb hs ht hn h
    cases e <;> first | (simp [codeOk] at hc; done) | skip
    exact ⟨.nrm, t, σ, μ, w, a, h, Post.refl hs, ht, hn, Dfs.refl _ _ _, fun kk cs => .one stepR_label⟩
  | region id ops draw =>
    intro e k μ σ w t a hc hb hs ht hn h
    cases e <;> first | (simp [codeOk] at hc; done) | skip
    case ops l =>
      simp only [codeOk, Bool.and_eq_true, Bool.not_eq_true'] at hc
      obtain ⟨rfl, hc⟩ := hc
      have h : evalOps l K t σ (k .nrm) := h
      obtain ⟨t', σ', μ', w', a', g1, g2, g3, g4, g5, g6⟩ := ops_sound hK hd ops.toList l 0 t σ μ w a rfl hc hs ht hn h
      refine ⟨.nrm, t', σ', μ', w', a', g1, g2, g3, g4, Dfs.of_eq g5, fun kk cs => ?_⟩
      have h6 := g6 b kk cs
      rw [List.drop_zero] at h6
      exact .head stepR_region (Steps.trans h6 (.one stepR_region_end))
    case draw order bef l =>
      simp only [codeOk, Bool.and_eq_true] at hc
      obtain ⟨⟨⟨rfl, h1⟩, h2⟩, h3⟩ := hc
      have h : evalDraw l 0 bef [] K t σ (k .nrm) := h
      have hp : Post P N0 μ σ w μ σ { w with drawn := w.drawn + 1 } := Post.heap hs rfl rfl rfl rfl
      have hsch : ∀ tt, Region.schedule (P.follows .mixedOrders) ops tt = Region.linearise .any ops tt := fun tt => by simp [Region.schedule, hmo]
      obtain ⟨t', σ', μ', w', a', g1, g2, g3, g4, g5, g6⟩ := draw_sound hK (RC.mk' h1 h2 h3) hd hp.sr ht hn h (w.tape w.drawn (.order b.fn id))
      refine ⟨.nrm, t', σ', μ', w', a', g1, hp.trans g2, g3, g4, Dfs.of_eq g5, fun kk cs => ?_⟩
      have h6 := g6 b kk cs
      rw [← hsch] at h6
      exact .head stepR_region_draw (Steps.trans h6 (.one stepR_region_end))
  | seq c1 c2 ih1 ih2 =>
    intro e k μ σ w t a hc hb hs ht hn h
    cases e <;> first | (simp [codeOk] at hc; done) | skip
    rename_i e1 e2
    simp only [codeOk, Bool.and_eq_true] at hc
    have hb1 : b.roundOf = none ∨ noRf e1 = true := hb.imp id (fun h => by simp only [noRf, Bool.and_eq_true] at h; exact h.1)
    have hb2 : b.roundOf = none ∨ noRf e2 = true := hb.imp id (fun h => by simp only [noRf, Bool.and_eq_true] at h; exact h.2)
    have h : evalC e1 K N b.fn t σ (seqK (evalC e2 K N b.fn) k) := h
    obtain ⟨ex, t1, σ1, μ1, w1, a1, g1, g2, g3, g4, g5, g6⟩ := ih1 e1 _ μ σ w t a hc.1 hb1 hs ht hn h
    cases ex with
    | nrm =>
      have g1 : evalC e2 K N b.fn t1 σ1 k := g1
      obtain ⟨ex, t2, σ2, μ2, w2, a2, q1, q2, q3, q4, q5, q6⟩ := ih2 e2 k μ1 σ1 w1 t1 a1 hc.2 hb2 g2.sr g3 g4 g1
      exact ⟨ex, t2, σ2, μ2, w2, a2, q1, g2.trans q2, q3, q4, g5.trans q2 g2.sr g2.size q5, fun kk cs => .of_steps (.head stepR_seq (g6 (.code c2 :: kk) cs)) (q6 kk cs)⟩
    | exit i =>
      exact ⟨.exit i, t1, σ1, μ1, w1, a1, g1, g2, g3, g4, g5, fun kk cs => .of_steps (.one stepR_seq) (Arr.skip (x := .code c2) (by simp) (by simp) (g6 (.code c2 :: kk) cs))⟩
    | ret =>
      exact ⟨.ret, t1, σ1, μ1, w1, a1, g1, g2, g3, g4, g5, fun kk cs => .of_steps (.one stepR_seq) (Arr.skip (x := .code c2) (by simp) (by simp) (g6 (.code c2 :: kk) cs))⟩
  | cond cc c1 c2 ih1 ih2 =>
    intro e k μ σ w t a hc hb hs ht hn h
    cases e <;> first | (simp [codeOk] at hc; done) | skip
    rename_i cc' e1 e2
    simp only [codeOk, Bool.and_eq_true] at hc
    obtain ⟨⟨h1, h2⟩, h3⟩ := hc
    have hb1 : b.roundOf = none ∨ noRf e1 = true := hb.imp id (fun h => by simp only [noRf, Bool.and_eq_true] at h; exact h.1)
    have hb2 : b.roundOf = none ∨ noRf e2 = true := hb.imp id (fun h => by simp only [noRf, Bool.and_eq_true] at h; exact h.2)
    have h : condP (opd t cc') (evalC e1 K N b.fn t σ k) (evalC e2 K N b.fn t σ k) := h
    have hv := opdOk_VR ht hn h1
    rcases condP_elim h with ⟨e, h⟩ | ⟨e, h⟩
    · rw [e] at hv; simp only [VR] at hv
      obtain ⟨ex, t1, σ1, μ1, w1, a1, g1, g2, g3, g4, g5, g6⟩ := ih1 e1 k μ σ w t a h2 hb1 hs ht hn h
      exact ⟨ex, t1, σ1, μ1, w1, a1, g1, g2, g3, g4, g5, fun kk cs => .of_steps (.one (stepR_cond (t := true) hv)) (g6 kk cs)⟩
    · rw [e] at hv; simp only [VR] at hv
      obtain ⟨ex, t1, σ1, μ1, w1, a1, g1, g2, g3, g4, g5, g6⟩ := ih2 e2 k μ σ w t a h3 hb2 hs ht hn h
      exact ⟨ex, t1, σ1, μ1, w1, a1, g1, g2, g3, g4, g5, fun kk cs => .of_steps (.one (stepR_cond (t := false) hv)) (g6 kk cs)⟩
  | block id c1 ih =>
    intro e k μ σ w t a hc hb hs ht hn h
    cases e <;> first | (simp [codeOk] at hc; done) | skip
    rename_i id' m e1
    simp only [codeOk, Bool.and_eq_true, beq_iff_eq] at hc
    obtain ⟨⟨rfl, h2⟩, h3⟩ := hc
    have hb1 : b.roundOf = none ∨ noRf e1 = true := hb.imp (fun h => h) (fun h => by simpa only [noRf] using h)
    have h : evalC e1 K N b.fn t σ (blkK id m k) := h
    obtain ⟨ex, t1, σ1, μ1, w1, a1, g1, g2, g3, g4, g5, g6⟩ := ih e1 _ μ σ w t a h3 hb1 hs ht hn h
    have hst : ∀ kk cs, Arr P (lone (b.atR a (.code (.block id c1) :: kk)) cs w) b (.inBlock id :: kk) cs ex a1 w1 := fun kk cs => .of_steps (.one stepR_block) (g6 (.inBlock id :: kk) cs)
    have hf : TR μ1 d (forget m t1) a1.tmps := g3.forget (by rw [g4]; exact hd) h0 h2
    cases ex with
    | nrm => exact ⟨.nrm, _, σ1, μ1, w1, a1, g1, g2, hf, g4, g5, fun kk cs => Arr_block (hst kk cs)⟩
    | ret => exact ⟨.ret, t1, σ1, μ1, w1, a1, g1, g2, g3, g4, g5, fun kk cs => Arr_block (hst kk cs)⟩
    | exit i =>
      have g1 : Bool.rec (motive := fun _ => Prop) (k (.exit i) t1 σ1) (k .nrm (forget m t1) σ1) (Nat.beq i id) := g1
      by_cases ei : i = id
      · rw [beq_iff.2 ei] at g1
        refine ⟨.nrm, _, σ1, μ1, w1, a1, g1, g2, hf, g4, g5, fun kk cs => ?_⟩
        have := Arr_block (hst kk cs); dsimp only at this; rw [if_pos ei] at this; exact this
      · rw [beq_false.2 ei] at g1
        refine ⟨.exit i, t1, σ1, μ1, w1, a1, g1, g2, g3, g4, g5, fun kk cs => ?_⟩
        have := Arr_block (hst kk cs); dsimp only at this; rw [if_neg ei] at this; exact this
  | loop c1 ih =>
    intro e k μ σ w t a hc hb hs ht hn h
    cases e <;> first | (simp [codeOk] at hc; done) | skip
    rename_i m e1
    simp only [codeOk, Bool.and_eq_true] at hc
    have hb1 : b.roundOf = none ∨ noRf e1 = true := hb.imp (fun h => h) (fun h => by simpa only [noRf] using h)
    have h : iter (evalC e1 K N b.fn) m N t σ k := h
    have key : ∀ n μ σ w t a, SR P N0 μ σ w → TR μ d t a.tmps → a.tmps.size = nt → iter (evalC e1 K N b.fn) m n t σ k → CodeEnd P N0 d nt b μ σ w a k (fun kk => .code c1 :: .inLoop c1 :: kk) := by
      intro n
      induction n with
      | zero => intro μ σ w t a hs ht hn h; exact False.elim h
      | succ n ihn =>
        intro μ σ w t a hs ht hn h
        have h : evalC e1 K N b.fn (forget m t) σ (seqK (iter (evalC e1 K N b.fn) m n) k) := h
        obtain ⟨ex, t1, σ1, μ1, w1, a1, g1, g2, g3, g4, g5, g6⟩ := ih e1 _ μ σ w (forget m t) a hc.2 hb1 hs (ht.forget (by rw [hn]; exact hd) h0 hc.1) hn h
        cases ex with
        | nrm =>
          have g1 : iter (evalC e1 K N b.fn) m n t1 σ1 k := g1
          obtain ⟨ex, t2, σ2, μ2, w2, a2, q1, q2, q3, q4, q5, q6⟩ := ihn μ1 σ1 w1 t1 a1 g2.sr g3 g4 g1
          exact ⟨ex, t2, σ2, μ2, w2, a2, q1, g2.trans q2, q3, q4, g5.trans q2 g2.sr g2.size q5, fun kk cs => .of_steps (Steps.trans (g6 (.inLoop c1 :: kk) cs) (.one stepR_inLoop)) (q6 kk cs)⟩
        | exit i =>
          exact ⟨.exit i, t1, σ1, μ1, w1, a1, g1, g2, g3, g4, g5, fun kk cs => Arr.skip (x := .inLoop c1) (by simp) (by simp) (g6 (.inLoop c1 :: kk) cs)⟩
        | ret =>
          exact ⟨.ret, t1, σ1, μ1, w1, a1, g1, g2, g3, g4, g5, fun kk cs => Arr.skip (x := .inLoop c1) (by simp) (by simp) (g6 (.inLoop c1 :: kk) cs)⟩
    obtain ⟨ex, t1, σ1, μ1, w1, a1, g1, g2, g3, g4, g5, g6⟩ := key N μ σ w t a hs ht hn h
    exact ⟨ex, t1, σ1, μ1, w1, a1, g1, g2, g3, g4, g5, fun kk cs => .of_steps (.one stepR_loop) (g6 kk cs)⟩
  | rangeFunc f ps asg body ih1 ih2 =>
    intro e k μ σ w t a hc hb hs ht hn h
    cases e <;> first | (simp [codeOk] at hc; done) | skip
    rename_i f' ps' x y
    rcases hb with hb | hb
    · exact rfunc_sound hK hd h0 b hb k hc hs ht hn h
    · simp [noRf] at hb
  | exit id =>
    intro e k μ σ w t a hc hb hs ht hn h
    cases e <;> first | (simp [codeOk] at hc; done) | skip
    simp only [codeOk, beq_iff_eq] at hc
    subst hc
    exact ⟨.exit _, t, σ, μ, w, a, h, Post.refl hs, ht, hn, Dfs.refl _ _ _, fun kk cs => ⟨fun k' hk => .one (stepR_exit hk), fun hk => ⟨kk, hk, .refl _ _⟩⟩⟩
  | scope c1 ih =>
    intro e k μ σ w t a hc hb hs ht hn h
    have hc : codeOk P d nt c1 e = true := by cases e <;> simpa [codeOk] using hc
    obtain ⟨ex, t1, σ1, μ1, w1, a1, g1, g2, g3, g4, g5, g6⟩ := ih e k μ σ w t a hc hb hs ht hn h
    have hst : ∀ kk cs, step P (lone (b.atR a (.code (.scope c1) :: kk)) cs w) = .next (lone (b.atR a (.code c1 :: .inScope c1 :: kk)) cs w) := fun kk cs => step_lone_go (by simp [stepG, stepG.exec, Frame.atR])
    cases ex with
    | nrm => exact ⟨.nrm, t1, σ1, μ1, w1, a1, g1, g2, g3, g4, g5, fun kk cs => .head (hst kk cs) (Steps.trans (g6 (.inScope c1 :: kk) cs) (.one (step_lone_go (by simp [stepG, stepG.exec, Frame.atR]))))⟩
    | exit i => exact ⟨.exit i, t1, σ1, μ1, w1, a1, g1, g2, g3, g4, g5, fun kk cs => .of_steps (.one (hst kk cs)) (Arr.skip (x := .inScope c1) (by simp) (by simp) (g6 (.inScope c1 :: kk) cs))⟩
    | ret => exact ⟨.ret, t1, σ1, μ1, w1, a1, g1, g2, g3, g4, g5, fun kk cs => .of_steps (.one (hst kk cs)) (Arr.skip (x := .inScope c1) (by simp) (by simp) (g6 (.inScope c1 :: kk) cs))⟩
  | goto l =>
    intro e k μ σ w t a hc hb hs ht hn h
    cases e <;> (simp [codeOk] at hc; done)
  | ret =>
    intro e k μ σ w t a hc hb hs ht hn h
    cases e <;> first | (simp [codeOk] at hc; done) | skip
    exact ⟨.ret, t, σ, μ, w, a, h, Post.refl hs, ht, hn, Dfs.refl _ _ _, fun kk cs => ⟨kk, .refl _ _⟩⟩
  | refuse why =>
    intro e k μ σ w t a hc hb hs ht hn h
    cases e <;> (simp [codeOk] at hc; done)

end
end Go.Proofs.Ytnmkbnejapdnnaa.Ev
