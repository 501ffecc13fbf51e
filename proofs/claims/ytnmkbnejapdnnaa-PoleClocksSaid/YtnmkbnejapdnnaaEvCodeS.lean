/-
  Code: what the evaluator says of it the machine does.
-/
import Derived.Test.YtnmkbnejapdnnaaEvRegE
import Derived.RangeFuncRecord
set_option linter.unusedVariables false
set_option maxRecDepth 4000
namespace Go.Proofs.Ytnmkbnejapdnnaa.Ev
open Go

/-- Where the machine comes to. -/
def Arr (P : Program) (m : Machine) (b : Frame) (k : List Item) (cs : List Frame) : Ex → Act → World → Prop
  | .nrm, a, w => Steps P m (lone (b.atR a k) cs w)
  | .exit id, a, w => (∀ k', exitTo id k = some k' → Steps P m (lone (b.atR a k') cs w)) ∧ (exitTo id k = none → ∃ k₁, exitTo id k₁ = none ∧ Steps P m (lone (b.atR a (.code (.exit id) :: k₁)) cs w))
  | .ret, a, w => ∃ k₁, Steps P m (lone (b.atR a (.code .ret :: k₁)) cs w)

theorem Arr.of_steps {P : Program} {m m₁ : Machine} {b : Frame} {k : List Item} {cs : List Frame} {e : Ex} {a : Act} {w : World} (h : Steps P m m₁) (h' : Arr P m₁ b k cs e a w) : Arr P m b k cs e a w := by
  cases e with
  | nrm => exact h.trans h'
  | exit id => exact ⟨fun k' hk => h.trans (h'.1 k' hk), fun hk => let ⟨k₁, h1, h2⟩ := h'.2 hk; ⟨k₁, h1, h.trans h2⟩⟩
  | ret => obtain ⟨k₁, hs⟩ := h'; exact ⟨k₁, h.trans hs⟩

/-- The marks of ranges over functions. -/
def Dfs (w : World) (a a' : Act) (w' : World) : Prop :=
  ∃ rs : List Nat, a'.defers = rs.map (fun r => { target := .collected r, args := #[] }) ++ a.defers ∧ rs.Nodup ∧ ∀ r ∈ rs, w.heap.size ≤ r ∧ w'.heap[r]? = some (.deferred (some []))

section
variable {P : Program} {N0 : Nat} {μ μ' μ'' : Mp} {σ σ' σ'' : St} {w w' w'' : World} {K : KT} {d nt N : Nat} {a a' a'' : Act} {t : Tr}

theorem Post.keepDef (h : Post P N0 μ σ w μ' σ' w') (hs : SR P N0 μ σ w) {r : Nat} {x : Option (List Deferred)} (hr : w.heap[r]? = some (.deferred x)) : w'.heap[r]? = some (.deferred x) := by
  have hlt : r < w.heap.size := (Array.getElem?_eq_some_iff.1 hr).1
  rw [h.keep r hlt ?_]
  · exact hr
  · intro b o d' h1 h2 h3
    obtain ⟨c, d'', g1, g2⟩ := hs.obj b o h1 (free_ne_dead h2)
    rw [h3] at g1; cases g1
    rw [hr] at g2
    cases o with
    | cells ro vs => obtain ⟨_, _, _, _, _, e, _⟩ := g2; cases e
    | map es cl => obtain ⟨_, _, e, _⟩ := g2; cases e
    | iter m s l => obtain ⟨_, _, _, e⟩ := g2; cases e
    | loop fn a ps asg body s p => obtain ⟨_, _, _, _, e, _⟩ := g2; cases e
    | dead => cases h2

theorem Dfs.refl (w : World) (a : Act) (w' : World) : Dfs w a a w' := ⟨[], by simp, by simp, by simp⟩
theorem Dfs.of_eq (h : a'.defers = a.defers) : Dfs w a a' w' := ⟨[], by simp [h], by simp, by simp⟩
theorem Dfs.trans (h1 : Dfs w a a' w') (hp : Post P N0 μ' σ' w' μ'' σ'' w'') (hs : SR P N0 μ' σ' w') (hsz : w.heap.size ≤ w'.heap.size) (h2 : Dfs w' a' a'' w'') : Dfs w a a'' w'' := by
  obtain ⟨r1, e1, n1, g1⟩ := h1
  obtain ⟨r2, e2, n2, g2⟩ := h2
  refine ⟨r2 ++ r1, by rw [e2, e1]; simp, ?_, ?_⟩
  · rw [List.nodup_append]
    refine ⟨n2, n1, fun x hx y hy e => ?_⟩
    subst e
    have := (g2 x hx).1
    have := (Array.getElem?_eq_some_iff.1 (g1 x hy).2).1
    omega
  · intro r hr
    rcases List.mem_append.1 hr with hr | hr
    · exact ⟨Nat.le_trans hsz (g2 r hr).1, (g2 r hr).2⟩
    · exact ⟨(g1 r hr).1, hp.keepDef hs (g1 r hr).2⟩

/-- A block of the machine's that nothing of the abstract heap stands in. -/
theorem Post.push (h : SR P N0 μ σ w) (x : Go.Obj) (hw : w'.heap = w.heap.push x) (e1 : w'.os = w.os) (e2 : w'.tape = w.tape) (e3 : w'.output = w.output) : Post P N0 μ σ w μ σ w' := by
  have hsz : w'.heap.size = w.heap.size + 1 := by rw [hw]; simp
  have hold : ∀ c, c < w.heap.size → w'.heap[c]? = w.heap[c]? := fun c hc => by rw [hw, push_old _ _ hc]
  exact {
    agree := Agree.refl _ _
    sr := ⟨h.upto, fun b o h1 h2 => by
      obtain ⟨c, d, g1, g2⟩ := h.obj b o h1 h2
      exact ⟨c, d, g1, by rw [hold c (h.plc b c d g1)]; exact g2⟩, h.own, h.ro, h.inj, by rw [hsz]; have := h.size; omega, fun b c d h1 => by rw [hsz]; have := h.plc b c d h1; omega⟩
    keep := fun c hc _ => hold c hc
    img := fun b o c d h1 h2 h3 _ => ⟨b, o, d, h1, h2, h3⟩
    n := Nat.le_refl _
    size := by rw [hsz]; omega
    os := e1
    tape := e2
    output := e3
    base := rfl
    mods := fun _ h => h
    ext := fun _ _ _ _ => rfl
    keys := fun _ h => h
    same := fun b o c d _ _ _ _ h5 => hold c (h.plc b c d h5) }

/-- What is left of code. -/
def CodeEnd (P : Program) (N0 d nt : Nat) (b : Frame) (μ : Mp) (σ : St) (w : World) (a : Act) (k : Kx) (st : List Item → List Item) : Prop :=
  ∃ ex t' σ' μ' w' a', k ex t' σ' ∧ Post P N0 μ σ w μ' σ' w' ∧ TR μ' d t' a'.tmps ∧ a'.tmps.size = nt ∧ Dfs w a a' w' ∧ ∀ kk cs, Arr P (lone (b.atR a (st kk)) cs w) b kk cs ex a' w'

theorem condP_elim {c : V} {p q : Prop} (h : condP c p q) : (c = .bool true ∧ p) ∨ (c = .bool false ∧ q) := by
  cases c with
  | bool b => cases b <;> first | exact .inl ⟨rfl, h⟩ | exact .inr ⟨rfl, h⟩
  | _ => exact False.elim h

theorem exitTo_skip {x : Item} (hx : ∀ id', x ≠ .inBlock id') (id : Nat) (k : List Item) : exitTo id (x :: k) = exitTo id k := by
  cases x <;> first | rfl | exact absurd rfl (hx _)

theorem Arr.skip {m : Machine} {b : Frame} {x : Item} {k : List Item} {cs : List Frame} {e : Ex} (hx : ∀ id', x ≠ .inBlock id') (he : e ≠ .nrm) (h : Arr P m b (x :: k) cs e a w) : Arr P m b k cs e a w := by
  cases e with
  | nrm => exact absurd rfl he
  | exit id => exact ⟨fun k' hk => h.1 k' (by rw [exitTo_skip hx]; exact hk), fun hk => h.2 (by rw [exitTo_skip hx]; exact hk)⟩
  | ret => exact h

/-- One goes on behind what was done. -/
theorem CodeEnd.bind {b : Frame} {k k' : Kx} {st st' : List Item → List Item}
    (h : CodeEnd P N0 d nt b μ σ w a k' st) (hg : ∀ ex t' σ' μ' w' a', k' ex t' σ' → Post P N0 μ σ w μ' σ' w' → TR μ' d t' a'.tmps → a'.tmps.size = nt → Dfs w a a' w' →
      (∀ kk cs, Arr P (lone (b.atR a (st kk)) cs w) b kk cs ex a' w') → CodeEnd P N0 d nt b μ σ w a k st') : CodeEnd P N0 d nt b μ σ w a k st' := by
  obtain ⟨ex, t', σ', μ', w', a', g1, g2, g3, g4, g5, g6⟩ := h
  exact hg ex t' σ' μ' w' a' g1 g2 g3 g4 g5 g6

/-- A range over a function begins. -/
theorem step_rangeFunc {b : Frame} (hb : b.roundOf = none) {f : Operand} {ps : Array Tmp} {asg body : Code} {kk : List Item} {cs : List Frame} {g : Nat} {us ws : Array Value} (hf : a.eval f = .func (.func g) us ws)
    (hg : ∃ fn c, P.funcs[g]? = some fn ∧ fn.body = some c ∧ fn.name ≠ "runtime.NumGoroutine") {w1 : World}
    (hw1 : w1 = (w.alloc (.deferred (some []))).alloc (.loop { state := .ready, pending := none, fn := b.fn, tmps := a.tmps, params := ps, assign := asg, body := body, defers := w.heap.size })) :
    step P (lone (b.atR a (.code (.rangeFunc f ps asg body) :: kk)) cs w) =
      .next (lone (Frame.enter P g (us ++ #[.func (.yield (w.heap.size + 1)) #[] #[]] ++ ws) .normal) (b.atR { a with defers := { target := .collected w.heap.size, args := #[] } :: a.defers } (.inRangeFunc (w.heap.size + 1) :: kk) :: cs) w1) := by
  subst hw1
  have hr := run_enterLoop_outer (P := P) (w := w) b.fn a.tmps ps asg body
  have he := congrFun (Frame.eval_atR b { a with defers := { target := .collected w.heap.size, args := #[] } :: a.defers } (.inRangeFunc (w.heap.size + 1) :: kk))
  have hcf := run_callFunc (P := P) (w := (w.alloc (.deferred (some []))).alloc (.loop { state := .ready, pending := none, fn := b.fn, tmps := a.tmps, params := ps, assign := asg, body := body, defers := w.heap.size })) (args := us ++ #[.func (.yield (w.heap.size + 1)) #[] #[]] ++ ws) hg
  have hf' : ({ a with defers := { target := .collected w.heap.size, args := #[] } :: a.defers } : Act).eval f = .func (.func g) us ws := by cases f <;> exact hf
  refine step_lone_go ?_
  simp only [stepG, stepG.exec, Frame.atR, hb, Sem.runT_eq, hr, GStep.bare_after]
  have he2 := he f
  simp only [Frame.atR, hb] at he2
  simp only [List.cons_append, List.nil_append]
  have hrun : ((do let d ← resolve (Frame.eval { fn := b.fn, tmps := a.tmps, todo := .inRangeFunc (w.heap.size + 1) :: kk, defers := { target := .collected w.heap.size, args := #[] } :: a.defers, mode := .run, kind := b.kind, roundOf := none }) { callee := .value f, args := #[.const (.func (.yield (w.heap.size + 1)) #[] #[])], argTypes := #[] } 0; invoke d.target d.args) : Sem Next).run P
      ((w.alloc (.deferred (some []))).alloc (.loop { state := .ready, pending := none, fn := b.fn, tmps := a.tmps, params := ps, assign := asg, body := body, defers := w.heap.size })) = .ok (.enter g (us ++ #[.func (.yield (w.heap.size + 1)) #[] #[]] ++ ws)) ((w.alloc (.deferred (some []))).alloc (.loop { state := .ready, pending := none, fn := b.fn, tmps := a.tmps, params := ps, assign := asg, body := body, defers := w.heap.size })) := by
    rw [Sem.run_bind]
    have he3 := he2.trans hf'
    have hce : ∀ (fr : Frame) (v : Value), Frame.eval fr (.const v) = v := fun _ _ => rfl
    simp only [resolve, he3, Deferred.ofValue]
    simpa [invoke, hce] using hcf
  simp [stepG.apply, hrun]

end
end Go.Proofs.Ytnmkbnejapdnnaa.Ev
