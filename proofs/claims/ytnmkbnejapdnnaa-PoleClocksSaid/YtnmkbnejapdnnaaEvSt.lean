/-
  Steps of the machine: one operation; regions whose order is the text's.
-/
import Derived.Test.YtnmkbnejapdnnaaEvOps
set_option linter.unusedVariables false
set_option maxRecDepth 4000
namespace Go.Proofs.Ytnmkbnejapdnnaa.Ev
open Go

section
variable {P : Program} {N0 : Nat} {μ μ' : Mp} {σ σ' : St} {w w' : World} {K : KT} {d nt : Nat} {a : Act} {t : Tr} {o : Oper}

theorem semAt_eq {r : Option Nat} {cv : Value} (h : SemGo P (execOp a.eval o) w cv w') : o.semAt r a.eval = execOp a.eval o := by
  unfold Oper.semAt
  split
  · rename_i l c hc
    exfalso
    have key : ∀ r, (execOp a.eval o).run P w = r → (∀ n w', r = .ok n w' → ∃ d, n = .defer d) := by
      intro r hr n w' e
      subst e
      simp only [execOp, hc, Sem.run_bind] at hr
      cases hq : (resolve a.eval c o.type).run P w with
      | ok dd w1 => rw [hq] at hr; simp at hr; exact ⟨_, hr.1.symm⟩
      | halt x w1 => rw [hq] at hr; simp at hr
    cases h with
    | value h => obtain ⟨_, e⟩ := key _ h _ _ rfl; cases e
    | skip h => obtain ⟨_, e⟩ := key _ h _ _ rfl; cases e
    | enter h _ => obtain ⟨_, e⟩ := key _ h _ _ rfl; cases e
    | round h _ => obtain ⟨_, e⟩ := key _ h _ _ rfl; cases e
  · rfl

/-- One operation is done. -/
theorem op_steps {b : Frame} {k : List Item} {cs : List Frame} {ops : Array Oper} {i : Nat} {rest : List Nat} {cv : Value} (ho : ops[i]? = some o) (hw : Region.wanted o (yielded ops a.tmps) = true)
    (h : SemGo P (execOp a.eval o) w cv w') : Steps P (lone (b.atR a (.inRegion ops (i :: rest) :: k)) cs w) (lone (b.atR (a.put o.dst cv) (.inRegion ops rest :: k)) cs w') := by
  have hg := stepGR_op (P := P) (b := b) (k := k) (cs := cs) (w := w) (rest := rest) ho hw
  rw [semAt_eq h] at hg
  have hfin : ∀ v, (b.atR a (.inRegion ops (i :: rest) :: k)).finish v = b.atR (a.put o.dst v) (.inRegion ops rest :: k) := by
    intro v; rw [Frame.finish_atR, ho]; rfl
  rw [← hfin]
  cases h with
  | value h => exact .one (step_lone_go (by rw [hg]; simp [stepG.apply, h]))
  | skip h => exact .one (step_lone_go (by rw [hg]; simp [stepG.apply, h]))
  | enter h hc =>
    rename_i f args w₁
    obtain ⟨fr, hs, hfn, hl⟩ := hc (b.atR a (.inRegion ops (i :: rest) :: k) :: cs)
    refine .head (step_lone_go (fr' := Frame.enter P f args .normal) (cs' := b.atR a (.inRegion ops (i :: rest) :: k) :: cs) (w' := w₁) (by rw [hg]; simp [stepG.apply, h, Frame.atR])) ?_
    exact hs.trans (.one (step_leave_returned hl))
  | round h hc =>
    rename_i l f tmps assign body w₁
    refine .head (step_lone_go (fr' := Frame.round l f tmps assign body .normal) (cs' := b.atR a (.inRegion ops (i :: rest) :: k) :: cs) (w' := w₁) (by rw [hg]; simp [stepG.apply, h, Frame.atR])) ?_
    exact hc _ _

theorem skip_steps {b : Frame} {k : List Item} {cs : List Frame} {ops : Array Oper} {i : Nat} {rest : List Nat} (ho : ops[i]? = some o) (hw : Region.wanted o (yielded ops a.tmps) = false) :
    Steps P (lone (b.atR a (.inRegion ops (i :: rest) :: k)) cs w) (lone (b.atR (a.put o.dst undef) (.inRegion ops rest :: k)) cs w) := by
  have := stepR_op_skip (P := P) (b := b) (a := a) (k := k) (cs := cs) (w := w) (ops := ops) (i := i) (rest := rest) (by simp [ho, hw])
  rw [ho] at this
  exact .one this

/-! ### destinations, guards -/
theorem dstOk_spec {x : Option Tmp} {p : Pth} (h : dstOk d nt x p = true) : ∃ i, x = some i ∧ p = pth d i ∧ i < nt := by
  unfold dstOk at h
  split at h
  · simp only [Bool.and_eq_true, beq_iff_eq] at h; exact ⟨_, rfl, h.1, blt_iff.1 h.2⟩
  · cases h

theorem grdOk_spec {ops : List Oper} {g : Option (Nat × Bool)} {c : Pth} {b : Bool} (h : grdOk d nt ops g c b = true) : ∃ j o i, g = some (j, b) ∧ ops[j]? = some o ∧ o.dst = some i ∧ c = pth d i ∧ i < nt := by
  unfold grdOk at h
  split at h
  · split at h
    · rename_i o ho
      simp only [Bool.and_eq_true, beq_iff_eq] at h
      obtain ⟨i, h1, h2, h3⟩ := dstOk_spec h.1
      obtain ⟨_, rfl⟩ := h
      exact ⟨_, o, i, rfl, ho, h1, h2, h3⟩
    · cases h
  · cases h

theorem wantP_elim {v : V} {b : Bool} {yes no : Prop} (h : wantP v b yes no) : (v = .bool b ∧ yes) ∨ ((∃ x, v = .bool x ∧ x ≠ b) ∨ (∃ vs, v = .tup vs)) ∧ no := by
  cases v with
  | bool x => cases x <;> cases b <;> first | exact .inl ⟨rfl, h⟩ | exact .inr ⟨.inl ⟨_, rfl, by simp⟩, h⟩
  | tup vs => exact .inr ⟨.inr ⟨vs, rfl⟩, h⟩
  | _ => exact False.elim h

/-- What a guard's slot says of it. -/
theorem wanted_of {ops : Array Oper} {c : Pth} {b : Bool} (hn : a.tmps.size = nt) (hg : grdOk d nt ops.toList o.guard c b = true) (ht : ∀ i, i < nt → c = pth d i → VR μ (gt c t) (a.tmps.getD i undef)) {yes no : Prop} (h : wantP (gt c t) b yes no) :
    (gt c t = .bool b ∧ yes ∧ Region.wanted o (yielded ops a.tmps) = true) ∨ (((∃ x, gt c t = .bool x ∧ x ≠ b) ∨ ∃ vs, gt c t = .tup vs) ∧ no ∧ Region.wanted o (yielded ops a.tmps) = false) := by
  obtain ⟨j, o', i, h1, h2, h3, h4, h5⟩ := grdOk_spec hg
  have hv := ht i h5 h4
  have hi : a.tmps[i]? = some (a.tmps.getD i undef) := by
    have : i < a.tmps.size := Nat.lt_of_lt_of_eq h5 hn.symm
    simp [Array.getD, this]
  have ho' : ops[j]? = some o' := by simpa using h2
  have hy : ∀ x, a.tmps.getD i undef = .bool x → yielded ops a.tmps j = some x := by
    intro x e; unfold yielded; simp [ho', h3, hi, e]
  have hy' : ∀ us, a.tmps.getD i undef = .tuple us → yielded ops a.tmps j = none := by
    intro us e; unfold yielded; simp [ho', h3, hi, e]
  rcases wantP_elim h with ⟨e, hy1⟩ | ⟨e, hn1⟩
  · left
    refine ⟨e, hy1, ?_⟩
    rw [e] at hv; simp only [VR] at hv
    simp [Region.wanted, h1, hy _ hv]
  · right
    refine ⟨e, hn1, ?_⟩
    rcases e with ⟨x, e, hx⟩ | ⟨vs, e⟩
    · rw [e] at hv; simp only [VR] at hv
      simp [Region.wanted, h1, hy _ hv, hx]
    · rw [e] at hv; simp only [VR] at hv
      obtain ⟨us, _, hv⟩ := hv
      simp [Region.wanted, h1, hy' _ hv]

theorem wanted_none {ops : Array Oper} (hg : o.guard = none) : Region.wanted o (yielded ops a.tmps) = true := by simp [Region.wanted, hg]

theorem VR_undef : VR μ (.tup []) undef := by simp only [VR]; exact ⟨[], VRs_nil.2 rfl, rfl⟩

theorem put_none (hd : o.dst = none) (v : Value) : a.put o.dst v = a := by rw [hd]; rfl
theorem put_size (x : Option Tmp) (v : Value) : (a.put x v).tmps.size = a.tmps.size := by cases x <;> simp [Act.put]
theorem put_defers (x : Option Tmp) (v : Value) : (a.put x v).defers = a.defers := by cases x <;> rfl

theorem TR.put (ht : TR μ d t a.tmps) (hn : a.tmps.size = nt) (hd : nt ≤ 16 ^ d) {i : Nat} (ho : o.dst = some i) (hi : i < nt) {v : V} {cv : Value} (hv : VR μ v cv) : TR μ d (stt (pth d i) t v) (a.put o.dst cv).tmps := by
  rw [ho]; exact TR.set ht (hn ▸ hd) (hn ▸ hi) hv

/-- A region in the text's order. -/
theorem ops_sound (hK : KOk P N0 K) (hd : nt ≤ 16 ^ d) {ops : Array Oper} {k : Tr → St → Prop} : ∀ (os : List Oper) (is : List EI) (n : Nat) (t : Tr) (σ : St) (μ : Mp) (w : World) (a : Act),
    ops.toList.drop n = os → itemsOk P d nt ops.toList os is = true → SR P N0 μ σ w → TR μ d t a.tmps → a.tmps.size = nt → evalOps is K t σ k →
    ∃ t' σ' μ' w' a', k t' σ' ∧ Post P N0 μ σ w μ' σ' w' ∧ TR μ' d t' a'.tmps ∧ a'.tmps.size = nt ∧ a'.defers = a.defers ∧
      ∀ (b : Frame) (k : List Item) (cs : List Frame), Steps P (lone (b.atR a (.inRegion ops ((List.range ops.size).drop n) :: k)) cs w) (lone (b.atR a' (.inRegion ops [] :: k)) cs w')
  | [], is, n, t, σ, μ, w, a, ho, hi, hs, ht, hn, h => by
    cases is with
    | cons i is => cases hi
    | nil =>
      have hlen : ops.size ≤ n := by simpa using List.drop_eq_nil_iff.1 ho
      refine ⟨t, σ, μ, w, a, h, Post.refl hs, ht, hn, rfl, fun b k cs => ?_⟩
      rw [List.drop_eq_nil_of_le (by simpa using hlen)]; exact .refl _ _
  | o :: os, [], n, t, σ, μ, w, a, ho, hi, hs, ht, hn, h => by cases hi
  | o :: os, i :: is, n, t, σ, μ, w, a, ho, hi, hs, ht, hn, h => by
    simp only [itemsOk, Bool.and_eq_true] at hi
    have hlt : n < ops.size := by
      rcases Nat.lt_or_ge n ops.size with h | h
      · exact h
      · rw [List.drop_eq_nil_of_le (by simpa using h)] at ho; cases ho
    have hdrop : ops.toList.drop n = ops.toList[n]'(by simpa using hlt) :: ops.toList.drop (n + 1) := List.drop_eq_getElem_cons (by simpa using hlt)
    rw [hdrop] at ho
    obtain ⟨ho1, ho2⟩ := List.cons.inj ho
    have hget : ops[n]? = some o := by rw [← ho1]; simp [hlt]
    have hr : (List.range ops.size).drop n = n :: (List.range ops.size).drop (n + 1) := by
      rw [List.drop_eq_getElem_cons (by simpa using hlt)]; simp
    -- one step, then the rest
    have go : ∀ t1 σ1 μ1 w1 a1, evalOps is K t1 σ1 k → Post P N0 μ σ w μ1 σ1 w1 → TR μ1 d t1 a1.tmps → a1.tmps.size = nt → a1.defers = a.defers →
        (∀ (b : Frame) (k : List Item) (cs : List Frame), Steps P (lone (b.atR a (.inRegion ops (n :: (List.range ops.size).drop (n + 1)) :: k)) cs w) (lone (b.atR a1 (.inRegion ops ((List.range ops.size).drop (n + 1)) :: k)) cs w1)) →
        ∃ t' σ' μ' w' a', k t' σ' ∧ Post P N0 μ σ w μ' σ' w' ∧ TR μ' d t' a'.tmps ∧ a'.tmps.size = nt ∧ a'.defers = a.defers ∧
          ∀ (b : Frame) (k : List Item) (cs : List Frame), Steps P (lone (b.atR a (.inRegion ops ((List.range ops.size).drop n) :: k)) cs w) (lone (b.atR a' (.inRegion ops [] :: k)) cs w') := by
      intro t1 σ1 μ1 w1 a1 he hp ht1 hn1 hd1 hst
      obtain ⟨t', σ', μ', w', a', g1, g2, g3, g4, g5, g6⟩ := ops_sound hK hd os is (n + 1) t1 σ1 μ1 w1 a1 ho2 hi.2 hp.sr ht1 hn1 he
      exact ⟨t', σ', μ', w', a', g1, hp.trans g2, g3, g4, g5.trans hd1, fun b k cs => by rw [hr]; exact (hst b k cs).trans (g6 b k cs)⟩
    have hi1 := hi.1
    cases i with
    | u op =>
      simp only [itemOk, Bool.and_eq_true, Option.isNone_iff_eq_none] at hi1
      obtain ⟨⟨h1, h2⟩, h3⟩ := hi1
      have h : evalOp op K t σ (fun _ σ' => evalOps is K t σ' k) := h
      obtain ⟨v, σ1, μ1, w1, cv, g1, g2, g3, g4⟩ := op_sound hK hs ht hn h3 h
      exact go t σ1 μ1 w1 a g1 g2 (ht.go hs.upto g2.agree) hn rfl (fun b k cs => by have := op_steps (b := b) (k := k) (cs := cs) (rest := (List.range ops.size).drop (n + 1)) hget (wanted_none h2) g4; rwa [put_none h1] at this)
    | s p op =>
      simp only [itemOk, Bool.and_eq_true, Option.isNone_iff_eq_none] at hi1
      obtain ⟨⟨h1, h2⟩, h3⟩ := hi1
      obtain ⟨di, e1, rfl, e3⟩ := dstOk_spec h1
      have h : evalOp op K t σ (fun v σ' => evalOps is K (stt (pth d di) t v) σ' k) := h
      obtain ⟨v, σ1, μ1, w1, cv, g1, g2, g3, g4⟩ := op_sound hK hs ht hn h3 h
      exact go _ σ1 μ1 w1 (a.put o.dst cv) g1 g2 ((ht.go hs.upto g2.agree).put hn hd e1 e3 g3) (by rw [put_size, hn]) (put_defers _ _) (fun b k cs => op_steps hget (wanted_none h2) g4)
    | g c x p op =>
      simp only [itemOk, Bool.and_eq_true] at hi1
      obtain ⟨⟨h1, h2⟩, h3⟩ := hi1
      obtain ⟨di, e1, rfl, e3⟩ := dstOk_spec h1
      have h : wantP (gt c t) x (evalOp op K t σ (fun v σ' => evalOps is K (stt (pth d di) t v) σ' k)) (evalOps is K (stt (pth d di) t (.tup [])) σ k) := h
      rcases wanted_of hn h2 (fun i hi e => by rw [e]; exact ht.get (Nat.lt_of_lt_of_eq hi hn.symm)) h with ⟨_, h, hw⟩ | ⟨_, h, hw⟩
      · obtain ⟨v, σ1, μ1, w1, cv, g1, g2, g3, g4⟩ := op_sound hK hs ht hn h3 h
        exact go _ σ1 μ1 w1 (a.put o.dst cv) g1 g2 ((ht.go hs.upto g2.agree).put hn hd e1 e3 g3) (by rw [put_size, hn]) (put_defers _ _) (fun b k cs => op_steps hget hw g4)
      · exact go _ σ μ w (a.put o.dst undef) h (Post.refl hs) (ht.put hn hd e1 e3 VR_undef) (by rw [put_size, hn]) (put_defers _ _) (fun b k cs => skip_steps hget hw)
    | gu c x op =>
      simp only [itemOk, Bool.and_eq_true, Option.isNone_iff_eq_none] at hi1
      obtain ⟨⟨h1, h2⟩, h3⟩ := hi1
      have h : wantP (gt c t) x (evalOp op K t σ (fun _ σ' => evalOps is K t σ' k)) (evalOps is K t σ k) := h
      rcases wanted_of hn h2 (fun i hi e => by rw [e]; exact ht.get (Nat.lt_of_lt_of_eq hi hn.symm)) h with ⟨_, h, hw⟩ | ⟨_, h, hw⟩
      · obtain ⟨v, σ1, μ1, w1, cv, g1, g2, g3, g4⟩ := op_sound hK hs ht hn h3 h
        exact go t σ1 μ1 w1 a g1 g2 (ht.go hs.upto g2.agree) hn rfl (fun b k cs => by have := op_steps (b := b) (k := k) (cs := cs) (rest := (List.range ops.size).drop (n + 1)) hget hw g4; rwa [put_none h1] at this)
      · exact go t σ μ w a h (Post.refl hs) ht hn rfl (fun b k cs => by have := skip_steps (P := P) (w := w) (b := b) (k := k) (cs := cs) (rest := (List.range ops.size).drop (n + 1)) hget hw; rwa [put_none h1] at this)

end
end Go.Proofs.Ytnmkbnejapdnnaa.Ev
