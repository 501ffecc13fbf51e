/-
  Operations that look at rows of cells, turn them, or make new ones.
-/
import Derived.Test.YtnmkbnejapdnnaaEvOpC
import Derived.Laws.CopyRow
import Derived.Laws.Append
import Derived.Laws.MakeOwn
set_option linter.unusedVariables false
set_option maxRecDepth 4000
namespace Go.Proofs.Ytnmkbnejapdnnaa.Ev
open Go

section
variable {P : Program} {N0 : Nat} {μ : Mp} {σ σ' : St} {w w' : World} {k : Cn} {K : KT} {d nt : Nat} {a : Act} {t : Tr} {o : Oper}

/-! ### reading -/
theorem cellsOf_spec {b : Nat} {vs : List V} (h : cellsOf (σ.get b) = some vs) : ∃ ro, σ.get b = some (.cells ro vs) := by
  cases e : σ.get b with
  | none => rw [e] at h; cases h
  | some o =>
    rw [e] at h
    cases o <;> first | (cases h; done) | skip
    rename_i ro vs'
    cases h
    exact ⟨ro, rfl⟩
theorem freeOf_spec {b : Nat} {vs : List V} (h : freeOf (σ.get b) = some vs) : σ.get b = some (.cells false vs) := by
  cases e : σ.get b with
  | none => rw [e] at h; cases h
  | some o =>
    rw [e] at h
    cases o <;> first | (cases h; done) | skip
    rename_i ro vs'
    cases ro <;> cases h
    rfl

theorem SR.cells (hs : SR P N0 μ σ w) {b : Nat} {ro : Bool} {vs : List V} (h : σ.get b = some (.cells ro vs)) : ∃ c d arr ty lo hi us, μ.pl b = some (c, d) ∧ w.heap[c]? = some (.cells arr ty (lo, hi)) ∧ arr.size = μ.sz c ∧ VRs μ vs us ∧
    (∀ i u, us[i]? = some u → arr[d + i]? = some u) ∧ (ro = false → ∀ i, i < arr.size → ¬ (lo ≤ i ∧ i < hi)) := by
  obtain ⟨c, d, hp, arr, ty, lo, hi, us, h1, h2⟩ := hs.obj b _ h (by simp)
  exact ⟨c, d, arr, ty, lo, hi, us, hp, h1, h2⟩

theorem cell_at {c i : Nat} {arr : Array Value} {ty : TypeId} {fr : Nat × Nat} (h : w.heap[c]? = some (.cells arr ty fr)) : w.cell? ⟨c, i, none⟩ = arr[i]? := by
  simp [World.cell?, h]

theorem seg_get {α : Type} (us : List α) (o n j : Nat) : ((us.drop o).take n)[j]? = if j < n then us[o + j]? else none := by
  rw [List.getElem?_take]
  split
  · rw [List.getElem?_drop]
  · rfl

theorem load_seg {c d o n : Nat} {arr : Array Value} {ty : TypeId} {fr : Nat × Nat} {us : List Value} (h : w.heap[c]? = some (.cells arr ty fr)) (hu : ∀ (i : Nat) u, us[i]? = some u → arr[d + i]? = some u) (hn : o + n ≤ us.length) :
    (loadCells ⟨c, o + d, none⟩ n).run P w = .ok ((us.drop o).take n).toArray w := by
  have hl : ((us.drop o).take n).length = n := by simp; omega
  have := run_loadCells_list (P := P) w ⟨c, o + d, none⟩ ((us.drop o).take n) (fun j v hj => by
    rw [seg_get] at hj
    split at hj
    · rw [add_off, cell_at h]
      have := hu _ _ hj
      rw [show o + d + j = d + (o + j) by omega]; exact this
    · cases hj)
  rw [hl] at this; exact this

theorem ldv_run (hs : SR P N0 μ σ w) {n : Option Nat} {x : V} {u : Value} {ty : TypeId} (hn : nOk P ty n = true) (hv : VR μ x u) (h : ldv n x k σ) :
    ∃ v cv ad, k v σ ∧ VR μ v cv ∧ u = .pointer (some ad) ∧ (loadVar ty ad).run P w = .ok cv w := by
  obtain ⟨b, o, rfl, h⟩ := vPtr_elim h
  simp only [VR] at hv
  obtain ⟨c, d, hp, rfl⟩ := hv
  have h : Option.rec (motive := fun _ => Sk) fail (fun vs => partv o n vs) (cellsOf (σ.get b)) k σ := h
  cases e : cellsOf (σ.get b) with
  | none => rw [e] at h; exact False.elim h
  | some vs =>
    rw [e] at h
    have h : partv o n vs k σ := h
    obtain ⟨ro, hg⟩ := cellsOf_spec e
    obtain ⟨c', d', arr, ty', lo, hi, us, hp', h1, h2, h3, h4, _⟩ := hs.cells hg
    rw [hp] at hp'; cases hp'
    unfold nOk at hn
    simp only [Bool.and_eq_true] at hn
    obtain ⟨hu, hn⟩ := hn
    have ha := run_isAgg (P := P) (w := w) hu
    cases n with
    | none =>
      obtain ⟨v, e, hk⟩ := nth_elim (show nth vs o k σ from h)
      obtain ⟨u, eu, hr⟩ := VRs_get h3 o v e
      simp at hn
      refine ⟨v, u, _, hk, hr, rfl, ?_⟩
      have hc : w.cell? ⟨c, o + d, none⟩ = some u := by rw [cell_at h1, Nat.add_comm]; exact h4 o u eu
      simp [loadVar, ha, hn, hc]
    | some m =>
      simp only [Bool.and_eq_true, beq_iff_eq] at hn
      have h : (if o + m ≤ vs.length then k (.agg (seg vs o m)) σ else False) := h
      split at h
      · rename_i hm
        refine ⟨_, .agg ⟨(us.drop o).take m⟩, _, h, by simp only [VR]; exact ⟨_, seg_VRs h3 o m, rfl⟩, rfl, ?_⟩
        have hsz := run_sizeOf (P := P) (w := w) hn.2
        have hl := load_seg (P := P) h1 h4 (o := o) (n := m) (by rw [VRs_length h3]; exact hm)
        simp [loadVar, ha, hn.1, hsz, hl]
      · cases h

theorem s_ld (hs : SR P N0 μ σ w) (ht : TR μ d t a.tmps) (hn : a.tmps.size = nt) {n : Option Nat} {y : Opd} (hop : opOk P d nt o.op o.type (.ld n y) = true) (h : evalOp (.ld n y) K t σ k) : OpS P N0 μ σ w (execOp a.eval o) k := by
  have hk : ldv n (opd t y) k σ := h
  have : ∃ ty x, o.op = .load ty x ∧ nOk P ty n = true ∧ opdOk d nt x y = true := by
    replace hop : ok_ld P d nt o.op n y = true := hop
    unfold ok_ld at hop
    split at hop
    · rename_i e; simp only [Bool.and_eq_true] at hop; exact ⟨_, _, e, hop.1, hop.2⟩
    · cases hop
  obtain ⟨ty, x, he, hno, hx⟩ := this
  obtain ⟨v, cv, ad, g1, g2, g3, g4⟩ := ldv_run hs hno (opdOk_VR ht hn hx) hk
  refine OpS.pure hs g1 g2 ?_
  simp [execOp, he, Instr.loadAt, g3, Instr.sureAddr, g4]

/-! ### writing -/
theorem setAtU_get : ∀ (cs us : List Value) (o i : Nat), (setAtU us o cs)[i]? = if o ≤ i ∧ i < o + cs.length ∧ i < us.length then cs[i - o]? else us[i]?
  | [], us, o, i => by simp [setAtU]; omega
  | c :: cs, us, o, i => by
    rw [setAtU, setAtU_get cs, List.length_set]
    by_cases h1 : o = i
    · subst h1
      rw [if_neg (by omega)]
      by_cases h2 : o < us.length
      · rw [List.getElem?_set_self h2, if_pos (by simp [h2])]; simp
      · rw [List.getElem?_eq_none (by simp; omega), if_neg (by omega), List.getElem?_eq_none (by omega)]
    · rw [List.getElem?_set_ne h1]
      by_cases h2 : o + 1 ≤ i ∧ i < o + 1 + cs.length ∧ i < us.length
      · rw [if_pos h2, if_pos (by simp; omega)]
        rw [show i - o = (i - (o + 1)) + 1 by omega, List.getElem?_cons_succ]
      · rw [if_neg h2, if_neg (by simp; omega)]

theorem setAt_get : ∀ (cs us : List V) (o i : Nat), (setAt us o cs)[i]? = if o ≤ i ∧ i < o + cs.length ∧ i < us.length then cs[i - o]? else us[i]?
  | [], us, o, i => by simp [setAt]; omega
  | c :: cs, us, o, i => by
    rw [setAt, setAt_get cs, List.length_set]
    by_cases h1 : o = i
    · subst h1
      rw [if_neg (by omega)]
      by_cases h2 : o < us.length
      · rw [List.getElem?_set_self h2, if_pos (by simp [h2])]; simp
      · rw [List.getElem?_eq_none (by simp; omega), if_neg (by omega), List.getElem?_eq_none (by omega)]
    · rw [List.getElem?_set_ne h1]
      by_cases h2 : o + 1 ≤ i ∧ i < o + 1 + cs.length ∧ i < us.length
      · rw [if_pos h2, if_pos (by simp; omega)]
        rw [show i - o = (i - (o + 1)) + 1 by omega, List.getElem?_cons_succ]
      · rw [if_neg h2, if_neg (by simp; omega)]

theorem run_storeRow {g o : Nat} {ty : TypeId} {lo hi : Nat} : ∀ (vs : List Value) (i : Nat) (cur : Array Value) (w : World), w.heap[g]? = some (.cells cur ty (lo, hi)) → o + i + vs.length ≤ cur.size → (∀ j, j < cur.size → ¬ (lo ≤ j ∧ j < hi)) → (∀ v ∈ vs, v.oneCell' = true) →
    ∃ w', (storeCells ⟨g, o, none⟩ vs i).run P w = .ok () w' ∧ w'.heap[g]? = some (.cells ⟨setAtU cur.toList (o + i) vs⟩ ty (lo, hi)) ∧ w'.heap.size = w.heap.size ∧ (∀ k, k ≠ g → w'.heap[k]? = w.heap[k]?) ∧ w'.os = w.os ∧ w'.tape = w.tape ∧ w'.output = w.output
  | [], i, cur, w, hg, _, _, _ => ⟨w, by simp [storeCells], by simpa [setAtU] using hg, rfl, fun _ _ => rfl, rfl, rfl, rfl⟩
  | v :: rest, i, cur, w, hg, hl, hf, h1 => by
    have hlt : o + i < cur.size := by simp at hl; omega
    have hcell : w.cell? ⟨g, o + i, none⟩ = some cur[o + i] := by rw [cell_at hg]; simp [hlt]
    have hfro : w.frozen? ⟨g, o + i, none⟩ = false := by
      have := hf _ hlt
      simp only [World.frozen?, hg]
      simp; omega
    have hst : (store ((⟨g, o, none⟩ : Addr).add i) v).run P w = .ok () (w.setCell ⟨g, o + i, none⟩ v) := by
      rw [add_off, run_store P w _ v _ (h1 v (by simp)), hcell]
      simp [hfro]
    have hg' : (w.setCell ⟨g, o + i, none⟩ v).heap[g]? = some (.cells (cur.setIfInBounds (o + i) v) ty (lo, hi)) := by
      simp [World.setCell, Array.getElem?_modify, hg]
    obtain ⟨w', e1, e2, e3, e4, e5, e6, e7⟩ := run_storeRow (o := o) rest (i + 1) (cur.setIfInBounds (o + i) v) _ hg' (by simp at hl ⊢; omega) (by simpa using hf) (fun x hx => h1 x (by simp [hx]))
    refine ⟨w', by simp only [storeCells, Sem.run_bind, hst, Result.andThen_ok, e1], ?_, ?_, ?_, e5, e6, e7⟩
    · rw [e2]; simp [setAtU, Nat.add_assoc]
    · rw [e3]; simp [World.setCell]
    · intro k hk; rw [e4 k hk]; simp [World.setCell, Array.getElem?_modify, Ne.symm hk]

theorem oneCell_all {vs : List V} {us : List Value} (h : VRs μ vs us) (ho : ones vs = true) : ∀ u ∈ us, u.oneCell' = true := by
  induction vs generalizing us with
  | nil => rw [VRs_nil.1 h]; simp
  | cons v vs ih =>
    obtain ⟨x, xs, rfl, hx, h⟩ := VRs_cons.1 h
    rw [ones_cons, Bool.and_eq_true] at ho
    intro u hu
    rcases List.mem_cons.1 hu with rfl | hu
    · exact VR_oneCell hx ho.1
    · exact ih h ho.2 u hu

theorem wrs_elim {b o : Nat} {cs : List V} (h : wrs σ b o cs = some σ') : ∃ vs, σ.get b = some (.cells false vs) ∧ o + cs.length ≤ vs.length ∧ ones cs = true ∧ σ' = σ.put b (.cells false (setAt vs o cs)) := by
  have h : Option.rec (motive := fun _ => Option St) none (fun vs => Bool.rec (motive := fun _ => Option St) none (some (σ.put b (.cells false (setAt vs o cs)))) (Nat.ble (o + cs.length) vs.length && ones cs)) (freeOf (σ.get b)) = some σ' := h
  cases e : freeOf (σ.get b) with
  | none => rw [e] at h; cases h
  | some vs =>
    rw [e] at h
    have h : Bool.rec (motive := fun _ => Option St) none (some (σ.put b (.cells false (setAt vs o cs)))) (Nat.ble (o + cs.length) vs.length && ones cs) = some σ' := h
    cases e' : (Nat.ble (o + cs.length) vs.length && ones cs) with
    | false => rw [e'] at h; cases h
    | true =>
      rw [e'] at h; cases h
      simp only [Bool.and_eq_true] at e'
      exact ⟨vs, freeOf_spec e, Nat.le_of_ble_eq_true e'.1, e'.2, rfl⟩

/-- Cells are written. -/
theorem wrs_post (hs : SR P N0 μ σ w) {b o : Nat} {cs : List V} {us : List Value} (h : wrs σ b o cs = some σ') (hv : VRs μ cs us) :
    ∃ c d w', μ.pl b = some (c, d) ∧ (∀ o', us = [] ∨ o' = o + d → (storeCells ⟨c, o', none⟩ us).run P w = .ok () w') ∧ Post P N0 μ σ w μ σ' w' := by
  obtain ⟨vs, hg, hle, ho, rfl⟩ := wrs_elim h
  obtain ⟨c, d, arr, ty, lo, hi, us0, hp, h1, h2, h3, h4, h5⟩ := hs.cells hg
  have hl0 := VRs_length h3
  have hlu := VRs_length hv
  have hfit : us = [] ∨ o + d + 0 + us.length ≤ arr.size := by
    cases us with
    | nil => exact .inl rfl
    | cons u us =>
      right
      have : vs.length - 1 < us0.length := by simp at hlu; omega
      have h6 := h4 (vs.length - 1) _ (List.getElem?_eq_getElem this)
      have h7 := (Array.getElem?_eq_some_iff.1 h6).1
      simp at hlu ⊢; omega
  have hset : VRs μ (setAt vs o cs) (setAtU us0 o us) := setAt_VRs o hv h3
  rcases hfit with rfl | hfit
  · have : cs = [] := by cases cs with
      | nil => rfl
      | cons c cs => simp at hlu
    subst this
    refine ⟨c, d, w, hp, fun o' _ => by simp [storeCells], ?_⟩
    refine Post.put hs hg rfl hp (fun _ h => by cases h) rfl h1 (fun _ _ => rfl) rfl rfl rfl (fun _ => ?_)
    exact ⟨arr, ty, lo, hi, us0, rfl, h2, h3, h4, fun _ => h5 rfl⟩
  · obtain ⟨w', e1, e2, e3, e4, e5, e6, e7⟩ := run_storeRow (P := P) us 0 arr w h1 hfit (h5 rfl) (oneCell_all hv ho)
    refine ⟨c, d, w', hp, fun o' ho' => ?_, ?_⟩
    · rcases ho' with rfl | rfl
      · simp only [storeCells] at e1 ⊢; exact e1
      · exact e1
    · refine Post.put hs hg rfl hp (fun _ h => by cases h) e3 e2 e4 e5 e6 e7 (fun _ => ?_)
      refine ⟨_, ty, lo, hi, _, rfl, by simp [setAtU_length, h2], hset, ?_, fun _ i hi => h5 rfl i (by simpa [setAtU_length] using hi)⟩
      intro i u hu
      rw [setAtU_get] at hu
      simp only [List.getElem?_toArray]
      rw [setAtU_get]
      split at hu
      · rename_i hc
        rw [if_pos (by simp; omega)]
        rw [show d + i - (o + d + 0) = i - o by omega]; exact hu
      · rename_i hc
        have h8 := h4 i u hu
        have h9 : i < us0.length := (List.getElem?_eq_some_iff.1 hu).1
        rw [if_neg (by omega)]
        simpa using h8

theorem gs_elim {s : Option St} (h : gs s k) : ∃ σ', s = some σ' ∧ k .bot σ' := by
  cases s with
  | none => exact False.elim h
  | some σ' => exact ⟨σ', rfl, h⟩
theorem gvs_elim {s : Option (V × St)} (h : gvs s k) : ∃ v σ', s = some (v, σ') ∧ k v σ' := by
  cases s with
  | none => exact False.elim h
  | some p => exact ⟨p.1, p.2, rfl, h⟩
theorem boolRecP_elim {b : Bool} {Q : Prop} (h : Bool.rec (motive := fun _ => Prop) False Q b) : b = true ∧ Q := by
  cases b
  · exact False.elim h
  · exact ⟨rfl, h⟩

theorem s_st (hs : SR P N0 μ σ w) (ht : TR μ d t a.tmps) (hn : a.tmps.size = nt) {n : Option Nat} {x' y' : Opd} (hop : opOk P d nt o.op o.type (.st n x' y') = true) (h : evalOp (.st n x' y') K t σ k) : OpS P N0 μ σ w (execOp a.eval o) k := by
  have hk : stv n (opd t x') (opd t y') k σ := h
  have : ∃ ty x y, o.op = .store ty x y ∧ sizeT P ty = some (n.getD 1) ∧ opdOk d nt x x' = true ∧ opdOk d nt y y' = true := by
    replace hop : ok_st P d nt o.op n x' y' = true := hop
    unfold ok_st at hop
    split at hop
    · rename_i e; simp only [Bool.and_eq_true, beq_iff_eq] at hop; exact ⟨_, _, _, e, hop.1.1, hop.1.2, hop.2⟩
    · cases hop
  obtain ⟨ty, x, y, he, hsz, hx, hy⟩ := this
  have vx := opdOk_VR ht hn hx
  have vy := opdOk_VR ht hn hy
  obtain ⟨b, o', e, hk⟩ := vPtr_elim hk
  rw [e] at vx; simp only [VR] at vx
  obtain ⟨c, d', hp, vx⟩ := vx
  obtain ⟨h1, hk⟩ := boolRecP_elim hk
  obtain ⟨σ', hw, hk⟩ := gs_elim hk
  have h1 := beq_iff.1 h1
  obtain ⟨vs, _, _, ho, _⟩ := wrs_elim hw
  have hcs := VR_cells vy ho
  obtain ⟨c', d'', w', hp', hrun, hpost⟩ := wrs_post hs hw hcs
  rw [hp] at hp'; cases hp'
  have hrun := hrun (o' + d') (.inr rfl)
  refine ⟨.bot, σ', μ, w', undef, hk, hpost, by simp [VR], .skip ?_⟩
  have hr := run_sizeOf (P := P) (w := w) hsz
  have hlen : (a.eval y).cells.size = n.getD 1 := by rw [← h1, ← VRs_length hcs]; simp
  simp [execOp, he, Instr.storeAt, Instr.sureAddr, vx, storeVar, hr, hlen, hrun]

/-! ### new blocks -/
theorem ObjR_new {μ' : Mp} (hs : SR P N0 μ σ w) (ha : Agree σ.n μ μ') {vs : List V} {us : List Value} {arr : Array Value} {ty : TypeId} {lo hi c : Nat} {ro : Bool} (hv : VRs μ vs us) (hz : arr.size = μ'.sz c)
    (hu : ∀ (i : Nat) u, us[i]? = some u → arr[i]? = some u) (hf : ∀ i, i < arr.size → ¬ (lo ≤ i ∧ i < hi)) : ObjR P μ' (.cells ro vs) (some (.cells arr ty (lo, hi))) c 0 :=
  ⟨arr, ty, lo, hi, us, rfl, hz, hv.go hs.upto ha, by simpa using hu, fun _ => hf⟩

/-- What is shown of an operation that makes a block, wherever it is placed. -/
def NewS (P : Program) (μ : Mp) (w : World) (s : Sem Next) (mk : Nat → V) (ob : Obj) : Prop :=
  ∃ (x : Go.Obj) (sz : Nat) (cv : Value) (w' : World), ob.free = true ∧ w'.heap = w.heap.push x ∧ w'.os = w.os ∧ w'.tape = w.tape ∧ w'.output = w.output ∧ s.run P w = .ok (.value cv) w' ∧
    ∀ μ' b, μ.le μ' → μ'.pl b = some (w.heap.size, 0) → μ'.sz w.heap.size = sz → ObjR P μ' ob (some x) w.heap.size 0 ∧ VR μ' (mk b) cv

theorem NewS.ops (hs : SR P N0 μ σ w) {s : Sem Next} {mk : Nat → V} {ob : Obj} (hk : k (mk σ.n) (σ.add ob)) (h : NewS P μ w s mk ob) : OpS P N0 μ σ w s k := by
  obtain ⟨x, sz, cv, w', hf, hw, e1, e2, e3, hr, ho⟩ := h
  refine ⟨_, _, _, w', cv, hk, Post.add hs ob x sz hf hw e1 e2 e3 (fun μ' ha hp hz => (ho μ' σ.n (hs.upto.le ha) hp hz).1), ?_, .value hr⟩
  exact (ho _ σ.n (hs.upto.le (Agree.new hs _ _ _ (.inl (Nat.le_refl _)))) (Mp.new_pl _ _ _ _ _) (Mp.new_sz _ _ _ _ _)).2

theorem NewS.cells {vs : List V} {us : List Value} {arr : Array Value} {ty : TypeId} {lo hi : Nat} {mk : Nat → V} {cv : Value} {s : Sem Next} (hv : VRs μ vs us)
    (hu : ∀ (i : Nat) u, us[i]? = some u → arr[i]? = some u) (hf : ∀ i, i < arr.size → ¬ (lo ≤ i ∧ i < hi)) (hw : w'.heap = w.heap.push (.cells arr ty (lo, hi))) (e1 : w'.os = w.os) (e2 : w'.tape = w.tape) (e3 : w'.output = w.output)
    (hr : s.run P w = .ok (.value cv) w') (hcv : ∀ μ' : Mp, ∀ b, μ'.pl b = some (w.heap.size, 0) → VR μ' (mk b) cv) : NewS P μ w s mk (.cells false vs) :=
  ⟨_, arr.size, cv, w', rfl, hw, e1, e2, e3, hr, fun μ' b ha hp hz => ⟨⟨arr, ty, lo, hi, us, rfl, hz.symm, hv.mono ha, by simpa using hu, fun _ => hf⟩, hcv μ' b hp⟩⟩

theorem OpS.new (hs : SR P N0 μ σ w) {vs : List V} {us : List Value} {arr : Array Value} {ty : TypeId} {lo hi : Nat} {v : V} {cv : Value} {s : Sem Next} (hk : k v (σ.add (.cells false vs))) (hv : VRs μ vs us)
    (hu : ∀ (i : Nat) u, us[i]? = some u → arr[i]? = some u) (hf : ∀ i, i < arr.size → ¬ (lo ≤ i ∧ i < hi)) (hw : w'.heap = w.heap.push (.cells arr ty (lo, hi))) (e1 : w'.os = w.os) (e2 : w'.tape = w.tape) (e3 : w'.output = w.output)
    (hr : s.run P w = .ok (.value cv) w') (hcv : VR (μ.new σ.n w.heap.size 0 arr.size) v cv) : OpS P N0 μ σ w s k :=
  ⟨v, _, _, w', cv, hk, Post.add hs _ _ arr.size rfl hw e1 e2 e3 (fun μ' ha hp hz => ObjR_new hs ha hv hz.symm hu hf), hcv, .value hr⟩

theorem n_alloc {zs : List V} (hop : opOk P d nt o.op o.type (.alloc zs) = true) : NewS P μ w (execOp a.eval o) (fun b => .ptr b 0) (.cells false zs) := by
  have : ∃ ty, o.op = .alloc ty ∧ zeroOk (zeroT P ty) zs = true := by
    replace hop : ok_alloc P o.op zs = true := hop
    unfold ok_alloc at hop
    split at hop
    · rename_i e; exact ⟨_, e, hop⟩
    · cases hop
  obtain ⟨ty, he, hz⟩ := this
  obtain ⟨z, hz1, hz2⟩ := zero_spec hz
  refine NewS.cells (w' := w.alloc (.cells z.cells ty)) (lo := 0) (hi := 0) (arr := z.cells) (ty := ty) (cv := .pointer (some ⟨w.heap.size, 0, none⟩)) (hz2 μ) (fun i u hu => by simpa using hu) (fun i _ => by omega) rfl rfl rfl rfl ?_ ?_
  · simp [execOp, he, Instr.alloc, hz1, newVar, newRow]
  · intro μ' b hp; simp only [VR]; exact ⟨_, 0, hp, rfl⟩

theorem s_alloc (hs : SR P N0 μ σ w) (ht : TR μ d t a.tmps) (hn : a.tmps.size = nt) {zs : List V} (hop : opOk P d nt o.op o.type (.alloc zs) = true) (h : evalOp (.alloc zs) K t σ k) : OpS P N0 μ σ w (execOp a.eval o) k :=
  NewS.ops hs (mk := fun b => .ptr b 0) h (n_alloc hop)

theorem n_box (ht : TR μ d t a.tmps) (hn : a.tmps.size = nt) {y : Opd} (hop : opOk P d nt o.op o.type (.box y) = true) (ho : ones (opd t y).cells = true) : NewS P μ w (execOp a.eval o) (fun b => .ptr b 0) (.cells false (opd t y).cells) := by
  have : ∃ ty x, o.op = .box ty x ∧ opdOk d nt x y = true := by
    replace hop : ok_box d nt o.op y = true := hop
    unfold ok_box at hop
    split at hop
    · rename_i e; exact ⟨_, _, e, hop⟩
    · cases hop
  obtain ⟨ty, x, he, hx⟩ := this
  have hv := VR_cells (opdOk_VR ht hn hx) ho
  refine NewS.cells (w' := w.alloc (.cells (a.eval x).cells ty)) (lo := 0) (hi := 0) (arr := (a.eval x).cells) (ty := ty) (cv := .pointer (some ⟨w.heap.size, 0, none⟩)) hv (fun i u hu => by simpa using hu) (fun i _ => by omega) rfl rfl rfl rfl ?_ ?_
  · simp [execOp, he, Instr.box, newVar, newRow]
  · intro μ' b hp; simp only [VR]; exact ⟨_, 0, hp, rfl⟩

theorem s_box (hs : SR P N0 μ σ w) (ht : TR μ d t a.tmps) (hn : a.tmps.size = nt) {y : Opd} (hop : opOk P d nt o.op o.type (.box y) = true) (h : evalOp (.box y) K t σ k) : OpS P N0 μ σ w (execOp a.eval o) k := by
  have hk : Bool.rec (motive := fun _ => Prop) False (k (.ptr σ.n 0) (σ.add (.cells false (opd t y).cells))) (ones (opd t y).cells) := h
  obtain ⟨ho, hk⟩ := boolRecP_elim hk
  exact NewS.ops hs (mk := fun b => .ptr b 0) hk (n_box ht hn hop ho)

theorem n_mkmap (hop : opOk P d nt o.op o.type .mkmap = true) : NewS P μ w (execOp a.eval o) (fun b => .map b) (.map [] 0) := by
  have : ∃ ty, o.op = .makeMap ty none := by
    replace hop : ok_mkmap o.op = true := hop
    unfold ok_mkmap at hop
    split at hop
    · rename_i r e
      cases r with
      | none => exact ⟨_, e⟩
      | some r => cases hop
    · cases hop
  obtain ⟨ty, he⟩ := this
  refine ⟨.map #[] 0, 0, .map (some w.heap.size), w.alloc (.map #[] 0), rfl, rfl, rfl, rfl, rfl, ?_, fun μ' b ha hp hz => ⟨⟨rfl, #[], rfl, rfl⟩, ?_⟩⟩
  · simp [execOp, he, Instr.makeMap]
  · simp only [VR]; exact ⟨_, hp, rfl⟩

theorem s_mkmap (hs : SR P N0 μ σ w) (ht : TR μ d t a.tmps) (hn : a.tmps.size = nt) (hop : opOk P d nt o.op o.type .mkmap = true) (h : evalOp .mkmap K t σ k) : OpS P N0 μ σ w (execOp a.eval o) k :=
  NewS.ops hs (mk := fun b => .map b) h (n_mkmap hop)

/-- A row of zero values. -/
theorem zrow_eq (zs : List V) (n : Nat) : zrow zs n = (List.replicate n zs).flatten := by
  unfold zrow
  split
  · rename_i z
    induction n with
    | zero => rfl
    | succ n ih => rw [List.replicate_succ, List.replicate_succ, List.flatten_cons, ← ih]; rfl
  · rfl

theorem flat_VRs {vs : List V} {us : List Value} (h : VRs μ vs us) : ∀ n, VRs μ (List.replicate n vs).flatten (List.replicate n us).flatten
  | 0 => by simp [VRs]
  | n + 1 => by rw [List.replicate_succ, List.replicate_succ, List.flatten_cons, List.flatten_cons]; exact VRs_append h (flat_VRs h n)

theorem flat_get {α : Type} (l : List α) : ∀ (n i : Nat), i < n * l.length → (List.replicate n l).flatten[i]? = l[i % l.length]?
  | 0, i, h => by simp at h
  | n + 1, i, h => by
    rw [List.replicate_succ, List.flatten_cons]
    by_cases hi : i < l.length
    · rw [List.getElem?_append_left hi, Nat.mod_eq_of_lt hi]
    · rw [List.getElem?_append_right (by omega), flat_get l n (i - l.length) (by rw [Nat.succ_mul] at h; omega)]
      rw [← Nat.mod_eq_sub_mod (by omega)]

theorem made_list (z : Array Value) (n : Nat) (hz : 0 < z.size) : ((Array.range (n * z.size)).map (z[· % z.size]!)).toList = (List.replicate n z.toList).flatten := by
  apply List.ext_getElem?
  intro i
  by_cases h : i < n * z.size
  · rw [flat_get z.toList n i (by simpa using h)]
    have hm : i % z.size < z.size := Nat.mod_lt _ hz
    simp [h, hm]
  · rw [List.getElem?_eq_none (by simp; omega), List.getElem?_eq_none]
    simp; omega

theorem zeroCells_list (z : Array Value) (n : Nat) (hz : 0 < z.size) : (Builtin.zeroCells z n).toList = (List.replicate n z.toList).flatten := made_list z n hz

theorem n_mksl (ht : TR μ d t a.tmps) (hn : a.tmps.size = nt) {es bytes : Nat} {zs : List V} {l' c' : Opd} (hop : opOk P d nt o.op o.type (.mksl es bytes zs l' c') = true) {kl kc : IntKind} {l0 c0 : Int} (e1 : opd t l' = .int kl l0) (e2 : opd t c' = .int kc c0)
    (hcond : 0 ≤ l0 ∧ l0 ≤ c0 ∧ c0 * bytes ≤ 1073741824 ∧ c0 ≤ 1073741824) : NewS P μ w (execOp a.eval o) (fun b => .slice b 0 l0.toNat c0.toNat none) (.cells false (zrow zs c0.toNat)) := by
  have : ∃ ty l c el, o.op = .makeSlice ty l c ∧ P.underlying ty = some (.slice el) ∧ sizeT P el = some es ∧ bytesT P el = some bytes ∧ zeroOk (zeroT P el) zs = true ∧ zs.length = es ∧ 0 < es ∧ opdOk d nt l l' = true ∧ opdOk d nt c c' = true := by
    replace hop : ok_mksl P d nt o.op es bytes zs l' c' = true := hop
    unfold ok_mksl at hop
    split at hop
    · rename_i e
      split at hop
      · rename_i el hel
        simp only [Bool.and_eq_true, beq_iff_eq] at hop
        obtain ⟨⟨⟨⟨⟨⟨h1, h2⟩, h3⟩, h4⟩, h5⟩, h6⟩, h7⟩ := hop
        exact ⟨_, _, _, el, e, sliceElem_spec hel, h1, h2, h3, h4, blt_iff.1 h5, h6, h7⟩
      · cases hop
    · cases hop
  obtain ⟨ty, l, c, el, he, hu, hsz, hby, hz, hzl, he0, hl, hc⟩ := this
  have vl := opdOk_VR ht hn hl
  have vc := opdOk_VR ht hn hc
  rw [e1] at vl; rw [e2] at vc; simp only [VR] at vl vc
  obtain ⟨g1, g2, g3, g4⟩ := hcond
  obtain ⟨i, hi, hi1⟩ := sizeT_info hsz
  have hb : i.bytes = bytes := by unfold bytesT at hby; rw [hi] at hby; simpa using hby
  obtain ⟨z, hz1⟩ : ∃ z, zeroT P el = some z := by
    cases e : zeroT P el with
    | none => rw [e] at hz; cases hz
    | some z => exact ⟨z, rfl⟩
  have hzi : i.zero = some z := by unfold zeroT at hz1; rw [hi] at hz1; simpa using hz1
  have hzv : VRs μ zs z.cells.toList := by rw [hz1] at hz; exact cellsOk_VRs hz
  have hzs : z.cells.size = es := by rw [← hzl, ← VRs_length hzv]; simp
  have hrun := run_make (P := P) w ty el i z hu hi hzi kl kc l0 c0 g1 g2 (by rw [hb, Int.mul_comm]; omega) (by omega)
  have harr : (madeCells z.cells (c0.toNat * i.size)).toList = (List.replicate c0.toNat z.cells.toList).flatten := by
    rw [hi1, ← hzs]; exact made_list z.cells c0.toNat (by omega)
  refine NewS.cells (w' := w.alloc (.cells (madeCells z.cells (c0.toNat * i.size)) el)) (lo := 0) (hi := 0) (arr := madeCells z.cells (c0.toNat * i.size)) (ty := el) (us := (List.replicate c0.toNat z.cells.toList).flatten) (cv := .slice (some ⟨w.heap.size, 0, none⟩) l0.toNat c0.toNat) (by rw [zrow_eq]; exact flat_VRs hzv _) (fun i u hu => by rw [← harr] at hu; simpa using hu) (fun i _ => by omega) rfl rfl rfl rfl ?_ ?_
  · simp [execOp, he, vl, vc, hrun]
  · intro μ' b hp; simp only [VR]; exact ⟨_, 0, 0, c0.toNat, hp, rfl, by omega, .inr rfl, fun _ => rfl, fun e he => by cases he⟩

theorem mksl_elim {bytes : Nat} {zs : List V} {l c : V} (hk : mkslP bytes zs l c σ k) : ∃ kl kc l0 c0, l = .int kl l0 ∧ c = .int kc c0 ∧ (0 ≤ l0 ∧ l0 ≤ c0 ∧ c0 * bytes ≤ 1073741824 ∧ c0 ≤ 1073741824) ∧ k (.slice σ.n 0 l0.toNat c0.toNat none) (σ.add (.cells false (zrow zs c0.toNat))) := by
  unfold mkslP at hk
  split at hk
  · rename_i kl l0 kc c0
    split at hk
    · rename_i hcond; exact ⟨kl, kc, l0, c0, rfl, rfl, hcond, hk⟩
    · cases hk
  · cases hk

theorem s_mksl (hs : SR P N0 μ σ w) (ht : TR μ d t a.tmps) (hn : a.tmps.size = nt) {es bytes : Nat} {zs : List V} {l' c' : Opd} (hop : opOk P d nt o.op o.type (.mksl es bytes zs l' c') = true) (h : evalOp (.mksl es bytes zs l' c') K t σ k) : OpS P N0 μ σ w (execOp a.eval o) k := by
  have hk : mkslP bytes zs (opd t l') (opd t c') σ k := h
  obtain ⟨kl, kc, l0, c0, e1, e2, hc, hk⟩ := mksl_elim hk
  exact NewS.ops hs (mk := fun b => .slice b 0 l0.toNat c0.toNat none) hk (n_mksl ht hn hop e1 e2 hc)

theorem fills_run (ht : TR μ d t a.tmps) (hn : a.tmps.size = nt) {es : Nat} : ∀ (xs : List (Nat × Operand)) (ys : List (Nat × Opd)) (zs : List V) (us : List Value) (r : List V),
    sbpartsOk d nt xs ys = true → VRs μ zs us → fills t es zs ys = some r → ∃ rs, VRs μ r rs ∧ Instr.fill (fun i => some (i * es, es)) ⟨us⟩ (xs.map fun (i, x) => (i, a.eval x)) = some ⟨rs⟩
  | [], [], zs, us, r, _, hv, h => by simp only [fills] at h; cases h; exact ⟨us, hv, rfl⟩
  | [], _ :: _, zs, us, r, h, _, _ => by simp [sbpartsOk] at h
  | (i, x) :: xs, [], zs, us, r, h, _, _ => by simp [sbpartsOk] at h
  | (i, x) :: xs, (j, y) :: ys, zs, us, r, h, hv, hf => by
    simp only [sbpartsOk, Bool.and_eq_true, beq_iff_eq] at h
    obtain ⟨⟨rfl, h2⟩, h3⟩ := h
    simp only [fills] at hf
    split at hf
    · rename_i hc
      obtain ⟨c1, c2, c3⟩ := hc
      have hx := opdOk_VR ht hn h2
      have hc := VR_cells hx c3
      have hlen := VRs_length hc
      obtain ⟨rs, g1, g2⟩ := fills_run ht hn xs ys _ _ r h3 (setAt_VRs (i * es) hc hv) hf
      refine ⟨rs, g1, ?_⟩
      have hul := VRs_length hv
      have e1 : (a.eval x).cells.size = es := by rw [← c1, ← hlen]; simp
      simp only [List.map_cons, Instr.fill]
      rw [if_neg (by simp [e1]; omega), fill_foldl]
      exact g2
    · cases hf

theorem n_bslice (ht : TR μ d t a.tmps) (hn : a.tmps.size = nt) {es n : Nat} {zs : List V} {qs : List (Nat × Opd)} (hop : opOk P d nt o.op o.type (.bslice es n zs qs) = true) {r : List V} (hf : fills t es (zrow zs n) qs = some r) : NewS P μ w (execOp a.eval o) (fun b => .slice b 0 n n none) (.cells false r) := by
  have : ∃ ty ps el, o.op = .buildSlice ty n ps ∧ P.underlying ty = some (.slice el) ∧ sizeT P el = some es ∧ zeroOk (zeroT P el) zs = true ∧ zs.length = es ∧ n * es < 16777216 ∧ 0 < es ∧ sbpartsOk d nt ps.toList qs = true := by
    replace hop : ok_bslice P d nt o.op es n zs qs = true := hop
    unfold ok_bslice at hop
    split at hop
    · rename_i e
      split at hop
      · rename_i el hel
        simp only [Bool.and_eq_true, beq_iff_eq] at hop
        obtain ⟨⟨⟨⟨⟨⟨rfl, h2⟩, h3⟩, h4⟩, h5⟩, h6⟩, h7⟩ := hop
        exact ⟨_, _, el, e, sliceElem_spec hel, h2, h3, h4, blt_iff.1 h5, blt_iff.1 h6, h7⟩
      · cases hop
    · cases hop
  obtain ⟨ty, ps, el, he, hu, hsz, hz, hzl, hlt, he0, hps⟩ := this
  obtain ⟨z, hz1, hz2⟩ := zero_spec hz
  have hzs : z.cells.size = es := by rw [← hzl, ← VRs_length (hz2 μ)]; simp
  have hmade := made_list z.cells n (by omega)
  obtain ⟨rs, g1, g2⟩ := fills_run ht hn ps.toList qs _ ((List.replicate n z.cells.toList).flatten) r hps (by rw [zrow_eq]; exact flat_VRs (hz2 μ) n) hf
  rw [← hmade] at g2
  have g2' : Instr.fill (fun i => some (i * es, es)) ((Array.range (n * es)).map (z.cells[· % z.cells.size]!)) (ps.toList.map fun (i, x) => (i, a.eval x)) = some ⟨rs⟩ := by rw [← hzs] at g2 ⊢; exact g2
  have hr := run_sizeOf (P := P) (w := w) hsz
  have hparts : (ps.map fun (i, x) => (i, a.eval x)).toList = ps.toList.map fun (i, x) => (i, a.eval x) := by simp
  refine NewS.cells (w' := w.alloc (.cells ⟨rs⟩ el)) (lo := 0) (hi := 0) (arr := ⟨rs⟩) (ty := el) (us := rs) (cv := .slice (some ⟨w.heap.size, 0, none⟩) n n) g1 (fun i u hu => by simpa using hu) (fun i _ => by omega) rfl rfl rfl rfl ?_ ?_
  · rw [show execOp a.eval o = (do Pure.pure (.value (← Instr.buildSlice ty n (ps.map fun (i, x) => (i, a.eval x))))) by simp [execOp, he]]
    refine run_val ?_
    by_cases h0 : n * es = 0
    · have h1 : ∀ f : Nat → Value, (Array.range (n * es)).map f = #[] := fun f => by rw [h0]; simp
      rw [h1] at g2'
      simp only [Instr.buildSlice, Sem.run_bind, run_underlying hu, hr, Result.andThen_ok, gt_iff_lt]
      rw [if_neg (by omega), if_pos h0]
      simp only [Sem.run_bind, Result.andThen_ok, Sem.run_pure, hparts, h1, g2', newRow, run_newObj]
      rfl
    · have : ¬ (16777216 < n * es) := by omega
      simp only [Instr.buildSlice, Sem.run_bind, run_underlying hu, hr, Result.andThen_ok, gt_iff_lt]
      rw [if_neg (by omega), if_neg h0]
      simp only [Sem.run_bind, hz1, Result.andThen_ok, Sem.run_pure, hparts, g2', newRow, run_newObj]
      rfl
  · intro μ' b hp; simp only [VR]; exact ⟨_, 0, 0, n, hp, rfl, by omega, .inr rfl, fun _ => rfl, fun e he => by cases he⟩

theorem s_bslice (hs : SR P N0 μ σ w) (ht : TR μ d t a.tmps) (hn : a.tmps.size = nt) {es n : Nat} {zs : List V} {qs : List (Nat × Opd)} (hop : opOk P d nt o.op o.type (.bslice es n zs qs) = true) (h : evalOp (.bslice es n zs qs) K t σ k) : OpS P N0 μ σ w (execOp a.eval o) k := by
  have hk : gnew (fills t es (zrow zs n) qs) n σ k := h
  unfold gnew at hk
  split at hk
  · rename_i r hf
    exact NewS.ops hs (mk := fun b => .slice b 0 n n none) hk (n_bslice ht hn hop hf)
  · cases hk

end
end Go.Proofs.Ytnmkbnejapdnnaa.Ev
