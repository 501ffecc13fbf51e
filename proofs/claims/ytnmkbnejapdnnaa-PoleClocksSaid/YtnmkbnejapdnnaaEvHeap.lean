/-
  The abstract heap and the machine's: what one says of the other, and how it goes on step by step.
-/
import Derived.Test.YtnmkbnejapdnnaaEvRel
import Derived.Laws.AppendOwn
set_option linter.unusedVariables false
namespace Go.Proofs.Ytnmkbnejapdnnaa.Ev
open Go

def ERs (μ : Mp) : List (V × V × Nat) → List MapEntry → Prop
  | [], l => l = []
  | e :: es, l => ∃ m ms, l = m :: ms ∧ VR μ e.1 m.key ∧ VR μ e.2.1 m.val ∧ e.2.2 = m.born ∧ ERs μ es ms

def stOk : LSt → LoopState → Prop
  | .ready, s => s = .ready
  | .busy, s => s = .busy
  | .done, s => s = .done

def pendOk : Option (Option Nat) → Option Code → Prop
  | none, c => c = none
  | some none, c => c = some .ret
  | some (some id), c => c = some (.exit id)

/-- A loop's record. -/
structure LoopOk (P : Program) (μ : Mp) (dp nt fn : Nat) (a : Tr) (ps : List Pth) (asg body : EC) (s : LSt) (pend : Option (Option Nat)) (L : Go.Loop) : Prop where
  fn : L.fn = fn
  size : L.tmps.size = nt
  le : nt ≤ 16 ^ dp
  pos : 0 < dp
  tr : TR μ dp a L.tmps
  ps : pathsOk dp nt L.params.toList ps = true
  na : noRf asg = true
  nb : noRf body = true
  asg : codeOk P dp nt L.assign asg = true
  body : codeOk P dp nt L.body body = true
  st : stOk s L.state
  pend : pendOk pend L.pending

/-- What an abstract object says of the machine's object x in block c. -/
def ObjR (P : Program) (μ : Mp) (o : Obj) (x : Option Go.Obj) (c d : Nat) : Prop :=
  match o with
  | .cells ro vs => ∃ arr t lo hi us, x = some (.cells arr t (lo, hi)) ∧ arr.size = μ.sz c ∧ VRs μ vs us ∧ (∀ i u, us[i]? = some u → arr[d + i]? = some u) ∧ (ro = false → ∀ i, i < arr.size → ¬ (lo ≤ i ∧ i < hi))
  | .map es clock => d = 0 ∧ ∃ arr : Array MapEntry, x = some (.map arr clock) ∧ ERs μ es arr.toList
  | .iter m since seen => d = 0 ∧ ∃ cm, μ.pl m = some (cm, 0) ∧ x = some (.mapIter (some cm) since ⟨seen⟩ since)
  | .loop fn a ps asg body s pend => d = 0 ∧ ∃ L dp nt, x = some (.loop L) ∧ LoopOk P μ dp nt fn a ps asg body s pend L
  | .dead => True

theorem ERs.mono {μ μ' : Mp} (ha : μ.le μ') : ∀ {es : List (V × V × Nat)} {l : List MapEntry}, ERs μ es l → ERs μ' es l
  | [], l, h => h
  | e :: es, l, h => by
    obtain ⟨m, ms, rfl, h1, h2, h3, h4⟩ := h
    exact ⟨m, ms, rfl, h1.mono ha, h2.mono ha, h3, ERs.mono ha h4⟩
theorem ERs.go {n : Nat} {μ μ' : Mp} (hu : μ.upto n) (ha : Agree n μ μ') {es : List (V × V × Nat)} {l : List MapEntry} (h : ERs μ es l) : ERs μ' es l := h.mono (hu.le ha)

theorem ObjR.mono {P : Program} {μ μ' : Mp} (ha : μ.le μ') {b c d : Nat} (hp : μ.pl b = some (c, d)) {o : Obj} {x : Option Go.Obj} (h : ObjR P μ o x c d) : ObjR P μ' o x c d := by
  cases o with
  | cells ro vs =>
    obtain ⟨arr, t, lo, hi, us, h1, h2, h3, h4, h5⟩ := h
    exact ⟨arr, t, lo, hi, us, h1, by rw [ha.sz b c d hp]; exact h2, VRs.mono ha h3, h4, h5⟩
  | map es clock =>
    obtain ⟨h0, arr, h1, h2⟩ := h
    exact ⟨h0, arr, h1, h2.mono ha⟩
  | iter m since seen =>
    obtain ⟨h0, cm, h1, h2⟩ := h
    exact ⟨h0, cm, ha.pl m _ h1, h2⟩
  | loop fn a ps asg body s pend =>
    obtain ⟨h0, L, dp, nt, h1, h2⟩ := h
    exact ⟨h0, L, dp, nt, h1, { h2 with tr := h2.tr.mono ha }⟩
  | dead => trivial
theorem ObjR.go {P : Program} {n : Nat} {μ μ' : Mp} (hu : μ.upto n) (ha : Agree n μ μ') {b c d : Nat} (hp : μ.pl b = some (c, d)) {o : Obj} {x : Option Go.Obj} (h : ObjR P μ o x c d) : ObjR P μ' o x c d := h.mono (hu.le ha) hp

mutual
theorem ERs.bel {n : Nat} {μ μ' : Mp} (ha : Agree n μ μ') : ∀ {es : List (V × V × Nat)} {l : List MapEntry}, (es.all fun e => e.1.bel n && e.2.1.bel n) = true → ERs μ' es l → ERs μ es l
  | [], l, _, h => h
  | e :: es, l, hb, h => by
    obtain ⟨m, ms, rfl, h1, h2, h3, h4⟩ := h
    simp only [List.all_cons, Bool.and_eq_true] at hb
    exact ⟨m, ms, rfl, VR.bel ha hb.1.1 h1, VR.bel ha hb.1.2 h2, h3, ERs.bel ha hb.2 h4⟩
end

theorem ObjR.bel {P : Program} {n : Nat} {μ μ' : Mp} (ha : Agree n μ μ') {b c d : Nat} (hb : b < n) (hp : μ.pl b = some (c, d)) {o : Obj} {x : Option Go.Obj} (ho : o.bel n = true) (h : ObjR P μ' o x c d) : ObjR P μ o x c d := by
  cases o with
  | cells ro vs =>
    obtain ⟨arr, t, lo, hi, us, h1, h2, h3, h4, h5⟩ := h
    exact ⟨arr, t, lo, hi, us, h1, by rw [← ha.sz b c d hb hp]; exact h2, VRs.bel ha (by simpa [Obj.bel] using ho) h3, h4, h5⟩
  | map es clock =>
    obtain ⟨h0, arr, h1, h2⟩ := h
    exact ⟨h0, arr, h1, ERs.bel ha (by simpa [Obj.bel] using ho) h2⟩
  | iter m since seen => simp [Obj.bel] at ho
  | loop fn a ps asg body s pend => simp [Obj.bel] at ho
  | dead => trivial

/-- May it be turned? -/
def Obj.free : Obj → Bool
  | .cells ro _ => !ro
  | .dead => false
  | _ => true

/-- The abstract heap says this of the world; blocks below N0 are not the call's own. -/
structure SR (P : Program) (N0 : Nat) (μ : Mp) (σ : St) (w : World) : Prop where
  upto : μ.upto σ.n
  obj : ∀ b o, σ.get b = some o → o ≠ .dead → ∃ c d, μ.pl b = some (c, d) ∧ ObjR P μ o w.heap[c]? c d
  own : ∀ b o c d, σ.get b = some o → o.free = true → μ.pl b = some (c, d) → N0 ≤ c
  ro : ∀ b vs c d, σ.get b = some (.cells true vs) → μ.pl b = some (c, d) → c < N0
  inj : ∀ b₁ b₂ o₁ o₂ c d₁ d₂, σ.get b₁ = some o₁ → σ.get b₂ = some o₂ → o₁.free = true → o₂.free = true → μ.pl b₁ = some (c, d₁) → μ.pl b₂ = some (c, d₂) → b₁ = b₂
  size : N0 ≤ w.heap.size
  plc : ∀ b c d, μ.pl b = some (c, d) → c < w.heap.size

/-- From one state to the next. -/
structure Post (P : Program) (N0 : Nat) (μ : Mp) (σ : St) (w : World) (μ' : Mp) (σ' : St) (w' : World) : Prop where
  agree : Agree σ.n μ μ'
  sr : SR P N0 μ' σ' w'
  keep : ∀ c, c < w.heap.size → (∀ b o d, σ.get b = some o → o.free = true → μ.pl b ≠ some (c, d)) → w'.heap[c]? = w.heap[c]?
  img : ∀ b o c d, σ'.get b = some o → o.free = true → μ'.pl b = some (c, d) → c < w.heap.size → ∃ b₀ o₀ d₀, σ.get b₀ = some o₀ ∧ o₀.free = true ∧ μ.pl b₀ = some (c, d₀)
  n : σ.n ≤ σ'.n
  size : w.heap.size ≤ w'.heap.size
  os : w'.os = w.os
  tape : w'.tape = w.tape
  output : w'.output = w.output
  base : σ'.base = σ.base
  mods : ∀ b, b ∈ σ.mods → b ∈ σ'.mods
  ext : ∀ b, b < σ.base → b < σ.n → b ∉ σ'.mods → σ'.get b = σ.get b
  keys : ∀ b, (σ.get b).isSome = true → (σ'.get b).isSome = true
  same : ∀ b o c d, b < σ.base → b ∉ σ'.mods → σ.get b = some o → o ≠ .dead → μ.pl b = some (c, d) → w'.heap[c]? = w.heap[c]?

variable {P : Program} {N0 : Nat} {μ μ' μ'' : Mp} {σ σ' σ'' : St} {w w' w'' : World}

theorem Post.refl (h : SR P N0 μ σ w) : Post P N0 μ σ w μ σ w :=
  ⟨Agree.refl _ _, h, fun _ _ _ => rfl, fun b o c d h1 h2 h3 _ => ⟨b, o, d, h1, h2, h3⟩, Nat.le_refl _, Nat.le_refl _, rfl, rfl, rfl, rfl, fun _ h => h, fun _ _ _ _ => rfl, fun _ h => h, fun _ _ _ _ _ _ _ _ _ => rfl⟩

theorem Post.trans (h : Post P N0 μ σ w μ' σ' w') (k : Post P N0 μ' σ' w' μ'' σ'' w'') : Post P N0 μ σ w μ'' σ'' w'' where
  agree := h.agree.trans k.agree h.n
  sr := k.sr
  keep := fun c hc hi => by
    rw [k.keep c (Nat.lt_of_lt_of_le hc h.size) ?_, h.keep c hc hi]
    intro b o d h1 h2 h3
    obtain ⟨b₀, o₀, d₀, g1, g2, g3⟩ := h.img b o c d h1 h2 h3 hc
    exact hi b₀ o₀ d₀ g1 g2 g3
  img := fun b o c d h1 h2 h3 hc => by
    obtain ⟨b₀, o₀, d₀, g1, g2, g3⟩ := k.img b o c d h1 h2 h3 (Nat.lt_of_lt_of_le hc h.size)
    exact h.img b₀ o₀ c d₀ g1 g2 g3 hc
  n := Nat.le_trans h.n k.n
  size := Nat.le_trans h.size k.size
  os := k.os.trans h.os
  tape := k.tape.trans h.tape
  output := k.output.trans h.output
  base := k.base.trans h.base
  mods := fun b hb => k.mods b (h.mods b hb)
  ext := fun b h1 h2 h3 => by
    rw [k.ext b (by rw [h.base]; exact h1) (Nat.lt_of_lt_of_le h2 h.n) h3]
    exact h.ext b h1 h2 (fun hb => h3 (k.mods b hb))
  keys := fun b hb => k.keys b (h.keys b hb)
  same := fun b o c d h1 h2 h3 h4 h5 => by
    have h2' : b ∉ σ'.mods := fun hb => h2 (k.mods b hb)
    rw [k.same b o c d (by rw [h.base]; exact h1) h2 (by rw [h.ext b h1 (get_lt h3) h2']; exact h3) h4 (by rw [h.agree.pl b (get_lt h3)]; exact h5)]
    exact h.same b o c d h1 h2' h3 h4 h5

/-- Of what the call does not own nothing turns. -/
theorem Post.old (h : Post P N0 μ σ w μ' σ' w') (hs : SR P N0 μ σ w) (c : Nat) (hc : c < N0) : w'.heap[c]? = w.heap[c]? :=
  h.keep c (Nat.lt_of_lt_of_le hc hs.size) (fun b o d h1 h2 h3 => by have := hs.own b o c d h1 h2 h3; omega)

theorem Post.below (h : Post P N0 μ σ w μ' σ' w') (hs : SR P N0 μ σ w) : Go.RowKit.Below N0 w w' :=
  ⟨h.os, h.tape, h.output, h.size, fun k hk => h.old hs k hk⟩

/-- A draw turns no block. -/
theorem SR.heap (h : SR P N0 μ σ w) (e : w'.heap = w.heap) : SR P N0 μ σ w' :=
  ⟨h.upto, fun b o h1 h2 => by rw [e]; exact h.obj b o h1 h2, h.own, h.ro, h.inj, by rw [e]; exact h.size, by rw [e]; exact h.plc⟩

theorem Post.heap (h : SR P N0 μ σ w) (e : w'.heap = w.heap) (e1 : w'.os = w.os) (e2 : w'.tape = w.tape) (e3 : w'.output = w.output) : Post P N0 μ σ w μ σ w' :=
  ⟨Agree.refl _ _, h.heap e, fun _ _ _ => by rw [e], fun b o c d h1 h2 h3 _ => ⟨b, o, d, h1, h2, h3⟩, Nat.le_refl _, by rw [e]; exact Nat.le_refl _, e1, e2, e3, rfl, fun _ h => h, fun _ _ _ _ => rfl, fun _ h => h, fun _ _ _ _ _ _ _ _ _ => by rw [e]⟩

/-- A new block: where it is placed, how many cells it has. -/
def Mp.new (μ : Mp) (b c d s : Nat) : Mp := ⟨fun x => if x = b then some (c, d) else μ.pl x, fun x => if x = c then s else μ.sz x⟩

theorem Mp.new_pl (μ : Mp) (b c d s : Nat) : (μ.new b c d s).pl b = some (c, d) := by simp [Mp.new]
theorem Mp.new_pl_ne (μ : Mp) {b c d s x : Nat} (h : x ≠ b) : (μ.new b c d s).pl x = μ.pl x := by simp [Mp.new, h]
theorem Mp.new_sz (μ : Mp) (b c d s : Nat) : (μ.new b c d s).sz c = s := by simp [Mp.new]

theorem free_ne_dead {o : Obj} (h : o.free = true) : o ≠ .dead := by rintro rfl; cases h

theorem push_old {α : Type} (a : Array α) (x : α) {c : Nat} (h : c < a.size) : (a.push x)[c]? = a[c]? := by
  rw [Array.getElem?_push, if_neg (by omega)]
theorem push_new {α : Type} (a : Array α) (x : α) : (a.push x)[a.size]? = some x := by simp

theorem Agree.new (h : SR P N0 μ σ w) (c d s : Nat) (hc : w.heap.size ≤ c ∨ s = μ.sz c) : Agree σ.n μ (μ.new σ.n c d s) :=
  ⟨fun b hb => Mp.new_pl_ne μ (by omega), fun b c' d' hb e => by
    simp only [Mp.new]
    by_cases ec : c' = c
    · subst ec
      rcases hc with hc | hc
      · have := h.plc b c' d' e; omega
      · rw [if_pos rfl, hc]
    · rw [if_neg ec]⟩

/-- A NEW BLOCK, placed at a new block of the machine's. 's': its size. -/
theorem Post.add (h : SR P N0 μ σ w) (o : Obj) (x : Go.Obj) (s : Nat) (hf : o.free = true)
    (hw : w'.heap = w.heap.push x) (e1 : w'.os = w.os) (e2 : w'.tape = w.tape) (e3 : w'.output = w.output)
    (ho : ∀ μ', Agree σ.n μ μ' → μ'.pl σ.n = some (w.heap.size, 0) → μ'.sz w.heap.size = s → ObjR P μ' o (some x) w.heap.size 0) :
    Post P N0 μ σ w (μ.new σ.n w.heap.size 0 s) (σ.add o) w' := by
  have ha : Agree σ.n μ (μ.new σ.n w.heap.size 0 s) := Agree.new h _ _ _ (.inl (Nat.le_refl _))
  have hsz : w'.heap.size = w.heap.size + 1 := by rw [hw]; simp
  refine ⟨ha, ⟨?_, ?_, ?_, ?_, ?_, ?_, ?_⟩, ?_, ?_, by rw [n_add]; omega, by omega, e1, e2, e3, rfl, fun _ h => h, ?_, ?_, ?_⟩
  · intro b hb
    rw [n_add] at hb
    rw [Mp.new_pl_ne μ (by omega)]; exact h.upto b (by omega)
  · intro b o' h1 h2
    rw [get_add] at h1
    by_cases e : b = σ.n
    · subst e; rw [if_pos rfl] at h1; cases h1
      refine ⟨_, _, Mp.new_pl _ _ _ _ _, ?_⟩
      rw [hw, push_new]; exact ho _ ha (Mp.new_pl _ _ _ _ _) (Mp.new_sz _ _ _ _ _)
    · rw [if_neg e] at h1
      obtain ⟨c, d, g1, g2⟩ := h.obj b o' h1 h2
      refine ⟨c, d, by rw [Mp.new_pl_ne μ e]; exact g1, ?_⟩
      rw [hw, push_old _ _ (h.plc b c d g1)]
      exact g2.go h.upto ha g1
  · intro b o' c d h1 h2 h3
    rw [get_add] at h1
    by_cases e : b = σ.n
    · subst e; rw [Mp.new_pl] at h3; cases h3; exact h.size
    · rw [if_neg e] at h1; rw [Mp.new_pl_ne μ e] at h3; exact h.own b o' c d h1 h2 h3
  · intro b vs c d h1 h3
    rw [get_add] at h1
    by_cases e : b = σ.n
    · rw [if_pos e] at h1; cases h1; cases hf
    · rw [if_neg e] at h1; rw [Mp.new_pl_ne μ e] at h3; exact h.ro b vs c d h1 h3
  · intro b₁ b₂ o₁ o₂ c d₁ d₂ h1 h2 f1 f2 p1 p2
    rw [get_add] at h1 h2
    by_cases x1 : b₁ = σ.n <;> by_cases x2 : b₂ = σ.n
    · rw [x1, x2]
    · subst x1; rw [Mp.new_pl] at p1; cases p1; rw [Mp.new_pl_ne μ x2] at p2
      have := h.plc b₂ _ _ p2; omega
    · subst x2; rw [Mp.new_pl] at p2; cases p2; rw [Mp.new_pl_ne μ x1] at p1
      have := h.plc b₁ _ _ p1; omega
    · rw [if_neg x1] at h1; rw [if_neg x2] at h2; rw [Mp.new_pl_ne μ x1] at p1; rw [Mp.new_pl_ne μ x2] at p2
      exact h.inj b₁ b₂ o₁ o₂ c d₁ d₂ h1 h2 f1 f2 p1 p2
  · rw [hsz]; have := h.size; omega
  · intro b c d h1
    by_cases e : b = σ.n
    · subst e; rw [Mp.new_pl] at h1; cases h1; omega
    · rw [Mp.new_pl_ne μ e] at h1; have := h.plc b c d h1; omega
  · intro c hc _; rw [hw, push_old _ _ hc]
  · intro b o' c d h1 h2 h3 hc
    rw [get_add] at h1
    by_cases e : b = σ.n
    · subst e; rw [Mp.new_pl] at h3; cases h3; omega
    · rw [if_neg e] at h1; rw [Mp.new_pl_ne μ e] at h3; exact ⟨b, o', d, h1, h2, h3⟩
  · intro b h1 h2 _; rw [get_add, if_neg (by omega)]
  · intro b h1; rw [get_add]; split
    · rfl
    · exact h1
  · intro b o' c d _ _ _ _ h5; rw [hw, push_old _ _ (h.plc b c d h5)]

/-- A BLOCK IS TURNED: b, which may be turned, is o' behind it. -/
theorem Post.put (h : SR P N0 μ σ w) {b : Nat} {o₀ o' : Obj} {c d : Nat} {x : Go.Obj} (hb : σ.get b = some o₀) (hf : o₀.free = true) (hp : μ.pl b = some (c, d))
    (hro : ∀ vs, o' ≠ .cells true vs) (hsz : w'.heap.size = w.heap.size) (hc : w'.heap[c]? = some x) (hne : ∀ k, k ≠ c → w'.heap[k]? = w.heap[k]?)
    (e1 : w'.os = w.os) (e2 : w'.tape = w.tape) (e3 : w'.output = w.output) (ho : o' ≠ .dead → ObjR P μ o' (some x) c d) :
    Post P N0 μ σ w μ (σ.put b o') w' := by
  have hN := h.own b o₀ c d hb hf hp
  have hg : ∀ b', (σ.put b o').get b' = if b' = b then some o' else σ.get b' := fun b' => by rw [get_put, hb]; simp
  refine ⟨Agree.refl _ _, ⟨h.upto, ?_, ?_, ?_, ?_, by rw [hsz]; exact h.size, by rw [hsz]; exact h.plc⟩, ?_, ?_, Nat.le_refl _, by omega, e1, e2, e3, rfl, ?_, ?_, ?_, ?_⟩
  · intro b' o h1 h2
    rw [hg] at h1
    by_cases e : b' = b
    · subst e; rw [if_pos rfl] at h1; cases h1
      exact ⟨c, d, hp, by rw [hc]; exact ho h2⟩
    · rw [if_neg e] at h1
      obtain ⟨c', d', g1, g2⟩ := h.obj b' o h1 h2
      refine ⟨c', d', g1, ?_⟩
      have : c' ≠ c := by
        rintro rfl
        by_cases hfo : o.free = true
        · exact e (h.inj b' b o o₀ c' d' d h1 hb hfo hf g1 hp)
        · cases o with
          | cells ro vs => cases ro with
            | false => exact hfo rfl
            | true => have := h.ro b' vs c' d' h1 g1; omega
          | dead => exact h2 rfl
          | _ => exact hfo rfl
      rw [hne c' this]; exact g2
  · intro b' o c' d' h1 h2 h3
    rw [hg] at h1
    by_cases e : b' = b
    · subst e; rw [hp] at h3; cases h3; exact hN
    · rw [if_neg e] at h1; exact h.own b' o c' d' h1 h2 h3
  · intro b' vs c' d' h1 h3
    rw [hg] at h1
    by_cases e : b' = b
    · rw [if_pos e] at h1; cases h1; exact absurd rfl (hro vs)
    · rw [if_neg e] at h1; exact h.ro b' vs c' d' h1 h3
  · intro b₁ b₂ o₁ o₂ c' d₁ d₂ h1 h2 f1 f2 p1 p2
    rw [hg] at h1 h2
    by_cases x1 : b₁ = b <;> by_cases x2 : b₂ = b
    · rw [x1, x2]
    · subst x1; rw [if_neg x2] at h2; exact h.inj b₁ b₂ o₀ o₂ c' d₁ d₂ hb h2 hf f2 p1 p2
    · subst x2; rw [if_neg x1] at h1; exact h.inj b₁ b₂ o₁ o₀ c' d₁ d₂ h1 hb f1 hf p1 p2
    · rw [if_neg x1] at h1; rw [if_neg x2] at h2; exact h.inj b₁ b₂ o₁ o₂ c' d₁ d₂ h1 h2 f1 f2 p1 p2
  · intro k hk hi
    exact hne k (fun e => hi b o₀ d hb hf (e ▸ hp))
  · intro b' o c' d' h1 h2 h3 _
    rw [hg] at h1
    by_cases e : b' = b
    · subst e; exact ⟨b', o₀, d', hb, hf, h3⟩
    · rw [if_neg e] at h1; exact ⟨b', o, d', h1, h2, h3⟩
  · intro x hx; exact (mods_put σ b o' x).2 (.inr hx)
  · intro b' h1 h2 h3
    rw [hg, if_neg]
    rintro rfl
    exact h3 ((mods_put σ b' o' b').2 (.inl ⟨rfl, h1⟩))
  · intro b' h1; rw [hg]; split
    · rfl
    · exact h1
  · intro b' o c' d' h1 h2 h3 h4 h5
    refine hne c' ?_
    rintro rfl
    have e : b' ≠ b := by rintro rfl; exact h2 ((mods_put σ b' o' b').2 (.inl ⟨rfl, h1⟩))
    by_cases hfo : o.free = true
    · exact e (h.inj b' b o o₀ c' d' d h3 hb hfo hf h5 hp)
    · cases o with
      | cells ro vs => cases ro with
        | false => exact hfo rfl
        | true => have := h.ro b' vs c' d' h3 h5; omega
      | dead => exact h4 rfl
      | _ => exact hfo rfl

/-- A ROW THAT GROWS IN ITS PLACE: b is dead behind it, a new block stands at c, d'. -/
theorem Post.move (h : SR P N0 μ σ w) {b : Nat} {o₀ o' : Obj} {c d d' : Nat} {x : Go.Obj} (hb : σ.get b = some o₀) (hf : o₀.free = true) (hp : μ.pl b = some (c, d))
    (hfo : o'.free = true) (hsz : w'.heap.size = w.heap.size) (hc : w'.heap[c]? = some x) (hne : ∀ k, k ≠ c → w'.heap[k]? = w.heap[k]?)
    (e1 : w'.os = w.os) (e2 : w'.tape = w.tape) (e3 : w'.output = w.output)
    (ho : ∀ μ', Agree σ.n μ μ' → μ'.pl σ.n = some (c, d') → μ'.sz c = μ.sz c → ObjR P μ' o' (some x) c d') :
    Post P N0 μ σ w (μ.new σ.n c d' (μ.sz c)) ((σ.put b .dead).add o') w' := by
  have hN := h.own b o₀ c d hb hf hp
  have ha : Agree σ.n μ (μ.new σ.n c d' (μ.sz c)) := Agree.new h _ _ _ (.inr rfl)
  have hbn : b < σ.n := get_lt hb
  have hg : ∀ b', ((σ.put b .dead).add o').get b' = if b' = σ.n then some o' else if b' = b then some .dead else σ.get b' := fun b' => by
    rw [get_add, n_put, get_put, hb]; simp
  have hother : ∀ b' o c₁ d₁, b' ≠ b → σ.get b' = some o → o ≠ .dead → μ.pl b' = some (c₁, d₁) → c₁ ≠ c := by
    rintro b' o c₁ d₁ e h1 h2 g1 rfl
    by_cases hfo' : o.free = true
    · exact e (h.inj b' b o o₀ c₁ d₁ d h1 hb hfo' hf g1 hp)
    · cases o with
      | cells ro vs => cases ro with
        | false => exact hfo' rfl
        | true => have := h.ro b' vs c₁ d₁ h1 g1; omega
      | dead => exact h2 rfl
      | _ => exact hfo' rfl
  refine ⟨ha, ⟨?_, ?_, ?_, ?_, ?_, by rw [hsz]; exact h.size, ?_⟩, ?_, ?_, by rw [n_add, n_put]; omega, by omega, e1, e2, e3, rfl, ?_, ?_, ?_, ?_⟩
  · intro b' hb'
    rw [n_add, n_put] at hb'
    rw [Mp.new_pl_ne μ (by omega)]; exact h.upto b' (by omega)
  · intro b' o h1 h2
    rw [hg] at h1
    by_cases e : b' = σ.n
    · subst e; rw [if_pos rfl] at h1; cases h1
      exact ⟨_, _, Mp.new_pl _ _ _ _ _, by rw [hc]; exact ho _ ha (Mp.new_pl _ _ _ _ _) (Mp.new_sz _ _ _ _ _)⟩
    · rw [if_neg e] at h1
      by_cases e' : b' = b
      · rw [if_pos e'] at h1; cases h1; exact absurd rfl h2
      · rw [if_neg e'] at h1
        obtain ⟨c', d₁, g1, g2⟩ := h.obj b' o h1 h2
        refine ⟨c', d₁, by rw [Mp.new_pl_ne μ e]; exact g1, ?_⟩
        rw [hne c' (hother b' o c' d₁ e' h1 h2 g1)]
        exact g2.go h.upto ha g1
  · intro b' o c' d₁ h1 h2 h3
    rw [hg] at h1
    by_cases e : b' = σ.n
    · subst e; rw [Mp.new_pl] at h3; cases h3; exact hN
    · rw [if_neg e] at h1; rw [Mp.new_pl_ne μ e] at h3
      by_cases e' : b' = b
      · rw [if_pos e'] at h1; cases h1; cases h2
      · rw [if_neg e'] at h1; exact h.own b' o c' d₁ h1 h2 h3
  · intro b' vs c' d₁ h1 h3
    rw [hg] at h1
    by_cases e : b' = σ.n
    · rw [if_pos e] at h1; cases h1; cases hfo
    · rw [if_neg e] at h1; rw [Mp.new_pl_ne μ e] at h3
      by_cases e' : b' = b
      · rw [if_pos e'] at h1; cases h1
      · rw [if_neg e'] at h1; exact h.ro b' vs c' d₁ h1 h3
  · intro b₁ b₂ o₁ o₂ c' d₁ d₂ h1 h2 f1 f2 p1 p2
    rw [hg] at h1 h2
    by_cases x1 : b₁ = σ.n <;> by_cases x2 : b₂ = σ.n
    · rw [x1, x2]
    · subst x1; rw [Mp.new_pl] at p1; cases p1; rw [Mp.new_pl_ne μ x2] at p2; rw [if_neg x2] at h2
      by_cases e' : b₂ = b
      · rw [if_pos e'] at h2; cases h2; cases f2
      · rw [if_neg e'] at h2; exact absurd rfl (hother b₂ o₂ _ _ e' h2 (free_ne_dead f2) p2)
    · subst x2; rw [Mp.new_pl] at p2; cases p2; rw [Mp.new_pl_ne μ x1] at p1; rw [if_neg x1] at h1
      by_cases e' : b₁ = b
      · rw [if_pos e'] at h1; cases h1; cases f1
      · rw [if_neg e'] at h1; exact absurd rfl (hother b₁ o₁ _ _ e' h1 (free_ne_dead f1) p1)
    · rw [if_neg x1] at h1; rw [if_neg x2] at h2; rw [Mp.new_pl_ne μ x1] at p1; rw [Mp.new_pl_ne μ x2] at p2
      by_cases y1 : b₁ = b
      · rw [if_pos y1] at h1; cases h1; cases f1
      · by_cases y2 : b₂ = b
        · rw [if_pos y2] at h2; cases h2; cases f2
        · rw [if_neg y1] at h1; rw [if_neg y2] at h2
          exact h.inj b₁ b₂ o₁ o₂ c' d₁ d₂ h1 h2 f1 f2 p1 p2
  · intro b' c' d₁ h1
    rw [hsz]
    by_cases e : b' = σ.n
    · subst e; rw [Mp.new_pl] at h1; cases h1; exact h.plc b c d hp
    · rw [Mp.new_pl_ne μ e] at h1; exact h.plc b' c' d₁ h1
  · intro k hk hi
    exact hne k (fun e => hi b o₀ d hb hf (e ▸ hp))
  · intro b' o c' d₁ h1 h2 h3 _
    rw [hg] at h1
    by_cases e : b' = σ.n
    · subst e; rw [Mp.new_pl] at h3; cases h3; exact ⟨b, o₀, d, hb, hf, hp⟩
    · rw [if_neg e] at h1; rw [Mp.new_pl_ne μ e] at h3
      by_cases e' : b' = b
      · rw [if_pos e'] at h1; cases h1; cases h2
      · rw [if_neg e'] at h1; exact ⟨b', o, d₁, h1, h2, h3⟩
  · intro x hx; exact (mods_put σ b .dead x).2 (.inr hx)
  · intro b' h1 h2 h3
    rw [hg, if_neg (by omega), if_neg]
    rintro rfl
    exact h3 ((mods_put σ b' .dead b').2 (.inl ⟨rfl, h1⟩))
  · intro b' h1; rw [hg]; split
    · rfl
    · split
      · rfl
      · exact h1
  · intro b' o c' d₁ h1 h2 h3 h4 h5
    have e : b' ≠ b := by rintro rfl; exact h2 ((mods_put σ b' .dead b').2 (.inl ⟨rfl, h1⟩))
    exact hne c' (hother b' o c' d₁ e h3 h4 h5)

end Go.Proofs.Ytnmkbnejapdnnaa.Ev
