/-
  From a call's abstract run to the machine's: arguments opened into the abstract heap; what a law's call comes to.
-/
import Derived.Test.YtnmkbnejapdnnaaEvSym
import Derived.WalkKit
import Derived.ProofKit
import Derived.OpenShut
import Derived.ShutString
import Derived.ChangeOld
import Derived.Below
import Derived.SizedLaws
set_option linter.unusedVariables false
namespace Go.Proofs.Ytnmkbnejapdnnaa.Ev
open Go Go.ChangeShapes Go.WideShapes Go.RowKit

section
variable {P : Program} {W : World} {μ : Mp} {σ : St}

/-- An abstract heap of what is read alone. -/
structure SRo (P : Program) (W : World) (μ : Mp) (σ : St) : Prop where
  sr : SR P W.heap.size μ σ W
  sz : ∀ c arr t f, W.heap[c]? = some (.cells arr t f) → μ.sz c = arr.size

def szOf (W : World) (c : Nat) : Nat := match W.heap[c]? with
  | some (.cells arr _ _) => arr.size
  | _ => 0
theorem SRo.empty (P : Program) (W : World) : SRo P W ⟨fun _ => none, szOf W⟩ .empty where
  sr := {
    upto := fun _ _ => rfl
    obj := fun b o h => by cases h
    own := fun b o c d h => by cases h
    ro := fun b vs c d h => by cases h
    inj := fun b₁ b₂ o₁ o₂ c d₁ d₂ h => by cases h
    size := Nat.le_refl _
    plc := fun b c d h => by cases h }
  sz := fun c arr t f h => by show szOf W c = arr.size; unfold szOf; rw [h]

theorem SRo.grow (h : SRo P W μ σ) {c d : Nat} {arr : Array Value} {t : TypeId} {fz : Nat × Nat} {us : List Value} {vs : List V} (hc : W.heap[c]? = some (.cells arr t fz)) (hv : VRs μ vs us) (hu : ∀ i u, us[i]? = some u → arr[d + i]? = some u) :
    ∃ μ', SRo P W μ' (σ.add (.cells true vs)) ∧ μ.le μ' ∧ μ'.pl σ.n = some (c, d) := by
  have hlt : c < W.heap.size := (Array.getElem?_eq_some_iff.1 hc).1
  have hle : μ.le ⟨fun b => if b = σ.n then some (c, d) else μ.pl b, μ.sz⟩ := ⟨fun b x e => by
    have : b < σ.n := h.sr.upto.lt e
    show (if b = σ.n then some (c, d) else μ.pl b) = some x
    rw [if_neg (by omega)]; exact e, fun _ _ _ _ => rfl⟩
  refine ⟨⟨fun b => if b = σ.n then some (c, d) else μ.pl b, μ.sz⟩, ⟨⟨?_, ?_, ?_, ?_, ?_, h.sr.size, ?_⟩, h.sz⟩, hle, ?_⟩
  · intro b hb
    rw [n_add] at hb
    show (if b = σ.n then some (c, d) else μ.pl b) = none
    rw [if_neg (by omega)]; exact h.sr.upto b (by omega)
  · intro b o hb hd
    rw [get_add] at hb
    by_cases e : b = σ.n
    · rw [if_pos e] at hb; cases hb
      refine ⟨c, d, by show (if b = σ.n then some (c, d) else μ.pl b) = _; rw [if_pos e], ?_⟩
      obtain ⟨lo, hi⟩ := fz
      exact ⟨arr, t, lo, hi, us, hc, (h.sz _ _ _ _ hc).symm, hv.mono hle, hu, fun e => by cases e⟩
    · rw [if_neg e] at hb
      obtain ⟨c', d', h1, h2⟩ := h.sr.obj b o hb hd
      exact ⟨c', d', hle.pl _ _ h1, h2.mono hle h1⟩
  · intro b o c' d' hb hf hp
    have hp : (if b = σ.n then some (c, d) else μ.pl b) = some (c', d') := hp
    rw [get_add] at hb
    by_cases e : b = σ.n
    · rw [if_pos e] at hb; cases hb; cases hf
    · rw [if_neg e] at hb hp; exact h.sr.own b o c' d' hb hf hp
  · intro b vs' c' d' hb hp
    have hp : (if b = σ.n then some (c, d) else μ.pl b) = some (c', d') := hp
    rw [get_add] at hb
    by_cases e : b = σ.n
    · rw [if_pos e] at hp; cases hp; exact hlt
    · rw [if_neg e] at hb hp; exact h.sr.ro b vs' c' d' hb hp
  · intro b₁ b₂ o₁ o₂ c' d₁ d₂ h1 h2 f1 f2 p1 p2
    have p1 : (if b₁ = σ.n then some (c, d) else μ.pl b₁) = some (c', d₁) := p1
    have p2 : (if b₂ = σ.n then some (c, d) else μ.pl b₂) = some (c', d₂) := p2
    rw [get_add] at h1 h2
    by_cases e1 : b₁ = σ.n
    · rw [if_pos e1] at h1; cases h1; cases f1
    · by_cases e2 : b₂ = σ.n
      · rw [if_pos e2] at h2; cases h2; cases f2
      · rw [if_neg e1] at h1 p1; rw [if_neg e2] at h2 p2
        exact h.sr.inj _ _ _ _ _ _ _ h1 h2 f1 f2 p1 p2
  · intro b c' d' hp
    have hp : (if b = σ.n then some (c, d) else μ.pl b) = some (c', d') := hp
    by_cases e : b = σ.n
    · rw [if_pos e] at hp; cases hp; exact hlt
    · rw [if_neg e] at hp; exact h.sr.plc b c' d' hp
  · show (if σ.n = σ.n then some (c, d) else μ.pl σ.n) = _
    rw [if_pos rfl]

/-! ### rows -/
theorem some_list {α : Type} {Q : Nat → α → Prop} : ∀ n, (∀ i, i < n → ∃ x, Q i x) → ∃ xs : List α, xs.length = n ∧ ∀ i x, xs[i]? = some x → Q i x
  | 0, _ => ⟨[], rfl, fun i x h => by simp at h⟩
  | n + 1, h => by
    obtain ⟨xs, h1, h2⟩ := some_list n (fun i hi => h i (by omega))
    obtain ⟨x, hx⟩ := h n (by omega)
    refine ⟨xs ++ [x], by simp [h1], fun i y hy => ?_⟩
    rw [List.getElem?_append] at hy
    split at hy
    · exact h2 i y hy
    · rename_i hi
      have : i = n := by
        have := (List.getElem?_eq_some_iff.1 hy).1
        simp at this; omega
      subst this
      rw [h1, Nat.sub_self] at hy; simp at hy; subst hy; exact hx
theorem flat_ix {α : Type} {m : Nat} : ∀ {xs : List (List α)}, (∀ x ∈ xs, x.length = m) → ∀ {j : Nat} {u : α}, xs.flatten[j]? = some u → ∃ i x r, xs[i]? = some x ∧ x[r]? = some u ∧ j = i * m + r ∧ r < m
  | [], _, j, u, h => by simp at h
  | y :: xs, hl, j, u, h => by
    have hy := hl y (by simp)
    rw [List.flatten_cons, List.getElem?_append] at h
    split at h
    · rename_i hj
      exact ⟨0, y, j, rfl, h, by omega, by omega⟩
    · rename_i hj
      obtain ⟨i, x, r, h1, h2, h3, h4⟩ := flat_ix (fun z hz => hl z (by simp [hz])) h
      exact ⟨i + 1, x, r, h1, h2, by rw [Nat.succ_mul]; omega, h4⟩
theorem VRs_flat {α : Type} {μ : Mp} {f : α → List V} {g : α → List Value} (h : ∀ x, VRs μ (f x) (g x)) : ∀ xs : List α, VRs μ (xs.map f).flatten (xs.map g).flatten
  | [] => VRs_nil.2 rfl
  | x :: xs => by simp only [List.map_cons, List.flatten_cons]; exact VRs_append (h x) (VRs_flat h xs)

/-- How an element of m cells reads. -/
structure ElemT (P : Program) (W : World) (e : TypeId) (m : Nat) (α : Type) (f : α → List V) (g : α → List Value) : Prop where
  cells : P.cellsOf e = m
  pos : 0 < m
  opens : ∀ (H : Type) (enc : TypeId × Value → H) n cs y, DataW.trod enc P W 0 (fun _ => true) true n e cs = some y → ∃ x, cs = g x
  vr : ∀ μ x, VRs μ (f x) (g x)
  len : ∀ x, (f x).length = m

theorem cell_add {a : Addr} {arr : Array Value} {t : TypeId} {fz : Nat × Nat} (hs : a.spot = none) (hc : W.heap[a.block]? = some (.cells arr t fz)) (i j : Nat) : W.cell? ((a.add i).add j) = arr[a.off + i + j]? := by
  obtain ⟨b, o, s⟩ := a
  subst hs
  unfold World.cell? Addr.add
  by_cases h1 : i = 0 <;> by_cases h2 : j = 0 <;> simp_all

theorem open_slice {H : Type} {enc : TypeId × Value → H} {base : Nat} {t e : TypeId} {m : Nat} {α : Type} {f : α → List V} {g : α → List Value} (ht : P.underlying t = some (.slice e)) (E : ElemT P W e m α f g) {v : Value} {d : DataW H} {ps : List MemPlace}
    (hval : Value.okWide P W .any base t v) (h : DataW.Trod enc P W 0 (fun _ => true) true t v d ps) (hs : SRo P W μ σ) :
    ∃ (μ' : Mp) (σ' : St) (v' : V) (xs : List α), SRo P W μ' σ' ∧ μ.le μ' ∧ Ge σ σ' ∧ VR μ' v' v ∧ SlN σ' m v' (xs.map f) := by
  obtain ⟨a0, len0, cap0, rfl⟩ := okWide_slice ht hval
  obtain ⟨fuel, hf⟩ := h
  rcases DataW.trod_slice ht hf with ⟨h0, _⟩ | ⟨a, len, cap, elems, rest, n, _, hcs, _, _, hl, hm, hlen, hel, hsp, _⟩
  · simp [Value.cells] at h0
    obtain ⟨rfl, rfl, rfl⟩ := h0
    exact ⟨μ, σ, .nilslice, [], hs, Mp.le.refl _, Ge.refl _, by simp [VR], .inl ⟨rfl, rfl⟩⟩
  · simp [Value.cells] at hcs
    obtain ⟨rfl, rfl, rfl⟩ := hcs
    obtain ⟨hrl, hr⟩ := hsp rfl
    rw [E.cells] at hel hr
    have hhas : W.has P .any base a e cap0 := by
      simp only [Value.okWide, ht, Cell.okWide, Cell.ok] at hval
      exact hval.2.2
    obtain ⟨_, hspot, row, cells, hshape, _⟩ := hhas
    obtain ⟨arr, fz, hc⟩ : ∃ arr fz, W.heap[a.block]? = some (.cells arr row fz) := by
      unfold World.shape? at hshape
      split at hshape
      · rename_i arr el fz hh
        simp at hshape
        obtain ⟨rfl, _⟩ := hshape
        exact ⟨arr, fz, hh⟩
      · cases hshape
    have one : ∀ i, i < len0 → ∃ x, W.cells? 0 (a.add (i * m)) m = some (g x) := by
      intro i hi
      have h1 := hel i hi
      rw [List.getElem?_eq_getElem (by omega), Option.bind_eq_some_iff] at h1
      obtain ⟨cs, h2, h3⟩ := h1
      obtain ⟨x, rfl⟩ := E.opens _ _ _ _ _ h3
      exact ⟨x, h2⟩
    obtain ⟨xs, hxl, hx⟩ := some_list len0 one
    have hgl : ∀ x, (g x).length = m := fun x => by rw [VRs_length (E.vr μ x)]; exact E.len x
    have hu : ∀ i u, (xs.map g).flatten[i]? = some u → arr[a.off + i]? = some u := by
      intro i u h1
      obtain ⟨j, y, r, h2, h3, rfl, h4⟩ := flat_ix (m := m) (by intro z hz; obtain ⟨x, _, rfl⟩ := List.mem_map.1 hz; exact hgl x) h1
      rw [List.getElem?_map, Option.map_eq_some_iff] at h2
      obtain ⟨x, h5, rfl⟩ := h2
      have h6 := (World.cells?_some (hx j x h5)).2.2 r h4
      rw [cell_add hspot hc] at h6
      rw [← Nat.add_assoc, h6]; exact h3
    obtain ⟨μ', h1, h2, h3⟩ := hs.grow (d := a.off) hc (VRs_flat (E.vr μ) xs) hu
    have hsl : ∀ es, (es = none ∨ es = some m) → ∀ cp, len0 ≤ cp → SlN (σ.add (.cells true (xs.map f).flatten)) m (.slice σ.n 0 len0 cp es) (xs.map f) := by
      intro es hes cp hcp
      have := SlN.flat (σ := σ.add (.cells true (xs.map f).flatten)) (m := m) (b := σ.n) (cap := cp) (es := es) (ro := true) (xs := xs.map f) (by intro z hz; obtain ⟨x, _, rfl⟩ := List.mem_map.1 hz; exact E.len x) (get_add_self _ _) (by simp; omega) hes
      rw [List.length_map, hxl] at this; exact this
    have ha : a = ⟨a.block, a.off, none⟩ := by obtain ⟨b, o, s⟩ := a; subst hspot; rfl
    by_cases hcap : cap0 = 0
    · refine ⟨μ', _, .slice σ.n 0 len0 cap0 none, xs, h1, h2, (Ge.refl σ).add _, ?_, hsl _ (.inl rfl) _ hl⟩
      simp only [VR]
      exact ⟨a.block, a.off, a.off, cap0, h3, by rw [← ha], hl, .inl hcap, fun _ => rfl, fun e he => by cases he⟩
    · refine ⟨μ', _, .slice σ.n 0 len0 len0 (some m), xs, h1, h2, (Ge.refl σ).add _, ?_, hsl _ (.inr rfl) _ (Nat.le_refl _)⟩
      have hlast : ∃ cs, W.cells? 0 (a.add ((cap0 - 1) * m)) m = some cs := by
        by_cases hi : cap0 - 1 < len0
        · obtain ⟨x, hx⟩ := one _ hi; exact ⟨_, hx⟩
        · have h5 := hr (cap0 - 1 - len0) (by omega)
          rw [List.getElem?_eq_getElem (by omega), Option.bind_eq_some_iff] at h5
          obtain ⟨cs, h6, _⟩ := h5
          rw [show len0 + (cap0 - 1 - len0) = cap0 - 1 by omega] at h6
          exact ⟨cs, h6⟩
      obtain ⟨cs, hcs⟩ := hlast
      obtain ⟨_, g1, g2⟩ := World.cells?_some hcs
      have hpos := E.pos
      have g3 := g2 (m - 1) (by omega)
      rw [cell_add hspot hc, List.getElem?_eq_getElem (by omega)] at g3
      have g4 := (Array.getElem?_eq_some_iff.1 g3).1
      have g5 : cap0 * m = (cap0 - 1) * m + m := by
        obtain ⟨c', rfl⟩ : ∃ c', cap0 = c' + 1 := ⟨cap0 - 1, by omega⟩
        rw [Nat.add_sub_cancel, Nat.succ_mul]
      have hsz : a.off + cap0 * m ≤ μ'.sz a.block := by rw [h1.sz _ _ _ _ hc]; omega
      simp only [VR]
      refine ⟨a.block, a.off, a.off, cap0, h3, by rw [← ha], Nat.le_refl _, .inr (by omega), ?_⟩
      simp
      exact ⟨hl, hsz⟩

/-- A closed run that the kernel has gone through, told as an equation: else Lean itself would run it anew. -/
theorem Kt.closed_eq {E : Env} {N0 : Nat} (hE : ∀ N0, EnvOk P N0 E) {n f : Nat} {v : V} (hv : v.plain = true) (h : callN E n (.fn f) [] .empty (fun v' _ => v' = v) = (v = v)) {k : Cn} (hk : k v σ) : Kt P N0 (.fn f) [] σ k :=
  Kt.closed hE n hv (Eq.mpr h rfl) hk

/-! ### a law's call -/
theorem law_calls {f : Nat} {args : List V} {us : List Value} (h : Kt P W.heap.size (.fn f) args σ (fun v _ => v = .bool true)) (hs : SRo P W μ σ) (hv : VRs μ args us) :
    Calls P f ⟨us⟩ W fun e W' => e = .returned (.bool true) ∧ Below W.heap.size W W' := by
  obtain ⟨v, σ', μ', w', cv, rfl, hp, hr, hg⟩ := h μ W us hs.sr hv (fun l e => by cases e)
  have hr : cv = .bool true := by simpa [VR] using hr
  subst hr
  cases hg with
  | fn hc hb =>
    intro cs
    obtain ⟨fr, h1, h2, h3⟩ := hc cs
    exact ⟨.returned (.bool true), w', fr, ⟨rfl, hp.below hs.sr⟩, h1, h2, h3⟩

end
end Go.Proofs.Ytnmkbnejapdnnaa.Ev
