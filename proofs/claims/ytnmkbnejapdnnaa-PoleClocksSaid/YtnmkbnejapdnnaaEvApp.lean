/-
  Appending one element to a slice of the call's own.
-/
import Derived.Test.YtnmkbnejapdnnaaEvSym
set_option linter.unusedVariables false
namespace Go.Proofs.Ytnmkbnejapdnnaa.Ev
open Go
section
variable {σ σ₀ τ : St} {k : Cn}

/-- A slice of the call's own, in a block from lo on, that is full. -/
def Own (lo : Nat) (σ : St) (m : Nat) (x : V) (xs : List (List V)) : Prop :=
  (x = .nilslice ∧ xs = []) ∨ ∃ b, x = .slice b 0 xs.length xs.length (some m) ∧ lo ≤ b ∧ σ.get b = some (.cells false xs.flatten)

theorem Own.sl {lo m : Nat} {x : V} {xs : List (List V)} (h : Own lo σ m x xs) (hm : ∀ z ∈ xs, z.length = m) : SlN σ m x xs := by
  rcases h with ⟨rfl, rfl⟩ | ⟨b, rfl, _, hb⟩
  · exact .inl ⟨rfl, rfl⟩
  · exact SlN.flat hm hb (Nat.le_refl _) (.inr rfl)

theorem Own.add {lo m : Nat} {x : V} {xs : List (List V)} (h : Own lo σ m x xs) (o : Obj) : Own lo (σ.add o).enter m x xs := by
  rcases h with h | ⟨b, h1, h2, h3⟩
  · exact .inl h
  · exact .inr ⟨b, h1, h2, get_add_some _ h3⟩
theorem flat_size {m : Nat} : ∀ {xs : List (List V)}, (∀ z ∈ xs, z.length = m) → xs.flatten.length = xs.length * m
  | [], _ => by simp
  | y :: xs, h => by
    rw [List.flatten_cons, List.length_append, h y (by simp), flat_size (fun z hz => h z (by simp [hz])), List.length_cons, Nat.succ_mul]; omega

theorem app_own {lo m bytes b : Nat} {x : V} {xs : List (List V)} {y : List V} (hx : Own lo σ m x xs) (hlo : lo ≤ σ.n) (hm : ∀ z ∈ xs, z.length = m) (hy : y.length = m) (ho : ones y = true) (hb : σ.get b = some (.cells false y)) (hl : (xs.length + 1) * bytes ≤ 1073741824)
    (hk : ∀ x' τ, Own lo τ m x' (xs ++ [y]) → σ.n ≤ τ.n → (∀ b' o, b' < lo → σ.get b' = some o → τ.get b' = some o) → (∀ c ∈ τ.mods, c ∈ σ.mods ∨ lo ≤ c) → k x' τ) : appP m bytes σ x (.slice b 0 1 1 none) k := by
  have hf : firstv m 1 σ (.slice b 0 1 1 none) = some y := by
    unfold firstv
    dsimp only
    rw [hb]
    show (if 0 + 1 * m ≤ y.length then some (seg y 0 (1 * m)) else none) = some y
    rw [if_pos (by omega)]
    unfold seg
    rw [Nat.one_mul, ← hy, List.drop_zero, List.take_length]
  unfold appP
  show (match firstv m 1 σ (.slice b 0 1 1 none) with
    | some cs => gvs (appv m bytes σ x 1 cs) k
    | none => False)
  rw [hf]
  show gvs (appv m bytes σ x 1 y) k
  rcases hx with ⟨rfl, rfl⟩ | ⟨c, rfl, hc, hcells⟩
  · have e : appv m bytes σ .nilslice 1 y = some (.slice σ.n 0 1 1 (some m), σ.add (.cells false y)) := by
      unfold appv
      dsimp only
      rw [if_neg (by omega), if_pos ⟨by simpa using hl, ho⟩]
    rw [e]
    refine hk _ _ (.inr ⟨σ.n, rfl, hlo, ?_⟩) (by rw [n_add]; omega) (fun b' o hb' h => get_add_some _ h) (fun c hc => .inl hc)
    rw [get_add_self]; simp
  · have hlen := flat_size hm
    have hseg : seg xs.flatten 0 (xs.length * m) = xs.flatten := by
      unfold seg; rw [List.drop_zero, ← hlen, List.take_length]
    have e : appv m bytes σ (.slice c 0 xs.length xs.length (some m)) 1 y = some (.slice σ.n 0 (xs.length + 1) (xs.length + 1) (some m), (σ.put c .dead).add (.cells false (xs.flatten ++ y))) := by
      unfold appv
      dsimp only
      rw [if_neg (by omega), if_pos ⟨hl, ho⟩, hcells]
      dsimp only
      rw [if_pos (by omega), if_pos ⟨rfl, rfl⟩, hseg]
    rw [e]
    refine hk _ _ (.inr ⟨σ.n, by simp, hlo, ?_⟩) (by rw [n_add, n_put]; omega) (fun b' o hb' h => ?_) (fun d hd => ?_)
    · rw [show σ.n = (σ.put c .dead).n from rfl, get_add_self]; simp
    · refine get_add_some _ ?_
      rw [get_put_ne _ (by omega)]; exact h
    · have : d ∈ (σ.put c .dead).mods := hd
      rw [mods_put] at this
      rcases this with ⟨rfl, _⟩ | h
      · exact .inr hc
      · exact .inl h

theorem nmerge_new {base : Nat} : ∀ {l m : List Nat}, (∀ c ∈ l, base ≤ c) → nmerge base l m = m
  | [], m, _ => rfl
  | c :: l, m, h => by
    show nmerge base l (Bool.rec (motive := fun _ => List Nat) m (nins c m) (Nat.blt c base)) = m
    rw [blt_false.2 (by have := h c (by simp); omega)]
    exact nmerge_new (fun d hd => h d (by simp [hd]))

/-- Behind an operation that is a step of its own. -/
theorem ext_back {lo : Nat} (he : Ext σ₀ σ) (hlo : σ₀.n ≤ lo) (hb : σ₀.base ≤ lo) (hn : σ.n ≤ τ.n) (hg : ∀ b o, b < lo → σ.get b = some o → τ.get b = some o) (hm : ∀ c ∈ τ.mods, lo ≤ c) : Ext σ₀ (σ.back τ) where
  n := Nat.le_trans he.n hn
  get := fun b o h => by
    have : (σ.back τ).get b = τ.get b := rfl
    rw [this]
    exact hg b o (Nat.lt_of_lt_of_le (get_lt h) hlo) (he.get b o h)
  base := he.base
  mods := by
    show nmerge σ.base τ.mods σ.mods = σ₀.mods
    rw [nmerge_new (fun c hc => by rw [he.base]; exact Nat.le_trans hb (hm c hc))]; exact he.mods

end
end Go.Proofs.Ytnmkbnejapdnnaa.Ev
