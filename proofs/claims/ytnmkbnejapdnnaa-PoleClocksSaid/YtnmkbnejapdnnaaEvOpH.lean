/-
  Maps turned and ranged over; a string's bytes; 'append' of zero values.
-/
import Derived.Test.YtnmkbnejapdnnaaEvOpG
set_option linter.unusedVariables false
set_option maxRecDepth 4000
namespace Go.Proofs.Ytnmkbnejapdnnaa.Ev
open Go

section
variable {P : Program} {N0 : Nat} {μ : Mp} {σ σ' : St} {w w' : World} {k : Cn} {K : KT} {d nt : Nat} {a : Act} {t : Tr} {o : Oper}

theorem findk_bounds {ls : List Lf} {kx : V} : ∀ (es : List (V × V × Nat)) (j i : Nat) (v : V), findk ls kx es j = some (some (i, v)) → ∃ e, j ≤ i ∧ es[i - j]? = some e ∧ eqk ls kx e.1 = some true ∧ v = e.2.1
  | [], j, i, v, h => by simp [findk] at h
  | e :: es, j, i, v, h => by
    simp only [findk] at h
    split at h
    · rename_i hq; cases h; exact ⟨e, Nat.le_refl _, by simp, hq, rfl⟩
    · obtain ⟨e', g1, g2, g3, g4⟩ := findk_bounds es (j + 1) i v h
      refine ⟨e', by omega, ?_, g3, g4⟩
      rw [show i - j = (i - (j + 1)) + 1 by omega, List.getElem?_cons_succ]; exact g2
    · cases h

theorem s_mput (hs : SR P N0 μ σ w) (ht : TR μ d t a.tmps) (hn : a.tmps.size = nt) {ls : List Lf} {m' k' v' : Opd} (hop : opOk P d nt o.op o.type (.mput ls m' k' v') = true) (h : evalOp (.mput ls m' k' v') K t σ k) : OpS P N0 μ σ w (execOp a.eval o) k := by
  have hk : gs (mputv ls σ (opd t m') (opd t k') (opd t v')) k := h
  have : ∃ ty m kx v kt el, (o.op = .mapUpdate ty m kx v ∨ o.op = .insert ty m kx v) ∧ P.underlying ty = some (.map kt el) ∧ keyLs P kt ls = true ∧ opdOk d nt m m' = true ∧ opdOk d nt kx k' = true ∧ opdOk d nt v v' = true := by
    replace hop : ok_mput P d nt o.op ls m' k' v' = true := hop
    unfold ok_mput at hop
    split at hop
    · rename_i e
      split at hop
      · rename_i kt el hel
        simp only [Bool.and_eq_true] at hop
        exact ⟨_, _, _, _, kt, _, .inl e, mapKE_spec hel, hop.1.1.1, hop.1.1.2, hop.1.2, hop.2⟩
      · cases hop
    · rename_i e
      split at hop
      · rename_i kt el hel
        simp only [Bool.and_eq_true] at hop
        exact ⟨_, _, _, _, kt, _, .inr e, mapKE_spec hel, hop.1.1.1, hop.1.1.2, hop.1.2, hop.2⟩
      · cases hop
    · cases hop
  obtain ⟨ty, m, kx, v, kt, el, he, hu, hls, hm, hkx, hv⟩ := this
  have vm := opdOk_VR ht hn hm
  have vk := opdOk_VR ht hn hkx
  have vv := opdOk_VR ht hn hv
  have hex : execOp a.eval o = (do Instr.mapUpdate ty (a.eval m) (a.eval kx) (a.eval v); Pure.pure .skip) := by rcases he with he | he <;> simp [execOp, he]
  rw [hex]
  generalize opd t m' = mv at hk vm
  generalize opd t k' = key at hk vk
  generalize opd t v' = val at hk vv
  obtain ⟨σ', hput, hk⟩ := gs_elim hk
  unfold mputv at hput
  split at hput
  · rename_i b
    split at hput
    · rename_i es clock hmo
      have hg := mapOf_spec hmo
      obtain ⟨c, arr, hp, h1, h2, _⟩ := hs.map hg
      simp only [VR] at vm
      obtain ⟨c', hp', vm⟩ := vm
      rw [hp] at hp'; cases hp'
      have hget := run_getObj (P := P) h1 (by simp)
      split at hput
      · rename_i hkey
        have hck := keyOk_check (P := P) (w := w) hls vk hkey false
        split at hput
        · rename_i i vo hfnd
          cases hput
          obtain ⟨r, ⟨u, rfl, hr⟩, hrun⟩ := findKey_run (P := P) (w := w) hls vk h2 hfnd
          obtain ⟨e, _, he1, he2, _⟩ := findk_bounds es 0 i vo hfnd
          obtain ⟨me, g1, g2, g3, g4⟩ := ERs_get h2 i e (by simpa using he1)
          have hbits := eqk_bits vk g2 he2
          have hsame : (Instr.keyThatStays (((arr[i]?).map (·.key)).getD (a.eval kx)) (a.eval kx)).run P w = .ok (a.eval kx) w := by
            have : arr[i]? = some me := by simpa using g1
            simp [Instr.keyThatStays, this, hbits]
          have hset := run_setObj (P := P) (y := .map (arr.modify i fun e => { e with key := a.eval kx, val := a.eval v }) clock) h1 (by simp)
          refine ⟨.bot, _, μ, _, undef, hk, map_post hs hg rfl hp h1 (fun _ h => by cases h) (y := .map (arr.modify i fun e => { e with key := a.eval kx, val := a.eval v }) clock) ⟨rfl, _, rfl, ?_⟩, by simp only [VR], .skip (run_unit ?_)⟩
          · rw [Array.toList_modify]
            exact ERs_modify (f := fun e => (key, val, e.2.2)) (g := fun e => { e with key := a.eval kx, val := a.eval v }) (fun e m _ _ h3 => ⟨vk, vv, h3⟩) i h2
          · simp only [Instr.mapUpdate, Sem.run_bind, run_underlying hu, Result.andThen_ok, vm, hget, hck, hrun, hsame, hset]
        · rename_i hfnd
          cases hput
          obtain ⟨r, hr, hrun⟩ := findKey_run (P := P) (w := w) hls vk h2 hfnd
          have hr : r = none := hr
          subst hr
          have hset := run_setObj (P := P) (y := .map (arr.push { key := a.eval kx, val := a.eval v, born := clock }) (clock + 1)) h1 (by simp)
          refine ⟨.bot, _, μ, _, undef, hk, map_post hs hg rfl hp h1 (fun _ h => by cases h) (y := .map (arr.push { key := a.eval kx, val := a.eval v, born := clock }) (clock + 1)) ⟨rfl, _, rfl, ?_⟩, by simp only [VR], .skip (run_unit ?_)⟩
          · rw [Array.toList_push]
            exact ERs_append h2 ⟨_, [], rfl, vk, vv, rfl, rfl⟩
          · simp only [Instr.mapUpdate, Sem.run_bind, run_underlying hu, Result.andThen_ok, vm, hget, hck, hrun, hset]
        · cases hput
      · cases hput
    · cases hput
  · cases hput


end
end Go.Proofs.Ytnmkbnejapdnnaa.Ev
