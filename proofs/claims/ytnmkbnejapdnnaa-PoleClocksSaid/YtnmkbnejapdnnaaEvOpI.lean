/-
  'delete'.
-/
import Derived.Test.YtnmkbnejapdnnaaEvOpH
set_option linter.unusedVariables false
set_option maxRecDepth 4000
namespace Go.Proofs.Ytnmkbnejapdnnaa.Ev
open Go

section
variable {P : Program} {N0 : Nat} {μ : Mp} {σ σ' : St} {w w' : World} {k : Cn} {K : KT} {d nt : Nat} {a : Act} {t : Tr} {o : Oper}

theorem s_del (hs : SR P N0 μ σ w) (ht : TR μ d t a.tmps) (hn : a.tmps.size = nt) {ls : List Lf} {m' k' : Opd} (hop : opOk P d nt o.op o.type (.del ls m' k') = true) (h : evalOp (.del ls m' k') K t σ k) : OpS P N0 μ σ w (execOp a.eval o) k := by
  have hk : gs (delv ls σ (opd t m') (opd t k')) k := h
  have : ∃ c ty rest kt el, o.op = .call c ∧ bltOk c .delete = true ∧ opdsOk d nt c.args.toList [m', k'] = true ∧ c.argTypes.toList = ty :: rest ∧ P.underlying ty = some (.map kt el) ∧ keyLs P kt ls = true := by
    replace hop : ok_del P d nt o.op ls m' k' = true := hop
    unfold ok_del at hop
    split at hop
    · rename_i e; simp only [Bool.and_eq_true] at hop
      obtain ⟨⟨h1, h2⟩, h3⟩ := hop
      split at h3
      · rename_i ht'
        split at h3
        · rename_i kt el hel; exact ⟨_, _, _, kt, _, e, h1, h2, ht', mapKE_spec hel, h3⟩
        · cases h3
      · cases h3
    · cases hop
  obtain ⟨c, ty, rest, kt, el, he, hb, hxs, hty, hu, hls⟩ := this
  obtain ⟨consts, hex⟩ := exec_blt he hb a.eval
  obtain ⟨um, uk, hargs, vm, vk⟩ := args2 ht hn hxs
  rw [hex, hargs]
  have hty0 : c.argTypes[0]? = some ty := by rw [← Array.getElem?_toList, hty]; rfl
  generalize opd t m' = mv at hk vm
  generalize opd t k' = key at hk vk
  obtain ⟨σ', hdel, hk⟩ := gs_elim hk
  unfold delv at hdel
  split at hdel
  · simp only [VR] at vm; subst vm
    split at hdel
    · rename_i hkey
      cases hdel
      have hck := keyOk_check (P := P) (w := w) hls vk hkey true
      exact OpS.pure (v := .bot) (cv := .tuple #[]) hs hk (by simp only [VR]) (by simp only [builtin]; exact run_val (by simp only [Builtin.delete_, hty0, List.getElem?_toArray, List.getElem?_cons_zero, List.getElem?_cons_succ, Sem.run_bind, run_underlying hu, Result.andThen_ok, hck, Sem.run_pure]))
    · cases hdel
  · rename_i b
    split at hdel
    · rename_i es clock hmo
      have hg := mapOf_spec hmo
      obtain ⟨c', arr, hp, h1, h2, _⟩ := hs.map hg
      simp only [VR] at vm
      obtain ⟨c'', hp', rfl⟩ := vm
      rw [hp] at hp'; cases hp'
      have hget := run_getObj (P := P) h1 (by simp)
      split at hdel
      · rename_i hkey
        have hck := keyOk_check (P := P) (w := w) hls vk hkey arr.isEmpty
        split at hdel
        · rename_i i vo hfnd
          cases hdel
          obtain ⟨r, ⟨u, rfl, hr⟩, hrun⟩ := findKey_run (P := P) (w := w) hls vk h2 hfnd
          have hset := run_setObj (P := P) (y := .map (arr.eraseIdxIfInBounds i) clock) h1 (by simp)
          refine ⟨.bot, _, μ, _, .tuple #[], hk, map_post hs hg rfl hp h1 (fun _ h => by cases h) (y := .map (arr.eraseIdxIfInBounds i) clock) ⟨rfl, _, rfl, ?_⟩, by simp only [VR], .value ?_⟩
          · have : (arr.eraseIdxIfInBounds i).toList = arr.toList.eraseIdx i := by
              unfold Array.eraseIdxIfInBounds
              split
              · simp
              · rw [List.eraseIdx_of_length_le (by simpa using Nat.le_of_not_lt ‹_›)]
            rw [this]; exact ERs_erase i h2
          · simp only [builtin]; exact run_val (by simp only [Builtin.delete_, hty0, List.getElem?_toArray, List.getElem?_cons_zero, List.getElem?_cons_succ, Sem.run_bind, run_underlying hu, Result.andThen_ok, hget, hck, hrun, hset, Sem.run_pure])
        · rename_i hfnd
          cases hdel
          obtain ⟨r, hr, hrun⟩ := findKey_run (P := P) (w := w) hls vk h2 hfnd
          have hr : r = none := hr
          subst hr
          have hset := run_setObj (P := P) (y := .map arr clock) h1 (by simp)
          have hlt := (Array.getElem?_eq_some_iff.1 h1).1
          have hself : w.heap.setIfInBounds c' (.map arr clock) = w.heap := by
            apply Array.ext_getElem?
            intro i
            by_cases e : c' = i
            · subst e; rw [h1, Array.getElem?_setIfInBounds_self_of_lt hlt]
            · rw [Array.getElem?_setIfInBounds_ne e]
          rw [hself] at hset
          exact OpS.pure (v := .bot) (cv := .tuple #[]) hs hk (by simp only [VR]) (by simp only [builtin]; exact run_val (by simp only [Builtin.delete_, hty0, List.getElem?_toArray, List.getElem?_cons_zero, List.getElem?_cons_succ, Sem.run_bind, run_underlying hu, Result.andThen_ok, hget, hck, hrun, hset, Sem.run_pure]))
        · cases hdel
      · cases hdel
    · cases hdel
  · cases hdel

end
end Go.Proofs.Ytnmkbnejapdnnaa.Ev
