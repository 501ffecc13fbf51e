/-
  A range over a map; a string's bytes; 'append' of zero values.
-/
import Derived.Test.YtnmkbnejapdnnaaEvOpI
set_option linter.unusedVariables false
set_option maxRecDepth 4000
namespace Go.Proofs.Ytnmkbnejapdnnaa.Ev
open Go

section
variable {P : Program} {N0 : Nat} {μ : Mp} {σ σ' : St} {w w' : World} {k : Cn} {K : KT} {d nt : Nat} {a : Act} {t : Tr} {o : Oper}

theorem s_mrange (hs : SR P N0 μ σ w) (ht : TR μ d t a.tmps) (hn : a.tmps.size = nt) {x' : Opd} (hop : opOk P d nt o.op o.type (.mrange x') = true) (h : evalOp (.mrange x') K t σ k) : OpS P N0 μ σ w (execOp a.eval o) k := by
  have hk : gvs (rangev σ (opd t x')) k := h
  have : ∃ ty x kt el, o.op = .range ty x ∧ P.underlying ty = some (.map kt el) ∧ opdOk d nt x x' = true := by
    replace hop : ok_mrange P d nt o.op x' = true := hop
    unfold ok_mrange at hop
    split at hop
    · rename_i e
      simp only [Bool.and_eq_true] at hop
      obtain ⟨x, hx⟩ := Option.isSome_iff_exists.1 hop.1
      exact ⟨_, _, _, _, e, mapKE_spec hx, hop.2⟩
    · cases hop
  obtain ⟨ty, x, kt, el, he, hu, hx⟩ := this
  have vx := opdOk_VR ht hn hx
  generalize opd t x' = m at hk vx
  obtain ⟨v, σ', hr, hk⟩ := gvs_elim hk
  unfold rangev at hr
  split at hr
  · rename_i b
    split at hr
    · rename_i es clock hmo
      cases hr
      have hg := mapOf_spec hmo
      obtain ⟨c, arr, hp, h1, h2, _⟩ := hs.map hg
      simp only [VR] at vx
      obtain ⟨c', hp', vx⟩ := vx
      rw [hp] at hp'; cases hp'
      have hget := run_getObj (P := P) h1 (by simp)
      refine ⟨_, _, _, w.alloc (.mapIter (some c) clock #[] clock), .pointer (some ⟨w.heap.size, 0, none⟩), hk, Post.add hs _ (.mapIter (some c) clock #[] clock) 0 rfl rfl rfl rfl rfl (fun μ' ha hp' hz => ⟨rfl, c, (ha.pl b (get_lt hg)).trans hp, rfl⟩), ?_, .value ?_⟩
      · simp only [VR]; exact ⟨_, 0, Mp.new_pl _ _ _ _ _, rfl⟩
      · rw [show execOp a.eval o = (do Pure.pure (.value (← Instr.range ty (a.eval x)))) by simp [execOp, he]]
        exact run_val (by simp only [Instr.range, Sem.run_bind, run_underlying hu, Result.andThen_ok, vx, hget, Sem.run_pure, run_newObj]; rfl)
    · cases hr
  · cases hr

theorem SR.iter (hs : SR P N0 μ σ w) {r m since : Nat} {seen : List Nat} (h : σ.get r = some (.iter m since seen)) : ∃ c cm, μ.pl r = some (c, 0) ∧ μ.pl m = some (cm, 0) ∧ w.heap[c]? = some (.mapIter (some cm) since ⟨seen⟩ since) := by
  obtain ⟨c, d, hp, hd, cm, h1, h2⟩ := hs.obj r _ h (by simp)
  subst hd
  exact ⟨c, cm, hp, h1, h2⟩

theorem ERs_filter {f : V × V × Nat → Bool} {g : MapEntry → Bool} (hfg : ∀ e m, e.2.2 = m.born → f e = g m) : ∀ {es : List (V × V × Nat)} {l : List MapEntry}, ERs μ es l → ERs μ (es.filter f) (l.filter g)
  | [], l, h => by simp only [ERs] at h; subst h; exact rfl
  | e :: es, l, h => by
    obtain ⟨x, xs, rfl, h1, h2, h3, h⟩ := h
    rw [List.filter_cons, List.filter_cons, hfg e x h3]
    split
    · exact ⟨x, xs.filter g, rfl, h1, h2, h3, ERs_filter hfg h⟩
    · exact ERs_filter hfg h

theorem ERs_get' : ∀ {es : List (V × V × Nat)} {l : List MapEntry}, ERs μ es l → ∀ (i : Nat) m, l[i]? = some m → ∃ e, es[i]? = some e ∧ VR μ e.1 m.key ∧ VR μ e.2.1 m.val ∧ e.2.2 = m.born
  | [], l, h, i, e, he => by simp only [ERs] at h; subst h; simp at he
  | e' :: es, l, h, i, e, he => by
    obtain ⟨m, ms, rfl, h1, h2, h3, h⟩ := h
    cases i with
    | zero => simp at he; subst he; exact ⟨e', rfl, h1, h2, h3⟩
    | succ i => simp at he; simpa using ERs_get' h i e he

theorem ERs_find {f : V × V × Nat → Bool} {g : MapEntry → Bool} (hfg : ∀ e m, e.2.2 = m.born → f e = g m) : ∀ {es : List (V × V × Nat)} {l : List MapEntry} {e : V × V × Nat}, ERs μ es l → es.find? f = some e → ∃ m, l.find? g = some m ∧ VR μ e.1 m.key ∧ VR μ e.2.1 m.val
  | [], l, e, h, he => by simp at he
  | e' :: es, l, e, h, he => by
    obtain ⟨x, xs, rfl, h1, h2, h3, h⟩ := h
    rw [List.find?_cons] at he
    rw [List.find?_cons, ← hfg e' x h3]
    split at he
    · rename_i hf; cases he; exact ⟨x, rfl, h1, h2⟩
    · rename_i hf; obtain ⟨m, g1, g2⟩ := ERs_find hfg h he; exact ⟨m, g1, g2⟩

theorem s_mcur (hs : SR P N0 μ σ w) (ht : TR μ d t a.tmps) (hn : a.tmps.size = nt) {x' : Opd} (hop : opOk P d nt o.op o.type (.mcur x') = true) (h : evalOp (.mcur x') K t σ k) : OpS P N0 μ σ w (execOp a.eval o) k := by
  have hk : mcurv (opd t x') k σ := h
  have : ∃ x, o.op = .entry x ∧ opdOk d nt x x' = true := by
    replace hop : ok_mcur d nt o.op x' = true := hop
    unfold ok_mcur at hop
    split at hop
    · rename_i e; exact ⟨_, e, hop⟩
    · cases hop
  obtain ⟨x, he, hx⟩ := this
  have vx := opdOk_VR ht hn hx
  generalize opd t x' = it at hk vx
  unfold mcurv at hk
  split at hk
  · rename_i r
    split at hk
    · rename_i m since seen hg
      split at hk
      · rename_i es clock stamp hmo hst
        split at hk
        · rename_i hcl
          split at hk
          · rename_i e hf
            subst hcl
            obtain ⟨c, cm, hp, hpm, h1⟩ := hs.iter hg
            obtain ⟨c2, arr, hp2, h2, h3, _⟩ := hs.map (mapOf_spec hmo)
            rw [hpm] at hp2; cases hp2
            simp only [VR] at vx
            obtain ⟨c', d', hp', vx⟩ := vx
            rw [hp] at hp'; cases hp'
            have hget := run_getObj (P := P) h1 (by simp)
            have hget2 := run_getObj (P := P) h2 (by simp)
            have hback : (⟨seen⟩ : Array Nat).back? = some stamp := by rw [← hst]; simp [Array.back?, List.getLast?_eq_getElem?]
            obtain ⟨me, g1, g2, g3⟩ := ERs_find (g := fun m => m.born == stamp) (fun e m h => by simp [h]) h3 hf
            have hfa : arr.find? (fun m => m.born == stamp) = some me := by rw [← Array.find?_toList]; exact g1
            rw [show execOp a.eval o = (do Pure.pure (.value (← Instr.entry (a.eval x)))) by simp [execOp, he]]
            refine OpS.val hs (cv := .tuple #[me.key, me.val]) hk ?_ ?_
            · simp only [VR]
              exact ⟨[me.key, me.val], VRs_cons.2 ⟨_, _, rfl, g2, VRs_cons.2 ⟨_, _, rfl, g3, VRs_nil.2 rfl⟩⟩, rfl⟩
            · simp only [Instr.entry, vx, Nat.add_zero, Sem.run_bind, hget, Result.andThen_ok, hback, hget2, bne_self_eq_false, Bool.false_eq_true, if_false, hfa, Sem.run_pure]
          · cases hk
        · cases hk
      · cases hk
    · cases hk
  · cases hk

end
end Go.Proofs.Ytnmkbnejapdnnaa.Ev
