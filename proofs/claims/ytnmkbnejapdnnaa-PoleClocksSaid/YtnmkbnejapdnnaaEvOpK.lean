/-
  The step of a range over a map; a string's bytes; 'append' of zero values.
-/
import Derived.Test.YtnmkbnejapdnnaaEvOpJ
set_option linter.unusedVariables false
set_option maxRecDepth 4000
namespace Go.Proofs.Ytnmkbnejapdnnaa.Ev
open Go

section
variable {P : Program} {N0 : Nat} {μ : Mp} {σ σ' : St} {w w' : World} {k : Cn} {K : KT} {d nt : Nat} {a : Act} {t : Tr} {o : Oper}

theorem choose_next (P : Program) (w : World) (n : Nat) (h : 0 < n) : ∃ i w', i < n ∧ (choose (.mapNext n)).run P w = .ok i w' ∧ w'.heap = w.heap ∧ w'.os = w.os ∧ w'.tape = w.tape ∧ w'.output = w.output := by
  by_cases h1 : n ≤ 1
  · exact ⟨0, w, h, by rw [run_choose]; simp [Question.forced, h1], rfl, rfl, rfl, rfl⟩
  · refine ⟨_, { w with drawn := w.drawn + 1 }, Nat.mod_lt (w.tape w.drawn (.mapNext n)) h, ?_, rfl, rfl, rfl, rfl⟩
    rw [run_choose]; simp only [Question.forced, h1, decide_false, Bool.false_eq_true, if_false]; rfl

theorem next_run {c cm since : Nat} {seen : Array Nat} {arr : Array MapEntry} {ty : TypeId} (h1 : w.heap[c]? = some (.mapIter (some cm) since seen since)) (h2 : w.heap[cm]? = some (.map arr since)) (hall : ∀ m ∈ arr, m.born < since) :
    (arr.filter (fun e => !seen.contains e.born) = #[] ∧ (Instr.next (.pointer (some ⟨c, 0, none⟩)) false ty).run P w = .ok (.tuple #[.bool false]) w) ∨
    ∃ e ∈ arr.filter (fun e => !seen.contains e.born), ∃ w1 : World, w1.heap = w.heap ∧ w1.os = w.os ∧ w1.tape = w.tape ∧ w1.output = w.output ∧
      (Instr.next (.pointer (some ⟨c, 0, none⟩)) false ty).run P w = .ok (.tuple #[.bool true, e.key, e.val]) { w1 with heap := w1.heap.setIfInBounds c (.mapIter (some cm) since (seen.push e.born) since) } := by
  have hget := run_getObj (P := P) h1 (by simp)
  have hget2 := run_getObj (P := P) h2 (by simp)
  have hcheck : (!seen.isEmpty && !arr.isEmpty && arr.all (fun e => decide (e.born ≥ since))) = false := by
    by_cases he : arr.isEmpty = true
    · simp [he]
    · have : arr.all (fun e => decide (e.born ≥ since)) = false := by
        rw [← Bool.not_eq_true, Array.all_eq_true']
        intro h
        have hpos : 0 < arr.size := by
          rcases Nat.eq_zero_or_pos arr.size with h0 | h0
          · exact absurd (by simpa [Array.isEmpty] using h0) he
          · exact h0
        have hm : arr[0] ∈ arr := Array.getElem_mem hpos
        have g1 := h _ hm
        have g2 := hall _ hm
        simp at g1; omega
      simp [this]
  have hold : (arr.filter (fun e => !seen.contains e.born)).filter (fun e => decide (e.born < since)) = arr.filter (fun e => !seen.contains e.born) := by
    rw [Array.filter_eq_self]
    intro e he
    have := hall e (Array.mem_filter.1 he).1
    simpa using this
  have hnew : (arr.filter (fun e => !seen.contains e.born)).filter (fun e => decide (e.born ≥ since)) = #[] := by
    rw [Array.filter_eq_empty_iff]
    intro e he
    have := hall e (Array.mem_filter.1 he).1
    simp; omega
  simp only [Instr.next, Sem.run_bind, hget, Result.andThen_ok, hget2, hcheck, Bool.false_eq_true, if_false, hold, hnew, Array.append_empty]
  generalize arr.filter (fun e => !seen.contains e.born) = left
  by_cases hl : left.isEmpty = true
  · have : left = #[] := by simpa using hl
    subst this
    refine .inl ⟨rfl, ?_⟩
    simp [Question.forced]
  · right
    have hpos : 0 < left.size := by
      rcases Nat.eq_zero_or_pos left.size with h0 | h0
      · exact absurd (by simpa [Array.isEmpty] using h0) hl
      · exact h0
    obtain ⟨i, w1, g1, g2, g3, g4, g5, g6⟩ := choose_next P w left.size hpos
    have hs : (#[] ++ left.map some : Array (Option MapEntry)).size = left.size := by simp
    have hget1 : (#[] ++ left.map some : Array (Option MapEntry))[i]? = some (some left[i]) := by simp [g1]
    refine ⟨left[i], Array.getElem_mem g1, w1, g3, g4, g5, g6, ?_⟩
    have hset := run_setObj (P := P) (w := w1) (y := .mapIter (some cm) since (seen.push left[i].born) since) (by rw [g3]; exact h1) (by simp)
    simp only [hl, Bool.false_eq_true, if_false, hs, g2, Result.andThen_ok, hget1, Sem.run_bind, hset, Sem.run_pure]

theorem s_mnext (hs : SR P N0 μ σ w) (ht : TR μ d t a.tmps) (hn : a.tmps.size = nt) {x' : Opd} (hop : opOk P d nt o.op o.type (.mnext x') = true) (h : evalOp (.mnext x') K t σ k) : OpS P N0 μ σ w (execOp a.eval o) k := by
  have hk : mnextP σ (opd t x') k := h
  have : ∃ x, o.op = .next x false ∧ opdOk d nt x x' = true := by
    replace hop : ok_mnext d nt o.op x' = true := hop
    unfold ok_mnext at hop
    split at hop
    · rename_i b e
      simp only [Bool.and_eq_true] at hop
      cases b with
      | false => exact ⟨_, e, hop.2⟩
      | true => cases hop.1
    · cases hop
  obtain ⟨x, he, hx⟩ := this
  have vx := opdOk_VR ht hn hx
  generalize opd t x' = it at hk vx
  rw [show execOp a.eval o = (do Pure.pure (.value (← Instr.next (a.eval x) false o.type))) by simp [execOp, he]]
  unfold mnextP at hk
  split at hk
  · rename_i r
    split at hk
    · rename_i m since seen hg
      split at hk
      · rename_i es clock hmo
        split at hk
        · rename_i hcond
          obtain ⟨rfl, hall⟩ := hcond
          obtain ⟨c, cm, hp, hpm, h1⟩ := hs.iter hg
          obtain ⟨c2, arr, hp2, h2, h3, _⟩ := hs.map (mapOf_spec hmo)
          rw [hpm] at hp2; cases hp2
          simp only [VR] at vx
          obtain ⟨c', d', hp', vx⟩ := vx
          rw [hp] at hp'; cases hp'
          have hallm : ∀ me ∈ arr, me.born < clock := by
            intro me hme
            obtain ⟨i, hi⟩ := List.getElem?_of_mem (Array.mem_toList_iff.2 hme)
            obtain ⟨e, e1, _, _, e4⟩ := ERs_get' h3 i me hi
            have := List.all_eq_true.1 hall e (List.mem_of_getElem? e1)
            rw [← e4]; simpa using this
          have hfl : ERs μ (es.filter fun e => !seen.contains e.2.2) (arr.filter (fun e => !(⟨seen⟩ : Array Nat).contains e.born)).toList := by
            rw [Array.toList_filter]
            exact ERs_filter (fun e m h => by simp [h]) h3
          rw [vx, Nat.add_zero]
          rcases next_run (P := P) (ty := o.type) h1 h2 hallm with ⟨g1, g2⟩ | ⟨me, g1, w1, e1, e2, e3, e4, g2⟩
          · rw [g1] at hfl
            have hnil : (es.filter fun e => !seen.contains e.2.2) = [] := List.eq_nil_of_length_eq_zero (by rw [← ERs_length hfl]; rfl)
            split at hk
            · exact OpS.val hs (cv := .tuple #[.bool false]) hk (by simp only [VR]; exact ⟨[.bool false], VRs_cons.2 ⟨_, _, rfl, VR_bool, VRs_nil.2 rfl⟩, rfl⟩) g2
            · rename_i hne; exact absurd hnil hne
          · obtain ⟨i, hi⟩ := List.getElem?_of_mem (Array.mem_toList_iff.2 g1)
            obtain ⟨e, f1, f2, f3, f4⟩ := ERs_get' hfl i me hi
            have hmem := List.mem_of_getElem? f1
            split at hk
            · rename_i hnil; rw [hnil] at hmem; cases hmem
            · have hk := hk e hmem
              refine ⟨_, _, μ, _, .tuple #[.bool true, me.key, me.val], hk, ?_, by simp only [VR]; exact ⟨[.bool true, me.key, me.val], VRs_cons.2 ⟨_, _, rfl, VR_bool, VRs_cons.2 ⟨_, _, rfl, f2, VRs_cons.2 ⟨_, _, rfl, f3, VRs_nil.2 rfl⟩⟩⟩, rfl⟩, .value (run_val g2)⟩
              have hp1 := Post.heap hs e1 e2 e3 e4
              refine hp1.trans (map_post (y := .mapIter (some cm) clock ((⟨seen⟩ : Array Nat).push me.born) clock) hp1.sr hg rfl hp (by rw [e1]; exact h1) (fun _ h => by cases h) ⟨rfl, cm, hpm, ?_⟩)
              rw [f4]; congr 2; simp
        · cases hk
      · cases hk
    · cases hk
  · cases hk

end
end Go.Proofs.Ytnmkbnejapdnnaa.Ev
