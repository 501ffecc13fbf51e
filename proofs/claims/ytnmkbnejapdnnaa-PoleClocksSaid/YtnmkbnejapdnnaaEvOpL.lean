/-
  A string's bytes; 'append' of zero values; calls.
-/
import Derived.Test.YtnmkbnejapdnnaaEvOpK
set_option linter.unusedVariables false
set_option maxRecDepth 4000
namespace Go.Proofs.Ytnmkbnejapdnnaa.Ev
open Go

section
variable {P : Program} {N0 : Nat} {μ : Mp} {σ σ' : St} {w w' : World} {k : Cn} {K : KT} {d nt : Nat} {a : Act} {t : Tr} {o : Oper}

theorem s_s2b (hs : SR P N0 μ σ w) (ht : TR μ d t a.tmps) (hn : a.tmps.size = nt) {x' : Opd} (hop : opOk P d nt o.op o.type (.s2b x') = true) (h : evalOp (.s2b x') K t σ k) : OpS P N0 μ σ w (execOp a.eval o) k := by
  have hk : vStr (opd t x') (fun s k σ => if s.size ≤ 1073741824 then k (.slice σ.n 0 s.size s.size (some 1)) (σ.add (.cells false (s.data.toList.map fun c => .int .u8 c.toNat))) else False) k σ := h
  have : ∃ src dst x el, o.op = .convert src dst x ∧ P.underlying src = some .string ∧ P.underlying dst = some (.slice el) ∧ P.underlying el = some (.int .u8) ∧ opdOk d nt x x' = true := by
    replace hop : ok_s2b P d nt o.op x' = true := hop
    unfold ok_s2b at hop
    split at hop
    · rename_i e
      simp only [Bool.and_eq_true] at hop
      obtain ⟨h1, h2⟩ := hop
      unfold isStr at h1
      split at h1
      · rename_i hsrc
        split at h2
        · rename_i el hel
          simp only [Bool.and_eq_true, beq_iff_eq] at h2
          exact ⟨_, _, _, el, e, hsrc, sliceElem_spec hel, isInt_spec h2.1, h2.2⟩
        · cases h2
      · cases h1
    · cases hop
  obtain ⟨src, dst, x, el, he, hsrc, hdst, hel, hx⟩ := this
  have vx := opdOk_VR ht hn hx
  obtain ⟨s, ex, hk⟩ := vStr_elim hk
  rw [ex] at vx; simp only [VR] at vx
  split at hk
  · rename_i hle
    have hcap : s.size ≤ (Question.appendCap s.size 0 el).cut (w.tape w.drawn (.appendCap s.size 0 el)) := grownCap_ge w s.size 0 el
    generalize hc : (Question.appendCap s.size 0 el).cut (w.tape w.drawn (.appendCap s.size 0 el)) = cap at hcap
    have hsz : (s.data.map (fun b : UInt8 => Value.int .u8 b.toNat) ++ Array.replicate (cap - s.size) (Value.int .u8 0)).size = cap := by
      have : s.data.size = s.size := rfl
      simp [this]; omega
    generalize harr : s.data.map (fun b : UInt8 => Value.int .u8 b.toNat) ++ Array.replicate (cap - s.size) (Value.int .u8 0) = arr at hsz
    have hrun : (Conv.stringToBytes el s).run P w = .ok (.slice (some ⟨w.heap.size, 0, none⟩) s.size cap) ((w.drew.alloc (.cells arr el)).freeze ⟨w.heap.size, cap, none⟩ 1) := by
      have hshape : (w.drew.alloc (.cells arr el)).shape? w.heap.size = some (el, cap) := by
        have hpush : (w.drew.alloc (.cells arr el)).heap[w.heap.size]? = some (.cells arr el (0, 0)) := push_new w.heap _
        simp only [World.shape?, hpush, hsz]
      simp only [Conv.stringToBytes, Sem.run_bind, run_choose, Question.forced, Bool.false_eq_true, if_false, Result.andThen_ok, hc, newRow, run_newObj, Sem.run_pure, markStringish, run_shape, harr]
      have : ({ heap := w.heap.push (.cells arr el), tape := w.tape, drawn := w.drawn + 1, os := w.os, output := w.output } : World) = w.drew.alloc (.cells arr el) := rfl
      rw [this, hshape]
      simp only [run_freeze, Result.andThen_ok]
    have hheap : ((w.drew.alloc (.cells arr el)).freeze ⟨w.heap.size, cap, none⟩ 1).heap = w.heap.push (.cells arr el (cap, cap + 1)) := by
      apply Array.ext_getElem?
      intro i
      simp only [World.freeze, Nat.one_ne_zero, if_false, Array.getElem?_modify]
      by_cases e : w.heap.size = i
      · subst e
        have hpush : (w.drew.alloc (.cells arr el)).heap[w.heap.size]? = some (.cells arr el (0, 0)) := push_new w.heap _
        rw [if_pos rfl, hpush, push_new]
        rfl
      · rw [if_neg e]
        show (w.heap.push (.cells arr el))[i]? = _
        rw [Array.getElem?_push, Array.getElem?_push, if_neg (Ne.symm e), if_neg (Ne.symm e)]
    refine OpS.new hs (w' := (w.drew.alloc (.cells arr el)).freeze ⟨w.heap.size, cap, none⟩ 1) (us := s.data.toList.map fun c => .int .u8 c.toNat) (arr := arr) (ty := el) (lo := cap) (hi := cap + 1) (cv := .slice (some ⟨w.heap.size, 0, none⟩) s.size cap) hk (bytes_VRs _) ?_ (fun i hi => by omega) hheap rfl rfl rfl ?_ ?_
    · intro i u hu
      rw [← harr]
      have hlt : i < s.data.size := by simpa using (List.getElem?_eq_some_iff.1 hu).1
      rw [Array.getElem?_append_left (by simpa using hlt)]
      simpa using hu
    · rw [show execOp a.eval o = (do Pure.pure (.value (← convert src dst (a.eval x)))) by simp [execOp, he]]
      refine run_val ?_
      rw [vx]
      simp only [convert, Sem.run_bind, run_underlying hsrc, run_underlying hdst, run_underlying hel, Result.andThen_ok, hrun]
    · simp only [VR]
      refine ⟨_, 0, 0, cap, Mp.new_pl _ _ _ _ _, rfl, Nat.le_refl _, .inr rfl, (fun h => by cases h), fun e he => ?_⟩
      cases he
      refine ⟨hcap, ?_⟩
      rw [Mp.new_sz, hsz]; omega
  · cases hk

end
end Go.Proofs.Ytnmkbnejapdnnaa.Ev
