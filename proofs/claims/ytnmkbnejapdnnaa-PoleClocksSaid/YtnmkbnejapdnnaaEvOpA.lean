/-
  Operations that look at no memory, one by one.
-/
import Derived.Test.YtnmkbnejapdnnaaEvOp
set_option linter.unusedVariables false
set_option maxRecDepth 4000
namespace Go.Proofs.Ytnmkbnejapdnnaa.Ev
open Go

section
variable {P : Program} {N0 : Nat} {μ : Mp} {σ : St} {w w' : World} {k : Cn} {K : KT} {d nt : Nat} {a : Act} {t : Tr} {o : Oper}

theorem s_mv (hs : SR P N0 μ σ w) (ht : TR μ d t a.tmps) (hn : a.tmps.size = nt) {y : Opd} (hop : opOk P d nt o.op o.type (.mv y) = true) (h : evalOp (.mv y) K t σ k) : OpS P N0 μ σ w (execOp a.eval o) k := by
  have hk : k (opd t y) σ := h
  have : ∃ x, o.op = .move x ∧ opdOk d nt x y = true := by
    replace hop : ok_mv d nt o.op y = true := hop
    unfold ok_mv at hop
    split at hop
    · rename_i e; exact ⟨_, e, hop⟩
    · cases hop
  obtain ⟨x, he, hx⟩ := this
  exact OpS.pure hs hk (opdOk_VR ht hn hx) (by simp [execOp, he])

theorem s_asg (hs : SR P N0 μ σ w) (ht : TR μ d t a.tmps) (hn : a.tmps.size = nt) {y : Opd} (hop : opOk P d nt o.op o.type (.asg y) = true) (h : evalOp (.asg y) K t σ k) : OpS P N0 μ σ w (execOp a.eval o) k := by
  have hk : k (opd t y) σ := h
  have : ∃ x, o.op = .assign x ∧ opdOk d nt x y = true := by
    replace hop : ok_asg d nt o.op y = true := hop
    unfold ok_asg at hop
    split at hop
    · rename_i e; exact ⟨_, e, hop⟩
    · cases hop
  obtain ⟨x, he, hx⟩ := this
  exact OpS.pure hs hk (opdOk_VR ht hn hx) (by simp [execOp, he])

theorem s_pick (hs : SR P N0 μ σ w) (ht : TR μ d t a.tmps) (hn : a.tmps.size = nt) {c x y : Opd} (hop : opOk P d nt o.op o.type (.pick c x y) = true) (h : evalOp (.pick c x y) K t σ k) : OpS P N0 μ σ w (execOp a.eval o) k := by
  have hk : pickv (opd t c) (opd t x) (opd t y) k σ := h
  have : ∃ c' x' y', o.op = .pick c' x' y' ∧ opdOk d nt c' c = true ∧ opdOk d nt x' x = true ∧ opdOk d nt y' y = true := by
    replace hop : ok_pick d nt o.op c x y = true := hop
    unfold ok_pick at hop
    split at hop
    · rename_i e; simp at hop; exact ⟨_, _, _, e, hop.1.1, hop.1.2, hop.2⟩
    · cases hop
  obtain ⟨c', x', y', he, hc, hx, hy⟩ := this
  obtain ⟨b, eb, hk⟩ := vBool_elim hk
  have vc := opdOk_VR ht hn hc
  rw [eb] at vc; simp only [VR] at vc
  cases b with
  | true => exact OpS.pure hs hk (opdOk_VR ht hn hx) (by simp [execOp, he, vc, asBool])
  | false => exact OpS.pure hs hk (opdOk_VR ht hn hy) (by simp [execOp, he, vc, asBool])

theorem s_nilck (hs : SR P N0 μ σ w) (ht : TR μ d t a.tmps) (hn : a.tmps.size = nt) {y : Opd} (hop : opOk P d nt o.op o.type (.nilck y) = true) (h : evalOp (.nilck y) K t σ k) : OpS P N0 μ σ w (execOp a.eval o) k := by
  have hk : nilckv (opd t y) k σ := h
  have : ∃ x, o.op = .nilCheck x ∧ opdOk d nt x y = true := by
    replace hop : ok_nilck d nt o.op y = true := hop
    unfold ok_nilck at hop
    split at hop
    · rename_i e; exact ⟨_, e, hop⟩
    · cases hop
  obtain ⟨x, he, hx⟩ := this
  have hv := opdOk_VR ht hn hx
  generalize opd t y = v at hk hv
  cases v <;> first | exact False.elim hk | skip
  case ptr b o' =>
    refine OpS.pure hs (v := .ptr b o') hk hv ?_
    simp only [VR] at hv; obtain ⟨c, d', _, hv⟩ := hv
    simp [execOp, he, hv]
  case func f xs ys =>
    refine OpS.pure hs (v := .func f xs ys) hk hv ?_
    simp only [VR] at hv; obtain ⟨us, ws, _, _, hv⟩ := hv
    simp [execOp, he, hv]

theorem s_un (hs : SR P N0 μ σ w) (ht : TR μ d t a.tmps) (hn : a.tmps.size = nt) {u : UnOp} {y : Opd} (hop : opOk P d nt o.op o.type (.un u y) = true) (h : evalOp (.un u y) K t σ k) : OpS P N0 μ σ w (execOp a.eval o) k := by
  have hk : unop u (opd t y) k σ := h
  have : ∃ ty x, o.op = .unOp u ty x ∧ opdOk d nt x y = true := by
    replace hop : ok_un d nt o.op u y = true := hop
    unfold ok_un at hop
    split at hop
    · rename_i e; simp at hop; exact ⟨_, _, hop.1 ▸ e, hop.2⟩
    · cases hop
  obtain ⟨ty, x, he, hx⟩ := this
  have hv := opdOk_VR ht hn hx
  cases u with
  | neg =>
    obtain ⟨kd, n, e, hk⟩ := vInt_elim hk
    rw [e] at hv; simp only [VR] at hv
    refine OpS.pure hs hk (cv := .int kd (kd.wrap (0 - n))) (by simp [VR, wr_eq]) ?_
    simp [execOp, he, hv, Op.unary, Op.intArith]
  | xor =>
    obtain ⟨kd, n, e, hk⟩ := vInt_elim hk
    rw [e] at hv; simp only [VR] at hv
    refine OpS.pure hs hk (by simp [VR]; rfl) ?_
    simp [execOp, he, hv, Op.unary, Op.intBits]
  | not =>
    obtain ⟨b, e, hk⟩ := vBool_elim hk
    rw [e] at hv; simp only [VR] at hv
    refine OpS.pure hs hk (cv := .bool !b) (by simp [VR]) ?_
    simp [execOp, he, hv, Op.unary]
  | plus => exact False.elim hk

theorem s_cvt (hs : SR P N0 μ σ w) (ht : TR μ d t a.tmps) (hn : a.tmps.size = nt) {kd : IntKind} {y : Opd} (hop : opOk P d nt o.op o.type (.cvt kd y) = true) (h : evalOp (.cvt kd y) K t σ k) : OpS P N0 μ σ w (execOp a.eval o) k := by
  have hk : cvtv kd (opd t y) k σ := h
  have : ∃ src dst x, o.op = .convert src dst x ∧ isInt P dst = some kd ∧ (P.underlying src).isSome = true ∧ opdOk d nt x y = true := by
    replace hop : ok_cvt P d nt o.op kd y = true := hop
    unfold ok_cvt at hop
    split at hop
    · rename_i e; simp only [Bool.and_eq_true, beq_iff_eq] at hop; exact ⟨_, _, _, e, hop.1.1, hop.1.2, hop.2⟩
    · cases hop
  obtain ⟨src, dst, x, he, hd, hsr, hx⟩ := this
  have hv := opdOk_VR ht hn hx
  obtain ⟨kd', n, e, hk⟩ := vInt_elim hk
  rw [e] at hv; simp only [VR] at hv
  refine OpS.pure hs hk (cv := .int kd (kd.wrap n)) (by simp [VR, wr_eq]) ?_
  obtain ⟨ds, hds⟩ := Option.isSome_iff_exists.1 hsr
  have hdd := isInt_spec hd
  simp [execOp, he, hv, convert, underlying, hds, hdd, Conv.intToInt]

theorem s_mkfn (hs : SR P N0 μ σ w) (ht : TR μ d t a.tmps) (hn : a.tmps.size = nt) {f : Nat} {xs ys : List Opd} (hop : opOk P d nt o.op o.type (.mkfn f xs ys) = true) (h : evalOp (.mkfn f xs ys) K t σ k) : OpS P N0 μ σ w (execOp a.eval o) k := by
  have hk : k (.func f (opds t xs) (opds t ys)) σ := h
  have : ∃ us ws, o.op = .makeFunc (.func f) us ws ∧ opdsOk d nt us.toList xs = true ∧ opdsOk d nt ws.toList ys = true := by
    replace hop : ok_mkfn d nt o.op f xs ys = true := hop
    unfold ok_mkfn at hop
    split at hop
    · rename_i fn us ws e
      simp only [Bool.and_eq_true] at hop
      cases fn <;> simp [isFnV] at hop
      obtain ⟨⟨rfl, h2⟩, h3⟩ := hop
      exact ⟨_, _, e, h2, h3⟩
    · cases hop
  obtain ⟨us, ws, he, h1, h2⟩ := this
  refine OpS.pure hs hk (cv := .func (.func f) (us.map a.eval) (ws.map a.eval)) ?_ (by simp [execOp, he, Instr.makeFunc])
  simp only [VR]
  refine ⟨us.toList.map a.eval, ws.toList.map a.eval, opdsOk_VRs ht hn h1, opdsOk_VRs ht hn h2, ?_⟩
  congr 1 <;> (apply Array.toList_inj.1; simp)

theorem s_fadr (hs : SR P N0 μ σ w) (ht : TR μ d t a.tmps) (hn : a.tmps.size = nt) {off : Nat} {y : Opd} (hop : opOk P d nt o.op o.type (.fadr off y) = true) (h : evalOp (.fadr off y) K t σ k) : OpS P N0 μ σ w (execOp a.eval o) k := by
  have hk : fadrv off (opd t y) k σ := h
  have : ∃ ty x i f, o.op = .fieldAddr ty x i ∧ fieldOk P ty i off = some f ∧ 0 < (sizeT P f.type).getD 0 ∧ opdOk d nt x y = true := by
    replace hop : ok_fadr P d nt o.op off y = true := hop
    unfold ok_fadr at hop
    split at hop
    · rename_i e
      split at hop
      · rename_i f hf
        simp only [Bool.and_eq_true] at hop
        exact ⟨_, _, _, f, e, hf, blt_iff.1 hop.1, hop.2⟩
      · cases hop
    · cases hop
  obtain ⟨ty, x, i, f, he, hf, hsz, hx⟩ := this
  have hv := opdOk_VR ht hn hx
  obtain ⟨b, o', e, hk⟩ := vPtr_elim hk
  rw [e] at hv; simp only [VR] at hv
  obtain ⟨c, d', hp, hv⟩ := hv
  obtain ⟨fs, hu, hfi, hoff⟩ : ∃ fs : Array Field, P.underlying ty = some (.struct fs) ∧ fs[i]? = some f ∧ f.offset = off := by
    unfold fieldOk at hf
    split at hf
    · rename_i fs hu
      split at hf
      · rename_i f' hfi
        split at hf
        · cases hf; rename_i ho; exact ⟨fs, hu, hfi, by simpa using ho⟩
        · cases hf
      · cases hf
    · cases hf
  cases hsz' : sizeT P f.type with
  | none => rw [hsz'] at hsz; simp at hsz
  | some s =>
    rw [hsz'] at hsz; simp at hsz
    refine OpS.pure hs hk (cv := .pointer (some ⟨c, o' + off + d', none⟩)) (by simp only [VR]; exact ⟨c, d', hp, rfl⟩) ?_
    have hsz0 : ¬ s = 0 := by omega
    have hr : (sizeOf f.type).run P w = .ok s w := run_sizeOf hsz'
    have hadd : (⟨c, o' + d', none⟩ : Addr).add f.offset = ⟨c, o' + off + d', none⟩ := by
      unfold Addr.add
      split
      · simp; omega
      · simp; omega
    rw [show execOp a.eval o = (do Pure.pure (.value (← Instr.fieldAt ty (a.eval x) i))) by simp [execOp, he]]
    refine run_val ?_
    simp [Instr.fieldAt, underlying, hu, hfi, hv, Instr.sureAddr, fieldPlace, hr, hsz0, hadd]

end
end Go.Proofs.Ytnmkbnejapdnnaa.Ev
