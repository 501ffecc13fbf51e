/-
  Built-in functions that look at no memory, slices of slices, structs and arrays that are built.
-/
import Derived.Test.YtnmkbnejapdnnaaEvOpB
set_option linter.unusedVariables false
set_option maxRecDepth 4000
namespace Go.Proofs.Ytnmkbnejapdnnaa.Ev
open Go

section
variable {P : Program} {N0 : Nat} {μ : Mp} {σ : St} {w w' : World} {k : Cn} {K : KT} {d nt : Nat} {a : Act} {t : Tr} {o : Oper}

/-! ### built-in functions -/
theorem exec_blt {c : Call} {b : Builtin} (he : o.op = .call c) (hb : bltOk c b = true) (ρ : Operand → Value) : ∃ consts, execOp ρ o = builtin b c.argTypes o.type consts (c.args.map ρ) := by
  unfold bltOk at hb
  split at hb
  · rename_i b' hc
    have : b = b' := by simpa using hb
    subst this
    exact ⟨_, by simp [execOp, he, resolve, hc, invoke]; rfl⟩
  · cases hb

theorem args1 (ht : TR μ d t a.tmps) (hn : a.tmps.size = nt) {xs : Array Operand} {x : Opd} (h : opdsOk d nt xs.toList [x] = true) : ∃ u, xs.map a.eval = #[u] ∧ VR μ (opd t x) u := by
  have h := opdsOk_VRs ht hn h
  obtain ⟨u, us, e, hu, h⟩ := VRs_cons.1 h
  rw [VRs_nil.1 h] at e
  exact ⟨u, by apply Array.toList_inj.1; simpa using e, hu⟩
theorem args2 (ht : TR μ d t a.tmps) (hn : a.tmps.size = nt) {xs : Array Operand} {x y : Opd} (h : opdsOk d nt xs.toList [x, y] = true) : ∃ u v, xs.map a.eval = #[u, v] ∧ VR μ (opd t x) u ∧ VR μ (opd t y) v := by
  have h := opdsOk_VRs ht hn h
  obtain ⟨u, us, e, hu, h⟩ := VRs_cons.1 h
  obtain ⟨v, vs, rfl, hv, h⟩ := VRs_cons.1 h
  rw [VRs_nil.1 h] at e
  exact ⟨u, v, by apply Array.toList_inj.1; simpa using e, hu, hv⟩
theorem tys1 {xs : Array TypeId} {t : TypeId} (h : xs.toList = [t]) : xs = #[t] := Array.toList_inj.1 (by simpa using h)

theorem s_len (hs : SR P N0 μ σ w) (ht : TR μ d t a.tmps) (hn : a.tmps.size = nt) {x' : Opd} (hop : opOk P d nt o.op o.type (.len x') = true) (h : evalOp (.len x') K t σ k) : OpS P N0 μ σ w (execOp a.eval o) k := by
  have hk : lenv (opd t x') k σ := h
  have : ∃ c ty el, o.op = .call c ∧ bltOk c .len = true ∧ opdsOk d nt c.args.toList [x'] = true ∧ c.argTypes = #[ty] ∧ P.underlying ty = some (.slice el) := by
    replace hop : ok_len P d nt o.op x' = true := hop
    unfold ok_len at hop
    split at hop
    · rename_i e; simp only [Bool.and_eq_true] at hop
      obtain ⟨⟨h1, h2⟩, h3⟩ := hop
      split at h3
      · rename_i ht'
        obtain ⟨el, hel⟩ := Option.isSome_iff_exists.1 h3
        exact ⟨_, _, el, e, h1, h2, tys1 ht', sliceElem_spec hel⟩
      · cases h3
    · cases hop
  obtain ⟨c, ty, el, he, hb, hxs, hty, hu⟩ := this
  obtain ⟨consts, hex⟩ := exec_blt he hb a.eval
  obtain ⟨u, hargs, hv⟩ := args1 ht hn hxs
  rw [hex, hargs, hty]
  generalize opd t x' = v at hk hv
  cases v <;> first | exact False.elim hk | skip
  case slice b o' l c' e =>
    simp only [VR] at hv
    obtain ⟨cc, dd, o'', cap', _, rfl, _⟩ := hv
    exact OpS.pure hs hk VR_int (by simp [builtin, Builtin.len_, underlying, hu, goInt])
  case nilslice =>
    simp only [VR] at hv
    subst hv
    exact OpS.pure hs hk VR_int (by simp [builtin, Builtin.len_, underlying, hu, goInt])

theorem s_slen (hs : SR P N0 μ σ w) (ht : TR μ d t a.tmps) (hn : a.tmps.size = nt) {x' : Opd} (hop : opOk P d nt o.op o.type (.slen x') = true) (h : evalOp (.slen x') K t σ k) : OpS P N0 μ σ w (execOp a.eval o) k := by
  have hk : vStr (opd t x') (fun s => give (.int .i64 s.size)) k σ := h
  have : ∃ c ty, o.op = .call c ∧ bltOk c .len = true ∧ opdsOk d nt c.args.toList [x'] = true ∧ c.argTypes = #[ty] ∧ P.underlying ty = some .string := by
    replace hop : ok_slen P d nt o.op x' = true := hop
    unfold ok_slen at hop
    split at hop
    · rename_i e; simp only [Bool.and_eq_true] at hop
      obtain ⟨⟨h1, h2⟩, h3⟩ := hop
      split at h3
      · rename_i ht'
        unfold isStr at h3
        split at h3
        · exact ⟨_, _, e, h1, h2, tys1 ht', by assumption⟩
        · cases h3
      · cases h3
    · cases hop
  obtain ⟨c, ty, he, hb, hxs, hty, hu⟩ := this
  obtain ⟨consts, hex⟩ := exec_blt he hb a.eval
  obtain ⟨u, hargs, hv⟩ := args1 ht hn hxs
  rw [hex, hargs, hty]
  obtain ⟨s, e, hk⟩ := vStr_elim hk
  rw [e] at hv
  simp only [VR] at hv
  subst hv
  exact OpS.pure hs hk VR_int (by simp [builtin, Builtin.len_, underlying, hu, goInt])

theorem s_cap (hs : SR P N0 μ σ w) (ht : TR μ d t a.tmps) (hn : a.tmps.size = nt) {x' : Opd} (hop : opOk P d nt o.op o.type (.cap x') = true) (h : evalOp (.cap x') K t σ k) : OpS P N0 μ σ w (execOp a.eval o) k := by
  have hk : capv (opd t x') k σ := h
  have : ∃ c ty el, o.op = .call c ∧ bltOk c .cap = true ∧ opdsOk d nt c.args.toList [x'] = true ∧ c.argTypes = #[ty] ∧ P.underlying ty = some (.slice el) := by
    replace hop : ok_cap P d nt o.op x' = true := hop
    unfold ok_cap at hop
    split at hop
    · rename_i e; simp only [Bool.and_eq_true] at hop
      obtain ⟨⟨h1, h2⟩, h3⟩ := hop
      split at h3
      · rename_i ht'
        obtain ⟨el, hel⟩ := Option.isSome_iff_exists.1 h3
        exact ⟨_, _, el, e, h1, h2, tys1 ht', sliceElem_spec hel⟩
      · cases h3
    · cases hop
  obtain ⟨c, ty, el, he, hb, hxs, hty, hu⟩ := this
  obtain ⟨consts, hex⟩ := exec_blt he hb a.eval
  obtain ⟨u, hargs, hv⟩ := args1 ht hn hxs
  rw [hex, hargs, hty]
  generalize opd t x' = v at hk hv
  unfold capv at hk
  split at hk
  · simp only [VR] at hv
    obtain ⟨cc, dd, o'', cap', _, rfl, _, _, h5, _⟩ := hv
    simp at h5
    subst h5
    exact OpS.pure hs hk VR_int (by simp [builtin, Builtin.cap_, underlying, hu, goInt])
  · simp only [VR] at hv
    subst hv
    exact OpS.pure hs hk VR_int (by simp [builtin, Builtin.cap_, underlying, hu, goInt])
  · cases hk

theorem foldP_run {f : Int → Int → Int} {g : Value → Value → Sem Value} {kd : IntKind} (hg : ∀ x y, g (.int kd x) (.int kd y) = pure (.int kd (f x y))) :
    ∀ (l : List V) (us : List Value) (n : Int), VRs μ l us → foldP f kd l n k σ → ∃ m, k (.int kd m) σ ∧ (us.foldlM g (.int kd n)).run P w = .ok (.int kd m) w
  | [], us, n, hv, h => by rw [VRs_nil.1 hv]; exact ⟨n, h, by simp⟩
  | v :: l, us, n, hv, h => by
    obtain ⟨u, us, rfl, hu, hv'⟩ := VRs_cons.1 hv
    have h : vInt v (fun kd' b => Bool.rec (motive := fun _ => Sk) fail (foldP f kd l (f n b)) (Nat.beq (kindIx kd) (kindIx kd'))) k σ := h
    obtain ⟨kd', b, rfl, h'⟩ := vInt_elim h
    obtain ⟨h1, h''⟩ := boolRec_elim h'
    have := kindIx_inj (beq_iff.1 h1)
    subst this
    simp only [VR] at hu
    subst hu
    obtain ⟨m, h1, h2⟩ := foldP_run hg l us (f n b) hv' h''
    exact ⟨m, h1, by simp [hg, h2]⟩

theorem foldv_run {f : Int → Int → Int} {g : Value → Value → Sem Value} (hg : ∀ kd x y, g (.int kd x) (.int kd y) = pure (.int kd (f x y))) {l : List V} {us : List Value} (hv : VRs μ l us) (h : foldv f l k σ) :
    ∃ v u rest cv, us = u :: rest ∧ k v σ ∧ VR μ v cv ∧ (rest.foldlM g u).run P w = .ok cv w := by
  cases l with
  | nil => exact False.elim h
  | cons v l =>
    obtain ⟨u, us, rfl, hu, hv'⟩ := VRs_cons.1 hv
    have h : vInt v (fun kd a => foldP f kd l a) k σ := h
    obtain ⟨kd, n, rfl, h'⟩ := vInt_elim h
    simp only [VR] at hu
    subst hu
    obtain ⟨m, h1, h2⟩ := foldP_run (P := P) (w := w) (hg kd) l us n hv' h'
    exact ⟨_, _, us, _, rfl, h1, VR_int, h2⟩

theorem s_min (hs : SR P N0 μ σ w) (ht : TR μ d t a.tmps) (hn : a.tmps.size = nt) {xs : List Opd} (hop : opOk P d nt o.op o.type (.min xs) = true) (h : evalOp (.min xs) K t σ k) : OpS P N0 μ σ w (execOp a.eval o) k := by
  have hk : foldv imin (opds t xs) k σ := h
  have : ∃ c, o.op = .call c ∧ bltOk c .min = true ∧ opdsOk d nt c.args.toList xs = true := by
    replace hop : ok_min d nt o.op xs = true := hop
    unfold ok_min at hop
    split at hop
    · rename_i e; simp only [Bool.and_eq_true] at hop
      exact ⟨_, e, hop.1, hop.2⟩
    · cases hop
  obtain ⟨c, he, hb, hxs⟩ := this
  obtain ⟨consts, hex⟩ := exec_blt he hb a.eval
  obtain ⟨v, u, rest, cv, e1, g1, g2, g3⟩ := foldv_run (P := P) (w := w) (g := Builtin.min2) (fun kd x y => by simp [Builtin.min2, imin]) (opdsOk_VRs ht hn hxs) hk
  rw [hex]
  exact OpS.pure hs g1 g2 (by simp [builtin, Builtin.min_, e1, g3])

theorem s_max (hs : SR P N0 μ σ w) (ht : TR μ d t a.tmps) (hn : a.tmps.size = nt) {xs : List Opd} (hop : opOk P d nt o.op o.type (.max xs) = true) (h : evalOp (.max xs) K t σ k) : OpS P N0 μ σ w (execOp a.eval o) k := by
  have hk : foldv imax (opds t xs) k σ := h
  have : ∃ c, o.op = .call c ∧ bltOk c .max = true ∧ opdsOk d nt c.args.toList xs = true := by
    replace hop : ok_max d nt o.op xs = true := hop
    unfold ok_max at hop
    split at hop
    · rename_i e; simp only [Bool.and_eq_true] at hop
      exact ⟨_, e, hop.1, hop.2⟩
    · cases hop
  obtain ⟨c, he, hb, hxs⟩ := this
  obtain ⟨consts, hex⟩ := exec_blt he hb a.eval
  obtain ⟨v, u, rest, cv, e1, g1, g2, g3⟩ := foldv_run (P := P) (w := w) (g := Builtin.max2) (fun kd x y => by simp [Builtin.max2, imax]) (opdsOk_VRs ht hn hxs) hk
  rw [hex]
  exact OpS.pure hs g1 g2 (by simp [builtin, Builtin.max_, e1, g3])

/-! ### slices -/
theorem bnd_run (ht : TR μ d t a.tmps) (hn : a.tmps.size = nt) {x : Option Operand} {y : Option Opd} {dflt n : Nat} (h : optOk d nt x y = true) (hb : bnd t y dflt = some n) :
    (x = none ∧ n = dflt) ∨ ∃ z kd, x = some z ∧ a.eval z = .int kd n := by
  cases x with
  | none =>
    cases y with
    | none => exact .inl ⟨rfl, by simpa [bnd] using hb.symm⟩
    | some y => simp [optOk] at h
  | some z =>
    cases y with
    | none => simp [optOk] at h
    | some y =>
      have hv := opdOk_VR ht hn (show opdOk d nt z y = true from h)
      simp only [bnd] at hb
      split at hb
      · rename_i kd i e
        split at hb
        · rename_i h0
          rw [e] at hv; simp only [VR] at hv
          refine .inr ⟨z, kd, rfl, ?_⟩
          cases hb
          rw [hv]; congr 1; omega
        · cases hb
      · cases hb

theorem sliceBounds_run {b : Bool} {len cap : Nat} {low high max : Option Value} {l h m : Nat} (hm : (max = none ∧ m = cap) ∨ ∃ kd, max = some (.int kd m)) (hh : (high = none ∧ h = len ∧ max = none) ∨ ∃ kd, high = some (.int kd h))
    (hl : (low = none ∧ l = 0) ∨ ∃ kd, low = some (.int kd l)) (h1 : l ≤ h) (h2 : h ≤ m) (h3 : m ≤ cap) : (Instr.sliceBounds b len cap low high max).run P w = .ok (l, h, m) w := by
  rcases hm with ⟨rfl, rfl⟩ | ⟨kd, rfl⟩ <;> rcases hh with ⟨rfl, rfl, e⟩ | ⟨kd', rfl⟩ <;> rcases hl with ⟨rfl, rfl⟩ | ⟨kd'', rfl⟩ <;>
    first | (cases e; done) | (simp [Instr.sliceBounds, Instr.sliceBound, asIntOf, h1, h2, h3])

theorem slcAt_elim {es b o cap l h : Nat} {fl : Option Nat} {m : Option Nat} (hk : slcAt es b o cap fl l h m k σ) :
    (∃ m', m = some m' ∧ l ≤ h ∧ h ≤ m' ∧ m' ≤ cap ∧ k (.slice b (if m' = l then o else o + l * es) (h - l) (m' - l) none) σ) ∨
    (m = none ∧ l ≤ h ∧ h ≤ cap ∧ fl = none ∧ k (.slice b (if cap = l then o else o + l * es) (h - l) (cap - l) none) σ) ∨
    (m = none ∧ l ≤ h ∧ h ≤ cap ∧ fl = some es ∧ k (.slice b (o + l * es) (h - l) (cap - l) (some es)) σ) := by
  unfold slcAt at hk
  split at hk
  · split at hk
    · rename_i hc; exact .inl ⟨_, rfl, hc.1, hc.2.1, hc.2.2, hk⟩
    · cases hk
  · split at hk
    · rename_i hc
      split at hk
      · exact .inr (.inl ⟨rfl, hc.1, hc.2, rfl, hk⟩)
      · split at hk
        · rename_i e; subst e; exact .inr (.inr ⟨rfl, hc.1, hc.2, rfl, hk⟩)
        · cases hk
    · cases hk

theorem add_off (c o n : Nat) : (⟨c, o, none⟩ : Addr).add n = ⟨c, o + n, none⟩ := by
  unfold Addr.add
  split
  · simp; omega
  · rfl

/-- The slice that slcAt says, as the machine has it. -/
theorem slcAt_VR {es b o cap c d o' cap' l h : Nat} {fl m : Option Nat} (hp : μ.pl b = some (c, d)) (ho : cap = 0 ∨ o' = o + d) (h1 : fl = none → cap' = cap) (h2 : ∀ e, fl = some e → cap ≤ cap' ∧ o' + cap' * e ≤ μ.sz c)
    (hk : slcAt es b o cap fl l h m k σ) : ∃ v M, k v σ ∧ l ≤ h ∧ h ≤ M ∧ M ≤ cap' ∧ (m = some M ∨ (m = none ∧ M = cap')) ∧
      VR μ v (.slice (some (if M = l then ⟨c, o', none⟩ else (⟨c, o', none⟩ : Addr).add (l * es))) (h - l) (M - l)) := by
  have hle : cap ≤ cap' := by
    cases fl with
    | none => have := h1 rfl; omega
    | some e => exact (h2 e rfl).1
  rcases slcAt_elim hk with ⟨m', rfl, g1, g2, g3, hk2⟩ | ⟨rfl, g1, g2, rfl, hk2⟩ | ⟨rfl, g1, g2, rfl, hk2⟩
  · refine ⟨_, m', hk2, g1, g2, by omega, .inl rfl, ?_⟩
    simp only [VR]
    refine ⟨c, d, if m' = l then o' else o' + l * es, m' - l, hp, ?_, by omega, ?_, fun _ => rfl, fun e he => by cases he⟩
    · rw [add_off]; split <;> rfl
    · by_cases e : m' = l
      · left; omega
      · right; rw [if_neg e, if_neg e]; omega
  · have := h1 rfl
    subst this
    refine ⟨_, cap', hk2, g1, g2, by omega, .inr ⟨rfl, rfl⟩, ?_⟩
    simp only [VR]
    refine ⟨c, d, if cap' = l then o' else o' + l * es, cap' - l, hp, ?_, by omega, ?_, fun _ => rfl, fun e he => by cases he⟩
    · rw [add_off]; split <;> rfl
    · by_cases e : cap' = l
      · left; omega
      · right; rw [if_neg e, if_neg e]; omega
  · have hh := h2 es rfl
    refine ⟨_, cap', hk2, g1, by omega, by omega, .inr ⟨rfl, rfl⟩, ?_⟩
    simp only [VR]
    refine ⟨c, d, if cap' = l then o' else o' + l * es, cap' - l, hp, ?_, by omega, ?_, (fun e => by cases e), ?_⟩
    · rw [add_off]; split <;> rfl
    · by_cases e : cap' = l
      · left; omega
      · rw [if_neg e]
        rcases ho with ho | ho
        · left; omega
        · right; omega
    · intro e he; cases he
      refine ⟨by omega, ?_⟩
      have : l * es + (cap' - l) * es = cap' * es := by rw [← Nat.add_mul]; congr 1; omega
      split
      · have : cap' - l = 0 := by omega
        rw [this]; have : 0 ≤ cap' * es := Nat.zero_le _; omega
      · omega

theorem s_slc (hs : SR P N0 μ σ w) (ht : TR μ d t a.tmps) (hn : a.tmps.size = nt) {es : Nat} {x' : Opd} {lo' hi' mx' : Option Opd} (hop : opOk P d nt o.op o.type (.slc es x' lo' hi' mx') = true) (h : evalOp (.slc es x' lo' hi' mx') K t σ k) : OpS P N0 μ σ w (execOp a.eval o) k := by
  have hk : slcv es t (opd t x') lo' hi' mx' k σ := h
  have : ∃ ty x lo hi mx el, o.op = .slice ty x lo hi mx ∧ P.underlying ty = some (.slice el) ∧ sizeT P el = some es ∧ opdOk d nt x x' = true ∧ optOk d nt lo lo' = true ∧ optOk d nt hi hi' = true ∧ optOk d nt mx mx' = true ∧ (mx = none ∨ hi ≠ none) := by
    replace hop : ok_slc P d nt o.op es x' lo' hi' mx' = true := hop
    unfold ok_slc at hop
    split at hop
    · rename_i lo hi mx e
      split at hop
      · rename_i el hel
        simp only [Bool.and_eq_true, beq_iff_eq, Bool.or_eq_true] at hop
        obtain ⟨⟨⟨⟨⟨h1, h2⟩, h3⟩, h4⟩, h5⟩, h6⟩ := hop
        exact ⟨_, _, _, _, _, el, e, sliceElem_spec hel, h1, h2, h3, h4, h5, h6.imp (by cases mx <;> simp) (by cases hi <;> simp)⟩
      · cases hop
    · cases hop
  obtain ⟨ty, x, lo, hi, mx, el, he, hu, hsz, hx, hlo, hhi, hmx, hmh⟩ := this
  have vx := opdOk_VR ht hn hx
  have hr := run_sizeOf (P := P) (w := w) hsz
  generalize opd t x' = v at hk vx
  unfold slcv at hk
  split at hk
  · rename_i b o' len cap fl
    simp only [VR] at vx
    obtain ⟨c, d', o'', cap', hp, vx, hl, ho, h5, h6⟩ := vx
    have key : ∀ l hh M, (bnd t lo' 0 = some l) → (bnd t hi' len = some hh) → (∀ m, mx' = some m → bnd t (some m) 0 = some M) → (mx' = none → M = cap') → l ≤ hh → hh ≤ M → M ≤ cap' → (Instr.sliceBounds true len cap' (lo.map a.eval) (hi.map a.eval) (mx.map a.eval)).run P w = .ok (l, hh, M) w := by
      intro l hh M e1 e2 e3 e4 g1 g2 g3
      refine sliceBounds_run ?_ ?_ ?_ g1 g2 g3
      · cases mx' with
        | none =>
          cases mx with
          | none => exact .inl ⟨rfl, e4 rfl⟩
          | some z => simp [optOk] at hmx
        | some m =>
          rcases bnd_run ht hn hmx (e3 m rfl) with ⟨rfl, _⟩ | ⟨z, kd, rfl, ez⟩
          · simp [optOk] at hmx
          · exact .inr ⟨kd, by simp [ez]⟩
      · rcases bnd_run ht hn hhi e2 with ⟨rfl, rfl⟩ | ⟨z, kd, rfl, ez⟩
        · rcases hmh with rfl | hmh
          · exact .inl ⟨rfl, rfl, rfl⟩
          · exact absurd rfl hmh
        · exact .inr ⟨kd, by simp [ez]⟩
      · rcases bnd_run ht hn hlo e1 with ⟨rfl, rfl⟩ | ⟨z, kd, rfl, ez⟩
        · exact .inl ⟨rfl, rfl⟩
        · exact .inr ⟨kd, by simp [ez]⟩
    split at hk
    · rename_i l hh e1 e2
      obtain ⟨v, M, g1, g2, g3, g4, g5, g6⟩ := slcAt_VR hp ho h5 h6 hk
      rcases g5 with g5 | ⟨_, g5⟩
      · cases g5
      · have hb := key l hh M e1 e2 (fun m e => by cases e) (fun _ => g5) g2 g3 g4
        refine OpS.pure hs g1 g6 ?_
        have hmap : (if M = l then some (⟨c, o'', none⟩ : Addr) else Option.map (fun x => x.add (l * es)) (some (⟨c, o'', none⟩ : Addr))) = some (if M = l then ⟨c, o'', none⟩ else (⟨c, o'', none⟩ : Addr).add (l * es)) := by split <;> rfl
        simp [execOp, he, Instr.sliceAt, Instr.slice, underlying, hu, vx, hb, hr, ← hmap]
    · rename_i l hh m e1 e2
      split at hk
      · rename_i M' e3
        obtain ⟨v, M, g1, g2, g3, g4, g5, g6⟩ := slcAt_VR hp ho h5 h6 hk
        rcases g5 with g5 | ⟨g5, _⟩
        · cases g5
          have hb := key l hh M' e1 e2 (fun m e => by cases e; exact e3) (fun e => by cases e) g2 g3 g4
          refine OpS.pure hs g1 g6 ?_
          have hmap : (if M' = l then some (⟨c, o'', none⟩ : Addr) else Option.map (fun x => x.add (l * es)) (some (⟨c, o'', none⟩ : Addr))) = some (if M' = l then ⟨c, o'', none⟩ else (⟨c, o'', none⟩ : Addr).add (l * es)) := by split <;> rfl
          simp [execOp, he, Instr.sliceAt, Instr.slice, underlying, hu, vx, hb, hr, ← hmap]
        · cases g5
      · cases hk
    · cases hk
  · simp only [VR] at vx
    split at hk
    · rename_i e1 e2 e3
      refine OpS.pure hs hk (cv := .slice none 0 0) (by simp [VR]) ?_
      have hb : (Instr.sliceBounds true 0 0 (lo.map a.eval) (hi.map a.eval) (mx.map a.eval)).run P w = .ok (0, 0, 0) w := by
        refine sliceBounds_run ?_ ?_ ?_ (by omega) (by omega) (by omega)
        · rcases bnd_run ht hn hmx e3 with ⟨rfl, _⟩ | ⟨z, kd, rfl, ez⟩
          · exact .inl ⟨rfl, rfl⟩
          · exact .inr ⟨kd, by simp [ez]⟩
        · rcases bnd_run ht hn hhi e2 with ⟨rfl, _⟩ | ⟨z, kd, rfl, ez⟩
          · rcases hmh with rfl | hmh
            · exact .inl ⟨rfl, rfl, rfl⟩
            · exact absurd rfl hmh
          · exact .inr ⟨kd, by simp [ez]⟩
        · rcases bnd_run ht hn hlo e1 with ⟨rfl, _⟩ | ⟨z, kd, rfl, ez⟩
          · exact .inl ⟨rfl, rfl⟩
          · exact .inr ⟨kd, by simp [ez]⟩
      simp [execOp, he, Instr.sliceAt, Instr.slice, underlying, hu, vx, hb, hr]
    · cases hk
  · cases hk

theorem s_slca (hs : SR P N0 μ σ w) (ht : TR μ d t a.tmps) (hn : a.tmps.size = nt) {n es : Nat} {x' : Opd} {lo' hi' mx' : Option Opd} (hop : opOk P d nt o.op o.type (.slca n es x' lo' hi' mx') = true) (h : evalOp (.slca n es x' lo' hi' mx') K t σ k) : OpS P N0 μ σ w (execOp a.eval o) k := by
  have hk : slcav n es t (opd t x') lo' hi' mx' k σ := h
  have : ∃ ty x lo hi mx el, o.op = .slice ty x lo hi mx ∧ P.underlying ty = some (.array n el) ∧ sizeT P el = some es ∧ opdOk d nt x x' = true ∧ optOk d nt lo lo' = true ∧ optOk d nt hi hi' = true ∧ optOk d nt mx mx' = true ∧ (mx = none ∨ hi ≠ none) := by
    replace hop : ok_slca P d nt o.op n es x' lo' hi' mx' = true := hop
    unfold ok_slca at hop
    split at hop
    · rename_i lo hi mx e
      split at hop
      · rename_i el hel
        simp only [Bool.and_eq_true, beq_iff_eq, Bool.or_eq_true] at hop
        obtain ⟨⟨⟨⟨⟨⟨rfl, h1⟩, h2⟩, h3⟩, h4⟩, h5⟩, h6⟩ := hop
        exact ⟨_, _, _, _, _, _, e, hel, h1, h2, h3, h4, h5, h6.imp (by cases mx <;> simp) (by cases hi <;> simp)⟩
      · cases hop
    · cases hop
  obtain ⟨ty, x, lo, hi, mx, el, he, hu, hsz, hx, hlo, hhi, hmx, hmh⟩ := this
  have vx := opdOk_VR ht hn hx
  have hr := run_sizeOf (P := P) (w := w) hsz
  generalize opd t x' = v at hk vx
  unfold slcav at hk
  split at hk
  · rename_i b o'
    simp only [VR] at vx
    obtain ⟨c, d', hp, vx⟩ := vx
    split at hk
    · rename_i l hh m e1 e2 e3
      split at hk
      · rename_i hmn
        obtain ⟨v, M, g1, g2, g3, g4, g5, g6⟩ := slcAt_VR (o' := o' + d') (cap' := n) hp (.inr rfl) (fun _ => rfl) (fun e he => by cases he) hk
        rcases g5 with g5 | ⟨g5, _⟩
        · cases g5
          have hb : (Instr.sliceBounds false n n (lo.map a.eval) (hi.map a.eval) (mx.map a.eval)).run P w = .ok (l, hh, m) w := by
            refine sliceBounds_run ?_ ?_ ?_ g2 g3 hmn
            · rcases bnd_run ht hn hmx e3 with ⟨rfl, h⟩ | ⟨z, kd, rfl, ez⟩
              · exact .inl ⟨rfl, h⟩
              · exact .inr ⟨kd, by simp [ez]⟩
            · rcases bnd_run ht hn hhi e2 with ⟨rfl, h⟩ | ⟨z, kd, rfl, ez⟩
              · rcases hmh with rfl | hmh
                · exact .inl ⟨rfl, h, rfl⟩
                · exact absurd rfl hmh
              · exact .inr ⟨kd, by simp [ez]⟩
            · rcases bnd_run ht hn hlo e1 with ⟨rfl, h⟩ | ⟨z, kd, rfl, ez⟩
              · exact .inl ⟨rfl, h⟩
              · exact .inr ⟨kd, by simp [ez]⟩
          refine OpS.pure hs g1 g6 ?_
          simp [execOp, he, Instr.sliceAt, Instr.sureAddr, underlying, hu, vx, hb, hr]
        · cases g5
      · cases hk
    · cases hk
  · cases hk

/-! ### structs and arrays -/
def setAtU (us : List Value) (o : Nat) : List Value → List Value
  | [] => us
  | c :: cs => setAtU (us.set o c) (o + 1) cs

theorem setAtU_length : ∀ (cs us : List Value) (o : Nat), (setAtU us o cs).length = us.length
  | [], us, o => rfl
  | c :: cs, us, o => by rw [setAtU, setAtU_length]; simp
theorem setAt_length : ∀ (cs us : List V) (o : Nat), (setAt us o cs).length = us.length
  | [], us, o => rfl
  | c :: cs, us, o => by rw [setAt, setAt_length]; simp

theorem setAt_VRs : ∀ {cs : List V} {us : List Value} (o : Nat) {vs : List V} {ws : List Value}, VRs μ cs us → VRs μ vs ws → VRs μ (setAt vs o cs) (setAtU ws o us)
  | [], us, o, vs, ws, h, h' => by rw [VRs_nil.1 h]; exact h'
  | c :: cs, us, o, vs, ws, h, h' => by
    obtain ⟨x, xs, rfl, hx, h⟩ := VRs_cons.1 h
    exact setAt_VRs (o + 1) h (VRs_set o h' hx)

theorem foldl_setAtU (off : Nat) : ∀ (cs : List Value) (k : Nat) (arr : Array Value), (cs.zipIdx k).foldl (fun cs (x : Value × Nat) => cs.setIfInBounds (off + x.2) x.1) arr = ⟨setAtU arr.toList (off + k) cs⟩
  | [], k, arr => by simp [setAtU]
  | c :: cs, k, arr => by
    rw [List.zipIdx_cons, List.foldl_cons, foldl_setAtU off cs (k + 1)]
    simp [setAtU, Nat.add_assoc]

theorem fill_foldl (off : Nat) (cs arr : Array Value) : cs.zipIdx.foldl (fun cs (x : Value × Nat) => cs.setIfInBounds (off + x.2) x.1) arr = ⟨setAtU arr.toList off cs.toList⟩ := by
  have := foldl_setAtU off cs.toList 0 arr
  rw [Nat.add_zero] at this
  rw [← this, ← Array.foldl_toList, Array.toList_zipIdx]

theorem ones_true {l : List V} (h : ones l = true) : ∀ v ∈ l, v.one = true := by
  induction l with
  | nil => simp
  | cons x l ih =>
    rw [ones_cons, Bool.and_eq_true] at h
    intro v hv
    rcases List.mem_cons.1 hv with rfl | hv
    · exact h.1
    · exact ih h.2 v hv

theorem fill_run {place : Nat → Option (Nat × Nat)} (ht : TR μ d t a.tmps) (hn : a.tmps.size = nt) : ∀ (xs : List (Nat × Operand)) (ys : List (Nat × Nat × Opd)) (zs : List V) (us : List Value) (r : List V),
    bpartsOk P d nt place xs ys = true → VRs μ zs us → fillp t zs ys = some r → ∃ rs, VRs μ r rs ∧ Instr.fill place ⟨us⟩ (xs.map fun (i, x) => (i, a.eval x)) = some ⟨rs⟩
  | [], [], zs, us, r, _, hv, h => by simp only [fillp] at h; cases h; exact ⟨us, hv, rfl⟩
  | [], _ :: _, zs, us, r, h, _, _ => by simp [bpartsOk] at h
  | (i, x) :: xs, [], zs, us, r, h, _, _ => by simp [bpartsOk] at h
  | (i, x) :: xs, (off, size, y) :: ys, zs, us, r, h, hv, hf => by
    simp only [bpartsOk, Bool.and_eq_true, beq_iff_eq] at h
    obtain ⟨⟨h1, h2⟩, h3⟩ := h
    simp only [fillp] at hf
    split at hf
    · rename_i hc
      obtain ⟨c1, c2, c3⟩ := hc
      have hx := opdOk_VR ht hn h2
      have hc := VR_cells hx c3
      have hlen := VRs_length hc
      obtain ⟨rs, g1, g2⟩ := fill_run (place := place) ht hn xs ys _ _ r h3 (setAt_VRs off hc hv) hf
      refine ⟨rs, g1, ?_⟩
      have hul := VRs_length hv
      have e1 : (a.eval x).cells.size = size := by rw [← c1, ← hlen]; simp
      simp only [List.map_cons, Instr.fill, h1]
      rw [if_neg (by simp [e1]; omega), fill_foldl]
      exact g2
    · cases hf

theorem mapM_sizes : ∀ (fs : List Field), sizedF P fs = true → (fs.mapM (fun f => do Pure.pure (f.offset, ← sizeOf f.type) : Field → Sem (Nat × Nat))).run P w = .ok (fs.map fun f => (f.offset, (sizeT P f.type).getD 0)) w
  | [], _ => by simp
  | f :: fs, h => by
    simp only [sizedF, Bool.and_eq_true] at h
    obtain ⟨s, hs⟩ := Option.isSome_iff_exists.1 h.1
    have hr := run_sizeOf (P := P) (w := w) hs
    have ih := mapM_sizes fs h.2
    rw [List.mapM_cons]
    simp only [Sem.run_bind, hr, ih, hs, Result.andThen_ok, Sem.run_pure, List.map_cons, Option.getD_some]

theorem zero_spec {ty : TypeId} {zs : List V} (h : zeroOk (zeroT P ty) zs = true) : ∃ z, (∀ w, (zeroValue ty).run P w = .ok z w) ∧ (∀ μ, VRs μ zs z.cells.toList) := by
  cases e : zeroT P ty with
  | none => rw [e] at h; cases h
  | some z => rw [e] at h; exact ⟨z, fun w => run_zeroValue e, fun μ => cellsOk_VRs h⟩

theorem s_build (hs : SR P N0 μ σ w) (ht : TR μ d t a.tmps) (hn : a.tmps.size = nt) {zs : List V} {qs : List (Nat × Nat × Opd)} (hop : opOk P d nt o.op o.type (.build zs qs) = true) (h : evalOp (.build zs qs) K t σ k) : OpS P N0 μ σ w (execOp a.eval o) k := by
  have hk : gagg (fillp t zs qs) σ k := h
  have : ∃ ty ps, o.op = .build ty ps ∧ zeroOk (zeroT P ty) zs = true ∧ placesOk P ty = true ∧ bpartsOk P d nt (placeT P ty) ps.toList qs = true := by
    replace hop : ok_build P d nt o.op zs qs = true := hop
    unfold ok_build at hop
    split at hop
    · rename_i e; simp only [Bool.and_eq_true] at hop; exact ⟨_, _, e, hop.1.1, hop.1.2, hop.2⟩
    · cases hop
  obtain ⟨ty, ps, he, hz, hpl, hps⟩ := this
  obtain ⟨z, hz1, hz2⟩ := zero_spec hz
  unfold gagg at hk
  split at hk
  · rename_i r hf
    obtain ⟨rs, g1, g2⟩ := fill_run ht hn ps.toList qs zs _ r hps (hz2 μ) hf
    refine OpS.pure hs hk (cv := .agg ⟨rs⟩) (by simp only [VR]; exact ⟨rs, g1, rfl⟩) ?_
    have hparts : (ps.map fun (i, x) => (i, a.eval x)).toList = ps.toList.map fun (i, x) => (i, a.eval x) := by simp
    unfold placesOk at hpl
    split at hpl
    · rename_i fs hu
      have hpl' : placeT P ty = fun i => (fs.toList.map fun f => (f.offset, (sizeT P f.type).getD 0))[i]? := by
        funext i
        simp only [placeT, hu]
        have aux : ∀ (l : List Field), sizedF P l = true → ∀ i : Nat, (l[i]?).bind (fun (f : Field) => (sizeT P f.type).map (f.offset, ·)) = (l.map fun f => (f.offset, (sizeT P f.type).getD 0))[i]? := by
          intro l
          induction l with
          | nil => simp
          | cons f l ih =>
            intro h i
            simp only [sizedF, Bool.and_eq_true] at h
            cases i with
            | zero => obtain ⟨s, hs⟩ := Option.isSome_iff_exists.1 h.1; simp [hs]
            | succ i => simpa using ih h.2 i
        have := aux fs.toList hpl i
        simpa using this
      have hm := mapM_sizes (P := P) (w := w) fs.toList hpl
      have hm' : (fs.mapM (fun f => do Pure.pure (f.offset, ← sizeOf f.type) : Field → Sem (Nat × Nat))).run P w = .ok ⟨fs.toList.map fun f => (f.offset, (sizeT P f.type).getD 0)⟩ w := by
        rw [Array.mapM_eq_mapM_toList, Sem.run_map, hm]; rfl
      rw [hpl'] at g2
      have g3 : Instr.fill (fun i => (⟨fs.toList.map fun f => (f.offset, (sizeT P f.type).getD 0)⟩ : Array (Nat × Nat))[i]?) z.cells (ps.toList.map fun (i, x) => (i, a.eval x)) = some ⟨rs⟩ := by
        rw [← g2]; congr 1; funext i; simp
      rw [show execOp a.eval o = (do Pure.pure (.value (← Instr.build ty (ps.map fun (i, x) => (i, a.eval x))))) by simp [execOp, he]]
      refine run_val ?_
      simp only [Instr.build, Sem.run_bind, hz1, Result.andThen_ok, run_underlying hu, hm', hparts, g3, Sem.run_pure]
    · rename_i n el hu
      obtain ⟨s, hs'⟩ := Option.isSome_iff_exists.1 hpl
      have hr := run_sizeOf (P := P) (w := w) hs'
      have hpl' : placeT P ty = fun i => some (i * s, s) := by funext i; simp [placeT, hu, hs']
      rw [hpl'] at g2
      rw [show execOp a.eval o = (do Pure.pure (.value (← Instr.build ty (ps.map fun (i, x) => (i, a.eval x))))) by simp [execOp, he]]
      refine run_val ?_
      have g3 : Instr.fill (fun i => some (i * s, s)) z.cells (ps.toList.map fun (i, x) => (i, a.eval x)) = some ⟨rs⟩ := g2
      simp only [Instr.build, Sem.run_bind, hz1, Result.andThen_ok, run_underlying hu, hr, hparts, g3, Sem.run_pure]
    · cases hpl
  · cases hk

end
end Go.Proofs.Ytnmkbnejapdnnaa.Ev
