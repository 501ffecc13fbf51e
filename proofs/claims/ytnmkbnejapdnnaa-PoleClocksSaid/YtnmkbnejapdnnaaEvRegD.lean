/-
  Regions of open order: the canonical order goes on; the machine's steps; all together.
-/
import Derived.Test.YtnmkbnejapdnnaaEvRegC
set_option linter.unusedVariables false
set_option maxRecDepth 4000
namespace Go.Proofs.Ytnmkbnejapdnnaa.Ev
open Go

section
variable {P : Program} {N0 : Nat} {K : KT} {d nt : Nat} {ops : Array Oper} {order bef : List Nat} {is : List EI} {μ₀ : Mp} {σ₀ : St} {w₀ : World} {ds : List Deferred} {k : Tr → St → Prop}
variable {p : Nat} {ev : List (Nat × Evt)} {t : Tr} {σ : St} {und : List Pd} {listed : Array Bool} {μ : Mp} {w : World} {a : Act}

theorem isSer_false {op : EOp} (h : isSer op = false) : isLight op ∨ clsOf op = .alloc := by
  unfold isSer at h
  cases hc : clsOf op with
  | pure => exact .inl (.inl hc)
  | read x n => exact .inl (.inr ⟨x, n, hc⟩)
  | alloc => exact .inr rfl
  | serial => rw [hc] at h; cases h
theorem isSer_true {op : EOp} (h : isSer op = true) : clsOf op = .serial := by
  unfold isSer at h
  cases hc : clsOf op <;> rw [hc] at h <;> first | rfl | cases h

theorem hids_skip {it : EI} {v : V} {pk : PK} (h : pk.hid = none) : hids (⟨p, it, v, pk⟩ :: und) = hids und := by simp [hids, h]
theorem hids_new {it : EI} {v : V} {pk : PK} {b : Nat} (h : pk.hid = some b) : hids (⟨p, it, v, pk⟩ :: und) = b :: hids und := by simp [hids, h]

theorem optK_elim {r : Option V} {kk : Cn} (h : optK r kk σ) : ∃ v, r = some v ∧ kk v σ := by
  cases r with
  | none => exact False.elim h
  | some v => exact ⟨v, rfl, h⟩

theorem own_dst (C : RC P d nt ops order bef is) (hd : nt ≤ 16 ^ d) {i m : Nat} {o : Oper} {it : EI} (D : DrawAt P d nt ops.toList order bef is p i m o it) (hs : isSer it.op = false) (v : V) : AgS (it.grd ++ it.op.slots) t (putd it t v) :=
  putd_ag hd D.ok t v (C.slots _ _ D.hit) (fun q hq => (pair_light (C.pair p it p it D.hit D.hit) hs hq).1 rfl)

theorem own_gt (hd : nt ≤ 16 ^ d) {i m : Nat} {o : Oper} {it : EI} (D : DrawAt P d nt ops.toList order bef is p i m o it) (v : V) : ∀ q, it.dst = some q → gt q (putd it t v) = v := by
  intro q hq
  rcases itemOk_dst D.ok with ⟨e, _⟩ | ⟨j, e, _, hj⟩
  · rw [e] at hq; cases hq
  · rw [e] at hq; cases hq
    rw [putd_gt hd D.ok t v (Nat.lt_of_lt_of_le hj hd), if_pos e]

/-- One step of the canonical order. -/
theorem RI.advance (C : RC P d nt ops order bef is) (hd : nt ≤ 16 ^ d) (h : RI P N0 K d nt ops order bef is μ₀ σ₀ w₀ ds k p ev t σ und listed μ w a) {i m : Nat} {o : Oper} {it : EI} (D : DrawAt P d nt ops.toList order bef is p i m o it) (hs : isSer it.op = false) :
    ∃ ev' t' σ' pd, RI P N0 K d nt ops order bef is μ₀ σ₀ w₀ ds k (p + 1) ev' t' σ' (pd :: und) listed μ w a := by
  have hlt : p < ops.size := by have := (List.getElem?_eq_some_iff.1 D.hbef).1; rw [C.lb] at this; exact this
  have hn0 : σ₀.n ≤ σ.n := by have := h.post.n; rw [hide_n] at this; exact this
  rcases gP_elim (h.drop C D) with ⟨hy, hx⟩ | ⟨hno, hx⟩
  · rcases isSer_false hs with hl | hl
    · -- it looks at memory at most
      obtain ⟨R, g1, g2⟩ := light_det hl t
      have key : ∀ ev', (∀ e ∈ ev, e ∈ ev') → (∀ i b, (i, Evt.al b) ∈ ev' → (i, Evt.al b) ∈ ev) → (∀ r n, rdAt it.op t r n → (p, Evt.rd r.1 r.2 n) ∈ ev' ∧ ∀ i b, (i, Evt.al b) ∈ ev → tb m i = true ∨ b ≠ r.1) →
          evalOp it.op K t σ (fun v _ => evalDraw (is.drop (p + 1)) (p + 1) (bef.drop (p + 1)) ev' K (putd it t v) σ k) → ∃ ev' t' σ' pd, RI P N0 K d nt ops order bef is μ₀ σ₀ w₀ ds k (p + 1) ev' t' σ' (pd :: und) listed μ w a := by
        intro ev' hsub hal hrd hx
        have hx' := hx
        rw [g1] at hx
        obtain ⟨v, hR, hx⟩ := optK_elim hx
        refine ⟨ev', putd it t v, σ, ⟨p, it, v, .light R t⟩, h.push C hd D hs hx hsub (Nat.le_refl _) (fun _ _ => rfl) (fun i b hm => .inl (hal i b hm)) (fun _ h => h) ?_ ?_ (fun b hb => by cases hb) ?_⟩
        · rw [hids_skip rfl]; exact h.post
        · exact {
            it := D.hit
            lt := Nat.lt_succ_self p
            ser := hs
            dst := own_gt hd D v
            skip := fun e => by cases e
            light := fun R' t0 e => by
              cases e
              exact ⟨gYes_ag (own_dst C hd D hs v).l hy, (own_dst C hd D hs v).r, g1, g2, hR, fun r n hr => ⟨(hrd r n hr).1, by
                obtain ⟨x, hc, hv⟩ := hr; exact read_lt hc hv hx'⟩⟩
            new := fun b mk ob t0 e => by cases e }
        · intro R' t0 e r n hr
          cases e
          refine ⟨by obtain ⟨x, hc, hv⟩ := hr; exact read_lt hc hv hx', fun pd' hpd' hb => ?_⟩
          cases hpk : pd'.pk with
          | skip => rw [hpk] at hb; cases hb
          | light R t0 => rw [hpk] at hb; cases hb
          | new b' mk ob t0 =>
            rw [hpk] at hb; cases hb
            rcases (hrd r n hr).2 _ _ ((h.hund pd' hpd').new _ _ _ _ hpk).2.2.2.2.2.1 with h1 | h1
            · exact h1
            · exact absurd rfl h1
      rcases hl with hc | ⟨x, n, hc⟩
      · have hx : evalOp it.op K t σ (fun v _ => evalDraw (is.drop (p + 1)) (p + 1) (bef.drop (p + 1)) ev K (putd it t v) σ k) := by
          unfold dOp at hx; rw [hc] at hx; exact hx
        exact key ev (fun _ h => h) (fun _ _ h => h) (fun r n' hr => by obtain ⟨x', hc', _⟩ := hr; rw [hc] at hc'; cases hc') hx
      · unfold dOp at hx; rw [hc] at hx; dsimp only at hx
        cases hv : vblk (opd t x) with
        | none =>
          rw [hv] at hx
          exact key ev (fun _ h => h) (fun _ _ h => h) (fun r n' hr => by obtain ⟨x', hc', hv'⟩ := hr; rw [hc] at hc'; cases hc'; rw [hv] at hv'; cases hv') hx
        | some r =>
          rw [hv] at hx
          obtain ⟨ho, hx⟩ := boolRecP_elim hx
          refine key ((p, .rd r.1 r.2 n) :: ev) (fun _ h => List.mem_cons_of_mem _ h) (fun i b hm => ?_) (fun r' n' hr => ?_) hx
          · rcases List.mem_cons.1 hm with hm | hm
            · cases hm
            · exact hm
          · obtain ⟨x', hc', hv'⟩ := hr
            rw [hc] at hc'; cases hc'; rw [hv] at hv'; cases hv'
            exact ⟨by simp, okRd_spec ho⟩
    · -- it makes a block
      have hx : evalOp it.op K t σ (fun v σ' => evalDraw (is.drop (p + 1)) (p + 1) (bef.drop (p + 1)) ((p, .al σ.n) :: ev) K (putd it t v) σ' k) := by
        unfold dOp at hx; rw [hl] at hx; exact hx
      obtain ⟨mk, ob, hx, hnew⟩ := alloc_det hl hx
      refine ⟨_, putd it t (mk σ.n), σ.add ob, ⟨p, it, mk σ.n, .new σ.n mk ob t⟩, h.push C hd D hs hx (fun _ h => List.mem_cons_of_mem _ h) (by rw [n_add]; omega) (fun b hb => by rw [get_add, if_neg (by omega)]) (fun i b hm => ?_) (fun b hb => ?_) ?_ ?_ (fun b hb => ?_) (fun R t0 e => by cases e)⟩
      · rcases List.mem_cons.1 hm with hm | hm
        · cases hm; exact .inr ⟨hn0, by rw [get_add, if_pos rfl]; rfl⟩
        · exact .inl hm
      · rw [get_add]; split
        · rfl
        · exact hb
      · rw [hids_new (b := σ.n) rfl]
        refine h.post.dead.see (by rw [hide_n, n_add, n_add, hide_n]) (by rw [hide_base]; show σ.base = (σ.hide (hids und)).base; rw [hide_base]) (fun x => by rw [hide_mods]; show x ∈ σ.mods ↔ x ∈ (σ.hide (hids und)).mods; rw [hide_mods]) (fun b => ?_)
        rw [hide_get, get_add, get_add, hide_n, hide_get]
        by_cases hb : b = σ.n
        · subst hb; simp
        · simp [hb]
      · exact {
          it := D.hit
          lt := Nat.lt_succ_self p
          ser := hs
          dst := own_gt hd D _
          skip := fun e => by cases e
          light := fun R' t0 e => by cases e
          new := fun b mk' ob' t0 e => by
            cases e
            exact ⟨gYes_ag (own_dst C hd D hs _).l hy, (own_dst C hd D hs _).r, rfl, by rw [get_add, if_pos rfl], hn0, by simp, fun ha ht hn hop => hnew ha ht hn hop⟩ }
      · cases hb
        refine ⟨fun hm => ?_, h.post.sr.upto σ.n (by rw [hide_n]; exact Nat.le_refl _), Nat.le_refl _⟩
        obtain ⟨pd, hpd, e⟩ := mem_hids.1 hm
        cases hpk : pd.pk with
        | skip => rw [hpk] at e; cases e
        | light R t0 => rw [hpk] at e; cases e
        | new b' mk' ob' t0 =>
          rw [hpk] at e; cases e
          have := get_lt ((h.hund pd hpd).new _ _ _ _ hpk).2.2.2.1
          omega
  · -- it is not wanted
    refine ⟨ev, putd it t (.tup []), σ, ⟨p, it, .tup [], .skip⟩, h.push C hd D hs hx (fun _ h => h) (Nat.le_refl _) (fun _ _ => rfl) (fun i b hm => .inl hm) (fun _ h => h) ?_ ?_ (fun b hb => by cases hb) (fun R t0 e => by cases e)⟩
    · rw [hids_skip rfl]; exact h.post
    · exact {
        it := D.hit
        lt := Nat.lt_succ_self p
        ser := hs
        dst := own_gt hd D _
        skip := fun _ => ⟨gNo_ag (own_dst C hd D hs _).l hno, rfl⟩
        light := fun R' t0 e => by cases e
        new := fun b mk ob t0 e => by cases e }

/-- As far as it goes. -/
theorem RI.advances (C : RC P d nt ops order bef is) (hd : nt ≤ 16 ^ d) : ∀ (f : Nat) {p : Nat} {ev : List (Nat × Evt)} {t : Tr} {σ : St} {und : List Pd}, ops.size - p = f → RI P N0 K d nt ops order bef is μ₀ σ₀ w₀ ds k p ev t σ und listed μ w a →
    ∃ p' ev' t' σ' und', RI P N0 K d nt ops order bef is μ₀ σ₀ w₀ ds k p' ev' t' σ' und' listed μ w a ∧ (p' = ops.size ∨ ∃ i m o it, DrawAt P d nt ops.toList order bef is p' i m o it ∧ isSer it.op = true) ∧ (ops.size - p') + und'.length = (ops.size - p) + und.length
  | 0, p, ev, t, σ, und, hf, h => ⟨p, ev, t, σ, und, h, .inl (by have := h.hp; omega), rfl⟩
  | f + 1, p, ev, t, σ, und, hf, h => by
    obtain ⟨i, m, o, it, D⟩ := C.at' p (by omega)
    cases hs : isSer it.op with
    | true => exact ⟨p, ev, t, σ, und, h, .inr ⟨i, m, o, it, D, hs⟩, rfl⟩
    | false =>
      obtain ⟨ev', t', σ', pd, h'⟩ := h.advance C hd D hs
      obtain ⟨p', ev'', t'', σ'', und'', g1, g2, g3⟩ := RI.advances C hd f (by omega) h'
      refine ⟨p', ev'', t'', σ'', und'', g1, g2, ?_⟩
      rw [g3, List.length_cons]; omega

/-! ### the machine's steps -/
/-- The slots that are not known yet. -/
def dsts (und : List Pd) : List Pth := und.filterMap fun pd => pd.it.dst

theorem mem_dsts {q : Pth} : q ∈ dsts und ↔ ∃ pd ∈ und, pd.it.dst = some q := by simp [dsts]

theorem RI.dform (C : RC P d nt ops order bef is) (h : RI P N0 K d nt ops order bef is μ₀ σ₀ w₀ ds k p ev t σ und listed μ w a) : ∀ q ∈ dsts und, ∃ i, q = pth d i ∧ i < nt := by
  intro q hq
  obtain ⟨pd, hpd, e⟩ := mem_dsts.1 hq
  have hok := h.hund pd hpd
  obtain ⟨i', m', o', it', D'⟩ := C.at' pd.j (Nat.lt_of_lt_of_le hok.lt h.hp)
  have e' := D'.hit; rw [hok.it] at e'; cases e'
  rcases itemOk_dst D'.ok with ⟨e2, _⟩ | ⟨j, e2, _, hj⟩
  · rw [e2] at e; cases e
  · rw [e2] at e; cases e; exact ⟨j, rfl, hj⟩

/-- What the machine's slots say while some are not known. -/
theorem RI.tre (C : RC P d nt ops order bef is) (hd : nt ≤ 16 ^ d) (h : RI P N0 K d nt ops order bef is μ₀ σ₀ w₀ ds k p ev t σ und listed μ w a) : TR μ d (er (dsts und) t) a.tmps := by
  intro i v hv
  have hi : i < nt := by have := (Array.getElem?_eq_some_iff.1 hv).1; rw [h.size] at this; exact this
  rw [gt_er hd _ (h.dform C) i (Nat.lt_of_lt_of_le hi hd)]
  by_cases hm : pth d i ∈ dsts und
  · rw [if_pos hm]; simp [VR]
  · rw [if_neg hm]
    have := h.tr i hi (fun pd hpd e => hm (mem_dsts.2 ⟨pd, hpd, e⟩))
    have hg : a.tmps.getD i undef = v := by simp [Array.getD, (Array.getElem?_eq_some_iff.1 hv).1]; exact (Array.getElem?_eq_some_iff.1 hv).2
    rwa [hg] at this

/-- What is looked at by an operation whose mask is done is known. -/
theorem RI.known (C : RC P d nt ops order bef is) (hd : nt ≤ 16 ^ d) (h : RI P N0 K d nt ops order bef is μ₀ σ₀ w₀ ds k p ev t σ und listed μ w a) {j : Nat} {it : EI} (hit : is[j]? = some it)
    (hown : ∀ q, it.dst = some q → (∃ pd ∈ und, pd.j = j) → q ∉ it.grd ++ it.op.slots) (hm : ∀ q, tb (bef.getD j 0) q = true → q < p ∧ ∀ pd ∈ und, pd.j ≠ q) : ∀ q ∈ it.grd ++ it.op.slots, q ∉ dsts und := by
  intro q hq hqd
  obtain ⟨pd, hpd, e⟩ := mem_dsts.1 hqd
  have hok := h.hund pd hpd
  have hpr := C.pair pd.j pd.it j it hok.it hit
  by_cases hj : j = pd.j
  · subst hj
    have : it = pd.it := by have := hok.it; rw [hit] at this; cases this; rfl
    subst this
    exact hown q e ⟨pd, hpd, rfl⟩ hq
  · have := (hm pd.j (((pair_light hpr hok.ser e).2 hj).2 hq)).2 pd hpd
    exact this rfl

theorem getD_set {listed : Array Bool} {i j : Nat} (h : i < listed.size) : (listed.setIfInBounds i true).getD j false = if j = i then true else listed.getD j false := by
  by_cases e : j = i
  · subst e; rw [if_pos rfl]; simp [Array.getD, h]
  · rw [if_neg e]
    simp [Array.getD, Array.size_setIfInBounds]
    split
    · rw [Array.getElem_setIfInBounds_ne _ (Ne.symm e)]
    · rfl

end
end Go.Proofs.Ytnmkbnejapdnnaa.Ev
