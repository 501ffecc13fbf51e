/-
  Regions of open order: the machine's steps; all together.
-/
import Derived.Test.YtnmkbnejapdnnaaEvRegD
set_option linter.unusedVariables false
set_option maxRecDepth 4000
namespace Go.Proofs.Ytnmkbnejapdnnaa.Ev
open Go

theorem nodup_mid {α : Type} {l₁ l₂ : List α} {a : α} : (l₁ ++ a :: l₂).Nodup ↔ (a :: (l₁ ++ l₂)).Nodup := List.perm_middle.nodup_iff

section
variable {P : Program} {N0 : Nat} {K : KT} {d nt : Nat} {ops : Array Oper} {order bef : List Nat} {is : List EI} {μ₀ : Mp} {σ₀ : St} {w₀ : World} {ds : List Deferred} {k : Tr → St → Prop}
variable {p : Nat} {ev : List (Nat × Evt)} {t : Tr} {σ : St} {und l₁ l₂ : List Pd} {listed : Array Bool} {μ μ' : Mp} {w w' : World} {a : Act} {pd : Pd}

theorem put_getD {o : Oper} {cv : Value} (hn : a.tmps.size = nt) {i : Nat} (hi : i < nt) : (a.put o.dst cv).tmps.getD i undef = if o.dst = some i then cv else a.tmps.getD i undef := by
  cases ho : o.dst with
  | none => rfl
  | some j =>
    show (a.tmps.setIfInBounds j cv).getD i undef = _
    have h1 : i < a.tmps.size := by rw [hn]; exact hi
    by_cases e : j = i
    · subst e; rw [if_pos rfl]; simp [Array.getD, h1]
    · rw [if_neg (by simpa using e)]
      simp [Array.getD, h1, Array.getElem_setIfInBounds_ne _ e]

theorem put_slot (hd : nt ≤ 16 ^ d) {L : List Oper} {o : Oper} {it : EI} (hi : itemOk P d nt L o it = true) {i : Nat} (h : i < nt) : o.dst = some i ↔ it.dst = some (pth d i) := by
  rcases itemOk_dst hi with ⟨e1, e2⟩ | ⟨j, e1, e2, hj⟩
  · rw [e1, e2]; simp
  · rw [e1, e2]
    constructor
    · intro e; cases e; rfl
    · intro e
      simp only [Option.some.injEq] at e
      rw [pth_inj hd (Nat.lt_of_lt_of_le hj hd) (Nat.lt_of_lt_of_le h hd) e]

/-- The machine has done one that was not done. -/
theorem RI.pop (C : RC P d nt ops order bef is) (hd : nt ≤ 16 ^ d) (h : RI P N0 K d nt ops order bef is μ₀ σ₀ w₀ ds k p ev t σ (l₁ ++ pd :: l₂) listed μ w a) {i m : Nat} {o : Oper} {it : EI} (D : DrawAt P d nt ops.toList order bef is pd.j i m o it)
    (hm : ∀ q, tb (bef.getD pd.j 0) q = true → q < p ∧ ∀ pd' ∈ l₁ ++ pd :: l₂, pd'.j ≠ q) {cv : Value} (hpost : Post P N0 μ₀ σ₀ w₀ μ' (σ.hide (hids (l₁ ++ l₂))) w') (hle : μ.le μ') (hun : ∀ b ∈ hids (l₁ ++ l₂), μ'.pl b = none) (hcv : VR μ' pd.v cv) :
    RI P N0 K d nt ops order bef is μ₀ σ₀ w₀ ds k p ev t σ (l₁ ++ l₂) (listed.setIfInBounds i true) μ' w' (a.put o.dst cv) := by
  have hsub : ∀ x ∈ l₁ ++ l₂, x ∈ l₁ ++ pd :: l₂ := fun x hx => by
    rcases List.mem_append.1 hx with h | h
    · exact List.mem_append.2 (.inl h)
    · exact List.mem_append.2 (.inr (List.mem_cons_of_mem _ h))
  have hmem : pd ∈ l₁ ++ pd :: l₂ := by simp
  have hcase : ∀ x ∈ l₁ ++ pd :: l₂, x = pd ∨ x ∈ l₁ ++ l₂ := fun x hx => by
    rcases List.mem_append.1 hx with h | h
    · exact .inr (List.mem_append.2 (.inl h))
    · rcases List.mem_cons.1 h with h | h
      · exact .inl h
      · exact .inr (List.mem_append.2 (.inr h))
  have hok := h.hund pd hmem
  have hit : it = pd.it := by have := D.hit; rw [hok.it] at this; cases this; rfl
  subst hit
  have hnj : ∀ x ∈ l₁ ++ l₂, x.j ≠ pd.j := by
    have := h.nodup
    rw [List.map_append, List.map_cons] at this
    have h2 := nodup_mid.1 this
    rw [List.nodup_cons] at h2
    intro x hx e
    apply h2.1
    rw [← List.map_append]
    exact List.mem_map.2 ⟨x, hx, e⟩
  have hlt : i < listed.size := by rw [h.lsize]; exact C.ord.lt D.hord
  exact {
    hp := h.hp
    eval := h.eval
    post := hpost
    tr := fun i' hi' hno => by
      rw [put_getD h.size hi']
      by_cases e : o.dst = some i'
      · rw [if_pos e]
        have e2 := (put_slot hd D.ok hi').1 e
        rw [hok.dst _ e2]; exact hcv
      · rw [if_neg e]
        refine (h.tr i' hi' (fun x hx => ?_)).mono hle
        rcases hcase x hx with rfl | hx
        · exact fun e2 => e ((put_slot hd D.ok hi').2 e2)
        · exact hno x hx
    size := by rw [put_size]; exact h.size
    defers := by rw [put_defers]; exact h.defers
    lsize := by rw [Array.size_setIfInBounds]; exact h.lsize
    hlst := fun j i' hj => by
      rw [getD_set hlt]
      by_cases e : i' = i
      · subst e
        rw [if_pos rfl]
        have := C.ord.inj hj D.hord
        subst this
        exact ⟨fun _ => ⟨hok.lt, hnj⟩, fun _ => rfl⟩
      · rw [if_neg e, h.hlst j i' hj]
        have hjj : j ≠ pd.j := by rintro rfl; rw [D.hord] at hj; cases hj; exact e rfl
        constructor
        · rintro ⟨g1, g2⟩; exact ⟨g1, fun x hx => g2 x (hsub x hx)⟩
        · rintro ⟨g1, g2⟩
          refine ⟨g1, fun x hx => ?_⟩
          rcases hcase x hx with rfl | hx
          · exact hjj.symm
          · exact g2 x hx
    hund := fun x hx => h.hund x (hsub x hx)
    nodup := by
      have := h.nodup
      rw [List.map_append, List.map_cons] at this
      have h2 := nodup_mid.1 this
      rw [List.nodup_cons] at h2
      rw [List.map_append]; exact h2.2
    hnodup := by
      have := h.hnodup
      unfold hids at this ⊢
      rw [List.filterMap_append, List.filterMap_cons] at this
      rw [List.filterMap_append]
      split at this
      · exact this
      · exact (List.nodup_cons.1 (nodup_mid.1 this)).2
    unpl := hun
    cross := fun x hx R t0 e r n hrd y hy hb => h.cross x (hsub x hx) R t0 e r n hrd y (hsub y hy) hb
    evs := h.evs
    closed := fun j hj hno q hq => by
      by_cases e : j = pd.j
      · subst e
        obtain ⟨g1, g2⟩ := hm q hq
        exact ⟨g1, fun x hx => g2 x (hsub x hx)⟩
      · obtain ⟨g1, g2⟩ := h.closed j hj (fun x hx => by
          rcases hcase x hx with rfl | hx
          · exact Ne.symm e
          · exact hno x hx) q hq
        exact ⟨g1, fun x hx => g2 x (hsub x hx)⟩ }

/-- The machine does one that was not done. -/
theorem RI.exec (hK : KOk P N0 K) (C : RC P d nt ops order bef is) (hd : nt ≤ 16 ^ d) (h : RI P N0 K d nt ops order bef is μ₀ σ₀ w₀ ds k p ev t σ (l₁ ++ pd :: l₂) listed μ w a) {i m : Nat} {o : Oper} {it : EI} (D : DrawAt P d nt ops.toList order bef is pd.j i m o it)
    (hm : ∀ q, tb (bef.getD pd.j 0) q = true → q < p ∧ ∀ pd' ∈ l₁ ++ pd :: l₂, pd'.j ≠ q) :
    ∃ μ' w' a', RI P N0 K d nt ops order bef is μ₀ σ₀ w₀ ds k p ev t σ (l₁ ++ l₂) (listed.setIfInBounds i true) μ' w' a' ∧
      ∀ (b : Frame) (kk : List Item) (cs : List Frame) (rest : List Nat), Steps P (lone (b.atR a (.inRegion ops (i :: rest) :: kk)) cs w) (lone (b.atR a' (.inRegion ops rest :: kk)) cs w') := by
  have hmem : pd ∈ l₁ ++ pd :: l₂ := by simp
  have hok := h.hund pd hmem
  have hit : it = pd.it := by have := D.hit; rw [hok.it] at this; cases this; rfl
  subst hit
  have hop : ops[i]? = some o := by have := D.hop; simpa using this
  have hkn := h.known C hd D.hit (fun q hq _ => (pair_light (C.pair _ _ _ _ D.hit D.hit) hok.ser hq).1 rfl) hm
  have hag : AgS (pd.it.grd ++ pd.it.op.slots) t (er (dsts (l₁ ++ pd :: l₂)) t) := ag_er hd (C.slots _ _ D.hit) (h.dform C) hkn
  have htr := h.tre C hd
  have hgv : ∀ c ∈ pd.it.grd, ∀ i, i < nt → c = pth d i → VR μ (gt c t) (a.tmps.getD i undef) := by
    intro c hc i' hi' e
    subst e
    refine h.tr i' hi' (fun x hx e => ?_)
    exact hkn _ (List.mem_append.2 (.inl hc)) (mem_dsts.2 ⟨x, hx, e⟩)
  obtain ⟨w1, w2⟩ := wanted_item D.ok h.size hgv
  have hskip : pd.pk.hid = none → hids (l₁ ++ pd :: l₂) = hids (l₁ ++ l₂) := fun e => by simp [hids, e]
  cases hpk : pd.pk with
  | skip =>
    obtain ⟨g1, g2⟩ := hok.skip hpk
    have hh := hskip (by rw [hpk]; rfl)
    exact ⟨μ, w, a.put o.dst undef, h.pop C hd D hm (by rw [← hh]; exact h.post) (Mp.le.refl _) (by rw [← hh]; exact h.unpl) (by rw [g2]; exact VR_undef), fun b kk cs rest => skip_steps hop (w2 g1)⟩
  | light R t0 =>
    obtain ⟨g1, g2, g3, g4, g5, g6⟩ := hok.light R t0 hpk
    have hh := hskip (by rw [hpk]; rfl)
    have hsame : R (σ.hide (hids (l₁ ++ pd :: l₂))) = some pd.v := by
      rw [← g5]
      refine (g4 _ _ ?_).symm
      unfold SameFor
      split
      · rename_i x n hc
        unfold SameAt
        split
        · rename_i b o' hv
          left
          rw [hide_of]
          intro hb
          obtain ⟨pd', hpd', e⟩ := mem_hids.1 hb
          have := h.cross pd hmem R t0 hpk (b, o') n ⟨x, hc, hv⟩ pd' hpd' e
          exact (hm _ this).2 pd' hpd' rfl
        · trivial
      · trivial
    have hev : evalOp pd.it.op K (er (dsts (l₁ ++ pd :: l₂)) t) (σ.hide (hids (l₁ ++ pd :: l₂))) (fun v' σ' => v' = pd.v ∧ σ' = σ.hide (hids (l₁ ++ pd :: l₂))) := by
      rw [← evalOp_ag (g2.trans hag.r), g3, hsame]
      exact ⟨rfl, rfl⟩
    obtain ⟨v', σ', μ', w', cv, ⟨rfl, rfl⟩, q1, q2, q3⟩ := op_sound hK h.post.sr htr h.size (itemOk_op D.ok) hev
    refine ⟨μ', w', a.put o.dst cv, h.pop C hd D hm ?_ (h.post.sr.upto.le q1.agree) ?_ q2, fun b kk cs rest => op_steps hop (w1 g1) q3⟩
    · rw [← hh]; exact h.post.trans q1
    · rw [← hh]
      intro b hb
      obtain ⟨pd', hpd', e⟩ := mem_hids.1 hb
      have hbn : b < σ.n := by
        cases hpk' : pd'.pk with
        | skip => rw [hpk'] at e; cases e
        | light R t0 => rw [hpk'] at e; cases e
        | new b' mk ob t0 => rw [hpk'] at e; cases e; exact get_lt ((h.hund pd' hpd').new _ _ _ _ hpk').2.2.2.1
      rw [q1.agree.pl b (by rw [hide_n]; exact hbn)]
      exact h.unpl b hb
  | new b mk ob t0 =>
    obtain ⟨g1, g2, g3, g4, g5, g6, g7⟩ := hok.new b mk ob t0 hpk
    obtain ⟨x, sz, cv, w', f1, f2, f3, f4, f5, f6, f7⟩ := g7 (μ := μ) (w := w) (g2.trans hag.r) htr h.size (itemOk_op D.ok)
    have hbm : b ∈ hids (l₁ ++ pd :: l₂) := mem_hids.2 ⟨pd, hmem, by rw [hpk]; rfl⟩
    have hpb := h.unpl b hbm
    have hnb : b ∉ hids (l₁ ++ l₂) := by
      have := h.hnodup
      unfold hids at this ⊢
      rw [List.filterMap_append, List.filterMap_cons, hpk] at this
      have h2 := nodup_mid.1 this
      rw [← List.filterMap_append] at h2
      exact (List.nodup_cons.1 h2).1
    have hcase : ∀ c, c ∈ hids (l₁ ++ pd :: l₂) ↔ c = b ∨ c ∈ hids (l₁ ++ l₂) := by
      intro c
      unfold hids
      rw [List.filterMap_append, List.filterMap_cons, hpk, List.filterMap_append]
      simp only [PK.hid, List.mem_append, List.mem_cons]
      constructor
      · rintro (h | h | h)
        · exact .inr (.inl h)
        · exact .inl h
        · exact .inr (.inr h)
      · rintro (h | h | h)
        · exact .inr (.inl h)
        · exact .inl h
        · exact .inr (.inr h)
    have hsome : (σ.get b).isSome = true := by rw [g4]; rfl
    obtain ⟨q1, q2⟩ := h.post.fill (b := b) (o := ob) (x := x) (w' := w') (σ' := σ.hide (hids (l₁ ++ l₂))) (by rw [hide_get, if_pos ⟨hbm, hsome⟩]) hpb g5 sz f1 f2 f3 f4 f5
      (f7 _ b ⟨fun b' y e => by rw [Mp.new_pl_ne μ (by rintro rfl; rw [hpb] at e; cases e)]; exact e, fun b' c d' e => by
        have := h.post.sr.plc b' c d' e
        simp only [Mp.new]; rw [if_neg (by omega)]⟩ (Mp.new_pl _ _ _ _ _) (Mp.new_sz _ _ _ _ _)).1
      (by rw [hide_n, hide_n]) (by rw [hide_base, hide_base]) (fun y => by rw [hide_mods, hide_mods]) (fun c => by
        by_cases e : c = b
        · subst e; rw [if_pos rfl, hide_of hnb, g4]
        · rw [if_neg e, hide_get, hide_get]
          by_cases e2 : c ∈ hids (l₁ ++ l₂)
          · simp [e2, (hcase c).2 (.inr e2)]
          · have e3 : c ∉ hids (l₁ ++ pd :: l₂) := fun hc => by
              rcases (hcase c).1 hc with rfl | hc
              · exact e rfl
              · exact e2 hc
            simp [e2, e3])
    refine ⟨_, w', a.put o.dst cv, h.pop C hd D hm q1 q2 (fun c hc => ?_) ?_, fun b' kk cs rest => op_steps hop (w1 g1) (.value f6)⟩
    · rw [Mp.new_pl_ne μ (by rintro rfl; exact hnb hc)]
      exact h.unpl c ((hcase c).2 (.inr hc))
    · rw [g3]
      exact (f7 _ b q2 (Mp.new_pl _ _ _ _ _) (Mp.new_sz _ _ _ _ _)).2

/-- Behind a serial operation. -/
theorem RI.ser (C : RC P d nt ops order bef is) (hd : nt ≤ 16 ^ d) (h : RI P N0 K d nt ops order bef is μ₀ σ₀ w₀ ds k p ev t σ und listed μ w a) {i m : Nat} {o : Oper} {it : EI} (D : DrawAt P d nt ops.toList order bef is p i m o it) (hs : isSer it.op = true)
    (hm : ∀ q, tb (bef.getD p 0) q = true → q < p ∧ ∀ pd' ∈ und, pd'.j ≠ q) {v : V} {cv : Value} {ev' : List (Nat × Evt)} {σ' : St}
    (hev : evalDraw (is.drop (p + 1)) (p + 1) (bef.drop (p + 1)) ev' K (putd it t v) σ' k) (hsub : ∀ e ∈ ev, e ∈ ev') (hal : ∀ i b, (i, Evt.al b) ∈ ev' → (i, Evt.al b) ∈ ev) (hn : σ.n ≤ σ'.n)
    (hkeys : ∀ b, (σ.get b).isSome = true → (σ'.get b).isSome = true) (hpost : Post P N0 μ₀ σ₀ w₀ μ' (σ'.hide (hids und)) w') (hle : μ.le μ') (hun : ∀ b ∈ hids und, μ'.pl b = none) (hcv : VR μ' v cv)
    (hr : ∀ pd ∈ und, ∀ R t0, pd.pk = .light R t0 → ∀ r n, rdAt pd.it.op t0 r n → σ.get r.1 = σ'.get r.1 ∨ segSame σ σ' r.1 r.2 n = true) (hb : ∀ b ∈ hids und, σ'.get b = σ.get b) :
    RI P N0 K d nt ops order bef is μ₀ σ₀ w₀ ds k (p + 1) ev' (putd it t v) σ' und (listed.setIfInBounds i true) μ' w' (a.put o.dst cv) := by
  have hpn : p < ops.size := by have := (List.getElem?_eq_some_iff.1 D.hbef).1; rw [C.lb] at this; exact this
  have hlt : i < listed.size := by rw [h.lsize]; exact C.ord.lt D.hord
  have hsafe : ∀ q, it.dst = some q → ∀ pd ∈ und, pd.it.dst ≠ some q ∧ q ∉ pd.it.grd ++ pd.it.op.slots := by
    intro q hq pd hpd
    have hok := h.hund pd hpd
    rcases (pair_ser (C.pair p it pd.j pd.it D.hit hok.it) hs).2 q hq with h1 | h1 | h1 | h1
    · have := hok.lt; omega
    · exact h1
    · have := C.maskLt pd.j (Nat.lt_of_lt_of_le hok.lt h.hp) p h1
      have := hok.lt; omega
    · exact absurd rfl ((hm _ h1).2 pd hpd)
  have hbes := h.beside C hd D hsafe v
  exact {
    hp := hpn
    eval := hev
    post := hpost
    tr := fun i' hi' hno => by
      rw [putd_gt hd D.ok t v (Nat.lt_of_lt_of_le hi' hd), put_getD h.size hi']
      by_cases e : o.dst = some i'
      · rw [if_pos e, if_pos ((put_slot hd D.ok hi').1 e)]; exact hcv
      · rw [if_neg e, if_neg (fun e2 => e ((put_slot hd D.ok hi').2 e2))]
        exact (h.tr i' hi' hno).mono hle
    size := by rw [put_size]; exact h.size
    defers := by rw [put_defers]; exact h.defers
    lsize := by rw [Array.size_setIfInBounds]; exact h.lsize
    hlst := fun j i' hj => by
      rw [getD_set hlt]
      by_cases e : i' = i
      · subst e
        rw [if_pos rfl]
        have := C.ord.inj hj D.hord
        subst this
        exact ⟨fun _ => ⟨by omega, fun pd hpd => by have := (h.hund pd hpd).lt; omega⟩, fun _ => rfl⟩
      · rw [if_neg e, h.hlst j i' hj]
        have hjj : j ≠ p := by rintro rfl; rw [D.hord] at hj; cases hj; exact e rfl
        constructor
        · rintro ⟨g1, g2⟩; exact ⟨by omega, g2⟩
        · rintro ⟨g1, g2⟩; exact ⟨by omega, g2⟩
    hund := fun pd hpd => (h.hund pd hpd).go (by omega) hsub (hbes pd hpd).1 (hbes pd hpd).2 hn (hr pd hpd) (fun b e => hb b (mem_hids.2 ⟨pd, hpd, e⟩))
    nodup := h.nodup
    hnodup := h.hnodup
    unpl := hun
    cross := h.cross
    evs := fun i' b hmem => ⟨(h.evs i' b (hal i' b hmem)).1, hkeys b (h.evs i' b (hal i' b hmem)).2⟩
    closed := fun j hj hno q hq => by
      by_cases e : j = p
      · subst e
        obtain ⟨g1, g2⟩ := hm q hq
        exact ⟨by omega, g2⟩
      · obtain ⟨g1, g2⟩ := h.closed j (by omega) hno q hq
        exact ⟨by omega, g2⟩ }

theorem segSame_get {σ τ τ' : St} {r o : Nat} {n : Option Nat} (h : segSame σ τ r o n = true) (e : τ'.get r = τ.get r) : segSame σ τ' r o n = true := by
  unfold segSame at h ⊢; rw [e]; exact h

/-- The machine does the next serial one. -/
theorem RI.serial (hK : KOk P N0 K) (C : RC P d nt ops order bef is) (hd : nt ≤ 16 ^ d) (h : RI P N0 K d nt ops order bef is μ₀ σ₀ w₀ ds k p ev t σ und listed μ w a) {i m : Nat} {o : Oper} {it : EI} (D : DrawAt P d nt ops.toList order bef is p i m o it) (hs : isSer it.op = true)
    (hm : ∀ q, tb (bef.getD p 0) q = true → q < p ∧ ∀ pd' ∈ und, pd'.j ≠ q) :
    ∃ ev' t' σ' μ' w' a', RI P N0 K d nt ops order bef is μ₀ σ₀ w₀ ds k (p + 1) ev' t' σ' und (listed.setIfInBounds i true) μ' w' a' ∧
      ∀ (b : Frame) (kk : List Item) (cs : List Frame) (rest : List Nat), Steps P (lone (b.atR a (.inRegion ops (i :: rest) :: kk)) cs w) (lone (b.atR a' (.inRegion ops rest :: kk)) cs w') := by
  have hop : ops[i]? = some o := by have := D.hop; simpa using this
  have hkn := h.known C hd D.hit (fun q hq ⟨pd, hpd, e⟩ => by have := (h.hund pd hpd).lt; omega) hm
  have hag : AgS (it.grd ++ it.op.slots) t (er (dsts und) t) := ag_er hd (C.slots _ _ D.hit) (h.dform C) hkn
  have hgv : ∀ c ∈ it.grd, ∀ i, i < nt → c = pth d i → VR μ (gt c t) (a.tmps.getD i undef) := by
    intro c hc i' hi' e
    subst e
    refine h.tr i' hi' (fun x hx e => ?_)
    exact hkn _ (List.mem_append.2 (.inl hc)) (mem_dsts.2 ⟨x, hx, e⟩)
  obtain ⟨w1, w2⟩ := wanted_item D.ok h.size hgv
  have hmb : bef.getD p 0 = m := getD_of D.hbef
  rcases gP_elim (h.drop C D) with ⟨hy, hx⟩ | ⟨hno, hx⟩
  · unfold dOp at hx
    rw [isSer_true hs] at hx
    dsimp only at hx
    have hUH : ∀ b ∈ hids und, b ∈ hid m ev := by
      intro b hb
      obtain ⟨pd, hpd, e⟩ := mem_hids.1 hb
      cases hpk : pd.pk with
      | skip => rw [hpk] at e; cases e
      | light R t0 => rw [hpk] at e; cases e
      | new b' mk ob t0 =>
        rw [hpk] at e; cases e
        refine mem_hid.2 ⟨pd.j, ((h.hund pd hpd).new _ _ _ _ hpk).2.2.2.2.2.1, ?_⟩
        cases ht : tb m pd.j with
        | false => rfl
        | true => rw [← hmb] at ht; exact absurd rfl ((hm _ ht).2 pd hpd)
    have hHev : ∀ b ∈ hid m ev, σ₀.n ≤ b ∧ (σ.get b).isSome = true := fun b hb => by
      obtain ⟨i', h1, _⟩ := mem_hid.1 hb; exact h.evs i' b h1
    have hsr : SR P N0 μ ((σ.hide (hid m ev)).enter) w := h.post.sr.less (by show (σ.hide (hid m ev)).n = _; rw [hide_n, hide_n]) (fun b o' h1 h2 => by
      rw [enter_get] at h1
      obtain ⟨g1, g2⟩ := hide_live h1 h2
      rw [hide_of (fun hc => g1 (hUH b hc))]; exact g2)
    rw [evalOp_ag hag.r] at hx
    obtain ⟨v, τ, μ', w', cv, g1, g2, g3, g4⟩ := op_sound hK hsr (h.tre C hd) h.size (itemOk_op D.ok) hx
    obtain ⟨hse, g1⟩ := boolRecP_elim g1
    have hk : ∀ b ∈ hid m ev, (σ.get b).isSome = true := fun b hb => (hHev b hb).2
    have hpost := h.post.serial hUH (fun b hb => (hHev b hb).1) hk g2
    have hn1 : ((σ.hide (hid m ev)).enter).n = σ.n := hide_n _ _
    have hext : ∀ b, b < σ.n → b ∉ hid m ev → b ∉ τ.mods → τ.get b = σ.get b := fun b hb hbH hbm => by
      rw [g2.ext b (by show b < (σ.hide (hid m ev)).n; rw [hide_n]; exact hb) (by rw [hn1]; exact hb) hbm, enter_get, hide_of hbH]
    refine ⟨_, _, _, μ', w', a.put o.dst cv, h.ser C hd D hs hm g1 (fun _ h => List.mem_cons_of_mem _ h) (fun i' b hmem => ?_) ?_ (fun b hb => ?_) hpost ?_ (fun b hb => ?_) g3 (fun pd hpd R t0 e r n hrd => ?_) (fun b hb => ?_), fun b kk cs rest => op_steps hop (w1 hy) g4⟩
    · rcases List.mem_cons.1 hmem with hmem | hmem
      · cases hmem
      · exact hmem
    · rw [unhide_n]; have := g2.n; rw [hn1] at this; exact this
    · by_cases hbH : b ∈ hid m ev
      · rw [serial_get g2 hk b hbH]; exact hb
      · rw [serial_get' b hbH]
        exact g2.keys b (by rw [enter_get, hide_of hbH]; exact hb)
    · refine h.post.sr.upto.le ?_
      rw [show (σ.hide (hids und)).n = ((σ.hide (hid m ev)).enter).n by rw [hn1, hide_n]]; exact g2.agree
    · obtain ⟨o', ho'⟩ := Option.isSome_iff_exists.1 (hk b (hUH b hb))
      rw [g2.agree.pl b (by rw [hn1]; exact get_lt ho')]
      exact h.unpl b hb
    · obtain ⟨q1, q2⟩ := ((h.hund pd hpd).light R t0 e).2.2.2.2.2 r n hrd
      by_cases hbH : r.1 ∈ hid m ev
      · left; exact (serial_get g2 hk _ hbH).symm
      · rcases okSe_spec hse _ _ _ _ q1 with h1 | h1 | h1
        · rw [← hmb] at h1; exact absurd rfl ((hm _ h1).2 pd hpd)
        · left; rw [serial_get' _ hbH]; exact (hext _ q2 hbH h1).symm
        · right; exact segSame_get h1 (serial_get' _ hbH)
    · exact serial_get g2 hk b (hUH b hb)
  · exact ⟨_, _, _, μ, w, a.put o.dst undef, h.ser C hd D hs hm hx (fun _ h => h) (fun _ _ h => h) (Nat.le_refl _) (fun _ h => h) h.post (Mp.le.refl _) h.unpl VR_undef (fun _ _ _ _ _ _ _ _ => .inl rfl) (fun _ _ => rfl), fun b kk cs rest => skip_steps hop (w2 hno)⟩

/-- What is done. -/
def Dn (p : Nat) (und : List Pd) (j : Nat) : Prop := j < p ∧ ∀ pd ∈ und, pd.j ≠ j

theorem RI.ready_mask (C : RC P d nt ops order bef is) (h : RI P N0 K d nt ops order bef is μ₀ σ₀ w₀ ds k p ev t σ und listed μ w a) {i j : Nat} (hi : i ∈ Region.ready .any ops listed) (hj : order[j]? = some i) :
    ¬ Dn p und j ∧ ∀ q, tb (bef.getD j 0) q = true → Dn p und q := by
  obtain ⟨h1, o, ho, h2⟩ := mem_ready.1 hi
  have hin : i < ops.size := (Array.getElem?_eq_some_iff.1 ho).1
  constructor
  · intro hd
    have := (h.hlst j i hj).2 hd
    have h3 : listed.getD i true = listed.getD i false := by
      have : i < listed.size := by rw [h.lsize]; exact hin
      simp [Array.getD, this]
    rw [h3, this] at h1; cases h1
  · refine C.maskDone (fun j hj q hq => h.closed j hj.1 hj.2 q hq) hj ho (fun e he hb p' hp' => ?_)
    exact (h.hlst p' _ hp').1 (h2 e he hb)

theorem RI.ready_of (C : RC P d nt ops order bef is) (h : RI P N0 K d nt ops order bef is μ₀ σ₀ w₀ ds k p ev t σ und listed μ w a) (hr : Region.ready .any ops listed = []) : ∀ j, j < ops.size → Dn p und j := by
  intro j
  induction j using Nat.strongRecOn with
  | _ j ih =>
    intro hj
    apply Classical.byContradiction
    intro hnd
    obtain ⟨i, m, o, it, D⟩ := C.at' j hj
    have ho : ops[i]? = some o := by have := D.hop; simpa using this
    have : i ∈ Region.ready .any ops listed := by
      refine mem_ready.2 ⟨?_, o, ho, fun e he hb => ?_⟩
      · have h3 : listed.getD i true = listed.getD i false := by
          have : i < listed.size := by rw [h.lsize]; exact C.ord.lt D.hord
          simp [Array.getD, this]
        rw [h3]
        cases hl : listed.getD i false with
        | false => rfl
        | true => exact absurd ((h.hlst j i D.hord).1 hl) hnd
      · obtain ⟨p', h1, h2⟩ := C.edge D.hord ho he hb
        have hlt := C.maskLt j hj p' h2
        exact (h.hlst p' _ h1).2 (ih p' hlt (by omega))
    rw [hr] at this; simp at this

theorem RI.all (C : RC P d nt ops order bef is) (h : RI P N0 K d nt ops order bef is μ₀ σ₀ w₀ ds k p ev t σ und listed μ w a) (ha : ∀ j, j < ops.size → Dn p und j) : p = ops.size ∧ und = [] := by
  constructor
  · apply Nat.le_antisymm h.hp
    apply Nat.le_of_not_lt
    intro hlt
    exact Nat.lt_irrefl _ (ha p hlt).1
  · cases und with
    | nil => rfl
    | cons pd und =>
      have hok := h.hund pd (by simp)
      exact absurd rfl ((ha pd.j (Nat.lt_of_lt_of_le hok.lt h.hp)).2 pd (by simp))

/-- What a region of open order leaves. -/
def RegEnd (P : Program) (N0 : Nat) (d nt : Nat) (ops : Array Oper) (μ₀ : Mp) (σ₀ : St) (w₀ : World) (ds : List Deferred) (k : Tr → St → Prop) (a : Act) (w : World) (l : List Nat) : Prop :=
  ∃ t' σ' μ' w' a', k t' σ' ∧ Post P N0 μ₀ σ₀ w₀ μ' σ' w' ∧ TR μ' d t' a'.tmps ∧ a'.tmps.size = nt ∧ a'.defers = ds ∧
    ∀ (b : Frame) (kk : List Item) (cs : List Frame), Steps P (lone (b.atR a (.inRegion ops l :: kk)) cs w) (lone (b.atR a' (.inRegion ops [] :: kk)) cs w')

theorem RI.fin (C : RC P d nt ops order bef is) (hd : nt ≤ 16 ^ d) (h : RI P N0 K d nt ops order bef is μ₀ σ₀ w₀ ds k p ev t σ und listed μ w a) (h1 : p = ops.size) (h2 : und = []) : RegEnd P N0 d nt ops μ₀ σ₀ w₀ ds k a w [] := by
  subst h1; subst h2
  have he := h.eval
  rw [List.drop_eq_nil_of_le (by rw [C.li]; exact Nat.le_refl _)] at he
  refine ⟨t, σ, μ, w, a, he, h.post, ?_, h.size, h.defers, fun b kk cs => .refl _ _⟩
  intro i v hv
  have hi : i < nt := by have := (Array.getElem?_eq_some_iff.1 hv).1; rw [h.size] at this; exact this
  have := h.tr i hi (fun pd hpd => by simp at hpd)
  have hg : a.tmps.getD i undef = v := by simp [Array.getD, (Array.getElem?_eq_some_iff.1 hv).1]; exact (Array.getElem?_eq_some_iff.1 hv).2
  rwa [hg] at this

theorem RI.run (hK : KOk P N0 K) (C : RC P d nt ops order bef is) (hd : nt ≤ 16 ^ d) : ∀ (fuel tt : Nat) {p : Nat} {ev : List (Nat × Evt)} {t : Tr} {σ : St} {und : List Pd} {listed : Array Bool} {μ : Mp} {w : World} {a : Act},
    RI P N0 K d nt ops order bef is μ₀ σ₀ w₀ ds k p ev t σ und listed μ w a → (ops.size - p) + und.length ≤ fuel → RegEnd P N0 d nt ops μ₀ σ₀ w₀ ds k a w (Region.linearise.go .any ops fuel tt listed [])
  | 0, tt, p, ev, t, σ, und, listed, μ, w, a, h, hf => by
    refine h.fin C hd (by have := h.hp; omega) ?_
    cases und with
    | nil => rfl
    | cons x xs => rw [List.length_cons] at hf; omega
  | fuel + 1, tt, p, ev, t, σ, und, listed, μ, w, a, h, hf => by
    obtain ⟨p', ev', t', σ', und', h', hser, hcnt⟩ := h.advances C hd _ rfl
    rw [← hcnt] at hf
    clear hcnt h
    show RegEnd P N0 d nt ops μ₀ σ₀ w₀ ds k a w (match (Region.ready .any ops listed)[tt % (Region.ready .any ops listed).length]? with
      | some i => Region.linearise.go .any ops fuel (tt / (Region.ready .any ops listed).length) (listed.setIfInBounds i true) [i]
      | none => [].reverse)
    cases hi : (Region.ready .any ops listed)[tt % (Region.ready .any ops listed).length]? with
    | none =>
      have hnil : Region.ready .any ops listed = [] := by
        cases hr : Region.ready .any ops listed with
        | nil => rfl
        | cons x xs =>
          rw [hr] at hi
          have hlt : tt % (x :: xs).length < (x :: xs).length := Nat.mod_lt _ (by simp)
          rw [List.getElem?_eq_getElem hlt] at hi; cases hi
      obtain ⟨e1, e2⟩ := h'.all C (h'.ready_of C hnil)
      exact h'.fin C hd e1 e2
    | some i =>
      dsimp only
      rw [linearise_go_acc, List.reverse_singleton, List.singleton_append]
      have hmem : i ∈ Region.ready .any ops listed := List.mem_of_getElem? hi
      obtain ⟨_, o₀, ho₀, _⟩ := mem_ready.1 hmem
      obtain ⟨j, hj, hji⟩ := C.ord.pos (Array.getElem?_eq_some_iff.1 ho₀).1
      obtain ⟨hnd, hmk⟩ := h'.ready_mask C hmem hji
      obtain ⟨i', m, o, it, D⟩ := C.at' j hj
      have hii : i' = i := by have := D.hord; rw [hji] at this; cases this; rfl
      subst hii
      have fin : ∀ {p2 ev2 t2 σ2 und2 listed2 μ2 w2 a2}, listed2 = listed.setIfInBounds i' true → RI P N0 K d nt ops order bef is μ₀ σ₀ w₀ ds k p2 ev2 t2 σ2 und2 listed2 μ2 w2 a2 → (ops.size - p2) + und2.length ≤ fuel →
          (∀ (b : Frame) (kk : List Item) (cs : List Frame) (rest : List Nat), Steps P (lone (b.atR a (.inRegion ops (i' :: rest) :: kk)) cs w) (lone (b.atR a2 (.inRegion ops rest :: kk)) cs w2)) →
          RegEnd P N0 d nt ops μ₀ σ₀ w₀ ds k a w (i' :: Region.linearise.go .any ops fuel (tt / (Region.ready .any ops listed).length) (listed.setIfInBounds i' true) []) := by
        intro p2 ev2 t2 σ2 und2 listed2 μ2 w2 a2 e h2 hf2 hst
        subst e
        obtain ⟨t', σ', μ', w', a', g1, g2, g3, g4, g5, g6⟩ := RI.run hK C hd fuel (tt / (Region.ready .any ops listed).length) h2 hf2
        exact ⟨t', σ', μ', w', a', g1, g2, g3, g4, g5, fun b kk cs => (hst b kk cs _).trans (g6 b kk cs)⟩
      by_cases hjp : j < p'
      · -- one that was not done
        have : ∃ pd ∈ und', pd.j = j := by
          apply Classical.byContradiction
          intro hno
          exact hnd ⟨hjp, fun pd hpd e => hno ⟨pd, hpd, e⟩⟩
        obtain ⟨pd, hpd, rfl⟩ := this
        obtain ⟨l₁, l₂, rfl⟩ := List.append_of_mem hpd
        obtain ⟨μ2, w2, a2, g1, g2⟩ := h'.exec hK C hd D hmk
        refine fin rfl g1 ?_ g2
        simp only [List.length_append, List.length_cons] at hf ⊢
        omega
      · -- the next serial one
        rcases hser with hp | ⟨i2, m2, o2, it2, D2, hs2⟩
        · omega
        · have hpj : p' = j := by
            apply Classical.byContradiction
            intro hne
            have hlt : p' < j := by omega
            have := hmk p' ((pair_ser (C.pair p' it2 j it D2.hit D.hit) hs2).1 hlt)
            exact Nat.lt_irrefl _ this.1
          subst hpj
          have e1 : i2 = i' := by have := D2.hord; rw [hji] at this; cases this; rfl
          subst e1
          obtain ⟨ev2, t2, σ2, μ2, w2, a2, g1, g2⟩ := h'.serial hK C hd D2 hs2 hmk
          refine fin rfl g1 ?_ g2
          omega

/-- A REGION OF OPEN ORDER. -/
theorem draw_sound (hK : KOk P N0 K) (C : RC P d nt ops order bef is) (hd : nt ≤ 16 ^ d) (hs : SR P N0 μ σ w) (ht : TR μ d t a.tmps) (hn : a.tmps.size = nt) (h : evalDraw is 0 bef [] K t σ k) (tt : Nat) :
    RegEnd P N0 d nt ops μ σ w a.defers k a w (Region.linearise .any ops tt) := by
  have h0 : RI P N0 K d nt ops order bef is μ σ w a.defers k 0 [] t σ [] (Array.replicate ops.size false) μ w a := {
    hp := Nat.zero_le _
    eval := by simpa using h
    post := Post.refl hs
    tr := fun i hi _ => ht.get (Nat.lt_of_lt_of_eq hi hn.symm)
    size := hn
    defers := rfl
    lsize := by simp
    hlst := fun j i hj => by
      have hi : i < ops.size := C.ord.lt hj
      constructor
      · intro h; simp [Array.getD, hi] at h
      · rintro ⟨h, _⟩; omega
    hund := fun pd hpd => by simp at hpd
    nodup := by simp
    hnodup := by simp [hids]
    unpl := fun b hb => by simp [hids] at hb
    cross := fun pd hpd => by simp at hpd
    evs := fun i b hb => by simp at hb
    closed := fun j hj => by omega }
  exact RI.run hK C hd ops.size tt h0 (by simp)

end
end Go.Proofs.Ytnmkbnejapdnnaa.Ev
