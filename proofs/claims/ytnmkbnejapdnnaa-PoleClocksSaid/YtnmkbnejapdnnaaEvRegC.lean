/-
  Regions of open order: the relation between the canonical order and the machine's.
-/
import Derived.Test.YtnmkbnejapdnnaaEvRegB
set_option linter.unusedVariables false
set_option maxRecDepth 4000
namespace Go.Proofs.Ytnmkbnejapdnnaa.Ev
open Go

/-- How an operation that the machine has not done yet was taken. -/
inductive PK where
  | skip
  | light (R : St → Option V) (t0 : Tr)
  | new (b : Nat) (mk : Nat → V) (ob : Obj) (t0 : Tr)

structure Pd where
  j : Nat
  it : EI
  v : V
  pk : PK

def PK.hid : PK → Option Nat
  | .new b _ _ _ => some b
  | _ => none

def hids (und : List Pd) : List Nat := und.filterMap fun pd => pd.pk.hid

theorem mem_hids {und : List Pd} {b : Nat} : b ∈ hids und ↔ ∃ pd ∈ und, pd.pk.hid = some b := by simp [hids]

/-- The blocks that are read at the same state. -/
def rdAt (op : EOp) (t0 : Tr) (r : Nat × Nat) (n : Option Nat) : Prop := ∃ x, clsOf op = .read x n ∧ vblk (opd t0 x) = some r

section
variable {P : Program} {N0 : Nat} {K : KT} {d nt : Nat} {ops : Array Oper} {order bef : List Nat} {is : List EI} {μ₀ : Mp} {σ₀ : St} {w₀ : World} {ds : List Deferred} {k : Tr → St → Prop}

structure PdOk (P : Program) (d nt : Nat) (is : List EI) (n0 : Nat) (p : Nat) (ev : List (Nat × Evt)) (t : Tr) (σ : St) (pd : Pd) : Prop where
  it : is[pd.j]? = some pd.it
  lt : pd.j < p
  ser : isSer pd.it.op = false
  dst : ∀ q, pd.it.dst = some q → gt q t = pd.v
  skip : pd.pk = .skip → gNo pd.it t ∧ pd.v = .tup []
  light : ∀ R t0, pd.pk = .light R t0 → gYes pd.it t ∧ AgS pd.it.op.slots t0 t ∧ (∀ K σ k, evalOp pd.it.op K t0 σ k = optK (R σ) k σ) ∧ (∀ σ₁ σ₂, SameFor pd.it.op t0 σ₁ σ₂ → R σ₁ = R σ₂) ∧ R σ = some pd.v ∧
    ∀ r n, rdAt pd.it.op t0 r n → (pd.j, Evt.rd r.1 r.2 n) ∈ ev ∧ r.1 < σ.n
  new : ∀ b mk ob t0, pd.pk = .new b mk ob t0 → gYes pd.it t ∧ AgS pd.it.op.slots t0 t ∧ pd.v = mk b ∧ σ.get b = some ob ∧ n0 ≤ b ∧ (pd.j, Evt.al b) ∈ ev ∧
    ∀ {μ : Mp} {w : World} {a : Act} {op : Oper} {t' : Tr}, AgS pd.it.op.slots t0 t' → TR μ d t' a.tmps → a.tmps.size = nt → opOk P d nt op.op op.type pd.it.op = true → NewS P μ w (execOp a.eval op) mk ob

/-- The relation. -/
structure RI (P : Program) (N0 : Nat) (K : KT) (d nt : Nat) (ops : Array Oper) (order bef : List Nat) (is : List EI) (μ₀ : Mp) (σ₀ : St) (w₀ : World) (ds : List Deferred) (k : Tr → St → Prop)
    (p : Nat) (ev : List (Nat × Evt)) (t : Tr) (σ : St) (und : List Pd) (listed : Array Bool) (μ : Mp) (w : World) (a : Act) : Prop where
  hp : p ≤ ops.size
  eval : evalDraw (is.drop p) p (bef.drop p) ev K t σ k
  post : Post P N0 μ₀ σ₀ w₀ μ (σ.hide (hids und)) w
  tr : ∀ i, i < nt → (∀ pd ∈ und, pd.it.dst ≠ some (pth d i)) → VR μ (gt (pth d i) t) (a.tmps.getD i undef)
  size : a.tmps.size = nt
  defers : a.defers = ds
  lsize : listed.size = ops.size
  hlst : ∀ j i, order[j]? = some i → (listed.getD i false = true ↔ j < p ∧ ∀ pd ∈ und, pd.j ≠ j)
  hund : ∀ pd ∈ und, PdOk P d nt is σ₀.n p ev t σ pd
  nodup : (und.map (·.j)).Nodup
  hnodup : (hids und).Nodup
  unpl : ∀ b ∈ hids und, μ.pl b = none
  cross : ∀ pd ∈ und, ∀ R t0, pd.pk = .light R t0 → ∀ r n, rdAt pd.it.op t0 r n → ∀ pd' ∈ und, pd'.pk.hid = some r.1 → tb (bef.getD pd.j 0) pd'.j = true
  evs : ∀ i b, (i, Evt.al b) ∈ ev → σ₀.n ≤ b ∧ (σ.get b).isSome = true
  closed : ∀ j, j < p → (∀ pd ∈ und, pd.j ≠ j) → ∀ q, tb (bef.getD j 0) q = true → q < p ∧ ∀ pd ∈ und, pd.j ≠ q

theorem RC.maskLt (C : RC P d nt ops order bef is) : ∀ j, j < ops.size → ∀ q, tb (bef.getD j 0) q = true → q < j := by
  intro j
  induction j using Nat.strongRecOn with
  | _ j ih =>
    intro hj q hq
    obtain ⟨i, m, o, it, D⟩ := C.at' j hj
    rw [getD_of D.hbef] at hq
    obtain ⟨_, g2⟩ := befOf_spec D.mask
    obtain ⟨e, he, hb, p, b, h1, h2, h3⟩ := g2 q hq
    have hp : p < j := by have := (List.getElem?_eq_some_iff.1 h2).1; simp at this; omega
    rcases h3 with rfl | h3
    · exact hp
    · have h4 : bef[p]? = some b := by rw [List.getElem?_take] at h2; rw [if_pos hp] at h2; exact h2
      have := ih p hp (by omega) q (by rw [getD_of h4]; exact h3)
      omega

/-- An operation whose edges are all behind it has all of its mask behind it. -/
theorem RC.maskDone (C : RC P d nt ops order bef is) {dn : Nat → Prop} (hcl : ∀ j, dn j → ∀ q, tb (bef.getD j 0) q = true → dn q) {j i : Nat} {o : Oper} (hj : order[j]? = some i) (ho : ops[i]? = some o)
    (hr : ∀ e ∈ o.after, Region.binds .any e = true → ∀ p, order[p]? = some e.on → dn p) : ∀ q, tb (bef.getD j 0) q = true → dn q := by
  intro q hq
  have hjn : j < ops.size := by rw [← C.ord.len]; exact (List.getElem?_eq_some_iff.1 hj).1
  obtain ⟨i', m, o', it, D⟩ := C.at' j hjn
  have e1 := D.hord; rw [hj] at e1; cases e1
  have e2 : ops[i]? = some o' := by have := D.hop; simpa using this
  rw [ho] at e2; cases e2
  rw [getD_of D.hbef] at hq
  obtain ⟨_, g2⟩ := befOf_spec D.mask
  obtain ⟨e, he, hb, p, b, h1, h2, h3⟩ := g2 q hq
  obtain ⟨p', h4, h5⟩ := posIn_get h1
  have : p' = p := by omega
  subst this
  have hd := hr e (by simpa using he) hb p' h5
  rcases h3 with rfl | h3
  · exact hd
  · have hp : p' < j := by have := (List.getElem?_eq_some_iff.1 h2).1; simp at this; omega
    have h6 : bef[p']? = some b := by rw [List.getElem?_take] at h2; rw [if_pos hp] at h2; exact h2
    exact hcl p' hd q (by rw [getD_of h6]; exact h3)

/-- The other way round: the edges' places are in the mask. -/
theorem RC.edge (C : RC P d nt ops order bef is) {j i : Nat} {o : Oper} (hj : order[j]? = some i) (ho : ops[i]? = some o) {e : Edge} (he : e ∈ o.after) (hb : Region.binds .any e = true) : ∃ p, order[p]? = some e.on ∧ tb (bef.getD j 0) p = true := by
  have hjn : j < ops.size := by rw [← C.ord.len]; exact (List.getElem?_eq_some_iff.1 hj).1
  obtain ⟨i', m, o', it, D⟩ := C.at' j hjn
  have e1 := D.hord; rw [hj] at e1; cases e1
  have e2 : ops[i]? = some o' := by have := D.hop; simpa using this
  rw [ho] at e2; cases e2
  rw [getD_of D.hbef]
  obtain ⟨g1, _⟩ := befOf_spec D.mask
  obtain ⟨p, h1, h2, h3⟩ := g1 e (by simpa using he) hb
  obtain ⟨p', h4, h5⟩ := posIn_get h1
  have : p' = p := by omega
  subst this
  exact ⟨p', h5, h3⟩

/-! ### what the pairs say -/
theorem pair_light {bef : List Nat} {x y : EI} {j i : Nat} (h : pairOk bef x j y i = true) (hs : isSer x.op = false) {q : Pth} (hq : x.dst = some q) :
    (i = j → q ∉ y.grd ++ y.op.slots) ∧ (i ≠ j → y.dst ≠ some q ∧ (q ∈ y.grd ++ y.op.slots → tb (bef.getD i 0) j = true)) := by
  simp only [pairOk, hq, hs, Bool.and_eq_true] at h
  obtain ⟨h, _⟩ := h
  constructor
  · rintro rfl
    rw [beq_iff.2 rfl] at h
    simp only [Bool.not_eq_true', Bool.or_eq_false_iff] at h
    intro hm
    rcases List.mem_append.1 hm with hm | hm
    · have := h.1; simp only [List.contains_eq_mem, decide_eq_false_iff_not] at this; exact this hm
    · have := h.2; simp only [List.contains_eq_mem, decide_eq_false_iff_not] at this; exact this hm
  · intro hne
    rw [beq_false.2 hne] at h
    simp only [Bool.and_eq_true, Bool.not_eq_true', Bool.or_eq_true, beq_eq_false_iff_ne] at h
    refine ⟨h.1, fun hm => ?_⟩
    rcases h.2 with h2 | h2
    · simp only [Bool.or_eq_false_iff, List.contains_eq_mem, decide_eq_false_iff_not] at h2
      rcases List.mem_append.1 hm with hm | hm
      · exact absurd hm h2.1
      · exact absurd hm h2.2
    · exact h2

theorem pair_ser {bef : List Nat} {x y : EI} {j i : Nat} (h : pairOk bef x j y i = true) (hs : isSer x.op = true) : (j < i → tb (bef.getD i 0) j = true) ∧
    ∀ q, x.dst = some q → i = j ∨ (y.dst ≠ some q ∧ q ∉ y.grd ++ y.op.slots) ∨ tb (bef.getD i 0) j = true ∨ tb (bef.getD j 0) i = true := by
  simp only [pairOk, hs, Bool.and_eq_true] at h
  obtain ⟨h, h2⟩ := h
  constructor
  · intro hlt
    simp only [Bool.not_true, Bool.false_or, Bool.or_eq_true] at h2
    rcases h2 with h2 | h2
    · have := Nat.le_of_ble_eq_true h2; omega
    · exact h2
  · intro q hq
    simp only [hq, Bool.or_eq_true] at h
    rcases h with ((h | h) | h) | h
    · exact .inl (beq_iff.1 h)
    · right; left
      simp only [Bool.not_eq_true', Bool.or_eq_false_iff, beq_eq_false_iff_ne, List.contains_eq_mem, decide_eq_false_iff_not] at h
      exact ⟨h.1.1, fun hm => by
        rcases List.mem_append.1 hm with hm | hm
        · exact h.1.2 hm
        · exact h.2 hm⟩
    · exact .inr (.inr (.inl h))
    · exact .inr (.inr (.inr h))

/-! ### keeping what is known of those not done -/
/-- The canonical state goes on. -/
theorem PdOk.go {n0 p p' : Nat} {ev ev' : List (Nat × Evt)} {t t' : Tr} {σ σ' : St} {pd : Pd} (h : PdOk P d nt is n0 p ev t σ pd) (hp : p ≤ p') (hev : ∀ e ∈ ev, e ∈ ev')
    (ht : AgS (pd.it.grd ++ pd.it.op.slots) t t') (hd : ∀ q, pd.it.dst = some q → gt q t' = gt q t) (hn : σ.n ≤ σ'.n)
    (hr : ∀ R t0, pd.pk = .light R t0 → ∀ r n, rdAt pd.it.op t0 r n → σ.get r.1 = σ'.get r.1 ∨ segSame σ σ' r.1 r.2 n = true)
    (hb : ∀ b, pd.pk.hid = some b → σ'.get b = σ.get b) : PdOk P d nt is n0 p' ev' t' σ' pd where
  it := h.it
  lt := Nat.lt_of_lt_of_le h.lt hp
  ser := h.ser
  dst := fun q hq => by rw [hd q hq]; exact h.dst q hq
  skip := fun e => ⟨gNo_ag ht.l (h.skip e).1, (h.skip e).2⟩
  light := fun R t0 e => by
    obtain ⟨g1, g2, g3, g4, g5, g6⟩ := h.light R t0 e
    refine ⟨gYes_ag ht.l g1, g2.trans ht.r, g3, g4, ?_, fun r n hrd => ⟨hev _ (g6 r n hrd).1, Nat.lt_of_lt_of_le (g6 r n hrd).2 hn⟩⟩
    rw [← g5]
    refine (g4 σ σ' ?_).symm
    unfold SameFor
    split
    · rename_i x n hc
      unfold SameAt
      split
      · rename_i b o hv
        exact hr R t0 e (b, o) n ⟨x, hc, hv⟩
      · trivial
    · trivial
  new := fun b mk ob t0 e => by
    obtain ⟨g1, g2, g3, g4, g5, g6, g7⟩ := h.new b mk ob t0 e
    exact ⟨gYes_ag ht.l g1, g2.trans ht.r, g3, by rw [hb b (by rw [e]; rfl)]; exact g4, g5, hev _ g6, g7⟩

theorem putd_gt (hd : nt ≤ 16 ^ d) {it : EI} {o : Oper} {L : List Oper} (hi : itemOk P d nt L o it = true) (t : Tr) (v : V) {i : Nat} (h : i < 16 ^ d) :
    gt (pth d i) (putd it t v) = if it.dst = some (pth d i) then v else gt (pth d i) t := by
  unfold putd
  rcases itemOk_dst hi with ⟨e, _⟩ | ⟨j, e, _, hj⟩
  · rw [e]; simp
  · rw [e]
    dsimp only
    rw [gt_stt d i j t v h (Nat.lt_of_lt_of_le hj hd)]
    by_cases hij : i = j
    · subst hij; simp
    · rw [if_neg hij, if_neg]
      intro he; simp only [Option.some.injEq] at he
      exact hij (pth_inj hd h (Nat.lt_of_lt_of_le hj hd) he.symm)

theorem putd_ag (hd : nt ≤ 16 ^ d) {it : EI} {o : Oper} {L : List Oper} (hi : itemOk P d nt L o it = true) (t : Tr) (v : V) {ps : List Pth} (hm : mOk d ps = true) (hq : ∀ q, it.dst = some q → q ∉ ps) : AgS ps t (putd it t v) := by
  intro p hp
  obtain ⟨j, rfl, hj⟩ := mOk_spec hm hp
  rw [putd_gt hd hi t v hj, if_neg]
  intro he; exact hq _ he hp

/-! ### the canonical order goes on by one that is not serial -/
theorem RI.drop {p : Nat} {ev : List (Nat × Evt)} {t : Tr} {σ : St} {und : List Pd} {listed : Array Bool} {μ : Mp} {w : World} {a : Act} (C : RC P d nt ops order bef is)
    (h : RI P N0 K d nt ops order bef is μ₀ σ₀ w₀ ds k p ev t σ und listed μ w a) {i m : Nat} {o : Oper} {it : EI} (D : DrawAt P d nt ops.toList order bef is p i m o it) :
    gP it t (dOp p m it.op (fun v ev K t σ k => evalDraw (is.drop (p + 1)) (p + 1) (bef.drop (p + 1)) ev K (putd it t v) σ k) ev K t σ k) (evalDraw (is.drop (p + 1)) (p + 1) (bef.drop (p + 1)) ev K (putd it t (.tup [])) σ k) := by
  have h1 : is.drop p = it :: is.drop (p + 1) := by
    obtain ⟨hl, e⟩ := List.getElem?_eq_some_iff.1 D.hit
    rw [← e]; exact List.drop_eq_getElem_cons hl
  have h2 : bef.drop p = m :: bef.drop (p + 1) := by
    obtain ⟨hl, e⟩ := List.getElem?_eq_some_iff.1 D.hbef
    rw [← e]; exact List.drop_eq_getElem_cons hl
  have h3 := h.eval
  rw [h1, h2] at h3
  have h3 : dI p m it (evalDraw (is.drop (p + 1)) (p + 1) (bef.drop (p + 1))) ev K t σ k := h3
  rwa [dI_eq] at h3

variable {p : Nat} {ev : List (Nat × Evt)} {t : Tr} {σ : St} {und : List Pd} {listed : Array Bool} {μ : Mp} {w : World} {a : Act}

/-- What is taken at p reads and writes beside those that are not done. -/
theorem RI.beside (C : RC P d nt ops order bef is) (hd : nt ≤ 16 ^ d) (h : RI P N0 K d nt ops order bef is μ₀ σ₀ w₀ ds k p ev t σ und listed μ w a) {i m : Nat} {o : Oper} {it : EI} (D : DrawAt P d nt ops.toList order bef is p i m o it)
    (hsafe : ∀ q, it.dst = some q → ∀ pd ∈ und, pd.it.dst ≠ some q ∧ q ∉ pd.it.grd ++ pd.it.op.slots) (v : V) : ∀ pd ∈ und, AgS (pd.it.grd ++ pd.it.op.slots) t (putd it t v) ∧ ∀ q, pd.it.dst = some q → gt q (putd it t v) = gt q t := by
  intro pd hpd
  have hok := h.hund pd hpd
  refine ⟨putd_ag hd D.ok t v (C.slots _ _ hok.it) (fun q hq => (hsafe q hq pd hpd).2), fun q hq => ?_⟩
  have hj : pd.j < ops.size := Nat.lt_of_lt_of_le hok.lt h.hp
  obtain ⟨i', m', o', it', D'⟩ := C.at' pd.j hj
  have e := D'.hit; rw [hok.it] at e; cases e
  rcases itemOk_dst D'.ok with ⟨e, _⟩ | ⟨j', e, _, hj'⟩
  · rw [e] at hq; cases hq
  · rw [e] at hq; cases hq
    rw [putd_gt hd D.ok t v (Nat.lt_of_lt_of_le hj' hd), if_neg]
    intro hc; exact (hsafe _ hc pd hpd).1 e

theorem RI.safe_light (C : RC P d nt ops order bef is) (h : RI P N0 K d nt ops order bef is μ₀ σ₀ w₀ ds k p ev t σ und listed μ w a) {i m : Nat} {o : Oper} {it : EI} (D : DrawAt P d nt ops.toList order bef is p i m o it) (hs : isSer it.op = false) :
    ∀ q, it.dst = some q → ∀ pd ∈ und, pd.it.dst ≠ some q ∧ q ∉ pd.it.grd ++ pd.it.op.slots := by
  intro q hq pd hpd
  have hok := h.hund pd hpd
  have hpr := C.pair p it pd.j pd.it D.hit hok.it
  have hne : pd.j ≠ p := by have := hok.lt; omega
  obtain ⟨g1, g2⟩ := (pair_light hpr hs hq).2 hne
  refine ⟨g1, fun hm => ?_⟩
  have := C.maskLt pd.j (Nat.lt_of_lt_of_le hok.lt h.hp) p (g2 hm)
  have := hok.lt; omega

/-- One more that the machine has not done. -/
theorem RI.push (C : RC P d nt ops order bef is) (hd : nt ≤ 16 ^ d) (h : RI P N0 K d nt ops order bef is μ₀ σ₀ w₀ ds k p ev t σ und listed μ w a) {i m : Nat} {o : Oper} {it : EI} (D : DrawAt P d nt ops.toList order bef is p i m o it) (hs : isSer it.op = false) {v : V} {pk : PK} {ev' : List (Nat × Evt)} {σ' : St}
    (hev : evalDraw (is.drop (p + 1)) (p + 1) (bef.drop (p + 1)) ev' K (putd it t v) σ' k) (hsub : ∀ e ∈ ev, e ∈ ev') (hn : σ.n ≤ σ'.n) (hg : ∀ b, b < σ.n → σ'.get b = σ.get b)
    (hal : ∀ i b, (i, Evt.al b) ∈ ev' → (i, Evt.al b) ∈ ev ∨ (σ₀.n ≤ b ∧ (σ'.get b).isSome = true)) (hkeys : ∀ b, (σ.get b).isSome = true → (σ'.get b).isSome = true)
    (hpost : Post P N0 μ₀ σ₀ w₀ μ (σ'.hide (hids (⟨p, it, v, pk⟩ :: und))) w) (hpd : PdOk P d nt is σ₀.n (p + 1) ev' (putd it t v) σ' ⟨p, it, v, pk⟩)
    (hh : ∀ b, pk.hid = some b → b ∉ hids und ∧ μ.pl b = none ∧ σ.n ≤ b) (hcr : ∀ R t0, pk = .light R t0 → ∀ r n, rdAt it.op t0 r n → r.1 < σ.n ∧ ∀ pd' ∈ und, pd'.pk.hid = some r.1 → tb m pd'.j = true) :
    RI P N0 K d nt ops order bef is μ₀ σ₀ w₀ ds k (p + 1) ev' (putd it t v) σ' (⟨p, it, v, pk⟩ :: und) listed μ w a := by
  have hlt : p < ops.size := by have := (List.getElem?_eq_some_iff.1 D.hbef).1; rw [C.lb] at this; exact this
  have hbes := h.beside C hd D (h.safe_light C D hs) v
  exact {
    hp := hlt
    eval := hev
    post := hpost
    tr := fun i' hi' hno => by
      rw [putd_gt hd D.ok t v (Nat.lt_of_lt_of_le hi' hd), if_neg (show ¬ it.dst = some (pth d i') from hno _ (List.mem_cons_self ..))]
      exact h.tr i' hi' (fun pd hpd => hno pd (by simp [hpd]))
    size := h.size
    defers := h.defers
    lsize := h.lsize
    hlst := fun j i' hj => by
      rw [h.hlst j i' hj]
      constructor
      · rintro ⟨h1, h2⟩
        refine ⟨by omega, fun pd hpd => ?_⟩
        rcases List.mem_cons.1 hpd with rfl | hpd
        · show p ≠ j; omega
        · exact h2 pd hpd
      · rintro ⟨h1, h2⟩
        have h3 : p ≠ j := h2 _ (List.mem_cons_self ..)
        exact ⟨by omega, fun pd hpd => h2 pd (by simp [hpd])⟩
    hund := fun pd hpd' => by
      rcases List.mem_cons.1 hpd' with rfl | hpd'
      · exact hpd
      · have hok := h.hund pd hpd'
        refine hok.go (by omega) hsub (hbes pd hpd').1 (hbes pd hpd').2 hn (fun R t0 e r n hrd => ?_) (fun b hb => ?_)
        · left; exact (hg _ ((hok.light R t0 e).2.2.2.2.2 r n hrd).2).symm
        · cases hpk : pd.pk with
          | skip => rw [hpk] at hb; cases hb
          | light R t0 => rw [hpk] at hb; cases hb
          | new b' mk ob t0 =>
            rw [hpk] at hb; cases hb
            exact hg _ (get_lt (hok.new _ _ _ _ hpk).2.2.2.1)
    nodup := by
      rw [List.map_cons, List.nodup_cons]
      refine ⟨fun hm => ?_, h.nodup⟩
      obtain ⟨pd, hpd', e⟩ := List.mem_map.1 hm
      have := (h.hund pd hpd').lt
      simp only at e; omega
    hnodup := by
      cases hpk : pk.hid with
      | none => simp only [hids, List.filterMap_cons, hpk]; exact h.hnodup
      | some b => simp only [hids, List.filterMap_cons, hpk]; rw [List.nodup_cons]; exact ⟨(hh b hpk).1, h.hnodup⟩
    unpl := fun b hb => by
      obtain ⟨pd, hpd', e⟩ := mem_hids.1 hb
      rcases List.mem_cons.1 hpd' with rfl | hpd'
      · exact (hh b e).2.1
      · exact h.unpl b (mem_hids.2 ⟨pd, hpd', e⟩)
    cross := fun pd hpd' R t0 e r n hrd pd' hpd'' hb => by
      rcases List.mem_cons.1 hpd' with rfl | hpd' <;> rcases List.mem_cons.1 hpd'' with rfl | hpd''
      · rw [show (⟨p, it, v, pk⟩ : Pd).pk = pk from rfl] at e hb; rw [e] at hb; cases hb
      · show tb (bef.getD p 0) pd'.j = true
        rw [getD_of D.hbef]; exact (hcr R t0 e r n hrd).2 pd' hpd'' hb
      · exfalso
        have h1 := ((h.hund pd hpd').light R t0 e).2.2.2.2.2 r n hrd
        have h2 := (hh r.1 hb).2.2
        omega
      · exact h.cross pd hpd' R t0 e r n hrd pd' hpd'' hb
    evs := fun i' b hm => by
      rcases hal i' b hm with hm | hm
      · exact ⟨(h.evs i' b hm).1, hkeys b (h.evs i' b hm).2⟩
      · exact hm
    closed := fun j hj hno q hq => by
      have hjp : j ≠ p := fun e => hno _ (List.mem_cons_self ..) e.symm
      obtain ⟨g1, g2⟩ := h.closed j (by omega) (fun pd hpd' => hno pd (by simp [hpd'])) q hq
      refine ⟨by omega, fun pd hpd' => ?_⟩
      rcases List.mem_cons.1 hpd' with rfl | hpd'
      · show p ≠ q; omega
      · exact g2 pd hpd' }

end
end Go.Proofs.Ytnmkbnejapdnnaa.Ev
