/-
  Light operations: what they answer depends on the slots that they look at, and on the cells that they read.
-/
import Derived.Test.YtnmkbnejapdnnaaEvSt
set_option linter.unusedVariables false
set_option maxRecDepth 4000
namespace Go.Proofs.Ytnmkbnejapdnnaa.Ev
open Go

/-! ### slots that agree -/
def AgS (ps : List Pth) (t t' : Tr) : Prop := ∀ p ∈ ps, gt p t = gt p t'

theorem AgS.sub {ps qs : List Pth} {t t' : Tr} (h : AgS ps t t') (hs : ∀ p ∈ qs, p ∈ ps) : AgS qs t t' := fun p hp => h p (hs p hp)
theorem AgS.l {ps qs : List Pth} {t t' : Tr} (h : AgS (ps ++ qs) t t') : AgS ps t t' := h.sub (by simp; exact fun p h => .inl h)
theorem AgS.r {ps qs : List Pth} {t t' : Tr} (h : AgS (ps ++ qs) t t') : AgS qs t t' := h.sub (by simp; exact fun p h => .inr h)

section
variable {t t' : Tr} {K : KT} {σ σ' : St} {k : Cn}

theorem opd_ag {x : Opd} (h : AgS (opdP x) t t') : opd t x = opd t' x := by
  cases x with
  | t p => exact h p (by simp [opdP])
  | c v => rfl
theorem opds_cons (t : Tr) (x : Opd) (xs : List Opd) : opds t (x :: xs) = opd t x :: opds t xs := rfl
theorem opds_ag : ∀ {xs : List Opd}, AgS (xs.flatMap opdP) t t' → opds t xs = opds t' xs
  | [], _ => rfl
  | x :: xs, h => by
    rw [List.flatMap_cons] at h
    rw [opds_cons, opds_cons, opd_ag h.l, opds_ag h.r]
theorem fillp_ag : ∀ {ps : List (Nat × Nat × Opd)} {zs : List V}, AgS (ps.flatMap fun p => opdP p.2.2) t t' → fillp t zs ps = fillp t' zs ps
  | [], _, _ => rfl
  | (o, s, x) :: ps, zs, h => by
    rw [List.flatMap_cons] at h
    simp only [fillp, opd_ag h.l]
    split
    · exact fillp_ag h.r
    · rfl
theorem fills_ag {es : Nat} : ∀ {ps : List (Nat × Opd)} {zs : List V}, AgS (ps.flatMap fun p => opdP p.2) t t' → fills t es zs ps = fills t' es zs ps
  | [], _, _ => rfl
  | (i, x) :: ps, zs, h => by
    rw [List.flatMap_cons] at h
    simp only [fills, opd_ag h.l]
    split
    · exact fills_ag h.r
    · rfl
theorem bnd_ag {x : Option Opd} {n : Nat} (h : AgS (optP x) t t') : bnd t x n = bnd t' x n := by
  cases x with
  | none => rfl
  | some x => simp only [bnd, opd_ag (show AgS (opdP x) t t' from h)]

theorem evalOp_ag {o : EOp} (h : AgS o.slots t t') : evalOp o K t σ k = evalOp o K t' σ k := by
  cases o <;> simp only [EOp.slots] at h
  case build zs ps => show gagg (fillp t zs ps) σ k = gagg (fillp t' zs ps) σ k; rw [fillp_ag h]
  case bslice es n zs ps => show gnew (fills t es (zrow zs n) ps) n σ k = gnew (fills t' es (zrow zs n) ps) n σ k; rw [fills_ag h]
  case slc es x lo hi mx =>
    show slcv es t (opd t x) lo hi mx k σ = slcv es t' (opd t' x) lo hi mx k σ
    rw [opd_ag h.l.l.l]
    have e1 : ∀ n, bnd t lo n = bnd t' lo n := fun n => bnd_ag h.l.l.r
    have e2 : ∀ n, bnd t hi n = bnd t' hi n := fun n => bnd_ag h.l.r
    cases mx with
    | none =>
      unfold slcv; simp only [e1, e2]
      cases opd t' x <;> try rfl
      rename_i b o l c e
      dsimp only
      cases bnd t' lo 0 <;> cases bnd t' hi l <;> rfl
    | some m =>
      have e3 : ∀ n, bnd t (some m) n = bnd t' (some m) n := fun n => bnd_ag h.r
      unfold slcv; simp only [e1, e2, e3]
      cases opd t' x <;> try rfl
      rename_i b o l c e
      have e3' := e3 0
      dsimp only
      cases bnd t' lo 0 <;> cases bnd t' hi l <;> simp only [e3'] <;> rfl
  case slca n es x lo hi mx =>
    show slcav n es t (opd t x) lo hi mx k σ = slcav n es t' (opd t' x) lo hi mx k σ
    rw [opd_ag h.l.l.l]
    have e1 : ∀ n, bnd t lo n = bnd t' lo n := fun n => bnd_ag h.l.l.r
    have e2 : ∀ n, bnd t hi n = bnd t' hi n := fun n => bnd_ag h.l.r
    have e3 : ∀ n, bnd t mx n = bnd t' mx n := fun n => bnd_ag h.r
    unfold slcav; simp only [e1, e2, e3]
  case slcs x lo hi =>
    show slcsv t (opd t x) lo hi k σ = slcsv t' (opd t' x) lo hi k σ
    rw [opd_ag h.l.l]
    have e1 : ∀ n, bnd t lo n = bnd t' lo n := fun n => bnd_ag h.l.r
    have e2 : ∀ n, bnd t hi n = bnd t' hi n := fun n => bnd_ag h.r
    unfold slcsv; simp only [e1, e2]
  case mkfn f xs ys => show k (.func f (opds t xs) (opds t ys)) σ = k (.func f (opds t' xs) (opds t' ys)) σ; rw [opds_ag h.l, opds_ag h.r]
  case call f xs => show K (.fn f) (opds t xs) σ k = K (.fn f) (opds t' xs) σ k; rw [opds_ag h]
  case calld x xs => show calldP K (opd t x) (opds t xs) σ k = calldP K (opd t' x) (opds t' xs) σ k; rw [opd_ag h.l, opds_ag h.r]
  case min xs => show foldv imin (opds t xs) k σ = foldv imin (opds t' xs) k σ; rw [opds_ag h]
  case max xs => show foldv imax (opds t xs) k σ = foldv imax (opds t' xs) k σ; rw [opds_ag h]
  case alloc => rfl
  case mkmap => rfl
  case lenc => rfl
  case bad => rfl
  case pick c x y => show pickv (opd t c) (opd t x) (opd t y) k σ = pickv (opd t' c) (opd t' x) (opd t' y) k σ; rw [opd_ag h.l.l, opd_ag h.l.r, opd_ag h.r]
  case mput ls x y z => show gs (mputv ls σ (opd t x) (opd t y) (opd t z)) k = gs (mputv ls σ (opd t' x) (opd t' y) (opd t' z)) k; rw [opd_ag h.l.l, opd_ag h.l.r, opd_ag h.r]
  case estore x y z => show gs (estorev σ (opd t x) (opd t y) (opd t z)) k = gs (estorev σ (opd t' x) (opd t' y) (opd t' z)) k; rw [opd_ag h.l.l, opd_ag h.l.r, opd_ag h.r]
  case mv x => show give (opd t x) k σ = give (opd t' x) k σ; rw [opd_ag h]
  case asg x => show give (opd t x) k σ = give (opd t' x) k σ; rw [opd_ag h]
  case box x => show Bool.rec (motive := fun _ => Prop) False (k (.ptr σ.n 0) (σ.add (.cells false (opd t x).cells))) (ones (opd t x).cells) = Bool.rec (motive := fun _ => Prop) False (k (.ptr σ.n 0) (σ.add (.cells false (opd t' x).cells))) (ones (opd t' x).cells); rw [opd_ag h]
  case ld n x => show ldv n (opd t x) k σ = ldv n (opd t' x) k σ; rw [opd_ag h]
  case nilck x => show nilckv (opd t x) k σ = nilckv (opd t' x) k σ; rw [opd_ag h]
  case un op x => show unop op (opd t x) k σ = unop op (opd t' x) k σ; rw [opd_ag h]
  case cvt kd x => show cvtv kd (opd t x) k σ = cvtv kd (opd t' x) k σ; rw [opd_ag h]
  case s2b x => show evalOp (.s2b (.c (opd t x))) K t σ k = evalOp (.s2b (.c (opd t' x))) K t' σ k; rw [opd_ag h]; rfl
  case slen x => show evalOp (.slen (.c (opd t x))) K t σ k = evalOp (.slen (.c (opd t' x))) K t' σ k; rw [opd_ag h]; rfl
  case fadr off x => show fadrv off (opd t x) k σ = fadrv off (opd t' x) k σ; rw [opd_ag h]
  case fld off n x => show fldv off n (opd t x) k σ = fldv off n (opd t' x) k σ; rw [opd_ag h]
  case mrange x => show gvs (rangev σ (opd t x)) k = gvs (rangev σ (opd t' x)) k; rw [opd_ag h]
  case mnext x => show mnextP σ (opd t x) k = mnextP σ (opd t' x) k; rw [opd_ag h]
  case mcur x => show mcurv (opd t x) k σ = mcurv (opd t' x) k σ; rw [opd_ag h]
  case ext x i => show extv (opd t x) i k σ = extv (opd t' x) i k σ; rw [opd_ag h]
  case len x => show lenv (opd t x) k σ = lenv (opd t' x) k σ; rw [opd_ag h]
  case lenm x => show mlenv (opd t x) k σ = mlenv (opd t' x) k σ; rw [opd_ag h]
  case cap x => show capv (opd t x) k σ = capv (opd t' x) k σ; rw [opd_ag h]
  case clear zs x => show gs (clearv zs σ (opd t x)) k = gs (clearv zs σ (opd t' x)) k; rw [opd_ag h]
  case st n x y => show stv n (opd t x) (opd t y) k σ = stv n (opd t' x) (opd t' y) k σ; rw [opd_ag h.l, opd_ag h.r]
  case bin op x y => show bin op (opd t x) (opd t y) k σ = bin op (opd t' x) (opd t' y) k σ; rw [opd_ag h.l, opd_ag h.r]
  case eqb neg x y => show eqbv neg (opd t x) (opd t y) k σ = eqbv neg (opd t' x) (opd t' y) k σ; rw [opd_ag h.l, opd_ag h.r]
  case eqn kd neg x y => show eqnv kd neg (opd t x) (opd t y) k σ = eqnv kd neg (opd t' x) (opd t' y) k σ; rw [opd_ag h.l, opd_ag h.r]
  case eqa neg ls x y => show eqv neg ls (opd t x) (opd t y) k σ = eqv neg ls (opd t' x) (opd t' y) k σ; rw [opd_ag h.l, opd_ag h.r]
  case mksl es by_ zs x y => show mkslP by_ zs (opd t x) (opd t y) σ k = mkslP by_ zs (opd t' x) (opd t' y) σ k; rw [opd_ag h.l, opd_ag h.r]
  case ixs es x y => show ixsv es (opd t x) (opd t y) k σ = ixsv es (opd t' x) (opd t' y) k σ; rw [opd_ag h.l, opd_ag h.r]
  case ixa n es x y => show ixav n es (opd t x) (opd t y) k σ = ixav n es (opd t' x) (opd t' y) k σ; rw [opd_ag h.l, opd_ag h.r]
  case ixv l es n x y => show ixvv l es n (opd t x) (opd t y) k σ = ixvv l es n (opd t' x) (opd t' y) k σ; rw [opd_ag h.l, opd_ag h.r]
  case ixstr x y => show ixstrv (opd t x) (opd t y) k σ = ixstrv (opd t' x) (opd t' y) k σ; rw [opd_ag h.l, opd_ag h.r]
  case look ls z x y ok => show lookv ls z ok (opd t x) (opd t y) k σ = lookv ls z ok (opd t' x) (opd t' y) k σ; rw [opd_ag h.l, opd_ag h.r]
  case mentry ls z x y => show gvs (mentryv ls z σ (opd t x) (opd t y)) k = gvs (mentryv ls z σ (opd t' x) (opd t' y)) k; rw [opd_ag h.l, opd_ag h.r]
  case app es by_ x y => show appP es by_ σ (opd t x) (opd t y) k = appP es by_ σ (opd t' x) (opd t' y) k; rw [opd_ag h.l, opd_ag h.r]
  case appz es by_ zs x y => show appzP es by_ zs σ (opd t x) (opd t y) k = appzP es by_ zs σ (opd t' x) (opd t' y) k; rw [opd_ag h.l, opd_ag h.r]
  case copy es x y => show gvs (copyv es σ (opd t x) (opd t y)) k = gvs (copyv es σ (opd t' x) (opd t' y)) k; rw [opd_ag h.l, opd_ag h.r]
  case del ls x y => show gs (delv ls σ (opd t x) (opd t y)) k = gs (delv ls σ (opd t' x) (opd t' y)) k; rw [opd_ag h.l, opd_ag h.r]
end

/-! ### one answer -/
def optK : Option V → Sk
  | some v => give v
  | none => fail

def Det (f : Sk) : Prop := ∃ r, f = optK r

theorem det_fail : Det fail := ⟨none, rfl⟩
theorem det_give (v : V) : Det (give v) := ⟨some v, rfl⟩
theorem det_vInt {v : V} {f : IntKind → Int → Sk} (h : ∀ kd n, Det (f kd n)) : Det (vInt v f) := by cases v <;> first | exact h _ _ | exact det_fail
theorem det_vBool {v : V} {f : Bool → Sk} (h : ∀ b, Det (f b)) : Det (vBool v f) := by cases v <;> first | exact h _ | exact det_fail
theorem det_vStr {v : V} {f : ByteArray → Sk} (h : ∀ b, Det (f b)) : Det (vStr v f) := by cases v <;> first | exact h _ | exact det_fail
theorem det_vPtr {v : V} {f : Nat → Nat → Sk} (h : ∀ b o, Det (f b o)) : Det (vPtr v f) := by cases v <;> first | exact h _ _ | exact det_fail
theorem det_vAgg {v : V} {f : List V → Sk} (h : ∀ b, Det (f b)) : Det (vAgg v f) := by cases v <;> first | exact h _ | exact det_fail
theorem det_vTup {v : V} {f : List V → Sk} (h : ∀ b, Det (f b)) : Det (vTup v f) := by cases v <;> first | exact h _ | exact det_fail
theorem det_vSlice {v : V} {f : Nat → Nat → Nat → Nat → Option Nat → Sk} (h : ∀ b o l c e, Det (f b o l c e)) : Det (vSlice v f) := by cases v <;> first | exact h _ _ _ _ _ | exact det_fail
theorem det_bool {b : Bool} {f : Sk} (h : Det f) : Det (Bool.rec (motive := fun _ => Sk) fail f b) := by cases b <;> first | exact h | exact det_fail
theorem det_if {c : Prop} [Decidable c] {f : Sk} (h : Det f) : Det (fun k σ => if c then f k σ else False) := by
  by_cases e : c
  · simp only [if_pos e]; exact h
  · simp only [if_neg e]; exact det_fail
theorem det_ifn {c : Prop} [Decidable c] {f : Sk} (h : Det f) : Det (fun k σ => if c then False else f k σ) := by
  by_cases e : c
  · simp only [if_pos e]; exact det_fail
  · simp only [if_neg e]; exact h
theorem det_nth : ∀ (l : List V) (n : Nat), Det (nth l n)
  | [], _ => det_fail
  | v :: _, 0 => det_give v
  | _ :: l, n + 1 => det_nth l n
theorem det_segv (off m : Nat) (cs : List V) : Det (segv off m cs) := det_if (det_give _)
theorem det_partv (off : Nat) (n : Option Nat) (cs : List V) : Det (partv off n cs) := by
  cases n with
  | none => exact det_nth _ _
  | some m => exact det_segv _ _ _
theorem det_ibin (op : BinOp) (kd : IntKind) (a b : Int) : Det (ibin op kd a b) := by
  cases op <;> first
    | exact det_give _
    | exact det_ifn (f := give _) (det_give _)
theorem det_bin (op : BinOp) (x y : V) : Det (bin op x y) := by
  cases x <;> first
    | exact det_fail
    | exact det_vInt fun kd n => det_bool (det_ibin _ _ _ _)
    | skip
  refine det_vStr fun b => ?_
  cases op <;> first
    | exact det_give _
    | exact det_if (f := give _) (det_give _)
    | exact det_fail
theorem det_slcAt (es b o cap : Nat) (fl : Option Nat) (l h : Nat) (m : Option Nat) : Det (slcAt es b o cap fl l h m) := by
  unfold slcAt
  cases m with
  | some m => exact det_if (f := give _) (det_give _)
  | none =>
    cases fl with
    | none => exact det_if (f := give _) (det_give _)
    | some e => exact det_if (f := fun k σ => if e = es then give _ k σ else False) (det_if (det_give _))
theorem det_foldP (f : Int → Int → Int) (kd : IntKind) : ∀ (l : List V) (a : Int), Det (foldP f kd l a)
  | [], a => det_give _
  | v :: l, a => det_vInt fun kd' b => det_bool (det_foldP f kd l _)
theorem det_foldv (f : Int → Int → Int) (l : List V) : Det (foldv f l) := by
  cases l with
  | nil => exact det_fail
  | cons v l => exact det_vInt fun kd a => det_foldP f kd l a

theorem V.beq_eq {x y : V} (h : x.beq y = true) : x = y := by
  unfold V.beq at h
  split at h <;> first | rfl | (cases h; done) | skip
  · rw [beq_iff_eq.1 h]
  · simp only [Bool.and_eq_true, beq_iff_eq] at h; rw [kindIx_inj (Nat.eq_of_beq_eq_true h.1), h.2]
  · simp only [Bool.and_eq_true] at h; rw [Nat.eq_of_beq_eq_true h.1, Nat.eq_of_beq_eq_true h.2]
  · simp only [Bool.and_eq_true, beq_iff_eq] at h; rw [Nat.eq_of_beq_eq_true h.1.1.1.1, Nat.eq_of_beq_eq_true h.1.1.1.2, Nat.eq_of_beq_eq_true h.1.1.2, Nat.eq_of_beq_eq_true h.1.2, h.2]
  · rw [Nat.eq_of_beq_eq_true h]
theorem beqs_eq : ∀ {xs ys : List V}, beqs xs ys = true → xs = ys
  | [], [], _ => rfl
  | [], _ :: _, h => by simp [beqs] at h
  | _ :: _, [], h => by simp [beqs] at h
  | x :: xs, y :: ys, h => by
    simp only [beqs, Bool.and_eq_true] at h
    rw [V.beq_eq h.1, beqs_eq h.2]

theorem nth_get : ∀ (l : List V) (n : Nat), nth l n = optK l[n]?
  | [], _ => rfl
  | v :: _, 0 => rfl
  | _ :: l, n + 1 => by rw [show nth (_ :: l) (n + 1) = nth l n from rfl, nth_get l n]; simp

theorem partv_seg {off : Nat} {n : Option Nat} {xs ys : List V} (hl : xs.length = ys.length) (h : seg xs off (n.getD 1) = seg ys off (n.getD 1)) : partv off n xs = partv off n ys := by
  cases n with
  | none =>
    show nth xs off = nth ys off
    rw [nth_get, nth_get]
    have := congrArg (·[0]?) h
    simp [seg] at this
    rw [this]
  | some m =>
    show segv off m xs = segv off m ys
    have h : seg xs off m = seg ys off m := h
    unfold segv; rw [hl, h]

/-- The cells that it reads are the same. -/
def SameAt (σ σ' : St) (r : Option (Nat × Nat)) (n : Option Nat) : Prop :=
  match r with
  | some (b, o) => σ.get b = σ'.get b ∨ segSame σ σ' b o n = true
  | none => True

def SameFor (o : EOp) (t : Tr) (σ σ' : St) : Prop :=
  match clsOf o with
  | .read x n => SameAt σ σ' (vblk (opd t x)) n
  | _ => True

def isLight (o : EOp) : Prop := clsOf o = .pure ∨ ∃ x n, clsOf o = .read x n

theorem light_of_det {o : EOp} {t : Tr} (f : Sk) (hf : Det f) (he : ∀ K σ k, evalOp o K t σ k = f k σ) :
    ∃ R : St → Option V, (∀ K σ k, evalOp o K t σ k = optK (R σ) k σ) ∧ ∀ σ σ', SameFor o t σ σ' → R σ = R σ' := by
  obtain ⟨r, hr⟩ := hf
  exact ⟨fun _ => r, fun K σ k => by rw [he, hr], fun _ _ _ => rfl⟩

theorem segSame_spec {σ σ' : St} {b o : Nat} {n : Option Nat} (h : segSame σ σ' b o n = true) : ∃ m xs ys, n = some m ∧ cellsOf (σ.get b) = some xs ∧ cellsOf (σ'.get b) = some ys ∧ xs.length = ys.length ∧ seg xs o m = seg ys o m := by
  unfold segSame at h
  split at h
  · simp only [Bool.and_eq_true] at h
    exact ⟨_, _, _, rfl, by assumption, by assumption, Nat.eq_of_beq_eq_true h.1, beqs_eq h.2⟩
  · cases h

theorem light_det {o : EOp} (hc : isLight o) (t : Tr) :
    ∃ R : St → Option V, (∀ K σ k, evalOp o K t σ k = optK (R σ) k σ) ∧ ∀ σ σ', SameFor o t σ σ' → R σ = R σ' := by
  have hno : ∀ {c : Cls}, clsOf o = c → c = .alloc ∨ c = .serial → False := by
    rintro c rfl h
    rcases hc with hc | ⟨x, n, hc⟩ <;> rw [hc] at h <;> rcases h with h | h <;> cases h
  cases o <;> first
    | exact (hno rfl (.inl rfl)).elim
    | exact (hno rfl (.inr rfl)).elim
    | skip
  case mv x => exact light_of_det _ (det_give (opd t x)) fun _ _ _ => rfl
  case pick c x y => exact light_of_det _ (det_vBool (v := opd t c) fun b => det_give (Bool.rec (motive := fun _ => V) (opd t y) (opd t x) b)) fun _ _ _ => rfl
  case build zs ps =>
    refine light_of_det (fun k σ => gagg (fillp t zs ps) σ k) ?_ fun _ _ _ => rfl
    cases fillp t zs ps <;> first | exact det_fail | exact det_give _
  case nilck x =>
    refine light_of_det (f := nilckv (opd t x)) ?_ fun _ _ _ => rfl
    cases opd t x <;> first | exact det_fail | exact det_give _
  case bin op x y => exact light_of_det _ (det_bin op (opd t x) (opd t y)) fun _ _ _ => rfl
  case eqb neg x y => exact light_of_det (f := eqbv neg (opd t x) (opd t y)) (det_vBool fun a => det_vBool fun b => det_give _) fun _ _ _ => rfl
  case eqn kd neg x y =>
    refine light_of_det (f := eqnv kd neg (opd t x) (opd t y)) ?_ fun _ _ _ => rfl
    unfold eqnv
    cases isNil kd (opd t x) with
    | none => exact det_fail
    | some b => cases isNil kd (opd t y) with
      | none => cases b <;> exact det_fail
      | some b' => cases b <;> cases b' <;> first | exact det_fail | exact det_give _
  case eqa neg ls x y =>
    refine light_of_det (f := eqv neg ls (opd t x) (opd t y)) (det_vAgg fun xs => det_vAgg fun ys => ?_) fun _ _ _ => rfl
    unfold eqc
    cases eql ls xs ys <;> first | exact det_fail | exact det_give _
  case un op x =>
    refine light_of_det (f := unop op (opd t x)) ?_ fun _ _ _ => rfl
    cases op <;> first | exact det_vInt fun _ _ => det_give _ | exact det_vBool fun _ => det_give _ | exact det_fail
  case cvt kd x => exact light_of_det (f := cvtv kd (opd t x)) (det_vInt fun _ _ => det_give _) fun _ _ _ => rfl
  case mkfn f xs ys => exact light_of_det _ (det_give (.func f (opds t xs) (opds t ys))) fun _ _ _ => rfl
  case slc es x lo hi mx =>
    refine light_of_det (f := slcv es t (opd t x) lo hi mx) ?_ fun _ _ _ => rfl
    unfold slcv
    cases opd t x <;> first | exact det_fail | skip
    case slice b o l c e =>
      dsimp only
      cases bnd t lo 0 with
      | none => exact det_fail
      | some l' => cases bnd t hi l with
        | none => exact det_fail
        | some h' => cases mx with
          | none => exact det_slcAt _ _ _ _ _ _ _ _
          | some m =>
            dsimp only
            cases bnd t (some m) 0 with
            | none => exact det_fail
            | some m' => exact det_slcAt _ _ _ _ _ _ _ _
    case nilslice =>
      dsimp only
      rcases bnd t lo 0 with _ | _ | l' <;> rcases bnd t hi 0 with _ | _ | h' <;> rcases bnd t mx 0 with _ | _ | m' <;> first | exact det_fail | exact det_give _
  case slcs x lo hi =>
    refine light_of_det (f := slcsv t (opd t x) lo hi) ?_ fun _ _ _ => rfl
    unfold slcsv
    cases opd t x <;> first | exact det_fail | skip
    rename_i s
    dsimp only
    cases bnd t lo 0 with
    | none => exact det_fail
    | some l' => cases bnd t hi s.size with
      | none => exact det_fail
      | some h' => exact det_if (f := give _) (det_give _)
  case slca n es x lo hi mx =>
    refine light_of_det (f := slcav n es t (opd t x) lo hi mx) ?_ fun _ _ _ => rfl
    unfold slcav
    cases opd t x <;> first | exact det_fail | skip
    dsimp only
    cases bnd t lo 0 with
    | none => exact det_fail
    | some l' => cases bnd t hi n with
      | none => exact det_fail
      | some h' => cases bnd t mx n with
        | none => exact det_fail
        | some m' => exact det_if (f := slcAt _ _ _ _ _ _ _ _) (det_slcAt _ _ _ _ _ _ _ _)
  case fadr off x => exact light_of_det (f := fadrv off (opd t x)) (det_vPtr fun _ _ => det_give _) fun _ _ _ => rfl
  case fld off n x => exact light_of_det (f := fldv off n (opd t x)) (det_vAgg fun _ => det_partv _ _ _) fun _ _ _ => rfl
  case ixs es x i => exact light_of_det (f := ixsv es (opd t x) (opd t i)) (det_vSlice fun _ _ _ _ _ => det_vInt fun _ _ => det_bool (det_give _)) fun _ _ _ => rfl
  case ixa n es x i => exact light_of_det (f := ixav n es (opd t x) (opd t i)) (det_vPtr fun _ _ => det_vInt fun _ _ => det_bool (det_give _)) fun _ _ _ => rfl
  case ixv l es n x i => exact light_of_det (f := ixvv l es n (opd t x) (opd t i)) (det_vAgg fun _ => det_vInt fun _ _ => det_bool (det_partv _ _ _)) fun _ _ _ => rfl
  case ixstr x i =>
    refine light_of_det (f := ixstrv (opd t x) (opd t i)) (det_vStr fun s => det_vInt fun _ n => ?_) fun _ _ _ => rfl
    cases s.data.toList[n.toNat]? with
    | none => exact det_if (f := fail) det_fail
    | some c => exact det_if (f := give _) (det_give _)
  case ext x i => exact light_of_det (f := extv (opd t x) i) (det_vTup fun _ => det_nth _ _) fun _ _ _ => rfl
  case slen x => exact light_of_det (f := vStr (opd t x) (fun s => give (.int .i64 s.size))) (det_vStr fun _ => det_give _) fun _ _ _ => rfl
  case len x =>
    refine light_of_det (f := lenv (opd t x)) ?_ fun _ _ _ => rfl
    cases opd t x <;> first | exact det_fail | exact det_give _
  case lenc n => exact light_of_det _ (det_give (.int .i64 n)) fun _ _ _ => rfl
  case cap x =>
    refine light_of_det (f := capv (opd t x)) ?_ fun _ _ _ => rfl
    unfold capv
    cases opd t x <;> first | exact det_fail | exact det_give _ | skip
    rename_i b o l c e
    cases e <;> first | exact det_fail | exact det_give _
  case min xs => exact light_of_det _ (det_foldv imin (opds t xs)) fun _ _ _ => rfl
  case max xs => exact light_of_det _ (det_foldv imax (opds t xs)) fun _ _ _ => rfl
  case ld n x =>
    show ∃ R : St → Option V, (∀ (K : KT) σ k, ldv n (opd t x) k σ = optK (R σ) k σ) ∧ ∀ σ σ', SameAt σ σ' (vblk (opd t x)) (some (n.getD 1)) → R σ = R σ'
    cases opd t x <;> first | exact ⟨fun _ => none, fun _ _ _ => rfl, fun _ _ _ => rfl⟩ | skip
    rename_i b o
    have hd : ∀ vs : Option (List V), ∃ r, (Option.rec (motive := fun _ => Sk) fail (fun vs => partv o n vs) vs : Sk) = optK r := by
      intro vs
      cases vs with
      | none => exact det_fail
      | some vs => exact det_partv o n vs
    refine ⟨fun σ => Classical.choose (hd (cellsOf (σ.get b))), fun K σ k => ?_, fun σ σ' h => ?_⟩
    · have := Classical.choose_spec (hd (cellsOf (σ.get b)))
      rw [← this]; rfl
    · have e1 := Classical.choose_spec (hd (cellsOf (σ.get b)))
      have e2 := Classical.choose_spec (hd (cellsOf (σ'.get b)))
      have hinj : ∀ r r' : Option V, optK r = optK r' → r = r' := by
        intro r r' h
        have h1 := fun k => congrFun (congrFun h k) ⟨[], 0, 0, []⟩
        cases r with
        | none =>
          cases r' with
          | none => rfl
          | some v => have := h1 (fun _ _ => True); simp [optK, fail, give] at this
        | some v =>
          cases r' with
          | none => have := h1 (fun _ _ => True); simp [optK, fail, give] at this
          | some v' => have := h1 (fun x _ => x = v); simp [optK, give] at this; rw [this]
      apply hinj
      rw [← e1, ← e2]
      rcases h with h | h
      · rw [h]
      · obtain ⟨m, xs, ys, h1, h2, h3, h4, h5⟩ := segSame_spec h
        cases h1
        rw [h2, h3]
        exact partv_seg h4 h5
  case look ls z x y ok =>
    show ∃ R : St → Option V, (∀ (K : KT) σ k, lookv ls z ok (opd t x) (opd t y) k σ = optK (R σ) k σ) ∧ ∀ σ σ', SameAt σ σ' (vblk (opd t x)) none → R σ = R σ'
    let F : Option (List (V × V × Nat)) → Option V := fun e => match e with
      | none => none
      | some es => if keyOk ls (opd t y) then (match findk ls (opd t y) es 0 with
        | some (some (_, v)) => some (if ok then .tup [v, .bool true] else v)
        | some none => some (if ok then .tup [z, .bool false] else z)
        | none => none) else none
    refine ⟨fun σ => F (entriesOf σ (opd t x)), fun K σ k => ?_, fun σ σ' h => ?_⟩
    · show lookv ls z ok (opd t x) (opd t y) k σ = optK (F (entriesOf σ (opd t x))) k σ
      unfold lookv
      cases entriesOf σ (opd t x) with
      | none => rfl
      | some es =>
        dsimp only [F]
        split
        · cases findk ls (opd t y) es 0 with
          | none => rfl
          | some r => cases r with
            | none => cases ok <;> rfl
            | some p => cases ok <;> rfl
        · rfl
    · show F (entriesOf σ (opd t x)) = F (entriesOf σ' (opd t x))
      congr 1
      cases hx : opd t x <;> try rfl
      rename_i b
      rw [hx] at h
      rcases h with h | h
      · show (mapOf (σ.get b)).map (·.1) = (mapOf (σ'.get b)).map (·.1); rw [h]
      · obtain ⟨m, _, _, h1, _⟩ := segSame_spec h; cases h1
  case lenm x =>
    show ∃ R : St → Option V, (∀ (K : KT) σ k, mlenv (opd t x) k σ = optK (R σ) k σ) ∧ ∀ σ σ', SameAt σ σ' (vblk (opd t x)) none → R σ = R σ'
    refine ⟨fun σ => (entriesOf σ (opd t x)).map fun es => .int .i64 es.length, fun K σ k => ?_, fun σ σ' h => ?_⟩
    · show mlenv (opd t x) k σ = optK ((entriesOf σ (opd t x)).map fun es => .int .i64 es.length) k σ
      unfold mlenv
      cases entriesOf σ (opd t x) <;> rfl
    · show (entriesOf σ (opd t x)).map _ = (entriesOf σ' (opd t x)).map _
      congr 1
      cases hx : opd t x <;> try rfl
      rename_i b
      rw [hx] at h
      rcases h with h | h
      · show (mapOf (σ.get b)).map (·.1) = (mapOf (σ'.get b)).map (·.1); rw [h]
      · obtain ⟨m, _, _, h1, _⟩ := segSame_spec h; cases h1

/-- An operation that makes a block. -/
theorem alloc_det {o : EOp} (hc : clsOf o = .alloc) {K : KT} {t : Tr} {σ : St} {k : Cn} (h : evalOp o K t σ k) :
    ∃ mk ob, k (mk σ.n) (σ.add ob) ∧ ∀ {P : Program} {d nt : Nat} {μ : Mp} {w : World} {a : Act} {op : Oper} {t' : Tr}, AgS o.slots t t' → TR μ d t' a.tmps → a.tmps.size = nt → opOk P d nt op.op op.type o = true → NewS P μ w (execOp a.eval op) mk ob := by
  cases o <;> first
    | (cases hc; done)
    | skip
  case alloc zs => exact ⟨fun b => .ptr b 0, _, h, fun ha ht hn hop => n_alloc hop⟩
  case box x =>
    have hk : Bool.rec (motive := fun _ => Prop) False (k (.ptr σ.n 0) (σ.add (.cells false (opd t x).cells))) (ones (opd t x).cells) := h
    obtain ⟨ho, hk⟩ := boolRecP_elim hk
    refine ⟨fun b => .ptr b 0, _, hk, fun ha ht hn hop => ?_⟩
    have e := opd_ag (x := x) ha
    rw [e] at ho ⊢
    exact n_box ht hn hop ho
  case mkmap => exact ⟨fun b => .map b, _, h, fun ha ht hn hop => n_mkmap hop⟩
  case mksl es by_ zs l c =>
    have hk : mkslP by_ zs (opd t l) (opd t c) σ k := h
    obtain ⟨kl, kc, l0, c0, e1, e2, hc, hk⟩ := mksl_elim hk
    refine ⟨fun b => .slice b 0 l0.toNat c0.toNat none, _, hk, fun ha ht hn hop => ?_⟩
    rw [opd_ag (AgS.l ha)] at e1
    rw [opd_ag (AgS.r ha)] at e2
    exact n_mksl ht hn hop e1 e2 hc
  case bslice es n zs ps =>
    have hk : gnew (fills t es (zrow zs n) ps) n σ k := h
    unfold gnew at hk
    split at hk
    · rename_i r hf
      refine ⟨fun b => .slice b 0 n n none, _, hk, fun ha ht hn hop => ?_⟩
      rw [fills_ag ha] at hf
      exact n_bslice ht hn hop hf
    · cases hk

end Go.Proofs.Ytnmkbnejapdnnaa.Ev
