/-
  copy, clear, append, a string's bytes.
-/
import Derived.Test.YtnmkbnejapdnnaaEvOpD
set_option linter.unusedVariables false
set_option maxRecDepth 4000
namespace Go.Proofs.Ytnmkbnejapdnnaa.Ev
open Go

section
variable {P : Program} {N0 : Nat} {μ : Mp} {σ σ' : St} {w w' : World} {k : Cn} {K : KT} {d nt : Nat} {a : Act} {t : Tr} {o : Oper}

theorem lenN_run {x : V} {u : Value} {m : Nat} (hv : VR μ x u) (h : lenN x = some m) : (Builtin.lenOf u).run P w = .ok m w := by
  unfold lenN at h
  split at h
  · cases h; simp only [VR] at hv; obtain ⟨c, d, o', cap', _, rfl, _⟩ := hv; simp [Builtin.lenOf]
  · cases h; simp only [VR] at hv; subst hv; simp [Builtin.lenOf]
  · cases h; simp only [VR] at hv; subst hv; simp [Builtin.lenOf]
  · cases h

theorem bytes_VRs (l : List UInt8) : VRs μ (l.map fun c => V.int .u8 c.toNat) (l.map fun c => Value.int .u8 c.toNat) := by
  induction l with
  | nil => exact VRs_nil.2 rfl
  | cons c l ih => exact VRs_cons.2 ⟨_, _, rfl, VR_int, ih⟩

/-- The first m elements, as the machine reads them. -/
theorem firstv_run (hs : SR P N0 μ σ w) {es m L : Nat} {x : V} {u : Value} {cs : List V} (hv : VR μ x u) (hL : lenN x = some L) (hm : m ≤ L) (h : firstv es m σ x = some cs) :
    ∃ us, VRs μ cs us ∧ ∀ w', w'.heap = w.heap → (Builtin.firstCells es m u).run P w' = .ok us.toArray w' := by
  unfold firstv at h
  split at h
  · split at h
    · cases h; simp only [VR] at hv; subst hv
      exact ⟨[], VRs_nil.2 rfl, fun w' _ => by simp [Builtin.firstCells]⟩
    · cases h
  · rename_i b o len cap fl
    simp only [lenN] at hL; cases hL
    split at h
    · rename_i vs e
      split at h
      · rename_i hle
        cases h
        obtain ⟨ro, hg⟩ := cellsOf_spec e
        obtain ⟨c', d', arr, ty', lo, hi, us, hp', h1, h2, h3, h4, _⟩ := hs.cells hg
        simp only [VR] at hv
        obtain ⟨c, d, o', cap', hp, rfl, hlc, ho, _⟩ := hv
        rw [hp] at hp'; cases hp'
        refine ⟨(us.drop o).take (m * es), seg_VRs h3 o _, fun w' hw => ?_⟩
        rcases ho with ho | rfl
        · have hm0 : m = 0 := by omega
          subst hm0
          simp [Builtin.firstCells, loadCells, loadCellsFrom]
        · have := load_seg (P := P) (w := w') (by rw [hw]; exact h1) h4 (o := o) (n := m * es) (by rw [VRs_length h3]; exact hle)
          simp only [Builtin.firstCells]; exact this
      · cases h
    · cases h
  · rename_i s
    split at h
    · cases h
      simp only [VR] at hv; subst hv
      refine ⟨(s.data.toList.take m).map fun c => .int .u8 c.toNat, bytes_VRs _, fun w' _ => ?_⟩
      simp only [lenN] at hL; cases hL
      simp only [Builtin.firstCells, Sem.run_pure]
      congr 1
      apply Array.toList_inj.1
      simp
    · cases h
  · cases h

theorem s_copy (hs : SR P N0 μ σ w) (ht : TR μ d t a.tmps) (hn : a.tmps.size = nt) {es : Nat} {x' y' : Opd} (hop : opOk P d nt o.op o.type (.copy es x' y') = true) (h : evalOp (.copy es x' y') K t σ k) : OpS P N0 μ σ w (execOp a.eval o) k := by
  have hk : gvs (copyv es σ (opd t x') (opd t y')) k := h
  have : ∃ c ty ty' el, o.op = .call c ∧ bltOk c .copy = true ∧ opdsOk d nt c.args.toList [x', y'] = true ∧ c.argTypes = #[ty, ty'] ∧ P.underlying ty = some (.slice el) ∧ sizeT P el = some es := by
    replace hop : ok_copy P d nt o.op es x' y' = true := hop
    unfold ok_copy at hop
    split at hop
    · rename_i e; simp only [Bool.and_eq_true] at hop
      obtain ⟨⟨h1, h2⟩, h3⟩ := hop
      split at h3
      · rename_i ht'
        split at h3
        · rename_i el hel; exact ⟨_, _, _, el, e, h1, h2, Array.toList_inj.1 (by simpa using ht'), sliceElem_spec hel, by simpa using h3⟩
        · cases h3
      · cases h3
    · cases hop
  obtain ⟨c, ty, ty', el, he, hb, hxs, hty, hu, hsz⟩ := this
  obtain ⟨consts, hex⟩ := exec_blt he hb a.eval
  obtain ⟨ux, uy, hargs, vx, vy⟩ := args2 ht hn hxs
  rw [hex, hargs, hty]
  obtain ⟨v, σ', hcp, hk⟩ := gvs_elim hk
  have hr := run_sizeOf (P := P) (w := w) hsz
  generalize opd t x' = x at vx hcp
  generalize opd t y' = y at vy hcp
  unfold copyv at hcp
  split at hcp
  · rename_i m hm
    cases hcp
    simp only [VR] at vx; subst vx
    have hl := lenN_run (P := P) (w := w) vy hm
    obtain ⟨us, hus, hf⟩ : ∃ us : Array Value, True ∧ (Builtin.firstCells es 0 uy).run P w = .ok us w := by
      unfold lenN at hm
      split at hm
      · simp only [VR] at vy; obtain ⟨c, d, o', cap', _, rfl, _⟩ := vy; exact ⟨#[], trivial, by simp [Builtin.firstCells, loadCells, loadCellsFrom]⟩
      · simp only [VR] at vy; subst vy; exact ⟨#[], trivial, by simp [Builtin.firstCells]⟩
      · simp only [VR] at vy; subst vy; exact ⟨_, trivial, by simp [Builtin.firstCells]; rfl⟩
      · cases hm
    refine OpS.pure hs hk VR_int ?_
    have hmin : Nat.min m 0 = 0 := Nat.min_zero m
    simp [builtin, Builtin.copy_, underlying, hu, hl, hmin, hr, hf, goInt]
  · rename_i b o' len cap fl m hm
    split at hcp
    · rename_i cs hcs
      split at hcp
      · rename_i σ'' hw
        cases hcp
        have hl := lenN_run (P := P) (w := w) vy hm
        obtain ⟨us, hus, hf⟩ := firstv_run hs vy hm (Nat.min_le_left _ _) hcs
        have hf := hf w rfl
        obtain ⟨c, d', w', hp, hrun, hpost⟩ := wrs_post hs hw hus
        simp only [VR] at vx
        obtain ⟨c', d'', o'', cap', hp', rfl, hlc, ho, _⟩ := vx
        rw [hp] at hp'; cases hp'
        have hst : (storeCells ⟨c, o'', none⟩ us).run P w = .ok () w' := by
          rcases ho with ho | ho
          · refine hrun o'' (.inl ?_)
            have hz : Nat.min m len = 0 := by rw [show len = 0 by omega]; exact Nat.min_zero m
            rw [hz] at hcs
            have : cs = [] := by
              unfold firstv at hcs
              split at hcs
              · cases hcs; rfl
              · split at hcs
                · split at hcs
                  · cases hcs; simp [seg]
                  · cases hcs
                · cases hcs
              · split at hcs
                · cases hcs; simp
                · cases hcs
              · cases hcs
            subst this
            exact VRs_nil.1 hus
          · exact hrun o'' (.inr ho)
        refine ⟨_, σ', μ, w', .int .i64 (Nat.min m len : Nat), hk, hpost, VR_int, .value ?_⟩
        simp [builtin, Builtin.copy_, underlying, hu, hl, hr, hf, hst, goInt]
      · cases hcp
    · cases hcp
  · cases hcp

theorem s_clear (hs : SR P N0 μ σ w) (ht : TR μ d t a.tmps) (hn : a.tmps.size = nt) {zs : List V} {x' : Opd} (hop : opOk P d nt o.op o.type (.clear zs x') = true) (h : evalOp (.clear zs x') K t σ k) : OpS P N0 μ σ w (execOp a.eval o) k := by
  have hk : gs (clearv zs σ (opd t x')) k := h
  have : ∃ c ty el, o.op = .call c ∧ bltOk c .clear = true ∧ opdsOk d nt c.args.toList [x'] = true ∧ c.argTypes = #[ty] ∧ P.underlying ty = some (.slice el) ∧ zeroOk (zeroT P el) zs = true ∧ 0 < zs.length := by
    replace hop : ok_clear P d nt o.op zs x' = true := hop
    unfold ok_clear at hop
    split at hop
    · rename_i e; simp only [Bool.and_eq_true] at hop
      obtain ⟨⟨h1, h2⟩, h3⟩ := hop
      split at h3
      · rename_i ht'
        split at h3
        · rename_i el hel
          simp only [Bool.and_eq_true] at h3
          exact ⟨_, _, el, e, h1, h2, tys1 ht', sliceElem_spec hel, h3.1, blt_iff.1 h3.2⟩
        · cases h3
      · cases h3
    · cases hop
  obtain ⟨c, ty, el, he, hb, hxs, hty, hu, hz, hz0⟩ := this
  obtain ⟨consts, hex⟩ := exec_blt he hb a.eval
  obtain ⟨ux, hargs, vx⟩ := args1 ht hn hxs
  rw [hex, hargs, hty]
  obtain ⟨σ', hcl, hk⟩ := gs_elim hk
  obtain ⟨z, hz1, hz2⟩ := zero_spec hz
  generalize opd t x' = x at vx hcl
  have none_ : (builtin .clear #[ty] o.type consts #[ux]).run P w = .ok (.value (.tuple #[])) w → σ' = σ → OpS P N0 μ σ w (builtin .clear #[ty] o.type consts #[ux]) k := by
    intro h1 h2; rw [h2] at hk
    exact OpS.pure (v := .bot) (cv := .tuple #[]) hs hk (by simp only [VR]) h1
  unfold clearv at hcl
  split at hcl
  · cases hcl; simp only [VR] at vx; subst vx
    exact none_ (by simp [builtin, Builtin.clear_, underlying, hu]) rfl
  · cases hcl; simp only [VR] at vx; obtain ⟨c', d'', o'', cap', hp', rfl, hlc, ho, _⟩ := vx
    exact none_ (by simp [builtin, Builtin.clear_, underlying, hu]) rfl
  · cases hcl; simp only [VR] at vx; subst vx
    exact none_ (by simp [builtin, Builtin.clear_, underlying, hu]) rfl
  · rename_i b o' len cap fl hne
    simp only [VR] at vx; obtain ⟨c', d'', o'', cap', hp', rfl, hlc, ho, _⟩ := vx
    have hlen : len ≠ 0 := fun h => hne h
    have hzz : 0 < z.cells.size := by rw [← VRs_length (hz2 μ)] at hz0; simpa using hz0
    have hzl := zeroCells_list z.cells len hzz
    obtain ⟨c, d', w', hp, hrun, hpost⟩ := wrs_post hs hcl (us := (Builtin.zeroCells z.cells len).toList) (by rw [zrow_eq, hzl]; exact flat_VRs (hz2 μ) _)
    rw [hp] at hp'; cases hp'
    have hst := hrun o'' (.inr (by omega))
    refine ⟨_, σ', μ, w', .tuple #[], hk, hpost, by simp [VR], .value ?_⟩
    cases len with
    | zero => exact absurd rfl hlen
    | succ len => simp [builtin, Builtin.clear_, underlying, hu, hz1, hst]
  · rename_i b
    split at hcl
    · rename_i es clock hm
      cases hcl
      have hg : σ.get b = some (.map es clock) := by
        unfold mapOf at hm
        split at hm
        · rename_i e; cases hm; exact e
        · cases hm
      obtain ⟨c, d', hp, hd, arr, h1, h2⟩ := hs.obj b _ hg (by simp)
      simp only [VR] at vx
      obtain ⟨c', hp', rfl⟩ := vx
      rw [hp] at hp'; cases hp'
      have hlt : c < w.heap.size := (Array.getElem?_eq_some_iff.1 h1).1
      refine ⟨_, _, μ, { w with heap := w.heap.setIfInBounds c (.map #[] clock) }, .tuple #[], hk, ?_, by simp [VR], .value ?_⟩
      · refine Post.put hs hg rfl hp (fun _ h => by cases h) (by simp) (x := .map #[] clock) (by simp [hlt]) (fun k hk => by simp [Array.getElem?_setIfInBounds_ne (Ne.symm hk)]) rfl rfl rfl (fun _ => ⟨rfl, #[], rfl, rfl⟩)
      · simp [builtin, Builtin.clear_, underlying, hu, getObj, setObj, Sem.run, h1]
    · cases hcl
  · cases hcl

/-! ### append -/
/-- What 'append' answers. 'appended' is what its second argument comes to. -/
def appTail (el : TypeId) (size bytes sLen sCap n : Nat) (base : Option Addr) (s : Value) (zero : Value) (appended : Sem (Array Value)) : Sem Value := do
  if sLen + n ≤ sCap then
    let new ← appended
    if let some a := base then storeCells (a.add (sLen * size)) new.toList
    pure (.slice base (sLen + n) sCap)
  else
    let newCap ← choose (.appendCap (sLen + n) sCap el)
    askRoom (newCap * bytes)
    let old ← Builtin.firstCells size sLen s
    let new ← appended
    let rest := Builtin.zeroCells zero.cells (newCap - (sLen + n))
    pure (.slice (some (← newRow el (old ++ new ++ rest))) (sLen + n) newCap)

theorem append_eq {ty u rt el : TypeId} {i : TypeInfo} {z : Value} (hu : P.underlying ty = some (.slice el)) {du : TypeDesc} (hu' : P.underlying u = some du) (hni : ∀ k, du ≠ .int k) (hi : P.info? el = some i) (hz : i.zero = some z) (base : Option Addr) (sLen sCap n : Nat) (x : Value)
    (hl : (Builtin.lenOf x).run P w = .ok n w) (h1 : 0 < i.bytes) (h2 : sLen + n ≤ sCap ∨ Builtin.nextslicecap (sLen + n) sCap * i.bytes ≤ 281474976710656) :
    (Builtin.append_ #[ty, u] rt #[.slice base sLen sCap, x]).run P w = (appTail el i.size i.bytes sLen sCap n base (.slice base sLen sCap) z (Builtin.firstCells i.size n x)).run P w := by
  have hm : (match du with | .int _ => true | _ => false) = false := by cases du <;> first | rfl | exact absurd rfl (hni _)
  have hbz : ¬ i.bytes = 0 := by omega
  by_cases hc : sLen + n ≤ sCap
  · cases base <;> simp [Builtin.append_, appTail, underlying, hu, hu', sizeOf, typeInfo, hi, hm, hl, hc]
  · have h2' : ¬ (281474976710656 < Builtin.nextslicecap (sLen + n) sCap * i.bytes) := by rcases h2 with h2 | h2 <;> omega
    simp [Builtin.append_, appTail, underlying, hu, hu', sizeOf, typeInfo, hi, hm, hl, hc, hbz, h2', zeroValue, hz]

theorem appTail_post (hs : SR P N0 μ σ w) {el : TypeId} {es bytes : Nat} {s : V} {us : Value} {m : Nat} {new : List V} {v : V} {σ' : St} {news : List Value} {zero : Value} {appended : Sem (Array Value)}
    (hv : VR μ s us) (happ : appv es bytes σ s m new = some (v, σ')) (hnew : VRs μ new news) (hnl : new.length = m * es) (hz : zero.cells.size = es) (he0 : 0 < es) (hb0 : 0 < bytes)
    (hrun : ∀ w', w'.heap = w.heap → appended.run P w' = .ok news.toArray w') :
    ∃ base sLen sCap μ' w' cv, us = .slice base sLen sCap ∧ Post P N0 μ σ w μ' σ' w' ∧ VR μ' v cv ∧ (sLen + m ≤ sCap ∨ Builtin.nextslicecap (sLen + m) sCap * bytes ≤ 281474976710656) ∧
      (appTail el es bytes sLen sCap m base us zero appended).run P w = .ok cv w' := by
  have hnl' : news.length = m * es := by rw [VRs_length hnew, hnl]
  -- growing into a new block
  have grow : ∀ (σ₁ : St) (base : Option Addr) (sLen sCap : Nat) (old : List V) (olds : List Value), SR P N0 μ σ₁ w → Post P N0 μ σ w μ σ₁ w → ¬ sLen + m ≤ sCap → (sLen + m) * bytes ≤ 1073741824 → VRs μ old olds → olds.length = sLen * es →
      (∀ w', w'.heap = w.heap → (Builtin.firstCells es sLen (.slice base sLen sCap)).run P w' = .ok olds.toArray w') →
      ∃ μ' w' cv, Post P N0 μ σ w μ' (σ₁.add (.cells false (old ++ new))) w' ∧ VR μ' (.slice σ₁.n 0 (sLen + m) (sLen + m) (some es)) cv ∧ Builtin.nextslicecap (sLen + m) sCap * bytes ≤ 281474976710656 ∧
        (appTail el es bytes sLen sCap m base (.slice base sLen sCap) zero appended).run P w = .ok cv w' := by
    intro σ₁ base sLen sCap old olds hs₁ hp₁ hc hbd ho hol hf
    have hcap := grownCap_ge w (sLen + m) sCap el
    have hfit := growslice_fits (need := sLen + m) (old := sCap) (bytes := bytes) (by omega) (by omega)
    have hsz : (olds.toArray ++ news.toArray ++ Builtin.zeroCells zero.cells (grownCap w (sLen + m) sCap el - (sLen + m))).size = grownCap w (sLen + m) sCap el * es := by
      simp only [Array.size_append, List.size_toArray, size_zeroCells, hol, hnl', hz]
      rw [← Nat.add_mul, ← Nat.add_mul]; congr 1; omega
    have hpa := Post.add hs₁ (.cells false (old ++ new)) (.cells (olds.toArray ++ news.toArray ++ Builtin.zeroCells zero.cells (grownCap w (sLen + m) sCap el - (sLen + m))) el (0, 0)) _ rfl
      (w' := w.drew.alloc (.cells (olds.toArray ++ news.toArray ++ Builtin.zeroCells zero.cells (grownCap w (sLen + m) sCap el - (sLen + m))) el)) rfl rfl rfl rfl
      (fun μ' ha hp hz => ObjR_new hs₁ ha (VRs_append ho hnew) hz.symm (fun i u hu => by
        rw [← Array.getElem?_toList]
        simp only [Array.toList_append, List.append_assoc]
        rw [← List.append_assoc, List.getElem?_append_left (by simpa using (List.getElem?_eq_some_iff.1 hu).1)]
        simpa using hu) (fun i _ => by omega))
    refine ⟨_, _, .slice (some ⟨w.heap.size, 0, none⟩) (sLen + m) (grownCap w (sLen + m) sCap el), hp₁.trans hpa, ?_, hfit, ?_⟩
    · simp only [VR]
      refine ⟨_, 0, 0, _, Mp.new_pl _ _ _ _ _, rfl, Nat.le_refl _, .inr rfl, (fun h => by cases h), fun e he => ?_⟩
      cases he
      refine ⟨hcap, ?_⟩
      rw [Mp.new_sz, hsz]; omega
    · have hfo := hf w.drew rfl
      have hfn := hrun w.drew rfl
      simp [appTail, hc, Question.forced, hfo, hfn, newRow, grownCap]
      congr 2
      apply Array.ext'
      simp
  unfold appv at happ
  split at happ
  · simp only [VR] at hv; subst hv
    split at happ
    · rename_i hm
      cases happ; subst hm
      refine ⟨none, 0, 0, μ, w, .slice none 0 0, rfl, Post.refl hs, by simp [VR], .inl (by omega), ?_⟩
      simp [appTail, hrun w rfl]
    · rename_i hm
      split at happ
      · rename_i hc
        cases happ
        obtain ⟨μ', w', cv, g1, g2, g3, g4⟩ := grow σ none 0 0 [] [] hs (Post.refl hs) (by omega) (by simpa using hc.1) (VRs_nil.2 rfl) (by simp) (fun w' _ => by simp [Builtin.firstCells])
        simp only [Nat.zero_add, List.nil_append] at g1 g2 g3 g4
        exact ⟨none, 0, 0, μ', w', cv, rfl, g1, g2, .inr (by simpa using g3), by simpa using g4⟩
      · cases happ
  · rename_i b o' len cap fl
    have hv0 := hv
    simp only [VR] at hv
    obtain ⟨c, d, o'', cap', hp, rfl, hlc, ho, hx1, hx2⟩ := hv
    have hcc : cap ≤ cap' := by
      cases fl with
      | none => have := hx1 rfl; omega
      | some e => exact (hx2 e rfl).1
    split at happ
    · rename_i hroom
      have hroom' : len + m ≤ cap' := by omega
      cases m with
      | zero =>
        simp only at happ
        cases happ
        have hn0 : news = [] := by apply List.eq_nil_of_length_eq_zero; rw [hnl']; simp
        subst hn0
        refine ⟨_, len, cap', μ, w, _, rfl, Post.refl hs, hv0, .inl hroom', ?_⟩
        have := hrun w rfl
        simp [appTail, hroom', this, storeCells]
        omega
      | succ m =>
        simp only at happ
        split at happ
        · rename_i σ'' hw
          cases happ
          obtain ⟨c1, d1, w1, hp1, hst, hpost⟩ := wrs_post hs hw hnew
          rw [hp] at hp1; cases hp1
          have hoo : o'' = o' + d := by omega
          have hst := hst (o'' + len * es) (.inr (by omega))
          refine ⟨_, len, cap', μ, w1, .slice (some ⟨c, o'', none⟩) (len + (m + 1)) cap', rfl, hpost, ?_, .inl hroom', ?_⟩
          · simp only [VR]; exact ⟨c, d, o'', cap', hp, rfl, hroom, ho, hx1, hx2⟩
          · have := hrun w rfl
            simp [appTail, hroom', this, add_off, hst]
        · cases happ
    · rename_i hroom
      split at happ
      · rename_i hbd
        obtain ⟨hbd, hones⟩ := hbd
        split at happ
        · rename_i ro vs hg
          split at happ
          · rename_i hfit
            obtain ⟨c1, d1, arr, ty, lo, hi, us0, hp1, h1, h2, h3, h4, h5⟩ := hs.cells hg
            rw [hp] at hp1; cases hp1
            have hul := VRs_length h3
            have holds : VRs μ (seg vs o' (len * es)) ((us0.drop o').take (len * es)) := seg_VRs h3 o' _
            have holl : ((us0.drop o').take (len * es)).length = len * es := by simp; omega
            have hfirst : ∀ w' : World, w'.heap = w.heap → (Builtin.firstCells es len (.slice (some ⟨c, o'', none⟩) len cap')).run P w' = .ok ((us0.drop o').take (len * es)).toArray w' := by
              intro w' hw
              rcases ho with ho | rfl
              · have : len = 0 := by omega
                subst this
                simp [Builtin.firstCells, loadCells, loadCellsFrom]
              · have := load_seg (P := P) (w := w') (by rw [hw]; exact h1) h4 (o := o') (n := len * es) (by rw [hul]; exact hfit)
                simp only [Builtin.firstCells]; exact this
            cases fl with
            | none =>
              have hcap := hx1 rfl
              subst hcap
              cases happ
              obtain ⟨μ', w', cv, g1, g2, g3, g4⟩ := grow σ (some ⟨c, o'', none⟩) len cap' _ _ hs (Post.refl hs) hroom hbd holds holl hfirst
              exact ⟨_, len, cap', μ', w', cv, rfl, g1, g2, .inr g3, g4⟩
            | some e =>
              simp only at happ
              split at happ
              · rename_i hre
                obtain ⟨rfl, rfl⟩ := hre
                cases happ
                have hdead : Post P N0 μ σ w μ (σ.put b .dead) w := Post.put hs hg rfl hp (fun _ h => by cases h) rfl h1 (fun _ _ => rfl) rfl rfl rfl (fun h => absurd rfl h)
                by_cases hin : len + m ≤ cap'
                · -- in its place
                  obtain ⟨_, hxs⟩ := hx2 e rfl
                  have hall : o'' + len * e + 0 + news.length ≤ arr.size := by
                    rw [hnl', h2]
                    have : len * e + m * e ≤ cap' * e := by rw [← Nat.add_mul]; exact Nat.mul_le_mul_right _ hin
                    omega
                  obtain ⟨w', r1, r2, r3, r4, r5, r6, r7⟩ := run_storeRow (P := P) news 0 arr w h1 hall (h5 rfl) (oneCell_all hnew hones)
                  have hpost := Post.move hs hg rfl hp (o' := .cells false (seg vs o' (len * e) ++ new)) (d' := o'') rfl r3 r2 r4 r5 r6 r7 (fun μ' ha hpl hsz => by
                    refine ⟨_, ty, lo, hi, (us0.drop o').take (len * e) ++ news, rfl, by simp [setAtU_length, h2, hsz], (VRs_append holds hnew).go hs.upto ha, ?_, fun _ i hi' => h5 rfl i (by simpa [setAtU_length] using hi')⟩
                    intro i u hu
                    simp only [List.getElem?_toArray]
                    rw [setAtU_get]
                    by_cases hi' : i < len * e
                    · rw [List.getElem?_append_left (by omega), seg_get, if_pos hi'] at hu
                      rw [if_neg (by omega)]
                      have hoo : o'' = o' + d := by
                        rcases ho with ho | ho
                        · have : len = 0 := by omega
                          subst this; simp at hi'
                        · exact ho
                      have := h4 _ _ hu
                      rw [show o'' + i = d + (o' + i) by omega]; simpa using this
                    · rw [List.getElem?_append_right (by omega), holl] at hu
                      have hlt := (List.getElem?_eq_some_iff.1 hu).1
                      rw [if_pos (by simp; omega)]
                      rw [show o'' + i - (o'' + len * e + 0) = i - len * e by omega]; exact hu)
                  refine ⟨_, len, cap', _, w', .slice (some ⟨c, o'', none⟩) (len + m) cap', rfl, hpost, ?_, .inl hin, ?_⟩
                  · simp only [VR]
                    refine ⟨c, o'', o'', cap', Mp.new_pl _ _ _ _ _, rfl, Nat.le_refl _, .inr (by omega), (fun h => by cases h), fun e' he' => ?_⟩
                    cases he'
                    refine ⟨hin, ?_⟩
                    rw [Mp.new_sz]; exact hxs
                  · have := hrun w rfl
                    simp [appTail, hin, this, add_off, r1]
                · obtain ⟨μ', w', cv, g1, g2, g3, g4⟩ := grow (σ.put b .dead) (some ⟨c, o'', none⟩) len cap' _ _ hdead.sr hdead hin hbd holds holl hfirst
                  exact ⟨_, len, cap', μ', w', cv, rfl, g1, g2, .inr g3, g4⟩
              · cases happ
          · cases happ
        · cases happ
      · cases happ
  · cases happ

theorem firstv_length {es m L : Nat} {x : V} {cs : List V} (hL : lenN x = some L) (hm : m ≤ L) (h : firstv es m σ x = some cs) : cs.length = m * es := by
  unfold firstv at h
  split at h
  · split at h
    · cases h; simp
    · cases h
  · split at h
    · split at h
      · cases h; simp [seg]; omega
      · cases h
    · cases h
  · rename_i s
    split at h
    · rename_i h1
      cases h
      simp only [lenN] at hL; cases hL
      have : es = 1 := beq_iff.1 h1
      subst this
      have hs : s.data.toList.length = s.size := Array.length_toList
      rw [List.length_map, List.length_take, hs]; omega
    · cases h
  · cases h

theorem s_app (hs : SR P N0 μ σ w) (ht : TR μ d t a.tmps) (hn : a.tmps.size = nt) {es bytes : Nat} {x' y' : Opd} (hop : opOk P d nt o.op o.type (.app es bytes x' y') = true) (h : evalOp (.app es bytes x' y') K t σ k) : OpS P N0 μ σ w (execOp a.eval o) k := by
  have hk : appP es bytes σ (opd t x') (opd t y') k := h
  have : ∃ c ty u el du, o.op = .call c ∧ bltOk c .append = true ∧ opdsOk d nt c.args.toList [x', y'] = true ∧ c.argTypes = #[ty, u] ∧ P.underlying ty = some (.slice el) ∧ sizeT P el = some es ∧ bytesT P el = some bytes ∧ P.underlying u = some du ∧ (∀ k, du ≠ .int k) ∧ zeroSz P el es = true ∧ 0 < bytes ∧ 0 < es := by
    replace hop : ok_app P d nt o.op es bytes x' y' = true := hop
    unfold ok_app at hop
    split at hop
    · rename_i e; simp only [Bool.and_eq_true] at hop
      obtain ⟨⟨h1, h2⟩, h3⟩ := hop
      split at h3
      · rename_i ty u ht'
        split at h3
        · rename_i el hel
          simp only [Bool.and_eq_true, beq_iff_eq] at h3
          obtain ⟨⟨⟨⟨⟨⟨g1, g2⟩, g3⟩, g4⟩, g5⟩, g6⟩, g7⟩ := h3
          obtain ⟨du, hdu⟩ := Option.isSome_iff_exists.1 g3
          refine ⟨_, ty, u, el, du, e, h1, h2, Array.toList_inj.1 (by simpa using ht'), sliceElem_spec hel, g1, g2, hdu, ?_, g5, blt_iff.1 g6, blt_iff.1 g7⟩
          intro k hk; subst hk; simp [isInt, hdu] at g4
        · cases h3
      · cases h3
    · cases hop
  obtain ⟨c, ty, u, el, du, he, hb, hxs, hty, hu, hsz, hby, hdu, hni, hzs, hb0, he0⟩ := this
  obtain ⟨consts, hex⟩ := exec_blt he hb a.eval
  obtain ⟨ux, uy, hargs, vx, vy⟩ := args2 ht hn hxs
  rw [hex, hargs, hty]
  obtain ⟨i, hi, hi1⟩ := sizeT_info hsz
  have hi2 : i.bytes = bytes := by unfold bytesT at hby; rw [hi] at hby; simpa using hby
  obtain ⟨z, hz1, hz2⟩ : ∃ z, zeroT P el = some z ∧ z.cells.size = es := by
    unfold zeroSz at hzs
    split at hzs
    · exact ⟨_, by assumption, beq_iff_eq.1 hzs⟩
    · cases hzs
  have hzi : i.zero = some z := by unfold zeroT at hz1; rw [hi] at hz1; exact hz1
  unfold appP at hk
  split at hk
  · rename_i m hm
    split at hk
    · rename_i cs hcs
      obtain ⟨v, σ', happ, hk⟩ := gvs_elim hk
      obtain ⟨news, hnews, hrun⟩ := firstv_run hs vy hm (Nat.le_refl _) hcs
      obtain ⟨base, sLen, sCap, μ', w', cv, rfl, g1, g2, g3, g4⟩ := appTail_post (el := el) hs vx happ hnews (firstv_length hm (Nat.le_refl _) hcs) hz2 he0 hb0 hrun
      have hl := lenN_run (P := P) (w := w) vy hm
      have := append_eq (P := P) (rt := o.type) hu hdu hni hi hzi base sLen sCap m uy hl (by omega) (by rw [hi2]; exact g3)
      rw [hi1, hi2] at this
      refine ⟨v, σ', μ', w', cv, hk, g1, g2, .value ?_⟩
      simp only [builtin]
      refine run_val ?_
      rw [this]; exact g4
    · cases hk
  · cases hk

end
end Go.Proofs.Ytnmkbnejapdnnaa.Ev
