/-
  AN EVALUATOR FOR THE OPERATIONS THAT THE PROGRAM USES: abstract values, an abstract heap, code with its types resolved.
  Definitions alone. That what it says the machine does is proved in EvSound.
-/
import GoSem.Core.Code
import GoSem.Core.World
import GoSem.Core.View
set_option linter.unusedVariables false
namespace Go.Proofs.Ytnmkbnejapdnnaa.Ev
open Go

/-! ### slots: a tree of values, by paths of hexadecimal digits, the last digit first -/
inductive Pth where
  | e
  | x0 (p : Pth)
  | x1 (p : Pth)
  | x2 (p : Pth)
  | x3 (p : Pth)
  | x4 (p : Pth)
  | x5 (p : Pth)
  | x6 (p : Pth)
  | x7 (p : Pth)
  | x8 (p : Pth)
  | x9 (p : Pth)
  | xa (p : Pth)
  | xb (p : Pth)
  | xc (p : Pth)
  | xd (p : Pth)
  | xe (p : Pth)
  | xf (p : Pth)
  deriving DecidableEq

def dig (p : Pth) : Nat → Pth
  | 0 => .x0 p
  | 1 => .x1 p
  | 2 => .x2 p
  | 3 => .x3 p
  | 4 => .x4 p
  | 5 => .x5 p
  | 6 => .x6 p
  | 7 => .x7 p
  | 8 => .x8 p
  | 9 => .x9 p
  | 10 => .xa p
  | 11 => .xb p
  | 12 => .xc p
  | 13 => .xd p
  | 14 => .xe p
  | _ => .xf p

def pth : Nat → Nat → Pth
  | 0, _ => .e
  | d + 1, t => dig (pth d (t / 16)) (t % 16)

/-- Values. 'bot': not known (of no use to any operation). A slice's 'es': none: 'cap' is its capacity; some e: it has at least 'cap', its elements are e cells each, and its row is its own to the end. -/
inductive V where
  | bot
  | bool (b : Bool)
  | int (k : IntKind) (n : Int)
  | str (s : ByteArray)
  | ptr (b o : Nat)
  | nilptr
  | slice (b o len cap : Nat) (es : Option Nat)
  | nilslice
  | map (b : Nat)
  | nilmap
  | func (f : Nat) (first cap : List V)
  | yield (l : Nat)
  | nilfunc
  | agg (cs : List V)
  | tup (vs : List V)

structure N16 (α : Type) where
  mk ::
  c0 : α
  c1 : α
  c2 : α
  c3 : α
  c4 : α
  c5 : α
  c6 : α
  c7 : α
  c8 : α
  c9 : α
  ca : α
  cb : α
  cc : α
  cd : α
  ce : α
  cf : α

inductive Tr where
  | bot
  | leaf (v : V)
  | node (n : N16 Tr)

/-- No slot is known. -/
def Tr.root : Tr := .node ⟨.bot, .bot, .bot, .bot, .bot, .bot, .bot, .bot, .bot, .bot, .bot, .bot, .bot, .bot, .bot, .bot⟩

noncomputable def lf (t : Tr) : V := Tr.rec (motive_1 := fun _ => V) (motive_2 := fun _ => Unit) .bot (fun v => v) (fun _ _ => .bot) (fun _ _ _ _ _ _ _ _ _ _ _ _ _ _ _ _ _ _ _ _ _ _ _ _ _ _ _ _ _ _ _ _ => ()) t
noncomputable def s0 (t : Tr) : Tr := Tr.rec (motive_1 := fun _ => Tr) (motive_2 := fun _ => Unit) .bot (fun _ => .bot) (fun n _ => n.c0) (fun _ _ _ _ _ _ _ _ _ _ _ _ _ _ _ _ _ _ _ _ _ _ _ _ _ _ _ _ _ _ _ _ => ()) t
noncomputable def s1 (t : Tr) : Tr := Tr.rec (motive_1 := fun _ => Tr) (motive_2 := fun _ => Unit) .bot (fun _ => .bot) (fun n _ => n.c1) (fun _ _ _ _ _ _ _ _ _ _ _ _ _ _ _ _ _ _ _ _ _ _ _ _ _ _ _ _ _ _ _ _ => ()) t
noncomputable def s2 (t : Tr) : Tr := Tr.rec (motive_1 := fun _ => Tr) (motive_2 := fun _ => Unit) .bot (fun _ => .bot) (fun n _ => n.c2) (fun _ _ _ _ _ _ _ _ _ _ _ _ _ _ _ _ _ _ _ _ _ _ _ _ _ _ _ _ _ _ _ _ => ()) t
noncomputable def s3 (t : Tr) : Tr := Tr.rec (motive_1 := fun _ => Tr) (motive_2 := fun _ => Unit) .bot (fun _ => .bot) (fun n _ => n.c3) (fun _ _ _ _ _ _ _ _ _ _ _ _ _ _ _ _ _ _ _ _ _ _ _ _ _ _ _ _ _ _ _ _ => ()) t
noncomputable def s4 (t : Tr) : Tr := Tr.rec (motive_1 := fun _ => Tr) (motive_2 := fun _ => Unit) .bot (fun _ => .bot) (fun n _ => n.c4) (fun _ _ _ _ _ _ _ _ _ _ _ _ _ _ _ _ _ _ _ _ _ _ _ _ _ _ _ _ _ _ _ _ => ()) t
noncomputable def s5 (t : Tr) : Tr := Tr.rec (motive_1 := fun _ => Tr) (motive_2 := fun _ => Unit) .bot (fun _ => .bot) (fun n _ => n.c5) (fun _ _ _ _ _ _ _ _ _ _ _ _ _ _ _ _ _ _ _ _ _ _ _ _ _ _ _ _ _ _ _ _ => ()) t
noncomputable def s6 (t : Tr) : Tr := Tr.rec (motive_1 := fun _ => Tr) (motive_2 := fun _ => Unit) .bot (fun _ => .bot) (fun n _ => n.c6) (fun _ _ _ _ _ _ _ _ _ _ _ _ _ _ _ _ _ _ _ _ _ _ _ _ _ _ _ _ _ _ _ _ => ()) t
noncomputable def s7 (t : Tr) : Tr := Tr.rec (motive_1 := fun _ => Tr) (motive_2 := fun _ => Unit) .bot (fun _ => .bot) (fun n _ => n.c7) (fun _ _ _ _ _ _ _ _ _ _ _ _ _ _ _ _ _ _ _ _ _ _ _ _ _ _ _ _ _ _ _ _ => ()) t
noncomputable def s8 (t : Tr) : Tr := Tr.rec (motive_1 := fun _ => Tr) (motive_2 := fun _ => Unit) .bot (fun _ => .bot) (fun n _ => n.c8) (fun _ _ _ _ _ _ _ _ _ _ _ _ _ _ _ _ _ _ _ _ _ _ _ _ _ _ _ _ _ _ _ _ => ()) t
noncomputable def s9 (t : Tr) : Tr := Tr.rec (motive_1 := fun _ => Tr) (motive_2 := fun _ => Unit) .bot (fun _ => .bot) (fun n _ => n.c9) (fun _ _ _ _ _ _ _ _ _ _ _ _ _ _ _ _ _ _ _ _ _ _ _ _ _ _ _ _ _ _ _ _ => ()) t
noncomputable def sa (t : Tr) : Tr := Tr.rec (motive_1 := fun _ => Tr) (motive_2 := fun _ => Unit) .bot (fun _ => .bot) (fun n _ => n.ca) (fun _ _ _ _ _ _ _ _ _ _ _ _ _ _ _ _ _ _ _ _ _ _ _ _ _ _ _ _ _ _ _ _ => ()) t
noncomputable def sb (t : Tr) : Tr := Tr.rec (motive_1 := fun _ => Tr) (motive_2 := fun _ => Unit) .bot (fun _ => .bot) (fun n _ => n.cb) (fun _ _ _ _ _ _ _ _ _ _ _ _ _ _ _ _ _ _ _ _ _ _ _ _ _ _ _ _ _ _ _ _ => ()) t
noncomputable def sc (t : Tr) : Tr := Tr.rec (motive_1 := fun _ => Tr) (motive_2 := fun _ => Unit) .bot (fun _ => .bot) (fun n _ => n.cc) (fun _ _ _ _ _ _ _ _ _ _ _ _ _ _ _ _ _ _ _ _ _ _ _ _ _ _ _ _ _ _ _ _ => ()) t
noncomputable def sd (t : Tr) : Tr := Tr.rec (motive_1 := fun _ => Tr) (motive_2 := fun _ => Unit) .bot (fun _ => .bot) (fun n _ => n.cd) (fun _ _ _ _ _ _ _ _ _ _ _ _ _ _ _ _ _ _ _ _ _ _ _ _ _ _ _ _ _ _ _ _ => ()) t
noncomputable def se (t : Tr) : Tr := Tr.rec (motive_1 := fun _ => Tr) (motive_2 := fun _ => Unit) .bot (fun _ => .bot) (fun n _ => n.ce) (fun _ _ _ _ _ _ _ _ _ _ _ _ _ _ _ _ _ _ _ _ _ _ _ _ _ _ _ _ _ _ _ _ => ()) t
noncomputable def sf (t : Tr) : Tr := Tr.rec (motive_1 := fun _ => Tr) (motive_2 := fun _ => Unit) .bot (fun _ => .bot) (fun n _ => n.cf) (fun _ _ _ _ _ _ _ _ _ _ _ _ _ _ _ _ _ _ _ _ _ _ _ _ _ _ _ _ _ _ _ _ => ()) t
noncomputable def u0 (t x : Tr) : Tr := Tr.rec (motive_1 := fun _ => Tr → Tr) (motive_2 := fun _ => Unit) (fun x => .node ⟨x, .bot, .bot, .bot, .bot, .bot, .bot, .bot, .bot, .bot, .bot, .bot, .bot, .bot, .bot, .bot⟩) (fun _ x => .node ⟨x, .bot, .bot, .bot, .bot, .bot, .bot, .bot, .bot, .bot, .bot, .bot, .bot, .bot, .bot, .bot⟩) (fun n _ x => .node ⟨x, n.c1, n.c2, n.c3, n.c4, n.c5, n.c6, n.c7, n.c8, n.c9, n.ca, n.cb, n.cc, n.cd, n.ce, n.cf⟩) (fun _ _ _ _ _ _ _ _ _ _ _ _ _ _ _ _ _ _ _ _ _ _ _ _ _ _ _ _ _ _ _ _ => ()) t x
noncomputable def u1 (t x : Tr) : Tr := Tr.rec (motive_1 := fun _ => Tr → Tr) (motive_2 := fun _ => Unit) (fun x => .node ⟨.bot, x, .bot, .bot, .bot, .bot, .bot, .bot, .bot, .bot, .bot, .bot, .bot, .bot, .bot, .bot⟩) (fun _ x => .node ⟨.bot, x, .bot, .bot, .bot, .bot, .bot, .bot, .bot, .bot, .bot, .bot, .bot, .bot, .bot, .bot⟩) (fun n _ x => .node ⟨n.c0, x, n.c2, n.c3, n.c4, n.c5, n.c6, n.c7, n.c8, n.c9, n.ca, n.cb, n.cc, n.cd, n.ce, n.cf⟩) (fun _ _ _ _ _ _ _ _ _ _ _ _ _ _ _ _ _ _ _ _ _ _ _ _ _ _ _ _ _ _ _ _ => ()) t x
noncomputable def u2 (t x : Tr) : Tr := Tr.rec (motive_1 := fun _ => Tr → Tr) (motive_2 := fun _ => Unit) (fun x => .node ⟨.bot, .bot, x, .bot, .bot, .bot, .bot, .bot, .bot, .bot, .bot, .bot, .bot, .bot, .bot, .bot⟩) (fun _ x => .node ⟨.bot, .bot, x, .bot, .bot, .bot, .bot, .bot, .bot, .bot, .bot, .bot, .bot, .bot, .bot, .bot⟩) (fun n _ x => .node ⟨n.c0, n.c1, x, n.c3, n.c4, n.c5, n.c6, n.c7, n.c8, n.c9, n.ca, n.cb, n.cc, n.cd, n.ce, n.cf⟩) (fun _ _ _ _ _ _ _ _ _ _ _ _ _ _ _ _ _ _ _ _ _ _ _ _ _ _ _ _ _ _ _ _ => ()) t x
noncomputable def u3 (t x : Tr) : Tr := Tr.rec (motive_1 := fun _ => Tr → Tr) (motive_2 := fun _ => Unit) (fun x => .node ⟨.bot, .bot, .bot, x, .bot, .bot, .bot, .bot, .bot, .bot, .bot, .bot, .bot, .bot, .bot, .bot⟩) (fun _ x => .node ⟨.bot, .bot, .bot, x, .bot, .bot, .bot, .bot, .bot, .bot, .bot, .bot, .bot, .bot, .bot, .bot⟩) (fun n _ x => .node ⟨n.c0, n.c1, n.c2, x, n.c4, n.c5, n.c6, n.c7, n.c8, n.c9, n.ca, n.cb, n.cc, n.cd, n.ce, n.cf⟩) (fun _ _ _ _ _ _ _ _ _ _ _ _ _ _ _ _ _ _ _ _ _ _ _ _ _ _ _ _ _ _ _ _ => ()) t x
noncomputable def u4 (t x : Tr) : Tr := Tr.rec (motive_1 := fun _ => Tr → Tr) (motive_2 := fun _ => Unit) (fun x => .node ⟨.bot, .bot, .bot, .bot, x, .bot, .bot, .bot, .bot, .bot, .bot, .bot, .bot, .bot, .bot, .bot⟩) (fun _ x => .node ⟨.bot, .bot, .bot, .bot, x, .bot, .bot, .bot, .bot, .bot, .bot, .bot, .bot, .bot, .bot, .bot⟩) (fun n _ x => .node ⟨n.c0, n.c1, n.c2, n.c3, x, n.c5, n.c6, n.c7, n.c8, n.c9, n.ca, n.cb, n.cc, n.cd, n.ce, n.cf⟩) (fun _ _ _ _ _ _ _ _ _ _ _ _ _ _ _ _ _ _ _ _ _ _ _ _ _ _ _ _ _ _ _ _ => ()) t x
noncomputable def u5 (t x : Tr) : Tr := Tr.rec (motive_1 := fun _ => Tr → Tr) (motive_2 := fun _ => Unit) (fun x => .node ⟨.bot, .bot, .bot, .bot, .bot, x, .bot, .bot, .bot, .bot, .bot, .bot, .bot, .bot, .bot, .bot⟩) (fun _ x => .node ⟨.bot, .bot, .bot, .bot, .bot, x, .bot, .bot, .bot, .bot, .bot, .bot, .bot, .bot, .bot, .bot⟩) (fun n _ x => .node ⟨n.c0, n.c1, n.c2, n.c3, n.c4, x, n.c6, n.c7, n.c8, n.c9, n.ca, n.cb, n.cc, n.cd, n.ce, n.cf⟩) (fun _ _ _ _ _ _ _ _ _ _ _ _ _ _ _ _ _ _ _ _ _ _ _ _ _ _ _ _ _ _ _ _ => ()) t x
noncomputable def u6 (t x : Tr) : Tr := Tr.rec (motive_1 := fun _ => Tr → Tr) (motive_2 := fun _ => Unit) (fun x => .node ⟨.bot, .bot, .bot, .bot, .bot, .bot, x, .bot, .bot, .bot, .bot, .bot, .bot, .bot, .bot, .bot⟩) (fun _ x => .node ⟨.bot, .bot, .bot, .bot, .bot, .bot, x, .bot, .bot, .bot, .bot, .bot, .bot, .bot, .bot, .bot⟩) (fun n _ x => .node ⟨n.c0, n.c1, n.c2, n.c3, n.c4, n.c5, x, n.c7, n.c8, n.c9, n.ca, n.cb, n.cc, n.cd, n.ce, n.cf⟩) (fun _ _ _ _ _ _ _ _ _ _ _ _ _ _ _ _ _ _ _ _ _ _ _ _ _ _ _ _ _ _ _ _ => ()) t x
noncomputable def u7 (t x : Tr) : Tr := Tr.rec (motive_1 := fun _ => Tr → Tr) (motive_2 := fun _ => Unit) (fun x => .node ⟨.bot, .bot, .bot, .bot, .bot, .bot, .bot, x, .bot, .bot, .bot, .bot, .bot, .bot, .bot, .bot⟩) (fun _ x => .node ⟨.bot, .bot, .bot, .bot, .bot, .bot, .bot, x, .bot, .bot, .bot, .bot, .bot, .bot, .bot, .bot⟩) (fun n _ x => .node ⟨n.c0, n.c1, n.c2, n.c3, n.c4, n.c5, n.c6, x, n.c8, n.c9, n.ca, n.cb, n.cc, n.cd, n.ce, n.cf⟩) (fun _ _ _ _ _ _ _ _ _ _ _ _ _ _ _ _ _ _ _ _ _ _ _ _ _ _ _ _ _ _ _ _ => ()) t x
noncomputable def u8 (t x : Tr) : Tr := Tr.rec (motive_1 := fun _ => Tr → Tr) (motive_2 := fun _ => Unit) (fun x => .node ⟨.bot, .bot, .bot, .bot, .bot, .bot, .bot, .bot, x, .bot, .bot, .bot, .bot, .bot, .bot, .bot⟩) (fun _ x => .node ⟨.bot, .bot, .bot, .bot, .bot, .bot, .bot, .bot, x, .bot, .bot, .bot, .bot, .bot, .bot, .bot⟩) (fun n _ x => .node ⟨n.c0, n.c1, n.c2, n.c3, n.c4, n.c5, n.c6, n.c7, x, n.c9, n.ca, n.cb, n.cc, n.cd, n.ce, n.cf⟩) (fun _ _ _ _ _ _ _ _ _ _ _ _ _ _ _ _ _ _ _ _ _ _ _ _ _ _ _ _ _ _ _ _ => ()) t x
noncomputable def u9 (t x : Tr) : Tr := Tr.rec (motive_1 := fun _ => Tr → Tr) (motive_2 := fun _ => Unit) (fun x => .node ⟨.bot, .bot, .bot, .bot, .bot, .bot, .bot, .bot, .bot, x, .bot, .bot, .bot, .bot, .bot, .bot⟩) (fun _ x => .node ⟨.bot, .bot, .bot, .bot, .bot, .bot, .bot, .bot, .bot, x, .bot, .bot, .bot, .bot, .bot, .bot⟩) (fun n _ x => .node ⟨n.c0, n.c1, n.c2, n.c3, n.c4, n.c5, n.c6, n.c7, n.c8, x, n.ca, n.cb, n.cc, n.cd, n.ce, n.cf⟩) (fun _ _ _ _ _ _ _ _ _ _ _ _ _ _ _ _ _ _ _ _ _ _ _ _ _ _ _ _ _ _ _ _ => ()) t x
noncomputable def ua (t x : Tr) : Tr := Tr.rec (motive_1 := fun _ => Tr → Tr) (motive_2 := fun _ => Unit) (fun x => .node ⟨.bot, .bot, .bot, .bot, .bot, .bot, .bot, .bot, .bot, .bot, x, .bot, .bot, .bot, .bot, .bot⟩) (fun _ x => .node ⟨.bot, .bot, .bot, .bot, .bot, .bot, .bot, .bot, .bot, .bot, x, .bot, .bot, .bot, .bot, .bot⟩) (fun n _ x => .node ⟨n.c0, n.c1, n.c2, n.c3, n.c4, n.c5, n.c6, n.c7, n.c8, n.c9, x, n.cb, n.cc, n.cd, n.ce, n.cf⟩) (fun _ _ _ _ _ _ _ _ _ _ _ _ _ _ _ _ _ _ _ _ _ _ _ _ _ _ _ _ _ _ _ _ => ()) t x
noncomputable def ub (t x : Tr) : Tr := Tr.rec (motive_1 := fun _ => Tr → Tr) (motive_2 := fun _ => Unit) (fun x => .node ⟨.bot, .bot, .bot, .bot, .bot, .bot, .bot, .bot, .bot, .bot, .bot, x, .bot, .bot, .bot, .bot⟩) (fun _ x => .node ⟨.bot, .bot, .bot, .bot, .bot, .bot, .bot, .bot, .bot, .bot, .bot, x, .bot, .bot, .bot, .bot⟩) (fun n _ x => .node ⟨n.c0, n.c1, n.c2, n.c3, n.c4, n.c5, n.c6, n.c7, n.c8, n.c9, n.ca, x, n.cc, n.cd, n.ce, n.cf⟩) (fun _ _ _ _ _ _ _ _ _ _ _ _ _ _ _ _ _ _ _ _ _ _ _ _ _ _ _ _ _ _ _ _ => ()) t x
noncomputable def uc (t x : Tr) : Tr := Tr.rec (motive_1 := fun _ => Tr → Tr) (motive_2 := fun _ => Unit) (fun x => .node ⟨.bot, .bot, .bot, .bot, .bot, .bot, .bot, .bot, .bot, .bot, .bot, .bot, x, .bot, .bot, .bot⟩) (fun _ x => .node ⟨.bot, .bot, .bot, .bot, .bot, .bot, .bot, .bot, .bot, .bot, .bot, .bot, x, .bot, .bot, .bot⟩) (fun n _ x => .node ⟨n.c0, n.c1, n.c2, n.c3, n.c4, n.c5, n.c6, n.c7, n.c8, n.c9, n.ca, n.cb, x, n.cd, n.ce, n.cf⟩) (fun _ _ _ _ _ _ _ _ _ _ _ _ _ _ _ _ _ _ _ _ _ _ _ _ _ _ _ _ _ _ _ _ => ()) t x
noncomputable def ud (t x : Tr) : Tr := Tr.rec (motive_1 := fun _ => Tr → Tr) (motive_2 := fun _ => Unit) (fun x => .node ⟨.bot, .bot, .bot, .bot, .bot, .bot, .bot, .bot, .bot, .bot, .bot, .bot, .bot, x, .bot, .bot⟩) (fun _ x => .node ⟨.bot, .bot, .bot, .bot, .bot, .bot, .bot, .bot, .bot, .bot, .bot, .bot, .bot, x, .bot, .bot⟩) (fun n _ x => .node ⟨n.c0, n.c1, n.c2, n.c3, n.c4, n.c5, n.c6, n.c7, n.c8, n.c9, n.ca, n.cb, n.cc, x, n.ce, n.cf⟩) (fun _ _ _ _ _ _ _ _ _ _ _ _ _ _ _ _ _ _ _ _ _ _ _ _ _ _ _ _ _ _ _ _ => ()) t x
noncomputable def ue (t x : Tr) : Tr := Tr.rec (motive_1 := fun _ => Tr → Tr) (motive_2 := fun _ => Unit) (fun x => .node ⟨.bot, .bot, .bot, .bot, .bot, .bot, .bot, .bot, .bot, .bot, .bot, .bot, .bot, .bot, x, .bot⟩) (fun _ x => .node ⟨.bot, .bot, .bot, .bot, .bot, .bot, .bot, .bot, .bot, .bot, .bot, .bot, .bot, .bot, x, .bot⟩) (fun n _ x => .node ⟨n.c0, n.c1, n.c2, n.c3, n.c4, n.c5, n.c6, n.c7, n.c8, n.c9, n.ca, n.cb, n.cc, n.cd, x, n.cf⟩) (fun _ _ _ _ _ _ _ _ _ _ _ _ _ _ _ _ _ _ _ _ _ _ _ _ _ _ _ _ _ _ _ _ => ()) t x
noncomputable def uf (t x : Tr) : Tr := Tr.rec (motive_1 := fun _ => Tr → Tr) (motive_2 := fun _ => Unit) (fun x => .node ⟨.bot, .bot, .bot, .bot, .bot, .bot, .bot, .bot, .bot, .bot, .bot, .bot, .bot, .bot, .bot, x⟩) (fun _ x => .node ⟨.bot, .bot, .bot, .bot, .bot, .bot, .bot, .bot, .bot, .bot, .bot, .bot, .bot, .bot, .bot, x⟩) (fun n _ x => .node ⟨n.c0, n.c1, n.c2, n.c3, n.c4, n.c5, n.c6, n.c7, n.c8, n.c9, n.ca, n.cb, n.cc, n.cd, n.ce, x⟩) (fun _ _ _ _ _ _ _ _ _ _ _ _ _ _ _ _ _ _ _ _ _ _ _ _ _ _ _ _ _ _ _ _ => ()) t x

noncomputable def gt (p : Pth) : Tr → V := Pth.rec (motive := fun _ => Tr → V) lf
  (fun _ ih t => ih (s0 t))
  (fun _ ih t => ih (s1 t))
  (fun _ ih t => ih (s2 t))
  (fun _ ih t => ih (s3 t))
  (fun _ ih t => ih (s4 t))
  (fun _ ih t => ih (s5 t))
  (fun _ ih t => ih (s6 t))
  (fun _ ih t => ih (s7 t))
  (fun _ ih t => ih (s8 t))
  (fun _ ih t => ih (s9 t))
  (fun _ ih t => ih (sa t))
  (fun _ ih t => ih (sb t))
  (fun _ ih t => ih (sc t))
  (fun _ ih t => ih (sd t))
  (fun _ ih t => ih (se t))
  (fun _ ih t => ih (sf t))
  p

noncomputable def stt (p : Pth) : Tr → V → Tr := Pth.rec (motive := fun _ => Tr → V → Tr) (fun _ v => .leaf v)
  (fun _ ih t v => u0 t (ih (s0 t) v))
  (fun _ ih t v => u1 t (ih (s1 t) v))
  (fun _ ih t v => u2 t (ih (s2 t) v))
  (fun _ ih t v => u3 t (ih (s3 t) v))
  (fun _ ih t v => u4 t (ih (s4 t) v))
  (fun _ ih t v => u5 t (ih (s5 t) v))
  (fun _ ih t v => u6 t (ih (s6 t) v))
  (fun _ ih t v => u7 t (ih (s7 t) v))
  (fun _ ih t v => u8 t (ih (s8 t) v))
  (fun _ ih t v => u9 t (ih (s9 t) v))
  (fun _ ih t v => ua t (ih (sa t) v))
  (fun _ ih t v => ub t (ih (sb t) v))
  (fun _ ih t v => uc t (ih (sc t) v))
  (fun _ ih t v => ud t (ih (sd t) v))
  (fun _ ih t v => ue t (ih (se t) v))
  (fun _ ih t v => uf t (ih (sf t) v))
  p

/-- Of the slots these alone are kept. -/
noncomputable def keepIn (a : Tr) (ps : List Pth) : Tr → Tr := List.rec (motive := fun _ => Tr → Tr) (fun t => t) (fun p _ ih t => ih (stt p t (gt p a))) ps

noncomputable def forget (ps : List Pth) (a : Tr) : Tr := keepIn a ps .root

/-! ### code -/
inductive Opd where
  | t (p : Pth)
  | c (v : V)

inductive Lf where
  | int (k : IntKind)
  | bool
  | str
  deriving DecidableEq

/-- What may be nil. -/
inductive Nk where
  | ptr
  | slice
  | map
  | func
  deriving DecidableEq

inductive EOp where
  | mv (x : Opd)
  | asg (x : Opd)
  | pick (c x y : Opd)
  | alloc (zs : List V)
  | box (x : Opd)
  | build (zs : List V) (parts : List (Nat × Nat × Opd))
  | bslice (es len : Nat) (zs : List V) (parts : List (Nat × Opd))
  | ld (n : Option Nat) (x : Opd)
  | st (n : Option Nat) (x y : Opd)
  | nilck (x : Opd)
  | bin (op : BinOp) (x y : Opd)
  | eqb (neg : Bool) (x y : Opd)
  | eqn (kd : Nk) (neg : Bool) (x y : Opd)
  | eqa (neg : Bool) (ls : List Lf) (x y : Opd)
  | un (op : UnOp) (x : Opd)
  | cvt (k : IntKind) (x : Opd)
  | s2b (x : Opd)
  | slen (x : Opd)
  | mkfn (f : Nat) (first cap : List Opd)
  | mkmap
  | mksl (es bytes : Nat) (zs : List V) (l c : Opd)
  | slc (es : Nat) (x : Opd) (lo hi mx : Option Opd)
  | slcs (x : Opd) (lo hi : Option Opd)
  | slca (n es : Nat) (x : Opd) (lo hi mx : Option Opd)
  | fadr (off : Nat) (x : Opd)
  | fld (off : Nat) (n : Option Nat) (x : Opd)
  | ixs (es : Nat) (x i : Opd)
  | ixa (n es : Nat) (x i : Opd)
  | ixv (len es : Nat) (n : Option Nat) (x i : Opd)
  | ixstr (x i : Opd)
  | look (ls : List Lf) (zero : V) (x k : Opd) (ok : Bool)
  | mput (ls : List Lf) (m k v : Opd)
  | mentry (ls : List Lf) (zero : V) (m k : Opd)
  | estore (m s v : Opd)
  | mrange (x : Opd)
  | mnext (x : Opd)
  | mcur (x : Opd)
  | ext (x : Opd) (i : Nat)
  | call (f : Nat) (args : List Opd)
  | calld (x : Opd) (args : List Opd)
  | app (es bytes : Nat) (s x : Opd)
  | appz (es bytes : Nat) (zs : List V) (s x : Opd)
  | len (x : Opd)
  | lenm (x : Opd)
  | lenc (n : Nat)
  | cap (x : Opd)
  | copy (es : Nat) (d s : Opd)
  | clear (zs : List V) (x : Opd)
  | del (ls : List Lf) (m k : Opd)
  | min (xs : List Opd)
  | max (xs : List Opd)
  | bad

/-- An operation: 'u': without a destination; 's': with one; 'g', 'gu': wanted if a slot holds this. -/
inductive EI where
  | u (op : EOp)
  | s (d : Pth) (op : EOp)
  | g (c : Pth) (b : Bool) (d : Pth) (op : EOp)
  | gu (c : Pth) (b : Bool) (op : EOp)

inductive EC where
  | skip
  | ops (l : List EI)
  | draw (order before : List Nat) (l : List EI)
  | seq (a b : EC)
  | cond (c : Opd) (a b : EC)
  | blk (id : Nat) (m : List Pth) (b : EC)
  | loop (m : List Pth) (b : EC)
  | rfunc (f : Opd) (ps : List Pth) (asg body : EC)
  | exit (id : Nat)
  | ret
  | bad

/-- How code is left. -/
inductive Ex where
  | nrm
  | exit (id : Nat)
  | ret

inductive LSt where
  | ready
  | busy
  | done

inductive Obj where
  | cells (ro : Bool) (vs : List V)
  | map (es : List (V × V × Nat)) (clock : Nat)
  | iter (m : Nat) (since : Nat) (seen : List Nat)
  | loop (fn : Nat) (a : Tr) (ps : List Pth) (asg body : EC) (s : LSt) (pend : Option (Option Nat))
  | dead

/-- The abstract heap. 'n': the next block; 'base': n when the function was entered; 'mods': the elder blocks that it has turned. -/
structure St where
  h : List (Nat × Obj)
  n : Nat
  base : Nat
  mods : List Nat

noncomputable def hget (h : List (Nat × Obj)) : Nat → Option Obj := List.rec (motive := fun _ => Nat → Option Obj) (fun _ => none)
  (fun p _ ih b => Bool.rec (motive := fun _ => Option Obj) (ih b) (some p.2) (Nat.beq p.1 b)) h

noncomputable def hput (h : List (Nat × Obj)) : Nat → Obj → List (Nat × Obj) := List.rec (motive := fun _ => Nat → Obj → List (Nat × Obj)) (fun _ _ => [])
  (fun p t ih b x => Bool.rec (motive := fun _ => List (Nat × Obj)) (p :: ih b x) ((p.1, x) :: t) (Nat.beq p.1 b)) h

noncomputable def St.get (σ : St) (b : Nat) : Option Obj := Bool.rec (motive := fun _ => Option Obj) none (hget σ.h b) (Nat.blt b σ.n)

def St.add (σ : St) (o : Obj) : St := ⟨(σ.n, o) :: σ.h, σ.n + 1, σ.base, σ.mods⟩

noncomputable def nins (b : Nat) (l : List Nat) : List Nat := List.rec (motive := fun _ => List Nat) [b]
  (fun c l ih => Bool.rec (motive := fun _ => List Nat) (c :: ih) (c :: l) (Nat.beq c b)) l

noncomputable def St.put (σ : St) (b : Nat) (o : Obj) : St :=
  ⟨hput σ.h b o, σ.n, σ.base, Bool.rec (motive := fun _ => List Nat) σ.mods (nins b σ.mods) (Nat.blt b σ.base)⟩

/-! ### taking values apart -/
abbrev Cn := V → St → Prop

/-- What is left to do: with what stands behind it, and the heap. -/
abbrev Sk := Cn → St → Prop

def fail : Sk := fun _ _ => False
def give (v : V) : Sk := fun k σ => k v σ

noncomputable def vInt (v : V) : (IntKind → Int → Sk) → Sk := V.rec (motive_1 := fun _ => (IntKind → Int → Sk) → Sk) (motive_2 := fun _ => Unit) (fun _ => fail) (fun b => fun _ => fail) (fun kd n => fun f => f kd n) (fun s => fun _ => fail) (fun b o => fun _ => fail) (fun _ => fail) (fun b o l c e => fun _ => fail) (fun _ => fail) (fun b => fun _ => fail) (fun _ => fail) (fun f fx fc _ _ => fun _ => fail) (fun l => fun _ => fail) (fun _ => fail) (fun cs _ => fun _ => fail) (fun vs _ => fun _ => fail) () (fun _ _ _ _ => ()) v
noncomputable def vBool (v : V) : (Bool → Sk) → Sk := V.rec (motive_1 := fun _ => (Bool → Sk) → Sk) (motive_2 := fun _ => Unit) (fun _ => fail) (fun b => fun f => f b) (fun kd n => fun _ => fail) (fun s => fun _ => fail) (fun b o => fun _ => fail) (fun _ => fail) (fun b o l c e => fun _ => fail) (fun _ => fail) (fun b => fun _ => fail) (fun _ => fail) (fun f fx fc _ _ => fun _ => fail) (fun l => fun _ => fail) (fun _ => fail) (fun cs _ => fun _ => fail) (fun vs _ => fun _ => fail) () (fun _ _ _ _ => ()) v
noncomputable def vStr (v : V) : (ByteArray → Sk) → Sk := V.rec (motive_1 := fun _ => (ByteArray → Sk) → Sk) (motive_2 := fun _ => Unit) (fun _ => fail) (fun b => fun _ => fail) (fun kd n => fun _ => fail) (fun s => fun f => f s) (fun b o => fun _ => fail) (fun _ => fail) (fun b o l c e => fun _ => fail) (fun _ => fail) (fun b => fun _ => fail) (fun _ => fail) (fun f fx fc _ _ => fun _ => fail) (fun l => fun _ => fail) (fun _ => fail) (fun cs _ => fun _ => fail) (fun vs _ => fun _ => fail) () (fun _ _ _ _ => ()) v
noncomputable def vPtr (v : V) : (Nat → Nat → Sk) → Sk := V.rec (motive_1 := fun _ => (Nat → Nat → Sk) → Sk) (motive_2 := fun _ => Unit) (fun _ => fail) (fun b => fun _ => fail) (fun kd n => fun _ => fail) (fun s => fun _ => fail) (fun b o => fun f => f b o) (fun _ => fail) (fun b o l c e => fun _ => fail) (fun _ => fail) (fun b => fun _ => fail) (fun _ => fail) (fun f fx fc _ _ => fun _ => fail) (fun l => fun _ => fail) (fun _ => fail) (fun cs _ => fun _ => fail) (fun vs _ => fun _ => fail) () (fun _ _ _ _ => ()) v
noncomputable def vAgg (v : V) : (List V → Sk) → Sk := V.rec (motive_1 := fun _ => (List V → Sk) → Sk) (motive_2 := fun _ => Unit) (fun _ => fail) (fun b => fun _ => fail) (fun kd n => fun _ => fail) (fun s => fun _ => fail) (fun b o => fun _ => fail) (fun _ => fail) (fun b o l c e => fun _ => fail) (fun _ => fail) (fun b => fun _ => fail) (fun _ => fail) (fun f fx fc _ _ => fun _ => fail) (fun l => fun _ => fail) (fun _ => fail) (fun cs _ => fun f => f cs) (fun vs _ => fun _ => fail) () (fun _ _ _ _ => ()) v
noncomputable def vTup (v : V) : (List V → Sk) → Sk := V.rec (motive_1 := fun _ => (List V → Sk) → Sk) (motive_2 := fun _ => Unit) (fun _ => fail) (fun b => fun _ => fail) (fun kd n => fun _ => fail) (fun s => fun _ => fail) (fun b o => fun _ => fail) (fun _ => fail) (fun b o l c e => fun _ => fail) (fun _ => fail) (fun b => fun _ => fail) (fun _ => fail) (fun f fx fc _ _ => fun _ => fail) (fun l => fun _ => fail) (fun _ => fail) (fun cs _ => fun _ => fail) (fun vs _ => fun f => f vs) () (fun _ _ _ _ => ()) v
noncomputable def vSlice (v : V) : (Nat → Nat → Nat → Nat → Option Nat → Sk) → Sk := V.rec (motive_1 := fun _ => (Nat → Nat → Nat → Nat → Option Nat → Sk) → Sk) (motive_2 := fun _ => Unit) (fun _ => fail) (fun b => fun _ => fail) (fun kd n => fun _ => fail) (fun s => fun _ => fail) (fun b o => fun _ => fail) (fun _ => fail) (fun b o l c e => fun f => f b o l c e) (fun _ => fail) (fun b => fun _ => fail) (fun _ => fail) (fun f fx fc _ _ => fun _ => fail) (fun l => fun _ => fail) (fun _ => fail) (fun cs _ => fun _ => fail) (fun vs _ => fun _ => fail) () (fun _ _ _ _ => ()) v

/-! ### values -/
noncomputable def V.cells (v : V) : List V := V.rec (motive_1 := fun _ => List V) (motive_2 := fun _ => Unit) ([.bot]) (fun b => [(.bool b)]) (fun kd n => [(.int kd n)]) (fun s => [(.str s)]) (fun b o => [(.ptr b o)]) ([.nilptr]) (fun b o l c e => [(.slice b o l c e)]) ([.nilslice]) (fun b => [(.map b)]) ([.nilmap]) (fun f fx fc _ _ => [(.func f fx fc)]) (fun l => [(.yield l)]) ([.nilfunc]) (fun cs _ => cs) (fun vs _ => [(.tup vs)]) () (fun _ _ _ _ => ()) v

noncomputable def V.one (v : V) : Bool := V.rec (motive_1 := fun _ => Bool) (motive_2 := fun _ => Unit) (false) (fun b => true) (fun kd n => true) (fun s => true) (fun b o => true) (true) (fun b o l c e => true) (true) (fun b => true) (true) (fun f fx fc _ _ => true) (fun l => true) (true) (fun cs _ => false) (fun vs _ => false) () (fun _ _ _ _ => ()) v

noncomputable def ones (l : List V) : Bool := List.rec (motive := fun _ => Bool) true (fun v _ ih => Bool.rec (motive := fun _ => Bool) false ih v.one) l

mutual
/-- No reference to a block from n on. -/
def V.bel (n : Nat) : V → Bool
  | .ptr b _ => Nat.blt b n
  | .slice b _ _ _ _ => Nat.blt b n
  | .map b => Nat.blt b n
  | .yield b => Nat.blt b n
  | .agg cs => V.bels n cs
  | .tup cs => V.bels n cs
  | .func _ f c => V.bels n f && V.bels n c
  | _ => true
def V.bels (n : Nat) : List V → Bool
  | [] => true
  | v :: vs => match v.bel n with
    | true => V.bels n vs
    | false => false
end

def Obj.bel (n : Nat) : Obj → Bool
  | .cells _ vs => V.bels n vs
  | .map es _ => es.all fun e => e.1.bel n && e.2.1.bel n
  | .dead => true
  | _ => false

noncomputable def opd (a : Tr) (x : Opd) : V := Opd.rec (motive := fun _ => Tr → V) gt (fun v _ => v) x a

noncomputable def opds (a : Tr) (l : List Opd) : List V := List.rec (motive := fun _ => List V) [] (fun x _ ih => opd a x :: ih) l

/-- A whole number that fits stays itself. -/
def fits63 (n : Int) : Bool :=
  match n with
  | .ofNat m => Nat.ble m 9223372036854775807
  | .negSucc m => Nat.ble m 9223372036854775807

def inR (k : IntKind) (n : Int) : Bool :=
  match k with
  | .i64 => fits63 n
  | _ => false

def wr (k : IntKind) (n : Int) : Int := match inR k n with
  | true => n
  | false => k.wrap n

def i_add (kd : IntKind) (a b : Int) : Sk := fun k σ => k (.int kd (wr kd (a + b))) σ
def i_sub (kd : IntKind) (a b : Int) : Sk := fun k σ => k (.int kd (wr kd (a - b))) σ
def i_mul (kd : IntKind) (a b : Int) : Sk := fun k σ => k (.int kd (wr kd (a * b))) σ
def i_quo (kd : IntKind) (a b : Int) : Sk := fun k σ => if b = 0 then False else k (.int kd (wr kd (a.tdiv b))) σ
def i_rem (kd : IntKind) (a b : Int) : Sk := fun k σ => if b = 0 then False else k (.int kd (a.tmod b)) σ
def i_and (kd : IntKind) (a b : Int) : Sk := fun k σ => k (.int kd (kd.wrap (BitVec.ofInt kd.bits a &&& BitVec.ofInt kd.bits b).toNat)) σ
def i_or (kd : IntKind) (a b : Int) : Sk := fun k σ => k (.int kd (kd.wrap (BitVec.ofInt kd.bits a ||| BitVec.ofInt kd.bits b).toNat)) σ
def i_xor (kd : IntKind) (a b : Int) : Sk := fun k σ => k (.int kd (kd.wrap (BitVec.ofInt kd.bits a ^^^ BitVec.ofInt kd.bits b).toNat)) σ
def i_shl (kd : IntKind) (a b : Int) : Sk := fun k σ => if b < 0 then False else k (.int kd (kd.wrap (a * 2 ^ (Nat.min b.toNat kd.bits)))) σ
def i_shr (kd : IntKind) (a b : Int) : Sk := fun k σ => if b < 0 then False else k (.int kd (a.fdiv (2 ^ (Nat.min b.toNat kd.bits)))) σ
def i_andNot (kd : IntKind) (a b : Int) : Sk := fun k σ => k (.int kd (kd.wrap (BitVec.ofInt kd.bits a &&& ~~~BitVec.ofInt kd.bits b).toNat)) σ
def i_eql (kd : IntKind) (a b : Int) : Sk := fun k σ => k (.bool (a == b)) σ
def i_neq (kd : IntKind) (a b : Int) : Sk := fun k σ => k (.bool (a != b)) σ
def i_lss (kd : IntKind) (a b : Int) : Sk := fun k σ => k (.bool (decide (a < b))) σ
def i_leq (kd : IntKind) (a b : Int) : Sk := fun k σ => k (.bool (decide (a ≤ b))) σ
def i_gtr (kd : IntKind) (a b : Int) : Sk := fun k σ => k (.bool (decide (a > b))) σ
def i_geq (kd : IntKind) (a b : Int) : Sk := fun k σ => k (.bool (decide (a ≥ b))) σ

noncomputable def ibin (op : BinOp) : IntKind → Int → Int → Sk := BinOp.rec (motive := fun _ => IntKind → Int → Int → Sk)
  i_add i_sub i_mul i_quo i_rem i_and i_or i_xor i_shl i_shr i_andNot i_eql i_neq i_lss i_leq i_gtr i_geq op

def isShift (op : BinOp) : Bool :=
  match op with
  | .shl => true
  | .shr => true
  | _ => false

def kindIx (k : IntKind) : Nat :=
  match k with
  | .i8 => 0 | .i16 => 1 | .i32 => 2 | .i64 => 3 | .u8 => 4 | .u16 => 5 | .u32 => 6 | .u64 => 7

/-- Operands of one kind, or a shift. -/
def kindOk (op : BinOp) (k k' : IntKind) : Bool := Nat.beq (kindIx k) (kindIx k') || isShift op

noncomputable def bInt (op : BinOp) (k : IntKind) (a : Int) (y : V) : Sk :=
  vInt y fun k' b => Bool.rec (motive := fun _ => Sk) fail (ibin op k a b) (kindOk op k k')

noncomputable def eqbv (neg : Bool) (x y : V) : Sk := vBool x fun a => vBool y fun b k σ => k (.bool (if neg then !(a == b) else a == b)) σ

def strOp (op : BinOp) (a b : ByteArray) : Sk := fun k σ =>
  match op with
  | .eql => k (.bool (a.toList == b.toList)) σ
  | .neq => k (.bool (!(a.toList == b.toList))) σ
  | .add => if a.size + b.size < 4294967296 then k (.str (a ++ b)) σ else False
  | _ => False

noncomputable def bStr (op : BinOp) (a : ByteArray) (y : V) : Sk := vStr y fun b => strOp op a b

/-- Is it nil? -/
def isNil (kd : Nk) (x : V) : Option Bool :=
  match kd with
  | .ptr => (match x with
    | .nilptr => some true
    | .ptr _ _ => some false
    | _ => none)
  | .slice => (match x with
    | .nilslice => some true
    | .slice _ _ _ _ _ => some false
    | _ => none)
  | .map => (match x with
    | .nilmap => some true
    | .map _ => some false
    | _ => none)
  | .func => (match x with
    | .nilfunc => some true
    | .func _ _ _ => some false
    | _ => none)

def eqnv (kd : Nk) (neg : Bool) (x y : V) : Sk := fun k σ =>
  match isNil kd x, isNil kd y with
  | some true, some b => k (.bool (if neg then !b else b)) σ
  | some false, some true => k (.bool neg) σ
  | _, _ => False

noncomputable def bin (op : BinOp) (x y : V) : Sk := V.rec (motive_1 := fun _ => BinOp → V → Sk) (motive_2 := fun _ => Unit) (fun _ _ => fail) (fun b => fun _ _ => fail) (fun kd n => fun op y => bInt op kd n y) (fun s => fun op y => bStr op s y) (fun b o => fun _ _ => fail) (fun _ _ => fail) (fun b o l c e => fun _ _ => fail) (fun _ _ => fail) (fun b => fun _ _ => fail) (fun _ _ => fail) (fun f fx fc _ _ => fun _ _ => fail) (fun l => fun _ _ => fail) (fun _ _ => fail) (fun cs _ => fun _ _ => fail) (fun vs _ => fun _ _ => fail) () (fun _ _ _ _ => ()) x op y

/-- Two cells of a plain kind. -/
def eq1 (l : Lf) (x y : V) : Option Bool :=
  match l with
  | .int _ => (match x, y with
    | .int k a, .int k' b => if k = k' then some (a == b) else none
    | _, _ => none)
  | .bool => (match x, y with
    | .bool a, .bool b => some (a == b)
    | _, _ => none)
  | .str => (match x, y with
    | .str a, .str b => some (a == b)
    | _, _ => none)

def eqs : List Lf → List V → List V → Option Bool
  | [], [], [] => some true
  | l :: ls, x :: xs, y :: ys => match eq1 l x y with
    | some true => eqs ls xs ys
    | some false => some false
    | none => none
  | _, _, _ => none

/-- All of them. -/
def eql (ls : List Lf) (xs ys : List V) : Option Bool :=
  match Nat.beq xs.length ls.length && Nat.beq ys.length ls.length with
  | true => eqs ls xs ys
  | false => none

def eqc (neg : Bool) (ls : List Lf) (xs ys : List V) : Sk := fun k σ =>
  match eql ls xs ys with
  | some b => k (.bool (if neg then !b else b)) σ
  | none => False

noncomputable def eqv (neg : Bool) (ls : List Lf) (x y : V) : Sk := vAgg x fun xs => vAgg y fun ys => eqc neg ls xs ys

/-- A key's cells: of one cell, or a struct or an array. -/
def keyCs (ls : List Lf) (v : V) : Option (List V) :=
  match ls with
  | [_] => (match v with
    | .int _ _ => some [v]
    | .str _ => some [v]
    | .bool _ => some [v]
    | _ => none)
  | _ => (match v with
    | .agg cs => some cs
    | _ => none)

def eqk (ls : List Lf) (x y : V) : Option Bool :=
  match keyCs ls x, keyCs ls y with
  | some xs, some ys => eql ls xs ys
  | _, _ => none

noncomputable def unop (op : UnOp) (x : V) : Sk :=
  match op with
  | .neg => vInt x fun kd n => give (.int kd (wr kd (0 - n)))
  | .xor => vInt x fun kd n => give (.int kd (kd.wrap (BitVec.ofInt kd.bits (if kd.signed then -1 else kd.max) ^^^ BitVec.ofInt kd.bits n).toNat))
  | .not => vBool x fun b => give (.bool !b)
  | _ => fail

noncomputable def cvtv (k : IntKind) (x : V) : Sk := vInt x fun _ n => give (.int k (wr k n))

noncomputable def pickv (c x y : V) : Sk := vBool c fun b => give (Bool.rec (motive := fun _ => V) y x b)

def setAt (vs : List V) (o : Nat) : List V → List V
  | [] => vs
  | c :: cs => setAt (vs.set o c) (o + 1) cs

noncomputable def fillp (a : Tr) (zs : List V) : List (Nat × Nat × Opd) → Option (List V)
  | [] => some zs
  | (off, size, x) :: ps =>
    if (opd a x).cells.length = size ∧ off + size ≤ zs.length ∧ ones (opd a x).cells = true then fillp a (setAt zs off (opd a x).cells) ps else none

noncomputable def fills (a : Tr) (es : Nat) (zs : List V) : List (Nat × Opd) → Option (List V)
  | [] => some zs
  | (i, x) :: ps =>
    if (opd a x).cells.length = es ∧ i * es + es ≤ zs.length ∧ ones (opd a x).cells = true then fills a es (setAt zs (i * es) (opd a x).cells) ps else none

def zrow (zs : List V) (n : Nat) : List V :=
  match zs with
  | [z] => List.replicate n z
  | _ => (List.replicate n zs).flatten

noncomputable def nilckv (x : V) : Sk := V.rec (motive_1 := fun _ => Sk) (motive_2 := fun _ => Unit) (fail) (fun b => fail) (fun kd n => fail) (fun s => fail) (fun b o => give (.ptr b o)) (fail) (fun b o l c e => fail) (fail) (fun b => fail) (fail) (fun f fx fc _ _ => give (.func f fx fc)) (fun l => fail) (fail) (fun cs _ => fail) (fun vs _ => fail) () (fun _ _ _ _ => ()) x

noncomputable def fadrv (off : Nat) (x : V) : Sk := vPtr x fun b o => give (.ptr b (o + off))

def seg (vs : List V) (o n : Nat) : List V := (vs.drop o).take n

noncomputable def nth (l : List V) : Nat → Sk := List.rec (motive := fun _ => Nat → Sk) (fun _ => fail)
  (fun v _ ih n => Nat.rec (motive := fun _ => Sk) (give v) (fun m _ => ih m) n) l

def segv (off m : Nat) (cs : List V) : Sk := fun k σ => if off + m ≤ cs.length then k (.agg (seg cs off m)) σ else False

noncomputable def partv (off : Nat) (n : Option Nat) (cs : List V) : Sk := Option.rec (motive := fun _ => Sk) (nth cs off) (fun m => segv off m cs) n

noncomputable def fldv (off : Nat) (n : Option Nat) (x : V) : Sk := vAgg x fun cs => partv off n cs

/-- Is it an index below len? -/
def ixOk (i : Int) (len : Nat) : Bool :=
  match i with
  | .ofNat m => Nat.blt m len
  | .negSucc _ => false

noncomputable def ixsv (es : Nat) (x i : V) : Sk := vSlice x fun b o len _ _ => vInt i fun _ i =>
  Bool.rec (motive := fun _ => Sk) fail (give (.ptr b (o + i.toNat * es))) (ixOk i len)

noncomputable def ixav (n es : Nat) (x i : V) : Sk := vPtr x fun b o => vInt i fun _ i =>
  Bool.rec (motive := fun _ => Sk) fail (give (.ptr b (o + i.toNat * es))) (ixOk i n)

noncomputable def ixvv (len es : Nat) (n : Option Nat) (x i : V) : Sk := vAgg x fun cs => vInt i fun _ i =>
  Bool.rec (motive := fun _ => Sk) fail (partv (i.toNat * es) n cs) (ixOk i len)

noncomputable def ixstrv (x i : V) : Sk := vStr x fun s => vInt i fun _ i k σ =>
  if 0 ≤ i then (match s.data.toList[i.toNat]? with
    | some c => k (.int .u8 c.toNat) σ
    | none => False) else False

noncomputable def extv (x : V) (i : Nat) : Sk := vTup x fun vs => nth vs i

noncomputable def lenv (x : V) : Sk := V.rec (motive_1 := fun _ => Sk) (motive_2 := fun _ => Unit) (fail) (fun b => fail) (fun kd n => fail) (fun s => fail) (fun b o => fail) (fail) (fun b o l c e => give (.int .i64 l)) (give (.int .i64 0)) (fun b => fail) (fail) (fun f fx fc _ _ => fail) (fun l => fail) (fail) (fun cs _ => fail) (fun vs _ => fail) () (fun _ _ _ _ => ()) x

def capv (x : V) : Sk := fun k σ =>
  match x with
  | .slice _ _ _ cap none => k (.int .i64 cap) σ
  | .nilslice => k (.int .i64 0) σ
  | _ => False

/-- A slice's bound: given, or as it stands. -/
noncomputable def bnd (a : Tr) (x : Option Opd) (dflt : Nat) : Option Nat :=
  match x with
  | none => some dflt
  | some x => match opd a x with
    | .int _ i => if 0 ≤ i then some i.toNat else none
    | _ => none

/-- s[l:h] or s[l:h:m] of a slice at b, o. -/
def slcAt (es b o cap : Nat) (fl : Option Nat) (l h : Nat) (m : Option Nat) : Sk := fun k σ =>
  match m with
  | some m => if l ≤ h ∧ h ≤ m ∧ m ≤ cap then k (.slice b (if m = l then o else o + l * es) (h - l) (m - l) none) σ else False
  | none =>
    if l ≤ h ∧ h ≤ cap then
      match fl with
      | none => k (.slice b (if cap = l then o else o + l * es) (h - l) (cap - l) none) σ
      | some e => if e = es then k (.slice b (o + l * es) (h - l) (cap - l) (some e)) σ else False
    else False

noncomputable def slcv (es : Nat) (a : Tr) (x : V) (lo hi mx : Option Opd) : Sk := fun k σ =>
  match x with
  | .slice b o len cap fl =>
    match bnd a lo 0, bnd a hi len, mx with
    | some l, some h, none => slcAt es b o cap fl l h none k σ
    | some l, some h, some m => match bnd a (some m) 0 with
      | some m => slcAt es b o cap fl l h (some m) k σ
      | none => False
    | _, _, _ => False
  | .nilslice =>
    match bnd a lo 0, bnd a hi 0, bnd a mx 0 with
    | some 0, some 0, some 0 => k .nilslice σ
    | _, _, _ => False
  | _ => False

noncomputable def slcav (n es : Nat) (a : Tr) (x : V) (lo hi mx : Option Opd) : Sk := fun k σ =>
  match x with
  | .ptr b o =>
    match bnd a lo 0, bnd a hi n, bnd a mx n with
    | some l, some h, some m => if m ≤ n then slcAt es b o n none l h (some m) k σ else False
    | _, _, _ => False
  | _ => False

noncomputable def slcsv (a : Tr) (x : V) (lo hi : Option Opd) : Sk := fun k σ =>
  match x with
  | .str s =>
    match bnd a lo 0, bnd a hi s.size with
    | some l, some h => if l ≤ h ∧ h ≤ s.size then k (.str (s.extract l h)) σ else False
    | _, _ => False
  | _ => False

noncomputable def foldP (f : Int → Int → Int) (kd : IntKind) (l : List V) : Int → Sk := List.rec (motive := fun _ => Int → Sk) (fun a => give (.int kd a))
  (fun v _ ih a => vInt v fun kd' b => Bool.rec (motive := fun _ => Sk) fail (ih (f a b)) (Nat.beq (kindIx kd) (kindIx kd'))) l

def imin (a b : Int) : Int := if b < a then b else a
def imax (a b : Int) : Int := if b > a then b else a

noncomputable def foldv (f : Int → Int → Int) (l : List V) : Sk := List.rec (motive := fun _ => Sk) fail (fun v t _ => vInt v fun kd a => foldP f kd t a) l

/-! ### reading the heap -/
noncomputable def objCells (o : Obj) : Option (List V) := Obj.rec (motive := fun _ => Option (List V)) (fun _ vs => some vs) (fun _ _ => none) (fun _ _ _ => none) (fun _ _ _ _ _ _ _ => none) none o

noncomputable def cellsOf (o : Option Obj) : Option (List V) := Option.rec (motive := fun _ => Option (List V)) none objCells o

noncomputable def ldc (b o : Nat) (n : Option Nat) : Sk := fun k σ => Option.rec (motive := fun _ => Sk) fail (fun vs => partv o n vs) (cellsOf (σ.get b)) k σ

noncomputable def ldv (n : Option Nat) (x : V) : Sk := vPtr x fun b o => ldc b o n

/-- The first m cells of a slice or a string's bytes. -/
noncomputable def firstv (es m : Nat) (σ : St) (x : V) : Option (List V) :=
  match x with
  | .nilslice => match m with
    | 0 => some []
    | _ => none
  | .slice b o _ _ _ => match cellsOf (σ.get b) with
    | some vs => if o + m * es ≤ vs.length then some (seg vs o (m * es)) else none
    | none => none
  | .str s => (match Nat.beq es 1 with
    | true => some ((s.data.toList.take m).map fun c => .int .u8 c.toNat)
    | false => none)
  | _ => none

def lenN : V → Option Nat
  | .slice _ _ len _ _ => some len
  | .nilslice => some 0
  | .str s => some s.size
  | _ => none

def mapOf : Option Obj → Option (List (V × V × Nat) × Nat)
  | some (.map es c) => some (es, c)
  | _ => none

/-- Where a key stands in a map's entries: none: a key of another make; some none: nowhere. -/
noncomputable def findk (ls : List Lf) (k : V) : List (V × V × Nat) → Nat → Option (Option (Nat × V))
  | [], _ => some none
  | e :: es, i => match eqk ls k e.1 with
    | some true => some (some (i, e.2.1))
    | some false => findk ls k es (i + 1)
    | none => none

noncomputable def entriesOf (σ : St) (m : V) : Option (List (V × V × Nat)) :=
  match m with
  | .nilmap => some []
  | .map b => (mapOf (σ.get b)).map (·.1)
  | _ => none

/-- The key is of the kinds that it should be (so is every entry's). -/
noncomputable def keyOk (ls : List Lf) (k : V) : Bool :=
  match eqk ls k k with
  | some _ => true
  | none => false

noncomputable def lookv (ls : List Lf) (zero : V) (ok : Bool) (m x : V) : Sk := fun k σ =>
  match entriesOf σ m with
  | none => False
  | some es => if keyOk ls x then (match findk ls x es 0 with
      | some (some (_, v)) => if ok then k (.tup [v, .bool true]) σ else k v σ
      | some none => if ok then k (.tup [zero, .bool false]) σ else k zero σ
      | none => False) else False

noncomputable def mlenv (m : V) : Sk := fun k σ =>
  match entriesOf σ m with
  | some es => k (.int .i64 es.length) σ
  | none => False

/-! ### turning the heap: the state behind, or none -/
/-- A row that may be written. -/
noncomputable def objFree (o : Obj) : Option (List V) := Obj.rec (motive := fun _ => Option (List V)) (fun ro vs => Bool.rec (motive := fun _ => Option (List V)) (some vs) none ro) (fun _ _ => none) (fun _ _ _ => none) (fun _ _ _ _ _ _ _ => none) none o

noncomputable def freeOf (o : Option Obj) : Option (List V) := Option.rec (motive := fun _ => Option (List V)) none objFree o

/-- Cells that are written at b, o. -/
noncomputable def wrs (σ : St) (b o : Nat) (cs : List V) : Option St := Option.rec (motive := fun _ => Option St) none
  (fun vs => Bool.rec (motive := fun _ => Option St) none (some (σ.put b (.cells false (setAt vs o cs)))) (Nat.ble (o + cs.length) vs.length && ones cs)) (freeOf (σ.get b))

noncomputable def gs (s : Option St) (k : Cn) : Prop := Option.rec (motive := fun _ => Cn → Prop) (fun _ => False) (fun σ k => k .bot σ) s k

noncomputable def stv (n : Option Nat) (x v : V) : Sk := vPtr x fun b o k σ =>
  Bool.rec (motive := fun _ => Prop) False (gs (wrs σ b o v.cells) k) (Nat.beq v.cells.length (n.getD 1))

/-- 'append' of cells that are read already: m elements. -/
noncomputable def appv (es bytes : Nat) (σ : St) (s : V) (m : Nat) (new : List V) : Option (V × St) :=
  match s with
  | .nilslice => if m = 0 then some (.nilslice, σ) else
      if m * bytes ≤ 1073741824 ∧ ones new = true then some (.slice σ.n 0 m m (some es), σ.add (.cells false new)) else none
  | .slice b o len cap fl =>
    if len + m ≤ cap then
      (match m with
       | 0 => some (.slice b o len cap fl, σ)
       | _ => match wrs σ b (o + len * es) new with
         | some σ' => some (.slice b o (len + m) cap fl, σ')
         | none => none)
    else
    if (len + m) * bytes ≤ 1073741824 ∧ ones new = true then
      match σ.get b with
      | some (.cells ro vs) =>
        if o + len * es ≤ vs.length then
          match fl with
          | none => some (.slice σ.n 0 (len + m) (len + m) (some es), σ.add (.cells false (seg vs o (len * es) ++ new)))
          | some e => if ro = false ∧ e = es then
              some (.slice σ.n 0 (len + m) (len + m) (some es), (σ.put b .dead).add (.cells false (seg vs o (len * es) ++ new))) else none
        else none
      | _ => none
    else none
  | _ => none

noncomputable def copyv (es : Nat) (σ : St) (d s : V) : Option (V × St) :=
  match d, lenN s with
  | .nilslice, some _ => some (.int .i64 0, σ)
  | .slice b o len _ _, some m =>
    match firstv es (Nat.min m len) σ s with
    | some cs => match wrs σ b o cs with
      | some σ' => some (.int .i64 (Nat.min m len : Nat), σ')
      | none => none
    | none => none
  | _, _ => none

noncomputable def mputv (ls : List Lf) (σ : St) (m k v : V) : Option St :=
  match m with
  | .map b => match mapOf (σ.get b) with
    | some (es, clock) => if keyOk ls k then (match findk ls k es 0 with
        | some (some (i, _)) => some (σ.put b (.map (es.modify i fun e => (k, v, e.2.2)) clock))
        | some none => some (σ.put b (.map (es ++ [(k, v, clock)]) (clock + 1)))
        | none => none) else none
    | none => none
  | _ => none

noncomputable def mentryv (ls : List Lf) (zero : V) (σ : St) (m k : V) : Option (V × St) :=
  match m with
  | .map b => match mapOf (σ.get b) with
    | some (es, clock) => if keyOk ls k then (match findk ls k es 0 with
        | some (some (i, v)) => some (.tup [v, .int .i64 ((es[i]?.map (·.2.2)).getD 0 : Nat)], σ.put b (.map (es.modify i fun e => (k, e.2.1, e.2.2)) clock))
        | some none => some (.tup [zero, .int .i64 clock], σ.put b (.map (es ++ [(k, zero, clock)]) (clock + 1)))
        | none => none) else none
    | none => none
  | _ => none

noncomputable def estorev (σ : St) (m s v : V) : Option St :=
  match m, s with
  | .map b, .int _ born => match mapOf (σ.get b) with
    | some (es, clock) => match es.findIdx? (fun e => (e.2.2 : Int) == born) with
      | some i => some (σ.put b (.map (es.modify i fun e => (e.1, v, e.2.2)) clock))
      | none => none
    | none => none
  | _, _ => none

noncomputable def delv (ls : List Lf) (σ : St) (m k : V) : Option St :=
  match m with
  | .nilmap => if keyOk ls k then some σ else none
  | .map b => match mapOf (σ.get b) with
    | some (es, clock) => if keyOk ls k then (match findk ls k es 0 with
        | some (some (i, _)) => some (σ.put b (.map (es.eraseIdx i) clock))
        | some none => some σ
        | none => none) else none
    | none => none
  | _ => none

noncomputable def clearv (zs : List V) (σ : St) (x : V) : Option St :=
  match x with
  | .nilslice | .slice _ _ 0 _ _ | .nilmap => some σ
  | .slice b o len _ _ => wrs σ b o (zrow zs len)
  | .map b => match mapOf (σ.get b) with
    | some (_, clock) => some (σ.put b (.map [] clock))
    | none => none
  | _ => none

noncomputable def rangev (σ : St) (x : V) : Option (V × St) :=
  match x with
  | .map b => match mapOf (σ.get b) with
    | some (_, clock) => some (.ptr σ.n 0, σ.add (.iter b clock []))
    | none => none
  | _ => none

def gvs (s : Option (V × St)) (k : Cn) : Prop :=
  match s with
  | some (v, σ) => k v σ
  | none => False

noncomputable def gagg (s : Option (List V)) (σ : St) (k : Cn) : Prop :=
  match s with
  | some cs => k (.agg cs) σ
  | none => False

noncomputable def gnew (s : Option (List V)) (len : Nat) (σ : St) (k : Cn) : Prop :=
  match s with
  | some cs => k (.slice σ.n 0 len len none) (σ.add (.cells false cs))
  | none => False

inductive Tgt where
  | fn (f : Nat)
  | yield (l : Nat)

abbrev KT := Tgt → List V → St → (V → St → Prop) → Prop

noncomputable def calldP (K : KT) (x : V) (args : List V) : St → Cn → Prop := V.rec (motive_1 := fun _ => KT → List V → St → Cn → Prop) (motive_2 := fun _ => Unit) (fun _ _ _ _ => False) (fun b => fun _ _ _ _ => False) (fun kd n => fun _ _ _ _ => False) (fun s => fun _ _ _ _ => False) (fun b o => fun _ _ _ _ => False) (fun _ _ _ _ => False) (fun b o l c e => fun _ _ _ _ => False) (fun _ _ _ _ => False) (fun b => fun _ _ _ _ => False) (fun _ _ _ _ => False) (fun f fx fc _ _ => fun K args σ k => K (.fn f) (fx ++ args ++ fc) σ k) (fun l => fun K args σ k => K (.yield l) args σ k) (fun _ _ _ _ => False) (fun cs _ => fun _ _ _ _ => False) (fun vs _ => fun _ _ _ _ => False) () (fun _ _ _ _ => ()) x K args

noncomputable def appP (es bytes : Nat) (σ : St) (s x : V) (k : V → St → Prop) : Prop :=
  match lenN x with
  | some m => match firstv es m σ x with
    | some cs => gvs (appv es bytes σ s m cs) k
    | none => False
  | none => False

noncomputable def appzP (es bytes : Nat) (zs : List V) (σ : St) (s x : V) (k : V → St → Prop) : Prop :=
  match x with
  | .int _ i => if 0 ≤ i ∧ i ≤ 1073741824 then gvs (appv es bytes σ s i.toNat (zrow zs i.toNat)) k else False
  | _ => False

def mkslP (bytes : Nat) (zs : List V) (l c : V) (σ : St) (k : V → St → Prop) : Prop :=
  match l, c with
  | .int _ l, .int _ c => if 0 ≤ l ∧ l ≤ c ∧ c * bytes ≤ 1073741824 ∧ c ≤ 1073741824 then k (.slice σ.n 0 l.toNat c.toNat none) (σ.add (.cells false (zrow zs c.toNat))) else False
  | _, _ => False

/-- A step of a range over a map: whichever entry is left may come. -/
noncomputable def mnextP (σ : St) (x : V) (k : V → St → Prop) : Prop :=
  match x with
  | .ptr r 0 => match σ.get r with
    | some (.iter m since seen) => match mapOf (σ.get m) with
      | some (es, clock) =>
        if clock = since ∧ es.all (fun e => decide (e.2.2 < since)) = true then
          (match es.filter (fun e => !seen.contains e.2.2) with
           | [] => k (.tup [.bool false]) σ
           | left => ∀ e ∈ left, k (.tup [.bool true, e.1, e.2.1]) (σ.put r (.iter m since (seen ++ [e.2.2]))))
        else False
      | none => False
    | _ => False
  | _ => False

noncomputable def mcurv (x : V) : Sk := fun k σ =>
  match x with
  | .ptr r 0 => match σ.get r with
    | some (.iter m since seen) => match mapOf (σ.get m), seen.getLast? with
      | some (es, clock), some stamp => if clock = since then (match es.find? (fun e => e.2.2 == stamp) with
          | some e => k (.tup [e.1, e.2.1]) σ
          | none => False) else False
      | _, _ => False
    | _ => False
  | _ => False

abbrev Opr := KT → Tr → St → Cn → Prop

noncomputable def o_mv (x : Opd) : Opr := fun K a σ k => give (opd a x) k σ
noncomputable def o_asg (x : Opd) : Opr := fun K a σ k => give (opd a x) k σ
noncomputable def o_pick (c x y : Opd) : Opr := fun K a σ k => pickv (opd a c) (opd a x) (opd a y) k σ
noncomputable def o_alloc (zs : List V) : Opr := fun K a σ k => k (.ptr σ.n 0) (σ.add (.cells false zs))
noncomputable def o_box (x : Opd) : Opr := fun K a σ k => Bool.rec (motive := fun _ => Prop) False (k (.ptr σ.n 0) (σ.add (.cells false (opd a x).cells))) (ones (opd a x).cells)
noncomputable def o_build (zs : List V) (parts : List (Nat × Nat × Opd)) : Opr := fun K a σ k => gagg (fillp a zs parts) σ k
noncomputable def o_bslice (es len : Nat) (zs : List V) (parts : List (Nat × Opd)) : Opr := fun K a σ k => gnew (fills a es (zrow zs len) parts) len σ k
noncomputable def o_ld (n : Option Nat) (x : Opd) : Opr := fun K a σ k => ldv n (opd a x) k σ
noncomputable def o_st (n : Option Nat) (x y : Opd) : Opr := fun K a σ k => stv n (opd a x) (opd a y) k σ
noncomputable def o_nilck (x : Opd) : Opr := fun K a σ k => nilckv (opd a x) k σ
noncomputable def o_bin (op : BinOp) (x y : Opd) : Opr := fun K a σ k => bin op (opd a x) (opd a y) k σ
noncomputable def o_eqb (neg : Bool) (x y : Opd) : Opr := fun K a σ k => eqbv neg (opd a x) (opd a y) k σ
noncomputable def o_eqn (kd : Nk) (neg : Bool) (x y : Opd) : Opr := fun K a σ k => eqnv kd neg (opd a x) (opd a y) k σ
noncomputable def o_eqa (neg : Bool) (ls : List Lf) (x y : Opd) : Opr := fun K a σ k => eqv neg ls (opd a x) (opd a y) k σ
noncomputable def o_un (op : UnOp) (x : Opd) : Opr := fun K a σ k => unop op (opd a x) k σ
noncomputable def o_cvt (kd : IntKind) (x : Opd) : Opr := fun K a σ k => cvtv kd (opd a x) k σ
noncomputable def o_s2b (x : Opd) : Opr := fun K a σ k => vStr (opd a x) (fun s k σ => if s.size ≤ 1073741824 then k (.slice σ.n 0 s.size s.size (some 1)) (σ.add (.cells false (s.data.toList.map fun c => .int .u8 c.toNat))) else False) k σ
noncomputable def o_slen (x : Opd) : Opr := fun K a σ k => vStr (opd a x) (fun s => give (.int .i64 s.size)) k σ
noncomputable def o_mkfn (f : Nat) (first cap : List Opd) : Opr := fun K a σ k => k (.func f (opds a first) (opds a cap)) σ
noncomputable def o_mkmap  : Opr := fun K a σ k => k (.map σ.n) (σ.add (.map [] 0))
noncomputable def o_mksl (es bytes : Nat) (zs : List V) (l c : Opd) : Opr := fun K a σ k => mkslP bytes zs (opd a l) (opd a c) σ k
noncomputable def o_slc (es : Nat) (x : Opd) (lo hi mx : Option Opd) : Opr := fun K a σ k => slcv es a (opd a x) lo hi mx k σ
noncomputable def o_slcs (x : Opd) (lo hi : Option Opd) : Opr := fun K a σ k => slcsv a (opd a x) lo hi k σ
noncomputable def o_slca (n es : Nat) (x : Opd) (lo hi mx : Option Opd) : Opr := fun K a σ k => slcav n es a (opd a x) lo hi mx k σ
noncomputable def o_fadr (off : Nat) (x : Opd) : Opr := fun K a σ k => fadrv off (opd a x) k σ
noncomputable def o_fld (off : Nat) (n : Option Nat) (x : Opd) : Opr := fun K a σ k => fldv off n (opd a x) k σ
noncomputable def o_ixs (es : Nat) (x i : Opd) : Opr := fun K a σ k => ixsv es (opd a x) (opd a i) k σ
noncomputable def o_ixa (n es : Nat) (x i : Opd) : Opr := fun K a σ k => ixav n es (opd a x) (opd a i) k σ
noncomputable def o_ixv (len es : Nat) (n : Option Nat) (x i : Opd) : Opr := fun K a σ k => ixvv len es n (opd a x) (opd a i) k σ
noncomputable def o_ixstr (x i : Opd) : Opr := fun K a σ k => ixstrv (opd a x) (opd a i) k σ
noncomputable def o_look (ls : List Lf) (zero : V) (x kx : Opd) (ok : Bool) : Opr := fun K a σ k => lookv ls zero ok (opd a x) (opd a kx) k σ
noncomputable def o_mput (ls : List Lf) (m kx v : Opd) : Opr := fun K a σ k => gs (mputv ls σ (opd a m) (opd a kx) (opd a v)) k
noncomputable def o_mentry (ls : List Lf) (zero : V) (m kx : Opd) : Opr := fun K a σ k => gvs (mentryv ls zero σ (opd a m) (opd a kx)) k
noncomputable def o_estore (m s v : Opd) : Opr := fun K a σ k => gs (estorev σ (opd a m) (opd a s) (opd a v)) k
noncomputable def o_mrange (x : Opd) : Opr := fun K a σ k => gvs (rangev σ (opd a x)) k
noncomputable def o_mnext (x : Opd) : Opr := fun K a σ k => mnextP σ (opd a x) k
noncomputable def o_mcur (x : Opd) : Opr := fun K a σ k => mcurv (opd a x) k σ
noncomputable def o_ext (x : Opd) (i : Nat) : Opr := fun K a σ k => extv (opd a x) i k σ
noncomputable def o_call (f : Nat) (args : List Opd) : Opr := fun K a σ k => K (.fn f) (opds a args) σ k
noncomputable def o_calld (x : Opd) (args : List Opd) : Opr := fun K a σ k => calldP K (opd a x) (opds a args) σ k
noncomputable def o_app (es bytes : Nat) (s x : Opd) : Opr := fun K a σ k => appP es bytes σ (opd a s) (opd a x) k
noncomputable def o_appz (es bytes : Nat) (zs : List V) (s x : Opd) : Opr := fun K a σ k => appzP es bytes zs σ (opd a s) (opd a x) k
noncomputable def o_len (x : Opd) : Opr := fun K a σ k => lenv (opd a x) k σ
noncomputable def o_lenm (x : Opd) : Opr := fun K a σ k => mlenv (opd a x) k σ
noncomputable def o_lenc (n : Nat) : Opr := fun K a σ k => k (.int .i64 n) σ
noncomputable def o_cap (x : Opd) : Opr := fun K a σ k => capv (opd a x) k σ
noncomputable def o_copy (es : Nat) (d s : Opd) : Opr := fun K a σ k => gvs (copyv es σ (opd a d) (opd a s)) k
noncomputable def o_clear (zs : List V) (x : Opd) : Opr := fun K a σ k => gs (clearv zs σ (opd a x)) k
noncomputable def o_del (ls : List Lf) (m kx : Opd) : Opr := fun K a σ k => gs (delv ls σ (opd a m) (opd a kx)) k
noncomputable def o_min (xs : List Opd) : Opr := fun K a σ k => foldv imin (opds a xs) k σ
noncomputable def o_max (xs : List Opd) : Opr := fun K a σ k => foldv imax (opds a xs) k σ
noncomputable def o_bad  : Opr := fun K a σ k => False

noncomputable def evalOp (o : EOp) : Opr := EOp.rec (motive := fun _ => Opr) o_mv o_asg o_pick o_alloc o_box o_build o_bslice o_ld o_st o_nilck o_bin o_eqb o_eqn o_eqa o_un o_cvt o_s2b o_slen o_mkfn o_mkmap o_mksl o_slc o_slcs o_slca o_fadr o_fld o_ixs o_ixa o_ixv o_ixstr o_look o_mput o_mentry o_estore o_mrange o_mnext o_mcur o_ext o_call o_calld o_app o_appz o_len o_lenm o_lenc o_cap o_copy o_clear o_del o_min o_max o_bad o

/-- Is the operation wanted? -/
noncomputable def wantP (v : V) (b : Bool) (yes no : Prop) : Prop := V.rec (motive_1 := fun _ => Bool → Prop → Prop → Prop) (motive_2 := fun _ => Unit) (fun _ _ _ => False) (fun b c yes no => Bool.rec (motive := fun _ => Prop) (Bool.rec (motive := fun _ => Prop) yes no c) (Bool.rec (motive := fun _ => Prop) no yes c) b) (fun kd n => fun _ _ _ => False) (fun s => fun _ _ _ => False) (fun b o => fun _ _ _ => False) (fun _ _ _ => False) (fun b o l c e => fun _ _ _ => False) (fun _ _ _ => False) (fun b => fun _ _ _ => False) (fun _ _ _ => False) (fun f fx fc _ _ => fun _ _ _ => False) (fun l => fun _ _ _ => False) (fun _ _ _ => False) (fun cs _ => fun _ _ _ => False) (fun vs _ => fun _ _ no => no) () (fun _ _ _ _ => ()) v b yes no

abbrev Co := KT → Tr → St → (Tr → St → Prop) → Prop

noncomputable def cNil : Co := fun _ a σ k => k a σ
noncomputable def cU (op : EOp) (rest : Co) : Co := fun K a σ k => evalOp op K a σ fun _ σ' => rest K a σ' k
noncomputable def cS (d : Pth) (op : EOp) (rest : Co) : Co := fun K a σ k => evalOp op K a σ fun v σ' => rest K (stt d a v) σ' k
noncomputable def cG (c : Pth) (b : Bool) (d : Pth) (op : EOp) (rest : Co) : Co := fun K a σ k =>
  wantP (gt c a) b (evalOp op K a σ fun v σ' => rest K (stt d a v) σ' k) (rest K (stt d a (.tup [])) σ k)
noncomputable def cGu (c : Pth) (b : Bool) (op : EOp) (rest : Co) : Co := fun K a σ k =>
  wantP (gt c a) b (evalOp op K a σ fun _ σ' => rest K a σ' k) (rest K a σ k)

noncomputable def cI (i : EI) : Co → Co := EI.rec (motive := fun _ => Co → Co) cU cS cG cGu i

noncomputable def evalOps (l : List EI) : Co := List.rec (motive := fun _ => Co) cNil (fun i _ ih => cI i ih) l

/-! ### a region of open order: the operations in one order that the edges allow; what each one touches is looked at -/
inductive Evt where
  | rd (r : Nat) (o : Nat) (n : Option Nat)
  | al (id : Nat)
  | se (chg : List Nat) (σ τ : St)

def tb (m i : Nat) : Bool := Nat.beq (m / 2 ^ i % 2) 1

noncomputable def nmem (b : Nat) (l : List Nat) : Bool := List.rec (motive := fun _ => Bool) false (fun c _ ih => Bool.rec (motive := fun _ => Bool) ih true (Nat.beq c b)) l

/-- Surely the same. -/
def V.beq (x y : V) : Bool :=
  match x, y with
  | .bool a, .bool b => a == b
  | .int k a, .int j b => Nat.beq (kindIx k) (kindIx j) && a == b
  | .ptr a b, .ptr c d => Nat.beq a c && Nat.beq b d
  | .nilptr, .nilptr => true
  | .slice a b c d e, .slice a' b' c' d' e' => Nat.beq a a' && Nat.beq b b' && Nat.beq c c' && Nat.beq d d' && e == e'
  | .nilslice, .nilslice => true
  | .map a, .map b => Nat.beq a b
  | .nilmap, .nilmap => true
  | .nilfunc, .nilfunc => true
  | _, _ => false

def beqs : List V → List V → Bool
  | [], [] => true
  | x :: xs, y :: ys => x.beq y && beqs xs ys
  | _, _ => false

/-- These cells are as they were. -/
noncomputable def segSame (σ τ : St) (r o : Nat) (n : Option Nat) : Bool :=
  match n, cellsOf (σ.get r), cellsOf (τ.get r) with
  | some n, some xs, some ys => Nat.beq xs.length ys.length && beqs (seg xs o n) (seg ys o n)
  | _, _, _ => false

/-- A read beside what came before in this order. -/
noncomputable def okRd (m r o : Nat) (n : Option Nat) : List (Nat × Evt) → Bool
  | [] => true
  | (i, e) :: l => (tb m i || (match e with
    | .rd _ _ _ => true
    | .al id => !Nat.beq id r
    | .se chg σ τ => !nmem r chg || segSame σ τ r o n)) && okRd m r o n l

/-- An operation that has turned these elder blocks, from σ to τ. -/
noncomputable def okSe (m : Nat) (chg : List Nat) (σ τ : St) : List (Nat × Evt) → Bool
  | [] => true
  | (i, e) :: l => (tb m i || (match e with
    | .rd r o n => !nmem r chg || segSame σ τ r o n
    | .al _ => true
    | .se _ _ _ => false)) && okSe m chg σ τ l

/-- The new blocks that need not be there yet. -/
noncomputable def hid (m : Nat) : List (Nat × Evt) → List Nat
  | [] => []
  | (i, e) :: l => match tb m i with
    | true => hid m l
    | false => match e with
      | .al b => b :: hid m l
      | _ => hid m l

/-- Without them. -/
noncomputable def St.hide (σ : St) : List Nat → St
  | [] => σ
  | b :: l => St.hide ⟨hput σ.h b .dead, σ.n, σ.base, σ.mods⟩ l

/-- With them, as they were. -/
noncomputable def St.unhide (σ₀ : St) : List Nat → St → St
  | [], σ => σ
  | b :: l, σ => match σ₀.get b with
    | some o => St.unhide σ₀ l ⟨hput σ.h b o, σ.n, σ.base, σ.mods⟩
    | none => St.unhide σ₀ l σ

/-- How an operation of a region of open order is taken. -/
inductive Cls where
  | pure
  | read (x : Opd) (n : Option Nat)
  | alloc
  | serial

def clsOf (o : EOp) : Cls :=
  match o with
  | .mv _ | .pick _ _ _ | .build _ _ | .nilck _ | .bin _ _ _ | .eqb _ _ _ | .eqn _ _ _ _ | .eqa _ _ _ _ | .un _ _ | .cvt _ _ | .mkfn _ _ _ | .slc _ _ _ _ _ | .slcs _ _ _ | .slca _ _ _ _ _ _ | .fadr _ _ | .fld _ _ _ | .ixs _ _ _ | .ixa _ _ _ _ | .ixv _ _ _ _ _ | .ixstr _ _
  | .ext _ _ | .slen _ | .len _ | .lenc _ | .cap _ | .min _ | .max _ => .pure
  | .ld n x => .read x (some (n.getD 1))
  | .look _ _ x _ _ => .read x none
  | .lenm x => .read x none
  | .alloc _ | .box _ | .bslice _ _ _ _ | .mksl _ _ _ _ _ | .mkmap => .alloc
  | _ => .serial

/-- Where a value leads. -/
def vblk (v : V) : Option (Nat × Nat) :=
  match v with
  | .ptr b o => some (b, o)
  | .map b => some (b, 0)
  | _ => none

/-- The state in which a function, or an operation of its own, begins. -/
def St.enter (σ : St) : St := ⟨σ.h, σ.n, σ.n, []⟩

noncomputable def nmerge (base : Nat) (l : List Nat) : List Nat → List Nat := List.rec (motive := fun _ => List Nat → List Nat) (fun m => m)
  (fun b _ ih m => ih (Bool.rec (motive := fun _ => List Nat) m (nins b m) (Nat.blt b base))) l

/-- Back behind it. -/
noncomputable def St.back (σ τ : St) : St := ⟨τ.h, τ.n, σ.base, nmerge σ.base τ.mods σ.mods⟩

abbrev Cd := List (Nat × Evt) → Co

noncomputable def dOp (j m : Nat) (op : EOp) (next : V → Cd) : Cd := fun ev K a σ k =>
  match clsOf op with
  | .pure => evalOp op K a σ fun v _ => next v ev K a σ k
  | .read x n => (match vblk (opd a x) with
    | some r => Bool.rec (motive := fun _ => Prop) False (evalOp op K a σ fun v _ => next v ((j, .rd r.1 r.2 n) :: ev) K a σ k) (okRd m r.1 r.2 n ev)
    | none => evalOp op K a σ fun v _ => next v ev K a σ k)
  | .alloc => evalOp op K a σ fun v σ' => next v ((j, .al σ.n) :: ev) K a σ' k
  | .serial => evalOp op K a (σ.hide (hid m ev)).enter fun v τ => Bool.rec (motive := fun _ => Prop) False (next v ((j, .se τ.mods σ τ) :: ev) K a (σ.unhide (hid m ev) (σ.back τ)) k) (okSe m τ.mods σ τ ev)

noncomputable def dI (j m : Nat) (i : EI) (rest : Cd) : Cd := EI.rec (motive := fun _ => Cd)
  (fun op => dOp j m op fun _ => rest)
  (fun d op => dOp j m op fun v ev K a σ k => rest ev K (stt d a v) σ k)
  (fun c b d op ev K a σ k => wantP (gt c a) b (dOp j m op (fun v ev K a σ k => rest ev K (stt d a v) σ k) ev K a σ k) (rest ev K (stt d a (.tup [])) σ k))
  (fun c b op ev K a σ k => wantP (gt c a) b (dOp j m op (fun _ => rest) ev K a σ k) (rest ev K a σ k)) i

noncomputable def evalDraw (l : List EI) : Nat → List Nat → Cd := List.rec (motive := fun _ => Nat → List Nat → Cd) (fun _ _ _ K a σ k => k a σ)
  (fun i _ ih j bef => match bef with
    | m :: bef => dI j m i (ih (j + 1) bef)
    | [] => fun _ _ _ _ _ => False) l

abbrev Kx := Ex → Tr → St → Prop
abbrev Cc := KT → Nat → Nat → Tr → St → Kx → Prop

noncomputable def seqK (again : Tr → St → Kx → Prop) (k : Kx) : Kx := fun e a σ => Ex.rec (motive := fun _ => Prop) (again a σ k) (fun i => k (.exit i) a σ) (k .ret a σ) e

noncomputable def blkK (id : Nat) (m : List Pth) (k : Kx) : Kx := fun e a σ => Ex.rec (motive := fun _ => Prop) (k .nrm (forget m a) σ) (fun i => Bool.rec (motive := fun _ => Prop) (k (.exit i) a σ) (k .nrm (forget m a) σ) (Nat.beq i id)) (k .ret a σ) e

noncomputable def iter (body : Tr → St → Kx → Prop) (m : List Pth) (n : Nat) : Tr → St → Kx → Prop :=
  Nat.rec (motive := fun _ => Tr → St → Kx → Prop) (fun _ _ _ => False) (fun _ ih a σ k => body (forget m a) σ (seqK ih k)) n

noncomputable def condP (c : V) (P Q : Prop) : Prop := V.rec (motive_1 := fun _ => Prop → Prop → Prop) (motive_2 := fun _ => Unit) (fun _ _ => False) (fun b => fun P Q => Bool.rec (motive := fun _ => Prop) Q P b) (fun kd n => fun _ _ => False) (fun s => fun _ _ => False) (fun b o => fun _ _ => False) (fun _ _ => False) (fun b o l c e => fun _ _ => False) (fun _ _ => False) (fun b => fun _ _ => False) (fun _ _ => False) (fun f fx fc _ _ => fun _ _ => False) (fun l => fun _ _ => False) (fun _ _ => False) (fun cs _ => fun _ _ => False) (fun vs _ => fun _ _ => False) () (fun _ _ _ _ => ()) c P Q

noncomputable def rfP (K : KT) (f : V) (l : Nat) (σ : St) (k : Cn) : Prop :=
  match f with
  | .func g first cap => K (.fn g) (first ++ [.yield l] ++ cap) σ k
  | _ => False

/-- Behind a range over a function: the jump that a round has left. -/
noncomputable def rfK (l : Nat) (a : Tr) (k : Kx) (σ : St) : Prop :=
  match σ.get l with
  | some (.loop _ _ _ _ _ s pend) =>
    (match s with
     | .busy => False
     | _ => (match pend with
       | none => k .nrm a (σ.put l .dead)
       | some none => k .ret a (σ.put l .dead)
       | some (some id) => k (.exit id) a (σ.put l .dead)))
  | _ => False

noncomputable def cSkip : Cc := fun _ _ _ a σ k => k .nrm a σ
noncomputable def cOps (l : List EI) : Cc := fun K _ _ a σ k => evalOps l K a σ (k .nrm)
noncomputable def cDraw (_ bef : List Nat) (l : List EI) : Cc := fun K _ _ a σ k => evalDraw l 0 bef [] K a σ (k .nrm)
noncomputable def cSeq (x y : Cc) : Cc := fun K N fn a σ k => x K N fn a σ (seqK (y K N fn) k)
noncomputable def cCond (c : Opd) (x y : Cc) : Cc := fun K N fn a σ k => condP (opd a c) (x K N fn a σ k) (y K N fn a σ k)
noncomputable def cBlk (id : Nat) (m : List Pth) (b : Cc) : Cc := fun K N fn a σ k => b K N fn a σ (blkK id m k)
noncomputable def cLoop (m : List Pth) (b : Cc) : Cc := fun K N fn a σ k => iter (b K N fn) m N a σ k
noncomputable def cRf (f : Opd) (ps : List Pth) (asg body : EC) : Cc := fun K _ fn a σ k =>
  rfP K (opd a f) σ.n (σ.add (.loop fn a ps asg body .ready none)) fun _ σ' => rfK σ.n a k σ'
noncomputable def cExit (id : Nat) : Cc := fun _ _ _ a σ k => k (.exit id) a σ
noncomputable def cRet : Cc := fun _ _ _ a σ k => k .ret a σ
noncomputable def cBad : Cc := fun _ _ _ _ _ _ => False

noncomputable def evalC (e : EC) : Cc := EC.rec (motive := fun _ => Cc) cSkip cOps cDraw (fun _ _ x y => cSeq x y) (fun c _ _ x y => cCond c x y)
  (fun id m _ b => cBlk id m b) (fun m _ b => cLoop m b) (fun f ps asg body _ _ => cRf f ps asg body) cExit cRet cBad e

/-! ### functions -/
inductive ERes where
  | t (p : Pth)
  | cell (p : Pth) (n : Option Nat)

structure EF where
  depth : Nat
  nargs : Nat
  results : List ERes
  body : EC

noncomputable def initT (d : Nat) : Nat → List V → Tr → Tr
  | _, [], a => a
  | i, v :: vs, a => initT d (i + 1) vs (stt (pth d i) a v)

/-- The results' values, one after the other. -/
noncomputable def ress (a : Tr) (l : List ERes) : (List V → St → Prop) → St → Prop := List.rec (motive := fun _ => (List V → St → Prop) → St → Prop) (fun k σ => k [] σ)
  (fun r _ ih k σ => ERes.rec (motive := fun _ => Prop) (fun p => give (gt p a) (fun v σ => ih (fun vs σ => k (v :: vs) σ) σ) σ) (fun p n => ldv n (gt p a) (fun v σ => ih (fun vs σ => k (v :: vs) σ) σ) σ) r) l

def resv (vs : List V) : V :=
  match vs with
  | [v] => v
  | vs => .tup vs

def noBot : List V → Bool
  | [] => true
  | v :: vs => match v with
    | .bot => false
    | _ => noBot vs

/-- May what the function has made be forgotten? -/
noncomputable def clean (n : Nat) (τ : St) : List Nat → Bool
  | [] => true
  | b :: bs => match τ.get b with
    | some o => (match o.bel n with
      | true => clean n τ bs
      | false => false)
    | none => false

/-- The elder blocks as the function has turned them, laid over what was. -/
noncomputable def refold (τ : St) : List Nat → St → St
  | [], σ => σ
  | b :: bs, σ => match τ.get b with
    | some o => refold τ bs (σ.put b o)
    | none => refold τ bs σ

noncomputable def St.leave (σ τ : St) (v : V) : St :=
  match v.bel σ.n && clean σ.n τ τ.mods with
  | true => refold τ τ.mods σ
  | false => σ.back τ

noncomputable def retP (σ : St) (k : Cn) (rs : List V) (τ : St) : Prop :=
  match noBot rs with
  | true => k (resv rs) (σ.leave τ (resv rs))
  | false => False

/-- A table of functions, by number. -/
inductive BT where
  | nil
  | leaf (f : Nat) (e : EF)
  | node (m : Nat) (l r : BT)

noncomputable def BT.find (t : BT) : Nat → Option EF := BT.rec (motive := fun _ => Nat → Option EF) (fun _ => none)
  (fun f e n => Bool.rec (motive := fun _ => Option EF) none (some e) (Nat.beq f n))
  (fun m _ _ l r n => Bool.rec (motive := fun _ => Option EF) (r n) (l n) (Nat.blt n m)) t

/-- What is known of a function otherwise: with its arguments, the heap, and what stands behind it. -/
abbrev KF := List V → St → (V → St → Prop) → Prop

structure Env where
  fn : BT
  ext : Nat → Option KF

noncomputable def setps (ps : List Pth) (vs : List V) (a : Tr) : Tr :=
  match ps, vs with
  | p :: ps, v :: vs => setps ps vs (stt p a v)
  | _, _ => a

/-- Behind a function's body. -/
noncomputable def fnK (e : EF) (σ : St) (k : Cn) : Kx := fun ex a τ => Ex.rec (motive := fun _ => Prop) (ress a e.results (retP σ k) τ) (fun _ => False) (ress a e.results (retP σ k) τ) ex

noncomputable def callE (n : Nat) (K : KT) (f : Nat) (e : EF) (args : List V) (σ : St) (k : Cn) : Prop :=
  Bool.rec (motive := fun _ => Prop) False (evalC e.body K n f (initT e.depth 0 args Tr.root) σ.enter (fnK e σ k)) (Nat.beq args.length e.nargs)

noncomputable def callF (E : Env) (n : Nat) (K : KT) (f : Nat) (args : List V) (σ : St) (k : Cn) : Prop :=
  match E.ext f with
  | some F => F args σ k
  | none => (match E.fn.find f with
    | some e => callE n K f e args σ k
    | none => False)

/-- Behind a round's body. -/
noncomputable def roundK (l : Nat) (k : Cn) : Kx := fun ex _ σ =>
  match σ.get l with
  | some (.loop fn a ps asg body .busy _) => Ex.rec (motive := fun _ => Prop) (k (.bool true) (σ.put l (.loop fn a ps asg body .ready none))) (fun id => k (.bool false) (σ.put l (.loop fn a ps asg body .done (some (some id))))) (k (.bool false) (σ.put l (.loop fn a ps asg body .done (some none)))) ex
  | _ => False

noncomputable def asgB (n : Nat) (K : KT) (l : Nat) (fn0 : Nat) (body0 : EC) (k : Cn) (a1 : Tr) (σ : St) : Prop :=
  match σ.get l with
  | some (.loop fn a ps asg body .ready none) => evalC body0 K n fn0 a1 (σ.put l (.loop fn a ps asg body .busy none)) (roundK l k)
  | _ => False

noncomputable def asgK (n : Nat) (K : KT) (l : Nat) (fn0 : Nat) (body0 : EC) (k : Cn) : Kx := fun ex a1 σ => Ex.rec (motive := fun _ => Prop) (asgB n K l fn0 body0 k a1 σ) (fun _ => False) False ex

noncomputable def callY (n : Nat) (K : KT) (l : Nat) (args : List V) (σ : St) (k : Cn) : Prop :=
  match σ.get l with
  | some (.loop fn a ps asg body .ready none) =>
    Bool.rec (motive := fun _ => Prop) False (evalC asg K n fn (setps ps args a) σ (asgK n K l fn body k)) (Nat.beq ps.length args.length)
  | _ => False

noncomputable def callN (E : Env) (n : Nat) : KT := Nat.rec (motive := fun _ => KT) (fun _ _ _ _ => False)
  (fun n ih t => Tgt.rec (motive := fun _ => List V → St → Cn → Prop) (callF E n ih) (callY n ih) t) n

end Go.Proofs.Ytnmkbnejapdnnaa.Ev
