/-
  Is a term of the evaluator the code of a loaded function? A check by computation: types are looked up in the loaded program.
-/
import Derived.Test.YtnmkbnejapdnnaaEvCore
import GoSem.Core.Layout
import GoSem.Core.Region
import GoSem.Op.Equal
set_option linter.unusedVariables false
namespace Go.Proofs.Ytnmkbnejapdnnaa.Ev
open Go

/-! ### constants -/
def cellOk (v : Value) (x : V) : Bool :=
  match x with
  | .bool b => (match v with | .bool c => b == c | _ => false)
  | .int k n => (match v with | .int j m => k == j && n == m | _ => false)
  | .str s => (match v with | .string t => s.data.toList == t.data.toList | _ => false)
  | .nilptr => (match v with | .pointer none => true | _ => false)
  | .nilslice => (match v with | .slice none 0 0 => true | _ => false)
  | .nilmap => (match v with | .map none => true | _ => false)
  | .nilfunc => (match v with | .nilFunc => true | _ => false)
  | _ => false

def cellsOk : List Value → List V → Bool
  | [], [] => true
  | v :: vs, x :: xs => cellOk v x && cellsOk vs xs
  | _, _ => false

def constOk (v : Value) (x : V) : Bool :=
  match x with
  | .agg cs => (match v with | .agg a => cellsOk a.toList cs | _ => false)
  | x => cellOk v x

/-- A type's zero value, as cells. -/
def zeroOk (v : Option Value) (zs : List V) : Bool :=
  match v with
  | some v => cellsOk v.cells.toList zs
  | none => false

def zeroVOk (v : Option Value) (z : V) : Bool :=
  match v with
  | some v => constOk v z
  | none => false

/-! ### types -/
def isAggT (P : Program) (t : TypeId) : Bool :=
  match P.underlying t with
  | some (.struct _) => true
  | some (.array _ _) => true
  | _ => false

def sizeT (P : Program) (t : TypeId) : Option Nat := (P.info? t).map (·.size)
def bytesT (P : Program) (t : TypeId) : Option Nat := (P.info? t).map (·.bytes)
def zeroT (P : Program) (t : TypeId) : Option Value := (P.info? t).bind (·.zero)

/-- One cell, or so many. -/
def nOk (P : Program) (t : TypeId) (n : Option Nat) : Bool :=
  (P.underlying t).isSome &&
  match n with
  | none => !isAggT P t
  | some m => isAggT P t && sizeT P t == some m

/-- The plain kinds of a struct's cells, field by field. -/
def leavesF (P : Program) (rec : TypeId → Option (List Lf)) : List Field → Nat → Option (List Lf)
  | [], _ => some []
  | f :: fs, off => match f.name != "_" && f.offset == off with
    | false => none
    | true => match rec f.type with
      | none => none
      | some ls => match sizeT P f.type == some ls.length with
        | false => none
        | true => match leavesF P rec fs (off + ls.length) with
          | none => none
          | some l => some (ls ++ l)

/-- The plain kinds of a type's cells. -/
def leavesT (P : Program) : Nat → TypeId → Option (List Lf)
  | 0, _ => none
  | d + 1, t =>
    match P.underlying t with
    | some (.int k) => some [.int k]
    | some .bool => some [.bool]
    | some .string => some [.str]
    | some (.struct fs) => (match P.stoodInHeld t with
      | true => none
      | false => leavesF P (leavesT P d) fs.toList 0)
    | some (.array n e) => (match leavesT P d e with
      | none => none
      | some ls => match sizeT P e == some ls.length with
        | true => some (List.replicate n ls).flatten
        | false => none)
    | _ => none

def lfsOk (P : Program) (t : TypeId) (ls : List Lf) : Bool :=
  leavesT P 20 t == some ls && sizeT P t == some ls.length

/-- A key's. -/
def keyLs (P : Program) (t : TypeId) (ls : List Lf) : Bool :=
  lfsOk P t ls && isAggT P t == !(Nat.beq ls.length 1)

/-- A struct's field lies there. -/
def fieldOk (P : Program) (t : TypeId) (i off : Nat) : Option Field :=
  match P.underlying t with
  | some (.struct fs) => match fs[i]? with
    | some f => if f.offset == off then some f else none
    | none => none
  | _ => none

/-! ### operands and operations -/
def opdOk (d nt : Nat) (x : Operand) (y : Opd) : Bool :=
  match x with
  | .tmp t => (match y with | .t p => p == pth d t && Nat.blt t nt | _ => false)
  | .const v => (match y with | .c z => constOk v z | _ => false)
  | .func f => (match y with | .c (.func g [] []) => f == g | _ => false)
  | .global _ => false

def opdsOk (d nt : Nat) : List Operand → List Opd → Bool
  | [], [] => true
  | x :: xs, y :: ys => opdOk d nt x y && opdsOk d nt xs ys
  | _, _ => false

def optOk (d nt : Nat) (x : Option Operand) (y : Option Opd) : Bool :=
  match x, y with
  | none, none => true
  | some x, some y => opdOk d nt x y
  | _, _ => false

/-- The parts of a struct or an array. -/
def bpartsOk (P : Program) (d nt : Nat) (place : Nat → Option (Nat × Nat)) : List (Nat × Operand) → List (Nat × Nat × Opd) → Bool
  | [], [] => true
  | (i, x) :: xs, (off, size, y) :: ys => place i == some (off, size) && opdOk d nt x y && bpartsOk P d nt place xs ys
  | _, _ => false

def sbpartsOk (d nt : Nat) : List (Nat × Operand) → List (Nat × Opd) → Bool
  | [], [] => true
  | (i, x) :: xs, (j, y) :: ys => i == j && opdOk d nt x y && sbpartsOk d nt xs ys
  | _, _ => false

def placeT (P : Program) (t : TypeId) (i : Nat) : Option (Nat × Nat) :=
  match P.underlying t with
  | some (.struct fs) => (fs[i]?).bind fun f => (sizeT P f.type).map (f.offset, ·)
  | some (.array _ e) => (sizeT P e).map fun s => (i * s, s)
  | _ => none

def sliceElem (P : Program) (t : TypeId) : Option TypeId :=
  match P.underlying t with
  | some (.slice e) => some e
  | _ => none

def mapKE (P : Program) (t : TypeId) : Option (TypeId × TypeId) :=
  match P.underlying t with
  | some (.map k e) => some (k, e)
  | _ => none

def isInt (P : Program) (t : TypeId) : Option IntKind :=
  match P.underlying t with
  | some (.int k) => some k
  | _ => none

def isStr (P : Program) (t : TypeId) : Bool :=
  match P.underlying t with
  | some .string => true
  | _ => false

def isBool (P : Program) (t : TypeId) : Bool :=
  match P.underlying t with
  | some .bool => true
  | _ => false

def isFn (f : Operand) (g : Nat) : Bool :=
  match f with
  | .func h => g == h
  | _ => false

def isFnV (f : Fn) (g : Nat) : Bool :=
  match f with
  | .func h => g == h
  | _ => false

/-- A call of a built-in function: which, its argument types, its arguments. -/
def bltOk (c : Call) (b : Builtin) : Bool :=
  match c.callee with
  | .builtin b' => b == b'
  | _ => false

def ok_mv (d nt : Nat) (op : Op) (y : Opd) : Bool :=
  match op with
  | .move x => opdOk d nt x y
  | _ => false

def ok_asg (d nt : Nat) (op : Op) (y : Opd) : Bool :=
  match op with
  | .assign x => opdOk d nt x y
  | _ => false

def ok_pick (d nt : Nat) (op : Op) (c' a' b' : Opd) : Bool :=
  match op with
  | .pick c a b => opdOk d nt c c' && opdOk d nt a a' && opdOk d nt b b'
  | _ => false

def ok_alloc (P : Program) (op : Op) (zs : List V) : Bool :=
  match op with
  | .alloc t => zeroOk (zeroT P t) zs
  | _ => false

def ok_box (d nt : Nat) (op : Op) (y : Opd) : Bool :=
  match op with
  | .box _ x => opdOk d nt x y
  | _ => false

def sizedF (P : Program) : List Field → Bool
  | [] => true
  | f :: fs => (sizeT P f.type).isSome && sizedF P fs

def placesOk (P : Program) (t : TypeId) : Bool :=
  match P.underlying t with
  | some (.struct fs) => sizedF P fs.toList
  | some (.array _ e) => (sizeT P e).isSome
  | _ => false

def ok_build (P : Program) (d nt : Nat) (op : Op) (zs : List V) (qs : List (Nat × Nat × Opd)) : Bool :=
  match op with
  | .build t ps => zeroOk (zeroT P t) zs && placesOk P t && bpartsOk P d nt (placeT P t) ps.toList qs
  | _ => false

def ok_bslice (P : Program) (d nt : Nat) (op : Op) (es n : Nat) (zs : List V) (qs : List (Nat × Opd)) : Bool :=
  match op with
  | .buildSlice t len ps => (match sliceElem P t with
    | some el => len == n && sizeT P el == some es && zeroOk (zeroT P el) zs && zs.length == es && Nat.blt (len * es) 16777216 && Nat.blt 0 es && sbpartsOk d nt ps.toList qs
    | none => false)
  | _ => false

def ok_ld (P : Program) (d nt : Nat) (op : Op) (n : Option Nat) (y : Opd) : Bool :=
  match op with
  | .load t x => nOk P t n && opdOk d nt x y
  | _ => false

def ok_st (P : Program) (d nt : Nat) (op : Op) (n : Option Nat) (y z : Opd) : Bool :=
  match op with
  | .store t x v => sizeT P t == some (n.getD 1) && opdOk d nt x y && opdOk d nt v z
  | _ => false

def ok_nilck (d nt : Nat) (op : Op) (y : Opd) : Bool :=
  match op with
  | .nilCheck x => opdOk d nt x y
  | _ => false

def ok_bin (d nt : Nat) (op : Op) (b' : BinOp) (x' y' : Opd) : Bool :=
  match op with
  | .binOp b _ x y _ => b == b' && opdOk d nt x x' && opdOk d nt y y'
  | _ => false

def ok_eqb (P : Program) (d nt : Nat) (op : Op) (neg : Bool) (x' y' : Opd) : Bool :=
  match op with
  | .binOp b t x y _ => (b == (if neg then .neq else .eql)) && isBool P t && opdOk d nt x x' && opdOk d nt y y'
  | _ => false

def nkOk (P : Program) (t : TypeId) (kd : Nk) : Bool :=
  match kd with
  | .ptr => (match P.underlying t with
    | some (.pointer _) => true
    | _ => false)
  | .slice => (match P.underlying t with
    | some (.slice _) => true
    | _ => false)
  | .map => (match P.underlying t with
    | some (.map _ _) => true
    | _ => false)
  | .func => (match P.underlying t with
    | some (.func _ _ _) => true
    | _ => false)

def ok_eqn (P : Program) (d nt : Nat) (op : Op) (kd : Nk) (neg : Bool) (x' y' : Opd) : Bool :=
  match op with
  | .binOp b t x y _ => (b == (if neg then .neq else .eql)) && nkOk P t kd && opdOk d nt x x' && opdOk d nt y y'
  | _ => false

def ok_eqa (P : Program) (d nt : Nat) (op : Op) (neg : Bool) (ls : List Lf) (x' y' : Opd) : Bool :=
  match op with
  | .binOp b t x y _ => (b == (if neg then .neq else .eql)) && isAggT P t && !P.eqGuardType P.depth t && lfsOk P t ls && opdOk d nt x x' && opdOk d nt y y'
  | _ => false

def ok_un (d nt : Nat) (op : Op) (u' : UnOp) (x' : Opd) : Bool :=
  match op with
  | .unOp u _ x => u == u' && opdOk d nt x x'
  | _ => false

def ok_cvt (P : Program) (d nt : Nat) (op : Op) (k : IntKind) (x' : Opd) : Bool :=
  match op with
  | .convert src dst x => isInt P dst == some k && (P.underlying src).isSome && opdOk d nt x x'
  | _ => false

def ok_s2b (P : Program) (d nt : Nat) (op : Op) (x' : Opd) : Bool :=
  match op with
  | .convert src dst x => (isStr P src) && (match sliceElem P dst with
    | some el => isInt P el == some .u8 && opdOk d nt x x'
    | none => false)
  | _ => false

def ok_mkfn (d nt : Nat) (op : Op) (g : Nat) (xs' ys' : List Opd) : Bool :=
  match op with
  | .makeFunc f xs ys => isFnV f g && opdsOk d nt xs.toList xs' && opdsOk d nt ys.toList ys'
  | _ => false

def ok_mkmap (op : Op) : Bool :=
  match op with
  | .makeMap _ r => r.isNone
  | _ => false

def ok_mksl (P : Program) (d nt : Nat) (op : Op) (es bytes : Nat) (zs : List V) (l' c' : Opd) : Bool :=
  match op with
  | .makeSlice t l c => (match sliceElem P t with
    | some el => sizeT P el == some es && bytesT P el == some bytes && zeroOk (zeroT P el) zs && zs.length == es && Nat.blt 0 es && opdOk d nt l l' && opdOk d nt c c'
    | none => false)
  | _ => false

def ok_slc (P : Program) (d nt : Nat) (op : Op) (es : Nat) (x' : Opd) (lo' hi' mx' : Option Opd) : Bool :=
  match op with
  | .slice t x lo hi mx => (match sliceElem P t with
    | some el => sizeT P el == some es && opdOk d nt x x' && optOk d nt lo lo' && optOk d nt hi hi' && optOk d nt mx mx' && (mx.isNone || hi.isSome)
    | none => false)
  | _ => false

def ok_slca (P : Program) (d nt : Nat) (op : Op) (n es : Nat) (x' : Opd) (lo' hi' mx' : Option Opd) : Bool :=
  match op with
  | .slice t x lo hi mx => (match P.underlying t with
    | some (.array m el) => n == m && sizeT P el == some es && opdOk d nt x x' && optOk d nt lo lo' && optOk d nt hi hi' && optOk d nt mx mx' && (mx.isNone || hi.isSome)
    | _ => false)
  | _ => false

def ok_fadr (P : Program) (d nt : Nat) (op : Op) (off : Nat) (x' : Opd) : Bool :=
  match op with
  | .fieldAddr t x i => (match fieldOk P t i off with
    | some f => Nat.blt 0 ((sizeT P f.type).getD 0) && opdOk d nt x x'
    | none => false)
  | _ => false

def ok_fld (P : Program) (d nt : Nat) (op : Op) (off : Nat) (n : Option Nat) (x' : Opd) : Bool :=
  match op with
  | .field t x i => (match fieldOk P t i off with
    | some f => nOk P f.type n && opdOk d nt x x'
    | none => false)
  | _ => false

def ok_ixs (P : Program) (d nt : Nat) (op : Op) (es : Nat) (x' i' : Opd) : Bool :=
  match op with
  | .indexAddr t x i => (match sliceElem P t with
    | some el => sizeT P el == some es && opdOk d nt x x' && opdOk d nt i i'
    | none => false)
  | _ => false

def ok_ixa (P : Program) (d nt : Nat) (op : Op) (n es : Nat) (x' i' : Opd) : Bool :=
  match op with
  | .indexAddr t x i => (match P.underlying t with
    | some (.array m el) => n == m && sizeT P el == some es && opdOk d nt x x' && opdOk d nt i i'
    | _ => false)
  | _ => false

def ok_ixv (P : Program) (d nt : Nat) (op : Op) (len es : Nat) (n : Option Nat) (x' i' : Opd) : Bool :=
  match op with
  | .index t x i => (match P.underlying t with
    | some (.array m el) => len == m && sizeT P el == some es && nOk P el n && opdOk d nt x x' && opdOk d nt i i'
    | _ => false)
  | _ => false

def ok_ixstr (P : Program) (d nt : Nat) (op : Op) (x' i' : Opd) : Bool :=
  match op with
  | .index t x i => (isStr P t) && opdOk d nt x x' && opdOk d nt i i'
  | _ => false

def ok_look (P : Program) (d nt : Nat) (op : Op) (ls : List Lf) (zero : V) (x' k' : Opd) (ok' : Bool) : Bool :=
  match op with
  | .lookup t x kx ok => (match mapKE P t with
    | some (k, el) => keyLs P k ls && zeroVOk (zeroT P el) zero && ok == ok' && opdOk d nt x x' && opdOk d nt kx k'
    | none => false)
  | _ => false

def ok_mput (P : Program) (d nt : Nat) (op : Op) (ls : List Lf) (m' k' v' : Opd) : Bool :=
  match op with
  | .mapUpdate t m kx v => (match mapKE P t with
    | some (k, _) => keyLs P k ls && opdOk d nt m m' && opdOk d nt kx k' && opdOk d nt v v'
    | none => false)
  | .insert t m kx v => (match mapKE P t with
    | some (k, _) => keyLs P k ls && opdOk d nt m m' && opdOk d nt kx k' && opdOk d nt v v'
    | none => false)
  | _ => false

def ok_mrange (P : Program) (d nt : Nat) (op : Op) (x' : Opd) : Bool :=
  match op with
  | .range t x => (mapKE P t).isSome && opdOk d nt x x'
  | _ => false

def ok_mnext (d nt : Nat) (op : Op) (x' : Opd) : Bool :=
  match op with
  | .next it isString => !isString && opdOk d nt it x'
  | _ => false

def ok_mcur (d nt : Nat) (op : Op) (x' : Opd) : Bool :=
  match op with
  | .entry it => opdOk d nt it x'
  | _ => false

def ok_ext (d nt : Nat) (op : Op) (x' : Opd) (i' : Nat) : Bool :=
  match op with
  | .extract x i => i == i' && opdOk d nt x x'
  | _ => false

def calleeIs (c : Callee) (g : Nat) : Bool :=
  match c with
  | .value f => isFn f g
  | _ => false

def calleeOpd (d nt : Nat) (c : Callee) (x : Opd) : Bool :=
  match c with
  | .value f => opdOk d nt f x
  | _ => false

def ok_call (d nt : Nat) (op : Op) (g : Nat) (args : List Opd) : Bool :=
  match op with
  | .call c => calleeIs c.callee g && opdsOk d nt c.args.toList args
  | _ => false

def ok_calld (d nt : Nat) (op : Op) (x : Opd) (args : List Opd) : Bool :=
  match op with
  | .call c => calleeOpd d nt c.callee x && opdsOk d nt c.args.toList args
  | _ => false

def zeroSz (P : Program) (t : TypeId) (es : Nat) : Bool :=
  match zeroT P t with
  | some z => z.cells.size == es
  | none => false

def ok_app (P : Program) (d nt : Nat) (op : Op) (es bytes : Nat) (s x : Opd) : Bool :=
  match op with
  | .call c => bltOk c .append && opdsOk d nt c.args.toList [s, x] && (match c.argTypes.toList with
    | [t, u] => (match sliceElem P t with
      | some el => sizeT P el == some es && bytesT P el == some bytes && (P.underlying u).isSome && (isInt P u).isNone && zeroSz P el es && Nat.blt 0 bytes && Nat.blt 0 es
      | none => false)
    | _ => false)
  | _ => false

def ok_appz (P : Program) (d nt : Nat) (op : Op) (es bytes : Nat) (zs : List V) (s x : Opd) : Bool :=
  match op with
  | .call c => bltOk c .append && opdsOk d nt c.args.toList [s, x] && (match c.argTypes.toList with
    | [t, u] => (match sliceElem P t with
      | some el => sizeT P el == some es && bytesT P el == some bytes && (isInt P u).isSome && zeroOk (zeroT P el) zs && zs.length == es && Nat.blt 0 bytes && Nat.ble bytes 262144 && Nat.blt 0 es
      | none => false)
    | _ => false)
  | _ => false

def ok_len (P : Program) (d nt : Nat) (op : Op) (x : Opd) : Bool :=
  match op with
  | .call c => bltOk c .len && opdsOk d nt c.args.toList [x] && (match c.argTypes.toList with
    | [t] => (sliceElem P t).isSome
    | _ => false)
  | _ => false

def ok_slen (P : Program) (d nt : Nat) (op : Op) (x : Opd) : Bool :=
  match op with
  | .call c => bltOk c .len && opdsOk d nt c.args.toList [x] && (match c.argTypes.toList with
    | [t] => isStr P t
    | _ => false)
  | _ => false

def arrLen (P : Program) (t : TypeId) : Option Nat :=
  match P.underlying t with
  | some (.array m _) => some m
  | some (.pointer a) => (match P.underlying a with
    | some (.array m _) => some m
    | _ => none)
  | _ => none

def ok_cap (P : Program) (d nt : Nat) (op : Op) (x : Opd) : Bool :=
  match op with
  | .call c => bltOk c .cap && opdsOk d nt c.args.toList [x] && (match c.argTypes.toList with
    | [t] => (sliceElem P t).isSome
    | _ => false)
  | _ => false

def ok_copy (P : Program) (d nt : Nat) (op : Op) (es : Nat) (dd s : Opd) : Bool :=
  match op with
  | .call c => bltOk c .copy && opdsOk d nt c.args.toList [dd, s] && (match c.argTypes.toList with
    | [t, _] => (match sliceElem P t with
      | some el => sizeT P el == some es
      | none => false)
    | _ => false)
  | _ => false

def ok_clear (P : Program) (d nt : Nat) (op : Op) (zs : List V) (x : Opd) : Bool :=
  match op with
  | .call c => bltOk c .clear && opdsOk d nt c.args.toList [x] && (match c.argTypes.toList with
    | [t] => (match sliceElem P t with
      | some el => zeroOk (zeroT P el) zs && Nat.blt 0 zs.length
      | none => false)
    | _ => false)
  | _ => false

def ok_del (P : Program) (d nt : Nat) (op : Op) (ls : List Lf) (m kx : Opd) : Bool :=
  match op with
  | .call c => bltOk c .delete && opdsOk d nt c.args.toList [m, kx] && (match c.argTypes.toList with
    | t :: _ => (match mapKE P t with
      | some (k, _) => keyLs P k ls
      | none => false)
    | _ => false)
  | _ => false

def ok_min (d nt : Nat) (op : Op) (xs : List Opd) : Bool :=
  match op with
  | .call c => bltOk c .min && opdsOk d nt c.args.toList xs
  | _ => false

def ok_max (d nt : Nat) (op : Op) (xs : List Opd) : Bool :=
  match op with
  | .call c => bltOk c .max && opdsOk d nt c.args.toList xs
  | _ => false

def opOk (P : Program) (d nt : Nat) (op : Op) (type : TypeId) (e : EOp) : Bool :=
  match e with
  | .bad => true
  | .slen x => ok_slen P d nt op x
  | .mv y => ok_mv d nt op y
  | .asg y => ok_asg d nt op y
  | .pick x y z => ok_pick d nt op x y z
  | .alloc zs => ok_alloc P op zs
  | .box y => ok_box d nt op y
  | .build zs qs => ok_build P d nt op zs qs
  | .bslice es n zs qs => ok_bslice P d nt op es n zs qs
  | .ld n y => ok_ld P d nt op n y
  | .st n y z => ok_st P d nt op n y z
  | .nilck y => ok_nilck d nt op y
  | .bin b x y => ok_bin d nt op b x y
  | .eqb neg x y => ok_eqb P d nt op neg x y
  | .eqn kd neg x y => ok_eqn P d nt op kd neg x y
  | .eqa neg ls x y => ok_eqa P d nt op neg ls x y
  | .un u x => ok_un d nt op u x
  | .cvt k x => ok_cvt P d nt op k x
  | .s2b x => ok_s2b P d nt op x
  | .mkfn g xs ys => ok_mkfn d nt op g xs ys
  | .mkmap => ok_mkmap op
  | .mksl es bytes zs l c => ok_mksl P d nt op es bytes zs l c
  | .slc es x lo hi mx => ok_slc P d nt op es x lo hi mx
  | .slcs _ _ _ => false
  | .slca n es x lo hi mx => ok_slca P d nt op n es x lo hi mx
  | .fadr off x => ok_fadr P d nt op off x
  | .fld off n x => ok_fld P d nt op off n x
  | .ixs es x i => ok_ixs P d nt op es x i
  | .ixa n es x i => ok_ixa P d nt op n es x i
  | .ixv len es n x i => ok_ixv P d nt op len es n x i
  | .ixstr x i => ok_ixstr P d nt op x i
  | .look ls zero x kx ok => ok_look P d nt op ls zero x kx ok
  | .mput ls m kx v => ok_mput P d nt op ls m kx v
  | .mentry _ _ _ _ => false
  | .estore _ _ _ => false
  | .mrange x => ok_mrange P d nt op x
  | .mnext x => ok_mnext d nt op x
  | .mcur x => ok_mcur d nt op x
  | .ext x i => ok_ext d nt op x i
  | .call f args => ok_call d nt op f args
  | .calld x args => ok_calld d nt op x args
  | .app es bytes s x => ok_app P d nt op es bytes s x
  | .appz es bytes zs s x => ok_appz P d nt op es bytes zs s x
  | .len x => ok_len P d nt op x
  | .lenm _ => false
  | .lenc _ => false
  | .cap x => ok_cap P d nt op x
  | .copy es dd s => ok_copy P d nt op es dd s
  | .clear zs x => ok_clear P d nt op zs x
  | .del ls m kx => ok_del P d nt op ls m kx
  | .min xs => ok_min d nt op xs
  | .max xs => ok_max d nt op xs

def dstOk (d nt : Nat) (x : Option Tmp) (p : Pth) : Bool :=
  match x with
  | some t => p == pth d t && Nat.blt t nt
  | none => false

/-- The slot of the guarding operation. -/
def grdOk (d nt : Nat) (ops : List Oper) (g : Option (Nat × Bool)) (c : Pth) (b : Bool) : Bool :=
  match g with
  | some (j, w) => (match ops[j]? with
    | some o => dstOk d nt o.dst c && w == b
    | none => false)
  | none => false

def itemOk (P : Program) (d nt : Nat) (ops : List Oper) (o : Oper) (i : EI) : Bool :=
  match i with
  | .u op => o.dst.isNone && o.guard.isNone && opOk P d nt o.op o.type op
  | .s p op => dstOk d nt o.dst p && o.guard.isNone && opOk P d nt o.op o.type op
  | .g c b p op => dstOk d nt o.dst p && grdOk d nt ops o.guard c b && opOk P d nt o.op o.type op
  | .gu c b op => o.dst.isNone && grdOk d nt ops o.guard c b && opOk P d nt o.op o.type op

def itemsOk (P : Program) (d nt : Nat) (ops : List Oper) : List Oper → List EI → Bool
  | [], [] => true
  | o :: os, i :: is => itemOk P d nt ops o i && itemsOk P d nt ops os is
  | _, _ => false

def pathsOk (d nt : Nat) : List Tmp → List Pth → Bool
  | [], [] => true
  | t :: ts, p :: ps => p == pth d t && Nat.blt t nt && pathsOk d nt ts ps
  | _, _ => false

/-! ### a region of open order -/
/-- Where an operation stands in the order. -/
def posIn (i : Nat) : List Nat → Nat → Option Nat
  | [], _ => none
  | j :: l, p => match Nat.beq j i with
    | true => some p
    | false => posIn i l (p + 1)

/-- What is surely behind an operation, by its own edges. -/
def befOf (order bef : List Nat) : List Edge → Option Nat
  | [] => some 0
  | e :: es => match befOf order bef es with
    | none => none
    | some m => match Region.binds .any e with
      | false => some m
      | true => match posIn e.on order 0 with
        | none => none
        | some p => match bef[p]? with
          | none => none
          | some b => some (m ||| (1 <<< p) ||| b)

/-- Each operation, at its place in the order; its mask by its edges. 'done': the masks of those ahead. -/
def drawOk (P : Program) (d nt : Nat) (ops : List Oper) (order : List Nat) : List Nat → List Nat → List EI → List Nat → Bool
  | [], [], [], _ => true
  | j :: js, m :: ms, i :: is, done => (match ops[j]? with
    | none => false
    | some o => itemOk P d nt ops o i && befOf order done o.after.toList == some m && drawOk P d nt ops order js ms is (done ++ [m]))
  | _, _, _, _ => false

def EI.dst : EI → Option Pth
  | .u _ => none
  | .s d _ => some d
  | .g _ _ d _ => some d
  | .gu _ _ _ => none

def EI.op : EI → EOp
  | .u o => o
  | .s _ o => o
  | .g _ _ _ o => o
  | .gu _ _ o => o

def EI.grd : EI → List Pth
  | .g c _ _ _ => [c]
  | .gu c _ _ => [c]
  | _ => []

def opdP : Opd → List Pth
  | .t p => [p]
  | .c _ => []

def optP : Option Opd → List Pth
  | some x => opdP x
  | none => []

/-- The slots that an operation looks at. -/
def EOp.slots (o : EOp) : List Pth :=
  match o with
  | .mv x | .asg x | .box x | .ld _ x | .nilck x | .un _ x | .cvt _ x | .s2b x | .slen x | .fadr _ x | .fld _ _ x | .mrange x | .mnext x | .mcur x | .ext x _ | .len x | .lenm x | .cap x | .clear _ x => opdP x
  | .st _ x y | .bin _ x y | .eqb _ x y | .eqn _ _ x y | .eqa _ _ x y | .mksl _ _ _ x y | .ixs _ x y | .ixa _ _ x y | .ixv _ _ _ x y | .ixstr x y | .look _ _ x y _ | .mentry _ _ x y | .app _ _ x y | .appz _ _ _ x y | .copy _ x y | .del _ x y => opdP x ++ opdP y
  | .pick x y z | .mput _ x y z | .estore x y z => opdP x ++ opdP y ++ opdP z
  | .build _ ps => ps.flatMap fun p => opdP p.2.2
  | .bslice _ _ _ ps => ps.flatMap fun p => opdP p.2
  | .slc _ x lo hi mx | .slca _ _ x lo hi mx => opdP x ++ optP lo ++ optP hi ++ optP mx
  | .slcs x lo hi => opdP x ++ optP lo ++ optP hi
  | .mkfn _ xs ys => xs.flatMap opdP ++ ys.flatMap opdP
  | .call _ xs | .min xs | .max xs => xs.flatMap opdP
  | .calld x xs => opdP x ++ xs.flatMap opdP
  | .alloc _ | .mkmap | .lenc _ | .bad => []

def isSer (o : EOp) : Bool :=
  match clsOf o with
  | .serial => true
  | _ => false

/-- A path's number. -/
def unp : Pth → Nat
  | .e => 0
  | .x0 p => 0 + 16 * unp p
  | .x1 p => 1 + 16 * unp p
  | .x2 p => 2 + 16 * unp p
  | .x3 p => 3 + 16 * unp p
  | .x4 p => 4 + 16 * unp p
  | .x5 p => 5 + 16 * unp p
  | .x6 p => 6 + 16 * unp p
  | .x7 p => 7 + 16 * unp p
  | .x8 p => 8 + 16 * unp p
  | .x9 p => 9 + 16 * unp p
  | .xa p => 10 + 16 * unp p
  | .xb p => 11 + 16 * unp p
  | .xc p => 12 + 16 * unp p
  | .xd p => 13 + 16 * unp p
  | .xe p => 14 + 16 * unp p
  | .xf p => 15 + 16 * unp p

/-- A mask of slots of this depth. -/
def mOk (d : Nat) (ps : List Pth) : Bool := ps.all fun p => p == pth d (unp p) && Nat.blt (unp p) (16 ^ d)

/-- A slot that a light operation writes is written once, and whoever looks at it is behind it; beside one that a serial operation writes nobody looks at it or writes it. What follows an operation that may turn memory is behind it. -/
def pairOk (bef : List Nat) (x : EI) (j : Nat) (y : EI) (i : Nat) : Bool :=
  (match x.dst with
    | none => true
    | some p =>
      (match isSer x.op with
       | false => (match Nat.beq i j with
         | true => !(y.grd.contains p || y.op.slots.contains p)
         | false => !(y.dst == some p) && (!(y.grd.contains p || y.op.slots.contains p) || tb (bef.getD i 0) j))
       | true => Nat.beq i j || !(y.dst == some p || y.grd.contains p || y.op.slots.contains p) || tb (bef.getD i 0) j || tb (bef.getD j 0) i)) &&
    (!isSer x.op || Nat.ble i j || tb (bef.getD i 0) j)

def slotsOk (d : Nat) (bef : List Nat) (is : List EI) : Bool :=
  is.zipIdx.all fun x => mOk d (x.1.grd ++ x.1.op.slots) && is.zipIdx.all fun y => pairOk bef x.1 x.2 y.1 y.2

def orderOk (n : Nat) (order : List Nat) : Bool := order.length == n && (List.range n).all fun j => (posIn j order 0).isSome && (match order[j]? with
  | some i => Nat.blt i n && posIn i order 0 == some j
  | none => false)

/-- No range over a function in it. -/
def noRf : EC → Bool
  | .rfunc _ _ _ _ => false
  | .seq a b => noRf a && noRf b
  | .cond _ a b => noRf a && noRf b
  | .blk _ _ b => noRf b
  | .loop _ b => noRf b
  | _ => true

def codeOk (P : Program) (d nt : Nat) : Code → EC → Bool
  | .skip, .skip => true
  | .label _, .skip => true
  | .region _ ops draw, .ops l => !draw && itemsOk P d nt ops.toList ops.toList l
  | .region _ ops draw, .draw order bef l => draw && orderOk ops.size order && drawOk P d nt ops.toList order order bef l [] && slotsOk d bef l
  | .seq a b, .seq x y => codeOk P d nt a x && codeOk P d nt b y
  | .cond c a b, .cond c' x y => opdOk d nt c c' && codeOk P d nt a x && codeOk P d nt b y
  | .block id b, .blk id' m x => id == id' && mOk d m && codeOk P d nt b x
  | .loop b, .loop m x => mOk d m && codeOk P d nt b x
  | .rangeFunc f ps asg b, .rfunc f' ps' x y => opdOk d nt f f' && pathsOk d nt ps.toList ps' && noRf x && noRf y && codeOk P d nt asg x && codeOk P d nt b y
  | .exit id, .exit id' => id == id'
  | .ret, .ret => true
  | .scope b, x => codeOk P d nt b x
  | _, _ => false

def resOk (P : Program) (d nt : Nat) : List ResultVar → List ERes → Bool
  | [], [] => true
  | .tmp t :: rs, .t p :: es => p == pth d t && Nat.blt t nt && resOk P d nt rs es
  | .cell t ty :: rs, .cell p n :: es => p == pth d t && Nat.blt t nt && nOk P ty n && resOk P d nt rs es
  | _, _ => false

def fnOk (P : Program) (fn : Func) (e : EF) : Bool :=
  match fn.body with
  | some c => codeOk P e.depth fn.ntmps c e.body && resOk P e.depth fn.ntmps fn.results.toList e.results && Nat.ble e.nargs fn.ntmps && Nat.ble fn.ntmps (16 ^ e.depth) && Nat.blt 0 e.depth &&
      !(fn.name == "runtime.NumGoroutine")
  | none => false

end Go.Proofs.Ytnmkbnejapdnnaa.Ev
