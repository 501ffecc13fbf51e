/-
  The code of the functions, as printed by wip/tools/gen.py out of Lean's own print of the loaded functions; EvOk proves that it is theirs.
-/
import Derived.Test.YtnmkbnejapdnnaaEvCodeA
set_option maxRecDepth 100000
namespace Go.Proofs.Ytnmkbnejapdnnaa.Ev
open Go

/-- function 45, loop 1: live [0, 1, 5, 6] -/
def M45_1 : List Pth := [(.x0 (.x0 .e)), (.x1 (.x0 .e)), (.x5 (.x0 .e)), (.x6 (.x0 .e))]
def L45_1 : EC :=
  (.seq (.seq (.ops [.s (.xd (.x1 .e)) (.mv (.t (.x6 (.x0 .e)))),
    .s (.xe (.x1 .e)) (.mv (.t (.x0 (.x0 .e)))),
    .s (.xf (.x1 .e)) (.mv (.t (.x5 (.x0 .e)))),
    .s (.x0 (.x2 .e)) (.ixs 1 (.t (.xe (.x1 .e))) (.t (.xf (.x1 .e)))),
    .s (.x1 (.x2 .e)) (.ld none (.t (.x0 (.x2 .e)))),
    .s (.x2 (.x2 .e)) (.len (.t (.x1 (.x2 .e)))),
    .s (.x3 (.x2 .e)) (.bin .lss (.t (.xd (.x1 .e))) (.t (.x2 (.x2 .e))))])
  (.cond (.t (.x3 (.x2 .e)))
  .skip
  (.exit 2)))
  (.seq (.blk 3 [(.x0 (.x0 .e)), (.x1 (.x0 .e)), (.x5 (.x0 .e)), (.x6 (.x0 .e))]
  (.seq (.draw [0, 1, 2, 3, 4, 5, 6, 7, 8, 9, 10, 11, 12, 13, 14] [0, 0, 3, 7, 0, 31, 63, 0, 0, 384, 896, 0, 3968, 8064, 16383] [.s (.x6 (.x2 .e)) (.mv (.t (.x0 (.x0 .e)))),
    .s (.x7 (.x2 .e)) (.mv (.t (.x5 (.x0 .e)))),
    .s (.x8 (.x2 .e)) (.ixs 1 (.t (.x6 (.x2 .e))) (.t (.x7 (.x2 .e)))),
    .s (.x9 (.x2 .e)) (.ld none (.t (.x8 (.x2 .e)))),
    .s (.xa (.x2 .e)) (.mv (.t (.x6 (.x0 .e)))),
    .s (.xb (.x2 .e)) (.ixs 1 (.t (.x9 (.x2 .e))) (.t (.xa (.x2 .e)))),
    .s (.xc (.x2 .e)) (.ld none (.t (.xb (.x2 .e)))),
    .s (.xd (.x2 .e)) (.mv (.t (.x1 (.x0 .e)))),
    .s (.xe (.x2 .e)) (.mv (.t (.x5 (.x0 .e)))),
    .s (.xf (.x2 .e)) (.ixs 1 (.t (.xd (.x2 .e))) (.t (.xe (.x2 .e)))),
    .s (.x0 (.x3 .e)) (.ld none (.t (.xf (.x2 .e)))),
    .s (.x1 (.x3 .e)) (.mv (.t (.x6 (.x0 .e)))),
    .s (.x2 (.x3 .e)) (.ixs 1 (.t (.x0 (.x3 .e))) (.t (.x1 (.x3 .e)))),
    .s (.x3 (.x3 .e)) (.ld none (.t (.x2 (.x3 .e)))),
    .s (.x4 (.x3 .e)) (.bin .neq (.t (.xc (.x2 .e))) (.t (.x3 (.x3 .e))))])
  (.cond (.t (.x4 (.x3 .e)))
  (.seq (.ops [.s (.x4 (.x0 .e)) (.asg (.c (V.bool false)))])
  .ret)
  .skip)))
  (.ops [.s (.x4 (.x2 .e)) (.mv (.t (.x6 (.x0 .e)))),
    .s (.x5 (.x2 .e)) (.bin .add (.t (.x4 (.x2 .e))) (.c (V.int .i64 1))),
    .s (.x6 (.x0 .e)) (.asg (.t (.x5 (.x2 .e))))])))
/-- function 45, loop 0: live [0, 1, 5] -/
def M45_0 : List Pth := [(.x0 (.x0 .e)), (.x1 (.x0 .e)), (.x5 (.x0 .e))]
def L45_0 : EC :=
  (.seq (.seq (.ops [.s (.xc (.x0 .e)) (.mv (.t (.x5 (.x0 .e)))),
    .s (.xd (.x0 .e)) (.mv (.t (.x0 (.x0 .e)))),
    .s (.xe (.x0 .e)) (.len (.t (.xd (.x0 .e)))),
    .s (.xf (.x0 .e)) (.bin .lss (.t (.xc (.x0 .e))) (.t (.xe (.x0 .e))))])
  (.cond (.t (.xf (.x0 .e)))
  .skip
  (.exit 0)))
  (.seq (.blk 1 [(.x0 (.x0 .e)), (.x1 (.x0 .e)), (.x5 (.x0 .e))]
  (.seq (.seq (.draw [0, 1, 2, 3, 4, 5, 6, 7, 8, 9, 10] [0, 0, 3, 7, 15, 0, 0, 96, 224, 480, 1023] [.s (.x2 (.x1 .e)) (.mv (.t (.x0 (.x0 .e)))),
    .s (.x3 (.x1 .e)) (.mv (.t (.x5 (.x0 .e)))),
    .s (.x4 (.x1 .e)) (.ixs 1 (.t (.x2 (.x1 .e))) (.t (.x3 (.x1 .e)))),
    .s (.x5 (.x1 .e)) (.ld none (.t (.x4 (.x1 .e)))),
    .s (.x6 (.x1 .e)) (.len (.t (.x5 (.x1 .e)))),
    .s (.x7 (.x1 .e)) (.mv (.t (.x1 (.x0 .e)))),
    .s (.x8 (.x1 .e)) (.mv (.t (.x5 (.x0 .e)))),
    .s (.x9 (.x1 .e)) (.ixs 1 (.t (.x7 (.x1 .e))) (.t (.x8 (.x1 .e)))),
    .s (.xa (.x1 .e)) (.ld none (.t (.x9 (.x1 .e)))),
    .s (.xb (.x1 .e)) (.len (.t (.xa (.x1 .e)))),
    .s (.xc (.x1 .e)) (.bin .neq (.t (.x6 (.x1 .e))) (.t (.xb (.x1 .e))))])
  (.cond (.t (.xc (.x1 .e)))
  (.seq (.ops [.s (.x4 (.x0 .e)) (.asg (.c (V.bool false)))])
  .ret)
  .skip))
  (.seq (.ops [.s (.x6 (.x0 .e)) (.asg (.c (V.int .i64 0)))])
  (.blk 2 [(.x0 (.x0 .e)), (.x1 (.x0 .e)), (.x5 (.x0 .e))]
  (.loop M45_1 L45_1)))))
  (.ops [.s (.x0 (.x1 .e)) (.mv (.t (.x5 (.x0 .e)))),
    .s (.x1 (.x1 .e)) (.bin .add (.t (.x0 (.x1 .e))) (.c (V.int .i64 1))),
    .s (.x5 (.x0 .e)) (.asg (.t (.x1 (.x1 .e))))])))
/-- forecourt/forecourtlaw09.same -/
def b45 : EC :=
  (.seq (.ops [.s (.x4 (.x0 .e)) (.asg (.c (V.bool false)))])
  (.seq (.seq (.ops [.s (.x7 (.x0 .e)) (.mv (.t (.x0 (.x0 .e)))),
    .s (.x8 (.x0 .e)) (.len (.t (.x7 (.x0 .e)))),
    .s (.x9 (.x0 .e)) (.mv (.t (.x1 (.x0 .e)))),
    .s (.xa (.x0 .e)) (.len (.t (.x9 (.x0 .e)))),
    .s (.xb (.x0 .e)) (.bin .neq (.t (.x8 (.x0 .e))) (.t (.xa (.x0 .e))))])
  (.cond (.t (.xb (.x0 .e)))
  (.seq (.ops [.s (.x4 (.x0 .e)) (.asg (.c (V.bool false)))])
  .ret)
  .skip))
  (.seq (.seq (.ops [.s (.x5 (.x0 .e)) (.asg (.c (V.int .i64 0)))])
  (.blk 0 []
  (.loop M45_0 L45_0)))
  (.seq (.ops [.s (.x4 (.x0 .e)) (.asg (.c (V.bool true)))])
  .ret))))
def e45 : EF := { depth := 2, nargs := 2, results := [.t (.x4 (.x0 .e))], body := b45 }

/-- function 46, loop 0: live [1, 2, 5] -/
def M46_0 : List Pth := [(.x1 (.x0 .e)), (.x2 (.x0 .e)), (.x5 (.x0 .e))]
def L46_0 : EC :=
  (.seq (.seq (.ops [.s (.xa (.x1 .e)) (.mv (.t (.x5 (.x0 .e)))),
    .s (.xb (.x1 .e)) (.mv (.t (.x1 (.x0 .e)))),
    .s (.xc (.x1 .e)) (.len (.t (.xb (.x1 .e)))),
    .s (.xd (.x1 .e)) (.bin .lss (.t (.xa (.x1 .e))) (.t (.xc (.x1 .e))))])
  (.cond (.t (.xd (.x1 .e)))
  .skip
  (.exit 0)))
  (.seq (.blk 1 [(.x1 (.x0 .e)), (.x2 (.x0 .e)), (.x5 (.x0 .e))]
  (.seq (.draw [0, 1, 2, 3, 4, 5, 6, 7, 8, 9, 10, 11, 12, 13, 14, 15] [0, 0, 3, 7, 15, 31, 63, 127, 127, 511, 1023, 2047, 127, 4223, 16383, 32767] [.s (.x0 (.x2 .e)) (.mv (.t (.x1 (.x0 .e)))),
    .s (.x1 (.x2 .e)) (.mv (.t (.x5 (.x0 .e)))),
    .s (.x2 (.x2 .e)) (.ixs 2 (.t (.x0 (.x2 .e))) (.t (.x1 (.x2 .e)))),
    .s (.x3 (.x2 .e)) (.fadr 0 (.t (.x2 (.x2 .e)))),
    .s (.x4 (.x2 .e)) (.ld none (.t (.x3 (.x2 .e)))),
    .s (.x5 (.x2 .e)) (.bin .lss (.t (.x4 (.x2 .e))) (.c (V.int .i64 1))),
    .s (.x6 (.x2 .e)) (.mv (.t (.x5 (.x2 .e)))),
    .g (.x6 (.x2 .e)) false (.x7 (.x2 .e)) (.mv (.t (.x1 (.x0 .e)))),
    .g (.x6 (.x2 .e)) false (.x8 (.x2 .e)) (.mv (.t (.x5 (.x0 .e)))),
    .g (.x6 (.x2 .e)) false (.x9 (.x2 .e)) (.ixs 2 (.t (.x7 (.x2 .e))) (.t (.x8 (.x2 .e)))),
    .g (.x6 (.x2 .e)) false (.xa (.x2 .e)) (.fadr 0 (.t (.x9 (.x2 .e)))),
    .g (.x6 (.x2 .e)) false (.xb (.x2 .e)) (.ld none (.t (.xa (.x2 .e)))),
    .g (.x6 (.x2 .e)) false (.xc (.x2 .e)) (.fadr 0 (.t (.x2 (.x0 .e)))),
    .g (.x6 (.x2 .e)) false (.xd (.x2 .e)) (.ld none (.t (.xc (.x2 .e)))),
    .g (.x6 (.x2 .e)) false (.xe (.x2 .e)) (.bin .gtr (.t (.xb (.x2 .e))) (.t (.xd (.x2 .e)))),
    .s (.xf (.x2 .e)) (.pick (.t (.x6 (.x2 .e))) (.c (V.bool true)) (.t (.xe (.x2 .e))))])
  (.cond (.t (.xf (.x2 .e)))
  (.seq (.ops [.s (.x4 (.x0 .e)) (.asg (.c (V.int .i64 3)))])
  .ret)
  .skip)))
  (.ops [.s (.xe (.x1 .e)) (.mv (.t (.x5 (.x0 .e)))),
    .s (.xf (.x1 .e)) (.bin .add (.t (.xe (.x1 .e))) (.c (V.int .i64 1))),
    .s (.x5 (.x0 .e)) (.asg (.t (.xf (.x1 .e))))])))
/-- function 46, loop 1: live [1, 2, 6] -/
def M46_1 : List Pth := [(.x1 (.x0 .e)), (.x2 (.x0 .e)), (.x6 (.x0 .e))]
def L46_1 : EC :=
  (.seq (.seq (.ops [.s (.x0 (.x3 .e)) (.mv (.t (.x6 (.x0 .e)))),
    .s (.x1 (.x3 .e)) (.mv (.t (.x1 (.x0 .e)))),
    .s (.x2 (.x3 .e)) (.len (.t (.x1 (.x3 .e)))),
    .s (.x3 (.x3 .e)) (.bin .lss (.t (.x0 (.x3 .e))) (.t (.x2 (.x3 .e))))])
  (.cond (.t (.x3 (.x3 .e)))
  .skip
  (.exit 2)))
  (.seq (.blk 3 [(.x1 (.x0 .e)), (.x2 (.x0 .e)), (.x6 (.x0 .e))]
  (.seq (.draw [0, 1, 2, 3, 4, 5, 6, 7] [0, 0, 0, 6, 14, 30, 63, 127] [.s (.x6 (.x3 .e)) (.ld (some 2) (.t (.x2 (.x0 .e)))),
    .s (.x7 (.x3 .e)) (.mv (.t (.x1 (.x0 .e)))),
    .s (.x8 (.x3 .e)) (.mv (.t (.x6 (.x0 .e)))),
    .s (.x9 (.x3 .e)) (.ixs 2 (.t (.x7 (.x3 .e))) (.t (.x8 (.x3 .e)))),
    .s (.xa (.x3 .e)) (.fadr 1 (.t (.x9 (.x3 .e)))),
    .s (.xb (.x3 .e)) (.ld none (.t (.xa (.x3 .e)))),
    .s (.xc (.x3 .e)) (.call 28 [(.t (.x6 (.x3 .e))), (.t (.xb (.x3 .e)))]),
    .s (.xd (.x3 .e)) (.bin .neq (.t (.xc (.x3 .e))) (.c (V.int .i64 0)))])
  (.cond (.t (.xd (.x3 .e)))
  (.seq (.draw [0, 1, 2, 3, 4, 5, 6, 7] [0, 0, 0, 6, 14, 30, 63, 127] [.s (.xe (.x3 .e)) (.ld (some 2) (.t (.x2 (.x0 .e)))),
    .s (.xf (.x3 .e)) (.mv (.t (.x1 (.x0 .e)))),
    .s (.x0 (.x4 .e)) (.mv (.t (.x6 (.x0 .e)))),
    .s (.x1 (.x4 .e)) (.ixs 2 (.t (.xf (.x3 .e))) (.t (.x0 (.x4 .e)))),
    .s (.x2 (.x4 .e)) (.fadr 1 (.t (.x1 (.x4 .e)))),
    .s (.x3 (.x4 .e)) (.ld none (.t (.x2 (.x4 .e)))),
    .s (.x4 (.x4 .e)) (.call 28 [(.t (.xe (.x3 .e))), (.t (.x3 (.x4 .e)))]),
    .s (.x4 (.x0 .e)) (.asg (.t (.x4 (.x4 .e))))])
  .ret)
  .skip)))
  (.ops [.s (.x4 (.x3 .e)) (.mv (.t (.x6 (.x0 .e)))),
    .s (.x5 (.x3 .e)) (.bin .add (.t (.x4 (.x3 .e))) (.c (V.int .i64 1))),
    .s (.x6 (.x0 .e)) (.asg (.t (.x5 (.x3 .e))))])))
/-- function 46, loop 2: live [1, 2, 7, 8] -/
def M46_2 : List Pth := [(.x1 (.x0 .e)), (.x2 (.x0 .e)), (.x7 (.x0 .e)), (.x8 (.x0 .e))]
def L46_2 : EC :=
  (.seq (.seq (.ops [.s (.x5 (.x4 .e)) (.mv (.t (.x8 (.x0 .e)))),
    .s (.x6 (.x4 .e)) (.mv (.t (.x1 (.x0 .e)))),
    .s (.x7 (.x4 .e)) (.len (.t (.x6 (.x4 .e)))),
    .s (.x8 (.x4 .e)) (.bin .lss (.t (.x5 (.x4 .e))) (.t (.x7 (.x4 .e))))])
  (.cond (.t (.x8 (.x4 .e)))
  .skip
  (.exit 4)))
  (.seq (.blk 5 [(.x1 (.x0 .e)), (.x2 (.x0 .e)), (.x7 (.x0 .e)), (.x8 (.x0 .e))]
  (.ops [.s (.xb (.x4 .e)) (.mv (.t (.x7 (.x0 .e)))),
    .s (.xc (.x4 .e)) (.mv (.t (.x1 (.x0 .e)))),
    .s (.xd (.x4 .e)) (.mv (.t (.x8 (.x0 .e)))),
    .s (.xe (.x4 .e)) (.ixs 2 (.t (.xc (.x4 .e))) (.t (.xd (.x4 .e)))),
    .s (.xf (.x4 .e)) (.fadr 0 (.t (.xe (.x4 .e)))),
    .s (.x0 (.x5 .e)) (.ld none (.t (.xf (.x4 .e)))),
    .s (.x1 (.x5 .e)) (.bin .add (.t (.xb (.x4 .e))) (.t (.x0 (.x5 .e)))),
    .s (.x7 (.x0 .e)) (.asg (.t (.x1 (.x5 .e))))]))
  (.ops [.s (.x9 (.x4 .e)) (.mv (.t (.x8 (.x0 .e)))),
    .s (.xa (.x4 .e)) (.bin .add (.t (.x9 (.x4 .e))) (.c (V.int .i64 1))),
    .s (.x8 (.x0 .e)) (.asg (.t (.xa (.x4 .e))))])))
/-- function 46, loop 5: live [1, 2, 9, 10, 11, 12] -/
def M46_5 : List Pth := [(.x1 (.x0 .e)), (.x2 (.x0 .e)), (.x9 (.x0 .e)), (.xa (.x0 .e)), (.xb (.x0 .e)), (.xc (.x0 .e))]
def L46_5 : EC :=
  (.seq (.seq (.ops [.s (.x7 (.x6 .e)) (.mv (.t (.xc (.x0 .e)))),
    .s (.x8 (.x6 .e)) (.mv (.t (.x1 (.x0 .e)))),
    .s (.x9 (.x6 .e)) (.len (.t (.x8 (.x6 .e)))),
    .s (.xa (.x6 .e)) (.bin .lss (.t (.x7 (.x6 .e))) (.t (.x9 (.x6 .e))))])
  (.cond (.t (.xa (.x6 .e)))
  .skip
  (.exit 10)))
  (.seq (.blk 11 [(.x1 (.x0 .e)), (.x2 (.x0 .e)), (.x9 (.x0 .e)), (.xa (.x0 .e)), (.xb (.x0 .e)), (.xc (.x0 .e))]
  (.draw [0, 1, 2, 3, 4, 5, 6, 7, 8, 9, 10, 11, 12, 13, 14, 15, 16, 17, 18, 19] [0, 0, 0, 6, 14, 30, 0, 0, 192, 448, 960, 0, 4032, 8128, 0, 32704, 65472, 131070, 262143, 524287] [.s (.xd (.x6 .e)) (.mv (.t (.xb (.x0 .e)))),
    .s (.xe (.x6 .e)) (.mv (.t (.x1 (.x0 .e)))),
    .s (.xf (.x6 .e)) (.mv (.t (.xc (.x0 .e)))),
    .s (.x0 (.x7 .e)) (.ixs 2 (.t (.xe (.x6 .e))) (.t (.xf (.x6 .e)))),
    .s (.x1 (.x7 .e)) (.fadr 0 (.t (.x0 (.x7 .e)))),
    .s (.x2 (.x7 .e)) (.ld none (.t (.x1 (.x7 .e)))),
    .s (.x3 (.x7 .e)) (.mv (.t (.x1 (.x0 .e)))),
    .s (.x4 (.x7 .e)) (.mv (.t (.xc (.x0 .e)))),
    .s (.x5 (.x7 .e)) (.ixs 2 (.t (.x3 (.x7 .e))) (.t (.x4 (.x7 .e)))),
    .s (.x6 (.x7 .e)) (.fadr 1 (.t (.x5 (.x7 .e)))),
    .s (.x7 (.x7 .e)) (.ld none (.t (.x6 (.x7 .e)))),
    .s (.x8 (.x7 .e)) (.mv (.t (.x9 (.x0 .e)))),
    .s (.x9 (.x7 .e)) (.ixs 1 (.t (.x7 (.x7 .e))) (.t (.x8 (.x7 .e)))),
    .s (.xa (.x7 .e)) (.ld none (.t (.x9 (.x7 .e)))),
    .s (.xb (.x7 .e)) (.mv (.t (.xa (.x0 .e)))),
    .s (.xc (.x7 .e)) (.ixs 1 (.t (.xa (.x7 .e))) (.t (.xb (.x7 .e)))),
    .s (.xd (.x7 .e)) (.ld none (.t (.xc (.x7 .e)))),
    .s (.xe (.x7 .e)) (.bin .mul (.t (.x2 (.x7 .e))) (.t (.xd (.x7 .e)))),
    .s (.xf (.x7 .e)) (.bin .add (.t (.xd (.x6 .e))) (.t (.xe (.x7 .e)))),
    .s (.xb (.x0 .e)) (.asg (.t (.xf (.x7 .e))))]))
  (.ops [.s (.xb (.x6 .e)) (.mv (.t (.xc (.x0 .e)))),
    .s (.xc (.x6 .e)) (.bin .add (.t (.xb (.x6 .e))) (.c (V.int .i64 1))),
    .s (.xc (.x0 .e)) (.asg (.t (.xc (.x6 .e))))])))
/-- function 46, loop 4: live [1, 2, 9, 10] -/
def M46_4 : List Pth := [(.x1 (.x0 .e)), (.x2 (.x0 .e)), (.x9 (.x0 .e)), (.xa (.x0 .e))]
def L46_4 : EC :=
  (.seq (.seq (.ops [.s (.xd (.x5 .e)) (.mv (.t (.xa (.x0 .e)))),
    .s (.xe (.x5 .e)) (.fadr 1 (.t (.x2 (.x0 .e)))),
    .s (.xf (.x5 .e)) (.ld none (.t (.xe (.x5 .e)))),
    .s (.x0 (.x6 .e)) (.mv (.t (.x9 (.x0 .e)))),
    .s (.x1 (.x6 .e)) (.ixs 1 (.t (.xf (.x5 .e))) (.t (.x0 (.x6 .e)))),
    .s (.x2 (.x6 .e)) (.ld none (.t (.x1 (.x6 .e)))),
    .s (.x3 (.x6 .e)) (.len (.t (.x2 (.x6 .e)))),
    .s (.x4 (.x6 .e)) (.bin .lss (.t (.xd (.x5 .e))) (.t (.x3 (.x6 .e))))])
  (.cond (.t (.x4 (.x6 .e)))
  .skip
  (.exit 8)))
  (.seq (.blk 9 [(.x1 (.x0 .e)), (.x2 (.x0 .e)), (.x9 (.x0 .e)), (.xa (.x0 .e))]
  (.seq (.ops [.s (.xb (.x0 .e)) (.asg (.c (V.int .i64 0)))])
  (.seq (.seq (.ops [.s (.xc (.x0 .e)) (.asg (.c (V.int .i64 0)))])
  (.blk 10 [(.x1 (.x0 .e)), (.x2 (.x0 .e)), (.x9 (.x0 .e)), (.xa (.x0 .e)), (.xb (.x0 .e))]
  (.loop M46_5 L46_5)))
  (.seq (.ops [.s (.x0 (.x8 .e)) (.mv (.t (.xb (.x0 .e)))),
    .s (.x1 (.x8 .e)) (.fadr 1 (.t (.x2 (.x0 .e)))),
    .s (.x2 (.x8 .e)) (.ld none (.t (.x1 (.x8 .e)))),
    .s (.x3 (.x8 .e)) (.mv (.t (.x9 (.x0 .e)))),
    .s (.x4 (.x8 .e)) (.ixs 1 (.t (.x2 (.x8 .e))) (.t (.x3 (.x8 .e)))),
    .s (.x5 (.x8 .e)) (.ld none (.t (.x4 (.x8 .e)))),
    .s (.x6 (.x8 .e)) (.mv (.t (.xa (.x0 .e)))),
    .s (.x7 (.x8 .e)) (.ixs 1 (.t (.x5 (.x8 .e))) (.t (.x6 (.x8 .e)))),
    .s (.x8 (.x8 .e)) (.ld none (.t (.x7 (.x8 .e)))),
    .s (.x9 (.x8 .e)) (.bin .neq (.t (.x0 (.x8 .e))) (.t (.x8 (.x8 .e))))])
  (.cond (.t (.x9 (.x8 .e)))
  (.seq (.ops [.s (.x4 (.x0 .e)) (.asg (.c (V.int .i64 14)))])
  .ret)
  .skip)))))
  (.ops [.s (.x5 (.x6 .e)) (.mv (.t (.xa (.x0 .e)))),
    .s (.x6 (.x6 .e)) (.bin .add (.t (.x5 (.x6 .e))) (.c (V.int .i64 1))),
    .s (.xa (.x0 .e)) (.asg (.t (.x6 (.x6 .e))))])))
/-- function 46, loop 3: live [1, 2, 9] -/
def M46_3 : List Pth := [(.x1 (.x0 .e)), (.x2 (.x0 .e)), (.x9 (.x0 .e))]
def L46_3 : EC :=
  (.seq (.seq (.ops [.s (.x6 (.x5 .e)) (.mv (.t (.x9 (.x0 .e)))),
    .s (.x7 (.x5 .e)) (.fadr 1 (.t (.x2 (.x0 .e)))),
    .s (.x8 (.x5 .e)) (.ld none (.t (.x7 (.x5 .e)))),
    .s (.x9 (.x5 .e)) (.len (.t (.x8 (.x5 .e)))),
    .s (.xa (.x5 .e)) (.bin .lss (.t (.x6 (.x5 .e))) (.t (.x9 (.x5 .e))))])
  (.cond (.t (.xa (.x5 .e)))
  .skip
  (.exit 6)))
  (.seq (.blk 7 [(.x1 (.x0 .e)), (.x2 (.x0 .e)), (.x9 (.x0 .e))]
  (.seq (.ops [.s (.xa (.x0 .e)) (.asg (.c (V.int .i64 0)))])
  (.blk 8 [(.x1 (.x0 .e)), (.x2 (.x0 .e)), (.x9 (.x0 .e))]
  (.loop M46_4 L46_4))))
  (.ops [.s (.xb (.x5 .e)) (.mv (.t (.x9 (.x0 .e)))),
    .s (.xc (.x5 .e)) (.bin .add (.t (.xb (.x5 .e))) (.c (V.int .i64 1))),
    .s (.x9 (.x0 .e)) (.asg (.t (.xc (.x5 .e))))])))
/-- forecourt/forecourtref09.CheckMix -/
def b46 : EC :=
  (.seq (.ops [.s (.x2 (.x0 .e)) (.box (.t (.x0 (.x0 .e)))),
    .s (.x4 (.x0 .e)) (.asg (.c (V.int .i64 0)))])
  (.seq (.seq (.ops [.s (.xd (.x0 .e)) (.ld (some 2) (.t (.x2 (.x0 .e)))),
    .s (.xe (.x0 .e)) (.call 26 [(.t (.xd (.x0 .e)))]),
    .s (.xf (.x0 .e)) (.bin .neq (.t (.xe (.x0 .e))) (.c (V.int .i64 0)))])
  (.cond (.t (.xf (.x0 .e)))
  (.seq (.ops [.s (.x0 (.x1 .e)) (.ld (some 2) (.t (.x2 (.x0 .e)))),
    .s (.x1 (.x1 .e)) (.call 26 [(.t (.x0 (.x1 .e)))]),
    .s (.x4 (.x0 .e)) (.asg (.t (.x1 (.x1 .e))))])
  .ret)
  .skip))
  (.seq (.seq (.ops [.s (.x2 (.x1 .e)) (.mv (.t (.x1 (.x0 .e)))),
    .s (.x3 (.x1 .e)) (.len (.t (.x2 (.x1 .e)))),
    .s (.x4 (.x1 .e)) (.bin .lss (.t (.x3 (.x1 .e))) (.c (V.int .i64 1))),
    .s (.x5 (.x1 .e)) (.mv (.t (.x4 (.x1 .e)))),
    .g (.x5 (.x1 .e)) false (.x6 (.x1 .e)) (.mv (.t (.x1 (.x0 .e)))),
    .g (.x5 (.x1 .e)) false (.x7 (.x1 .e)) (.len (.t (.x6 (.x1 .e)))),
    .g (.x5 (.x1 .e)) false (.x8 (.x1 .e)) (.bin .gtr (.t (.x7 (.x1 .e))) (.c (V.int .i64 60))),
    .s (.x9 (.x1 .e)) (.pick (.t (.x5 (.x1 .e))) (.c (V.bool true)) (.t (.x8 (.x1 .e))))])
  (.cond (.t (.x9 (.x1 .e)))
  (.seq (.ops [.s (.x4 (.x0 .e)) (.asg (.c (V.int .i64 6)))])
  .ret)
  .skip))
  (.seq (.seq (.ops [.s (.x5 (.x0 .e)) (.asg (.c (V.int .i64 0)))])
  (.blk 0 [(.x1 (.x0 .e)), (.x2 (.x0 .e))]
  (.loop M46_0 L46_0)))
  (.seq (.seq (.ops [.s (.x6 (.x0 .e)) (.asg (.c (V.int .i64 0)))])
  (.blk 2 [(.x1 (.x0 .e)), (.x2 (.x0 .e))]
  (.loop M46_1 L46_1)))
  (.seq (.ops [.s (.x7 (.x0 .e)) (.asg (.c (V.int .i64 0)))])
  (.seq (.seq (.ops [.s (.x8 (.x0 .e)) (.asg (.c (V.int .i64 0)))])
  (.blk 4 [(.x1 (.x0 .e)), (.x2 (.x0 .e)), (.x7 (.x0 .e))]
  (.loop M46_2 L46_2)))
  (.seq (.seq (.ops [.s (.x2 (.x5 .e)) (.mv (.t (.x7 (.x0 .e)))),
    .s (.x3 (.x5 .e)) (.fadr 0 (.t (.x2 (.x0 .e)))),
    .s (.x4 (.x5 .e)) (.ld none (.t (.x3 (.x5 .e)))),
    .s (.x5 (.x5 .e)) (.bin .neq (.t (.x2 (.x5 .e))) (.t (.x4 (.x5 .e))))])
  (.cond (.t (.x5 (.x5 .e)))
  (.seq (.ops [.s (.x4 (.x0 .e)) (.asg (.c (V.int .i64 14)))])
  .ret)
  .skip))
  (.seq (.seq (.ops [.s (.x9 (.x0 .e)) (.asg (.c (V.int .i64 0)))])
  (.blk 6 []
  (.loop M46_3 L46_3)))
  (.seq (.ops [.s (.x4 (.x0 .e)) (.asg (.c (V.int .i64 0)))])
  .ret))))))))))
def e46 : EF := { depth := 2, nargs := 2, results := [.t (.x4 (.x0 .e))], body := b46 }

/-- forecourt/pole.within -/
def b47 : EC :=
  (.seq (.ops [.s (.x3 .e) (.box (.t (.x0 .e))),
    .s (.x4 .e) (.box (.t (.x1 .e))),
    .s (.x6 .e) (.asg (.c (V.bool false)))])
  (.seq (.ops [.s (.x7 .e) (.mv (.t (.x2 .e))),
    .s (.x8 .e) (.mkfn 72 [] [(.t (.x3 .e)), (.t (.x4 .e))]),
    .s (.x9 .e) (.call 71 [(.t (.x7 .e)), (.t (.x8 .e))]),
    .s (.xa .e) (.un .not (.t (.x9 .e))),
    .s (.x6 .e) (.asg (.t (.xa .e)))])
  .ret))
def e47 : EF := { depth := 1, nargs := 3, results := [.t (.x6 .e)], body := b47 }

/-- function 48, loop 0: live [0, 1, 5] -/
def M48_0 : List Pth := [(.x0 (.x0 .e)), (.x1 (.x0 .e)), (.x5 (.x0 .e))]
def L48_0 : EC :=
  (.seq (.seq (.ops [.s (.x9 (.x0 .e)) (.mv (.t (.x5 (.x0 .e)))),
    .s (.xa (.x0 .e)) (.bin .gtr (.t (.x9 (.x0 .e))) (.c (V.int .i64 0))),
    .s (.xb (.x0 .e)) (.mv (.t (.xa (.x0 .e)))),
    .g (.xb (.x0 .e)) true (.xc (.x0 .e)) (.mv (.t (.x0 (.x0 .e)))),
    .g (.xb (.x0 .e)) true (.xd (.x0 .e)) (.mv (.t (.x5 (.x0 .e)))),
    .g (.xb (.x0 .e)) true (.xe (.x0 .e)) (.ixs 2 (.t (.xc (.x0 .e))) (.t (.xd (.x0 .e)))),
    .g (.xb (.x0 .e)) true (.xf (.x0 .e)) (.fadr 0 (.t (.xe (.x0 .e)))),
    .g (.xb (.x0 .e)) true (.x0 (.x1 .e)) (.ld none (.t (.xf (.x0 .e)))),
    .g (.xb (.x0 .e)) true (.x1 (.x1 .e)) (.mv (.t (.x1 (.x0 .e)))),
    .g (.xb (.x0 .e)) true (.x2 (.x1 .e)) (.bin .gtr (.t (.x0 (.x1 .e))) (.t (.x1 (.x1 .e)))),
    .s (.x3 (.x1 .e)) (.pick (.t (.xb (.x0 .e))) (.t (.x2 (.x1 .e))) (.c (V.bool false)))])
  (.cond (.t (.x3 (.x1 .e)))
  .skip
  (.exit 0)))
  (.blk 1 [(.x0 (.x0 .e)), (.x1 (.x0 .e)), (.x5 (.x0 .e))]
  (.ops [.s (.x4 (.x1 .e)) (.mv (.t (.x5 (.x0 .e)))),
    .s (.x5 (.x1 .e)) (.bin .sub (.t (.x4 (.x1 .e))) (.c (V.int .i64 1))),
    .s (.x5 (.x0 .e)) (.asg (.t (.x5 (.x1 .e))))])))
/-- forecourt/pole.at -/
def b48 : EC :=
  (.seq (.ops [.s (.x4 (.x0 .e)) (.asg (.c (V.int .i64 0)))])
  (.seq (.ops [.s (.x6 (.x0 .e)) (.mv (.t (.x0 (.x0 .e)))),
    .s (.x7 (.x0 .e)) (.len (.t (.x6 (.x0 .e)))),
    .s (.x8 (.x0 .e)) (.bin .sub (.t (.x7 (.x0 .e))) (.c (V.int .i64 1))),
    .s (.x5 (.x0 .e)) (.asg (.t (.x8 (.x0 .e))))])
  (.seq (.blk 0 [(.x5 (.x0 .e))]
  (.loop M48_0 L48_0))
  (.seq (.ops [.s (.x6 (.x1 .e)) (.mv (.t (.x5 (.x0 .e)))),
    .s (.x4 (.x0 .e)) (.asg (.t (.x6 (.x1 .e))))])
  .ret))))
def e48 : EF := { depth := 2, nargs := 2, results := [.t (.x4 (.x0 .e))], body := b48 }

/-- forecourt/pole.checkClocks -/
def b49 : EC :=
  (.seq (.ops [.s (.x3 (.x0 .e)) (.box (.t (.x1 (.x0 .e)))),
    .s (.x4 (.x0 .e)) (.asg (.c (V.int .i64 0)))])
  (.seq (.ops [.s (.x6 (.x0 .e)) (.mv (.t (.x0 (.x0 .e)))),
    .s (.x7 (.x0 .e)) (.call 17 [(.t (.x6 (.x0 .e)))]),
    .s (.x5 (.x0 .e)) (.asg (.t (.x7 (.x0 .e))))])
  (.seq (.blk 0 []
  (.seq (.ops [.s (.x9 (.x0 .e)) (.mv (.t (.x5 (.x0 .e)))),
    .s (.xa (.x0 .e)) (.bin .neq (.t (.x9 (.x0 .e))) (.c (V.int .i64 0))),
    .s (.x8 (.x0 .e)) (.asg (.t (.xa (.x0 .e))))])
  (.cond (.t (.x8 (.x0 .e)))
  (.seq (.ops [.s (.xb (.x0 .e)) (.mv (.t (.x5 (.x0 .e)))),
    .s (.x4 (.x0 .e)) (.asg (.t (.xb (.x0 .e))))])
  .ret)
  (.seq (.ops [.s (.xd (.x0 .e)) (.fadr 0 (.t (.x3 (.x0 .e)))),
    .s (.xe (.x0 .e)) (.ld none (.t (.xd (.x0 .e)))),
    .s (.xf (.x0 .e)) (.fadr 1 (.t (.x3 (.x0 .e)))),
    .s (.x0 (.x1 .e)) (.ld none (.t (.xf (.x0 .e)))),
    .s (.x1 (.x1 .e)) (.bslice 1 2 [V.int .i64 0] [(0, (.t (.xe (.x0 .e)))), (1, (.t (.x0 (.x1 .e))))]),
    .s (.x2 (.x1 .e)) (.call 47 [(.c (V.int .i64 (-100))), (.c (V.int .i64 100)), (.t (.x1 (.x1 .e)))]),
    .s (.x3 (.x1 .e)) (.un .not (.t (.x2 (.x1 .e)))),
    .s (.x4 (.x1 .e)) (.mv (.t (.x3 (.x1 .e)))),
    .g (.x4 (.x1 .e)) false (.x5 (.x1 .e)) (.fadr 0 (.t (.x3 (.x0 .e)))),
    .g (.x4 (.x1 .e)) false (.x6 (.x1 .e)) (.ld none (.t (.x5 (.x1 .e)))),
    .g (.x4 (.x1 .e)) false (.x7 (.x1 .e)) (.fadr 1 (.t (.x3 (.x0 .e)))),
    .g (.x4 (.x1 .e)) false (.x8 (.x1 .e)) (.ld none (.t (.x7 (.x1 .e)))),
    .g (.x4 (.x1 .e)) false (.x9 (.x1 .e)) (.bin .gtr (.t (.x6 (.x1 .e))) (.t (.x8 (.x1 .e)))),
    .s (.xa (.x1 .e)) (.pick (.t (.x4 (.x1 .e))) (.c (V.bool true)) (.t (.x9 (.x1 .e)))),
    .s (.xc (.x0 .e)) (.asg (.t (.xa (.x1 .e))))])
  (.cond (.t (.xc (.x0 .e)))
  (.seq (.ops [.s (.x4 (.x0 .e)) (.asg (.c (V.int .i64 2)))])
  .ret)
  .skip)))))
  (.seq (.ops [.s (.x4 (.x0 .e)) (.asg (.c (V.int .i64 0)))])
  .ret))))
def e49 : EF := { depth := 2, nargs := 2, results := [.t (.x4 (.x0 .e))], body := b49 }

/-- forecourt/pole.fair -/
def b50 : EC :=
  (.seq (.ops [.s (.x4 (.x0 .e)) (.box (.t (.x1 (.x0 .e)))),
    .s (.x6 (.x0 .e)) (.asg (.c (V.int .i64 0)))])
  (.seq (.draw [0, 1, 2, 3, 4, 5, 7, 8, 9, 10, 11, 6, 12, 13, 14, 15] [0, 0, 0, 0, 8, 28, 0, 0, 0, 256, 896, 62, 4094, 8190, 16383, 32767] [.s (.x8 (.x0 .e)) (.mv (.t (.x0 (.x0 .e)))),
    .s (.x9 (.x0 .e)) (.mv (.t (.x0 (.x0 .e)))),
    .s (.xa (.x0 .e)) (.mv (.t (.x2 (.x0 .e)))),
    .s (.xb (.x0 .e)) (.fadr 0 (.t (.x4 (.x0 .e)))),
    .s (.xc (.x0 .e)) (.ld none (.t (.xb (.x0 .e)))),
    .s (.xd (.x0 .e)) (.bin .add (.t (.xa (.x0 .e))) (.t (.xc (.x0 .e)))),
    .s (.xf (.x0 .e)) (.mv (.t (.x0 (.x0 .e)))),
    .s (.x0 (.x1 .e)) (.mv (.t (.x2 (.x0 .e)))),
    .s (.x1 (.x1 .e)) (.fadr 1 (.t (.x4 (.x0 .e)))),
    .s (.x2 (.x1 .e)) (.ld none (.t (.x1 (.x1 .e)))),
    .s (.x3 (.x1 .e)) (.bin .add (.t (.x0 (.x1 .e))) (.t (.x2 (.x1 .e)))),
    .s (.xe (.x0 .e)) (.call 48 [(.t (.x9 (.x0 .e))), (.t (.xd (.x0 .e)))]),
    .s (.x4 (.x1 .e)) (.call 48 [(.t (.xf (.x0 .e))), (.t (.x3 (.x1 .e)))]),
    .s (.x5 (.x1 .e)) (.bin .add (.t (.x4 (.x1 .e))) (.c (V.int .i64 1))),
    .s (.x6 (.x1 .e)) (.slc 2 (.t (.x8 (.x0 .e))) (some (.t (.xe (.x0 .e)))) (some (.t (.x5 (.x1 .e)))) none),
    .s (.x7 (.x0 .e)) (.asg (.t (.x6 (.x1 .e))))])
  (.seq (.ops [.s (.x7 (.x1 .e)) (.mv (.t (.x7 (.x0 .e)))),
    .s (.x8 (.x1 .e)) (.call 73 [(.t (.x7 (.x1 .e))), (.c (V.func 74 [] []))]),
    .s (.x9 (.x1 .e)) (.fld 1 none (.t (.x8 (.x1 .e)))),
    .s (.x6 (.x0 .e)) (.asg (.t (.x9 (.x1 .e))))])
  .ret)))
def e50 : EF := { depth := 2, nargs := 3, results := [.t (.x6 (.x0 .e))], body := b50 }

/-- slices.ContainsFunc[[]forecourt/api.PolePrice,forecourt/api.PolePrice] -/
def b51 : EC :=
  (.seq (.ops [.s (.x4 .e) (.asg (.c (V.bool false)))])
  (.seq (.ops [.s (.x5 .e) (.mv (.t (.x0 .e))),
    .s (.x6 .e) (.mv (.t (.x1 .e))),
    .s (.x7 .e) (.call 75 [(.t (.x5 .e)), (.t (.x6 .e))]),
    .s (.x8 .e) (.bin .geq (.t (.x7 .e)) (.c (V.int .i64 0))),
    .s (.x4 .e) (.asg (.t (.x8 .e)))])
  .ret))
def e51 : EF := { depth := 1, nargs := 2, results := [.t (.x4 .e)], body := b51 }

/-- forecourt/pole.CheckSign$1 -/
def b52 : EC :=
  (.seq (.ops [.s (.x1 .e) (.box (.t (.x0 .e))),
    .s (.x2 .e) (.asg (.c (V.bool false)))])
  (.seq (.ops [.s (.x3 .e) (.fadr 1 (.t (.x1 .e))),
    .s (.x4 .e) (.ld none (.t (.x3 .e))),
    .s (.x5 .e) (.bslice 1 1 [V.int .i64 0] [(0, (.t (.x4 .e)))]),
    .s (.x6 .e) (.call 47 [(.c (V.int .i64 1)), (.c (V.int .i64 100000)), (.t (.x5 .e))]),
    .s (.x7 .e) (.un .not (.t (.x6 .e))),
    .s (.x2 .e) (.asg (.t (.x7 .e)))])
  .ret))
def e52 : EF := { depth := 1, nargs := 1, results := [.t (.x2 .e)], body := b52 }

/-- function 53, loop 1: live [3, 5, 12, 13, 14, 28, 29, 30] -/
def M53_1 : List Pth := [(.x3 (.x0 .e)), (.x5 (.x0 .e)), (.xc (.x0 .e)), (.xd (.x0 .e)), (.xe (.x0 .e)), (.xc (.x1 .e)), (.xd (.x1 .e)), (.xe (.x1 .e))]
def L53_1 : EC :=
  (.seq (.ops [.s (.xf (.x1 .e)) (.bin .lss (.t (.xe (.x1 .e))) (.t (.xd (.x1 .e))))])
  (.seq (.cond (.t (.xf (.x1 .e)))
  .skip
  (.exit 2))
  (.seq (.blk 3 [(.x3 (.x0 .e)), (.x5 (.x0 .e)), (.xc (.x0 .e)), (.xd (.x0 .e)), (.xe (.x0 .e)), (.xc (.x1 .e)), (.xd (.x1 .e)), (.xe (.x1 .e))]
  (.seq (.ops [.s (.x0 (.x2 .e)) (.ixs 1 (.t (.xc (.x1 .e))) (.t (.xe (.x1 .e)))),
    .s (.x1 (.x2 .e)) (.ld none (.t (.x0 (.x2 .e)))),
    .s (.x9 (.x0 .e)) (.asg (.t (.x1 (.x2 .e))))])
  (.seq (.ops [.s (.x2 (.x2 .e)) (.mv (.t (.x9 (.x0 .e)))),
    .s (.x3 (.x2 .e)) (.bslice 1 1 [V.int .i64 0] [(0, (.t (.x2 (.x2 .e))))]),
    .s (.x4 (.x2 .e)) (.call 47 [(.c (V.int .i64 1)), (.c (V.int .i64 2000)), (.t (.x3 (.x2 .e)))])])
  (.cond (.t (.x4 (.x2 .e)))
  (.ops [.s (.x5 (.x2 .e)) (.mv (.t (.x5 (.x0 .e)))),
    .s (.x6 (.x2 .e)) (.mv (.t (.x9 (.x0 .e)))),
    .s (.x7 (.x2 .e)) (.bslice 1 1 [V.int .i64 0] [(0, (.t (.x6 (.x2 .e))))]),
    .s (.x8 (.x2 .e)) (.app 1 8 (.t (.x5 (.x2 .e))) (.t (.x7 (.x2 .e)))),
    .s (.x5 (.x0 .e)) (.asg (.t (.x8 (.x2 .e))))])
  .skip))))
  (.ops [.s (.x9 (.x2 .e)) (.bin .add (.t (.xe (.x1 .e))) (.c (V.int .i64 1))),
    .s (.xe (.x1 .e)) (.mv (.t (.x9 (.x2 .e))))]))))
/-- function 53, loop 0: live [3, 5, 12, 13, 14] -/
def M53_0 : List Pth := [(.x3 (.x0 .e)), (.x5 (.x0 .e)), (.xc (.x0 .e)), (.xd (.x0 .e)), (.xe (.x0 .e))]
def L53_0 : EC :=
  (.seq (.ops [.s (.xf (.x0 .e)) (.bin .lss (.t (.xe (.x0 .e))) (.t (.xd (.x0 .e))))])
  (.seq (.cond (.t (.xf (.x0 .e)))
  .skip
  (.exit 0))
  (.seq (.blk 1 [(.x3 (.x0 .e)), (.x5 (.x0 .e)), (.xc (.x0 .e)), (.xd (.x0 .e)), (.xe (.x0 .e))]
  (.seq (.ops [.s (.x0 (.x1 .e)) (.ixs 2 (.t (.xc (.x0 .e))) (.t (.xe (.x0 .e)))),
    .s (.x1 (.x1 .e)) (.ld (some 2) (.t (.x0 (.x1 .e)))),
    .s (.x7 (.x0 .e)) (.alloc [V.int .i64 0, V.int .i64 0]),
    .u (.st (some 2) (.t (.x7 (.x0 .e))) (.t (.x1 (.x1 .e))))])
  (.seq (.ops [.s (.x2 (.x1 .e)) (.fadr 0 (.t (.x7 (.x0 .e)))),
    .s (.x3 (.x1 .e)) (.ld none (.t (.x2 (.x1 .e)))),
    .s (.x4 (.x1 .e)) (.fadr 1 (.t (.x3 (.x0 .e)))),
    .s (.x5 (.x1 .e)) (.ld none (.t (.x4 (.x1 .e)))),
    .s (.x6 (.x1 .e)) (.bin .sub (.t (.x3 (.x1 .e))) (.t (.x5 (.x1 .e)))),
    .s (.x7 (.x1 .e)) (.fadr 0 (.t (.x7 (.x0 .e)))),
    .s (.x8 (.x1 .e)) (.ld none (.t (.x7 (.x1 .e)))),
    .s (.x9 (.x1 .e)) (.fadr 0 (.t (.x3 (.x0 .e)))),
    .s (.xa (.x1 .e)) (.ld none (.t (.x9 (.x1 .e)))),
    .s (.xb (.x1 .e)) (.bin .sub (.t (.x8 (.x1 .e))) (.t (.xa (.x1 .e)))),
    .s (.xc (.x1 .e)) (.bslice 1 2 [V.int .i64 0] [(0, (.t (.x6 (.x1 .e)))), (1, (.t (.xb (.x1 .e))))]),
    .s (.xd (.x1 .e)) (.len (.t (.xc (.x1 .e)))),
    .s (.xe (.x1 .e)) (.mv (.c (V.int .i64 0)))])
  (.blk 2 [(.x3 (.x0 .e)), (.x5 (.x0 .e)), (.xc (.x0 .e)), (.xd (.x0 .e)), (.xe (.x0 .e))]
  (.loop M53_1 L53_1)))))
  (.ops [.s (.xa (.x2 .e)) (.bin .add (.t (.xe (.x0 .e))) (.c (V.int .i64 1))),
    .s (.xe (.x0 .e)) (.mv (.t (.xa (.x2 .e))))]))))
/-- forecourt/pole.changes -/
def b53 : EC :=
  (.seq (.ops [.s (.x3 (.x0 .e)) (.box (.t (.x1 (.x0 .e)))),
    .s (.x4 (.x0 .e)) (.asg (.c (V.nilslice)))])
  (.seq (.ops [.s (.xa (.x0 .e)) (.bslice 1 1 [V.int .i64 0] [(0, (.c (V.int .i64 0)))]),
    .s (.x5 (.x0 .e)) (.asg (.t (.xa (.x0 .e))))])
  (.seq (.seq (.ops [.s (.xb (.x0 .e)) (.mv (.t (.x0 (.x0 .e)))),
    .s (.xc (.x0 .e)) (.slc 2 (.t (.xb (.x0 .e))) (some (.c (V.int .i64 1))) none none),
    .s (.xd (.x0 .e)) (.len (.t (.xc (.x0 .e)))),
    .s (.xe (.x0 .e)) (.mv (.c (V.int .i64 0)))])
  (.blk 0 [(.x5 (.x0 .e))]
  (.loop M53_0 L53_0)))
  (.seq (.ops [.s (.xb (.x2 .e)) (.mv (.t (.x5 (.x0 .e)))),
    .s (.xc (.x2 .e)) (.call 54 [(.t (.xb (.x2 .e)))])])
  (.seq (.ops [.s (.xd (.x2 .e)) (.mv (.t (.x5 (.x0 .e)))),
    .s (.xe (.x2 .e)) (.call 76 [(.t (.xd (.x2 .e)))]),
    .s (.x4 (.x0 .e)) (.asg (.t (.xe (.x2 .e))))])
  .ret)))))
def e53 : EF := { depth := 2, nargs := 2, results := [.t (.x4 (.x0 .e))], body := b53 }

/-- slices.Sort[[]int64,int64] -/
def b54 : EC :=
  (.seq (.ops [.s (.x3 .e) (.mv (.t (.x0 .e))),
    .s (.x4 .e) (.len (.t (.x3 .e))),
    .s (.x2 .e) (.asg (.t (.x4 .e)))])
  (.ops [.s (.x5 .e) (.mv (.t (.x0 .e))),
    .s (.x6 .e) (.mv (.t (.x2 .e))),
    .s (.x7 .e) (.mv (.t (.x2 .e))),
    .s (.x8 .e) (.cvt .u64 (.t (.x7 .e))),
    .s (.x9 .e) (.call 78 [(.t (.x8 .e))]),
    .s (.xa .e) (.call 77 [(.t (.x5 .e)), (.c (V.int .i64 0)), (.t (.x6 .e)), (.t (.x9 .e))])]))
def e54 : EF := { depth := 1, nargs := 1, results := [], body := b54 }

/-- forecourt/pole.Cheat$1 -/
def b55 : EC :=
  (.seq (.ops [.s (.x5 (.x0 .e)) (.asg (.c (V.bool false)))])
  (.seq (.draw [0, 1, 2, 7, 8, 9, 3, 4, 5, 6, 10, 11, 12] [0, 0, 0, 0, 0, 0, 6, 71, 199, 455, 126, 2047, 4095] [.s (.x6 (.x0 .e)) (.ld none (.t (.x1 (.x0 .e)))),
    .s (.x7 (.x0 .e)) (.ld none (.t (.x1 (.x0 .e)))),
    .s (.x8 (.x0 .e)) (.mv (.t (.x0 (.x0 .e)))),
    .s (.xd (.x0 .e)) (.ld none (.t (.x2 (.x0 .e)))),
    .s (.xe (.x0 .e)) (.ld (some 2) (.t (.x3 (.x0 .e)))),
    .s (.xf (.x0 .e)) (.mv (.t (.x0 (.x0 .e)))),
    .s (.x9 (.x0 .e)) (.call 48 [(.t (.x7 (.x0 .e))), (.t (.x8 (.x0 .e)))]),
    .s (.xa (.x0 .e)) (.ixs 2 (.t (.x6 (.x0 .e))) (.t (.x9 (.x0 .e)))),
    .s (.xb (.x0 .e)) (.fadr 1 (.t (.xa (.x0 .e)))),
    .s (.xc (.x0 .e)) (.ld none (.t (.xb (.x0 .e)))),
    .s (.x0 (.x1 .e)) (.call 50 [(.t (.xd (.x0 .e))), (.t (.xe (.x0 .e))), (.t (.xf (.x0 .e)))]),
    .s (.x1 (.x1 .e)) (.bin .gtr (.t (.xc (.x0 .e))) (.t (.x0 (.x1 .e)))),
    .s (.x5 (.x0 .e)) (.asg (.t (.x1 (.x1 .e))))])
  .ret))
def e55 : EF := { depth := 2, nargs := 4, results := [.t (.x5 (.x0 .e))], body := b55 }

/-- function 56, loop 0: live [0, 1, 7, 8] -/
def M56_0 : List Pth := [(.x0 (.x0 .e)), (.x1 (.x0 .e)), (.x7 (.x0 .e)), (.x8 (.x0 .e))]
def L56_0 : EC :=
  (.seq (.ops [.s (.x9 (.x0 .e)) (.bin .lss (.t (.x8 (.x0 .e))) (.t (.x7 (.x0 .e))))])
  (.seq (.cond (.t (.x9 (.x0 .e)))
  .skip
  (.exit 0))
  (.seq (.blk 1 [(.x0 (.x0 .e)), (.x1 (.x0 .e)), (.x7 (.x0 .e)), (.x8 (.x0 .e))]
  (.seq (.ops [.s (.xa (.x0 .e)) (.mv (.t (.x8 (.x0 .e)))),
    .s (.x5 (.x0 .e)) (.asg (.t (.xa (.x0 .e))))])
  (.seq (.ops [.s (.xb (.x0 .e)) (.mv (.t (.x1 (.x0 .e)))),
    .s (.xc (.x0 .e)) (.mv (.t (.x0 (.x0 .e)))),
    .s (.xd (.x0 .e)) (.mv (.t (.x5 (.x0 .e)))),
    .s (.xe (.x0 .e)) (.ixs 1 (.t (.xc (.x0 .e))) (.t (.xd (.x0 .e)))),
    .s (.xf (.x0 .e)) (.ld none (.t (.xe (.x0 .e)))),
    .s (.x0 (.x1 .e)) (.calld (.t (.xb (.x0 .e))) [(.t (.xf (.x0 .e)))])])
  (.cond (.t (.x0 (.x1 .e)))
  (.seq (.ops [.s (.x1 (.x1 .e)) (.mv (.t (.x5 (.x0 .e)))),
    .s (.x4 (.x0 .e)) (.asg (.t (.x1 (.x1 .e))))])
  .ret)
  .skip))))
  (.ops [.s (.x2 (.x1 .e)) (.bin .add (.t (.x8 (.x0 .e))) (.c (V.int .i64 1))),
    .s (.x8 (.x0 .e)) (.mv (.t (.x2 (.x1 .e))))]))))
/-- slices.IndexFunc[[]int64,int64] -/
def b56 : EC :=
  (.seq (.ops [.s (.x4 (.x0 .e)) (.asg (.c (V.int .i64 0)))])
  (.seq (.seq (.ops [.s (.x6 (.x0 .e)) (.mv (.t (.x0 (.x0 .e)))),
    .s (.x7 (.x0 .e)) (.len (.t (.x6 (.x0 .e)))),
    .s (.x8 (.x0 .e)) (.mv (.c (V.int .i64 0)))])
  (.blk 0 []
  (.loop M56_0 L56_0)))
  (.seq (.ops [.s (.x4 (.x0 .e)) (.asg (.c (V.int .i64 (-1))))])
  .ret)))
def e56 : EF := { depth := 2, nargs := 2, results := [.t (.x4 (.x0 .e))], body := b56 }

/-- function 57, loop 0: live [0, 3, 5, 6] -/
def M57_0 : List Pth := [(.x0 (.x0 .e)), (.x3 (.x0 .e)), (.x5 (.x0 .e)), (.x6 (.x0 .e))]
def L57_0 : EC :=
  (.seq (.seq (.ops [.s (.xb (.x0 .e)) (.mv (.t (.x6 (.x0 .e)))),
    .s (.xc (.x0 .e)) (.bin .leq (.t (.xb (.x0 .e))) (.c (V.int .i64 2100)))])
  (.cond (.t (.xc (.x0 .e)))
  .skip
  (.exit 0)))
  (.seq (.blk 1 [(.x0 (.x0 .e)), (.x3 (.x0 .e)), (.x5 (.x0 .e)), (.x6 (.x0 .e))]
  (.ops [.s (.xf (.x0 .e)) (.mv (.t (.x5 (.x0 .e)))),
    .s (.x0 (.x1 .e)) (.mv (.t (.x0 (.x0 .e)))),
    .s (.x1 (.x1 .e)) (.mv (.t (.x6 (.x0 .e)))),
    .s (.x2 (.x1 .e)) (.call 33 [(.t (.x0 (.x1 .e))), (.t (.x1 (.x1 .e)))]),
    .s (.x3 (.x1 .e)) (.bslice 1 1 [V.int .i64 0] [(0, (.t (.x2 (.x1 .e))))]),
    .s (.x4 (.x1 .e)) (.app 1 8 (.t (.xf (.x0 .e))) (.t (.x3 (.x1 .e)))),
    .s (.x5 (.x0 .e)) (.asg (.t (.x4 (.x1 .e))))]))
  (.ops [.s (.xd (.x0 .e)) (.mv (.t (.x6 (.x0 .e)))),
    .s (.xe (.x0 .e)) (.bin .add (.t (.xd (.x0 .e))) (.c (V.int .i64 1))),
    .s (.x6 (.x0 .e)) (.asg (.t (.xe (.x0 .e))))])))
/-- function 57, loop 2: live [3, 5, 7, 8, 9, 10] -/
def M57_2 : List Pth := [(.x3 (.x0 .e)), (.x5 (.x0 .e)), (.x7 (.x0 .e)), (.x8 (.x0 .e)), (.x9 (.x0 .e)), (.xa (.x0 .e))]
def L57_2 : EC :=
  (.seq (.seq (.ops [.s (.x5 (.x2 .e)) (.mv (.t (.xa (.x0 .e)))),
    .s (.x6 (.x2 .e)) (.mv (.t (.x8 (.x0 .e)))),
    .s (.x7 (.x2 .e)) (.fadr 1 (.t (.x3 (.x0 .e)))),
    .s (.x8 (.x2 .e)) (.ld none (.t (.x7 (.x2 .e)))),
    .s (.x9 (.x2 .e)) (.bin .add (.t (.x6 (.x2 .e))) (.t (.x8 (.x2 .e)))),
    .s (.xa (.x2 .e)) (.bin .leq (.t (.x5 (.x2 .e))) (.t (.x9 (.x2 .e))))])
  (.cond (.t (.xa (.x2 .e)))
  .skip
  (.exit 4)))
  (.seq (.blk 5 [(.x3 (.x0 .e)), (.x5 (.x0 .e)), (.x7 (.x0 .e)), (.x8 (.x0 .e)), (.x9 (.x0 .e)), (.xa (.x0 .e))]
  (.ops [.s (.xd (.x2 .e)) (.mv (.t (.x9 (.x0 .e)))),
    .s (.xe (.x2 .e)) (.mv (.t (.x5 (.x0 .e)))),
    .s (.xf (.x2 .e)) (.mv (.t (.xa (.x0 .e)))),
    .s (.x0 (.x3 .e)) (.bin .add (.t (.xf (.x2 .e))) (.c (V.int .i64 100))),
    .s (.x1 (.x3 .e)) (.ixs 1 (.t (.xe (.x2 .e))) (.t (.x0 (.x3 .e)))),
    .s (.x2 (.x3 .e)) (.ld none (.t (.x1 (.x3 .e)))),
    .s (.x3 (.x3 .e)) (.min [(.t (.xd (.x2 .e))), (.t (.x2 (.x3 .e)))]),
    .s (.x9 (.x0 .e)) (.asg (.t (.x3 (.x3 .e))))]))
  (.ops [.s (.xb (.x2 .e)) (.mv (.t (.xa (.x0 .e)))),
    .s (.xc (.x2 .e)) (.bin .add (.t (.xb (.x2 .e))) (.c (V.int .i64 1))),
    .s (.xa (.x0 .e)) (.asg (.t (.xc (.x2 .e))))])))
/-- function 57, loop 1: live [3, 5, 7, 8] -/
def M57_1 : List Pth := [(.x3 (.x0 .e)), (.x5 (.x0 .e)), (.x7 (.x0 .e)), (.x8 (.x0 .e))]
def L57_1 : EC :=
  (.seq (.seq (.ops [.s (.x5 (.x1 .e)) (.mv (.t (.x8 (.x0 .e)))),
    .s (.x6 (.x1 .e)) (.bin .leq (.t (.x5 (.x1 .e))) (.c (V.int .i64 2000)))])
  (.cond (.t (.x6 (.x1 .e)))
  .skip
  (.exit 2)))
  (.seq (.blk 3 [(.x3 (.x0 .e)), (.x5 (.x0 .e)), (.x7 (.x0 .e)), (.x8 (.x0 .e))]
  (.seq (.ops [.s (.x9 (.x1 .e)) (.mv (.t (.x5 (.x0 .e)))),
    .s (.xa (.x1 .e)) (.mv (.t (.x8 (.x0 .e)))),
    .s (.xb (.x1 .e)) (.fadr 0 (.t (.x3 (.x0 .e)))),
    .s (.xc (.x1 .e)) (.ld none (.t (.xb (.x1 .e)))),
    .s (.xd (.x1 .e)) (.bin .add (.t (.xa (.x1 .e))) (.t (.xc (.x1 .e)))),
    .s (.xe (.x1 .e)) (.bin .add (.t (.xd (.x1 .e))) (.c (V.int .i64 100))),
    .s (.xf (.x1 .e)) (.ixs 1 (.t (.x9 (.x1 .e))) (.t (.xe (.x1 .e)))),
    .s (.x0 (.x2 .e)) (.ld none (.t (.xf (.x1 .e)))),
    .s (.x9 (.x0 .e)) (.asg (.t (.x0 (.x2 .e))))])
  (.seq (.seq (.ops [.s (.x1 (.x2 .e)) (.mv (.t (.x8 (.x0 .e)))),
    .s (.x2 (.x2 .e)) (.fadr 0 (.t (.x3 (.x0 .e)))),
    .s (.x3 (.x2 .e)) (.ld none (.t (.x2 (.x2 .e)))),
    .s (.x4 (.x2 .e)) (.bin .add (.t (.x1 (.x2 .e))) (.t (.x3 (.x2 .e)))),
    .s (.xa (.x0 .e)) (.asg (.t (.x4 (.x2 .e))))])
  (.blk 4 [(.x3 (.x0 .e)), (.x5 (.x0 .e)), (.x7 (.x0 .e)), (.x8 (.x0 .e)), (.x9 (.x0 .e))]
  (.loop M57_2 L57_2)))
  (.ops [.s (.x4 (.x3 .e)) (.mv (.t (.x7 (.x0 .e)))),
    .s (.x5 (.x3 .e)) (.mv (.t (.x9 (.x0 .e)))),
    .s (.x6 (.x3 .e)) (.bslice 1 1 [V.int .i64 0] [(0, (.t (.x5 (.x3 .e))))]),
    .s (.x7 (.x3 .e)) (.app 1 8 (.t (.x4 (.x3 .e))) (.t (.x6 (.x3 .e)))),
    .s (.x7 (.x0 .e)) (.asg (.t (.x7 (.x3 .e))))]))))
  (.ops [.s (.x7 (.x1 .e)) (.mv (.t (.x8 (.x0 .e)))),
    .s (.x8 (.x1 .e)) (.bin .add (.t (.x7 (.x1 .e))) (.c (V.int .i64 1))),
    .s (.x8 (.x0 .e)) (.asg (.t (.x8 (.x1 .e))))])))
/-- forecourt/forecourtref09.fair -/
def b57 : EC :=
  (.seq (.ops [.s (.x3 (.x0 .e)) (.box (.t (.x1 (.x0 .e)))),
    .s (.x4 (.x0 .e)) (.asg (.c (V.nilslice)))])
  (.seq (.ops [.s (.x5 (.x0 .e)) (.asg (.c (V.nilslice)))])
  (.seq (.seq (.ops [.s (.x6 (.x0 .e)) (.asg (.c (V.int .i64 (-100))))])
  (.blk 0 [(.x3 (.x0 .e)), (.x5 (.x0 .e))]
  (.loop M57_0 L57_0)))
  (.seq (.ops [.s (.x7 (.x0 .e)) (.asg (.c (V.nilslice)))])
  (.seq (.seq (.ops [.s (.x8 (.x0 .e)) (.asg (.c (V.int .i64 0)))])
  (.blk 2 [(.x7 (.x0 .e))]
  (.loop M57_1 L57_1)))
  (.seq (.ops [.s (.x8 (.x3 .e)) (.mv (.t (.x7 (.x0 .e)))),
    .s (.x4 (.x0 .e)) (.asg (.t (.x8 (.x3 .e))))])
  .ret))))))
def e57 : EF := { depth := 2, nargs := 2, results := [.t (.x4 (.x0 .e))], body := b57 }

/-- slices.ContainsFunc[[][]int64,[]int64] -/
def b58 : EC :=
  (.seq (.ops [.s (.x4 .e) (.asg (.c (V.bool false)))])
  (.seq (.ops [.s (.x5 .e) (.mv (.t (.x0 .e))),
    .s (.x6 .e) (.mv (.t (.x1 .e))),
    .s (.x7 .e) (.call 79 [(.t (.x5 .e)), (.t (.x6 .e))]),
    .s (.x8 .e) (.bin .geq (.t (.x7 .e)) (.c (V.int .i64 0))),
    .s (.x4 .e) (.asg (.t (.x8 .e)))])
  .ret))
def e58 : EF := { depth := 1, nargs := 2, results := [.t (.x4 .e)], body := b58 }

/-- forecourt/pole.CheckTable$1 -/
def b59 : EC :=
  (.seq (.ops [.s (.x3 .e) (.asg (.c (V.bool false)))])
  (.seq (.ops [.s (.x4 .e) (.mv (.t (.x0 .e))),
    .s (.x5 .e) (.len (.t (.x4 .e))),
    .s (.x6 .e) (.fadr 1 (.t (.x1 .e))),
    .s (.x7 .e) (.ld none (.t (.x6 .e))),
    .s (.x8 .e) (.ixs 1 (.t (.x7 .e)) (.c (V.int .i64 0))),
    .s (.x9 .e) (.ld none (.t (.x8 .e))),
    .s (.xa .e) (.len (.t (.x9 .e))),
    .s (.xb .e) (.bin .neq (.t (.x5 .e)) (.t (.xa .e))),
    .s (.x3 .e) (.asg (.t (.xb .e)))])
  .ret))
def e59 : EF := { depth := 1, nargs := 2, results := [.t (.x3 .e)], body := b59 }

/-- forecourt/pole.CheckTable$2 -/
def b60 : EC :=
  (.seq (.ops [.s (.x2 .e) (.asg (.c (V.bool false)))])
  (.seq (.ops [.s (.x3 .e) (.mv (.t (.x0 .e))),
    .s (.x4 .e) (.call 47 [(.c (V.int .i64 0)), (.c (V.int .i64 1000000)), (.t (.x3 .e))]),
    .s (.x5 .e) (.un .not (.t (.x4 .e))),
    .s (.x2 .e) (.asg (.t (.x5 .e)))])
  .ret))
def e60 : EF := { depth := 1, nargs := 1, results := [.t (.x2 .e)], body := b60 }

/-- forecourt/pole.CheckRounding$1 -/
def b61 : EC :=
  (.seq (.ops [.s (.x3 .e) (.asg (.c (V.bool false)))])
  (.seq (.ops [.s (.x4 .e) (.mv (.t (.x0 .e))),
    .s (.x5 .e) (.len (.t (.x4 .e))),
    .s (.x6 .e) (.fadr 1 (.t (.x1 .e))),
    .s (.x7 .e) (.ld none (.t (.x6 .e))),
    .s (.x8 .e) (.ixs 1 (.t (.x7 .e)) (.c (V.int .i64 0))),
    .s (.x9 .e) (.ld none (.t (.x8 .e))),
    .s (.xa .e) (.len (.t (.x9 .e))),
    .s (.xb .e) (.bin .neq (.t (.x5 .e)) (.t (.xa .e))),
    .s (.x3 .e) (.asg (.t (.xb .e)))])
  .ret))
def e61 : EF := { depth := 1, nargs := 2, results := [.t (.x3 .e)], body := b61 }

/-- forecourt/pole.CheckRounding$2 -/
def b62 : EC :=
  (.seq (.ops [.s (.x5 (.x0 .e)) (.asg (.c (V.bool false)))])
  (.seq (.ops [.s (.x6 (.x0 .e)) (.mv (.t (.x1 (.x0 .e)))),
    .s (.x7 (.x0 .e)) (.mv (.t (.x0 (.x0 .e)))),
    .s (.x8 (.x0 .e)) (.fadr 0 (.t (.x2 (.x0 .e)))),
    .s (.x9 (.x0 .e)) (.ld none (.t (.x8 (.x0 .e)))),
    .s (.xa (.x0 .e)) (.bin .quo (.t (.x7 (.x0 .e))) (.t (.x9 (.x0 .e)))),
    .s (.xb (.x0 .e)) (.bin .eql (.t (.x6 (.x0 .e))) (.t (.xa (.x0 .e)))),
    .s (.xc (.x0 .e)) (.mv (.t (.xb (.x0 .e)))),
    .g (.xc (.x0 .e)) false (.xd (.x0 .e)) (.mv (.t (.x1 (.x0 .e)))),
    .g (.xc (.x0 .e)) false (.xe (.x0 .e)) (.mv (.t (.x0 (.x0 .e)))),
    .g (.xc (.x0 .e)) false (.xf (.x0 .e)) (.fadr 0 (.t (.x2 (.x0 .e)))),
    .g (.xc (.x0 .e)) false (.x0 (.x1 .e)) (.ld none (.t (.xf (.x0 .e)))),
    .g (.xc (.x0 .e)) false (.x1 (.x1 .e)) (.bin .add (.t (.xe (.x0 .e))) (.t (.x0 (.x1 .e)))),
    .g (.xc (.x0 .e)) false (.x2 (.x1 .e)) (.bin .sub (.t (.x1 (.x1 .e))) (.c (V.int .i64 1))),
    .g (.xc (.x0 .e)) false (.x3 (.x1 .e)) (.fadr 0 (.t (.x2 (.x0 .e)))),
    .g (.xc (.x0 .e)) false (.x4 (.x1 .e)) (.ld none (.t (.x3 (.x1 .e)))),
    .g (.xc (.x0 .e)) false (.x5 (.x1 .e)) (.bin .quo (.t (.x2 (.x1 .e))) (.t (.x4 (.x1 .e)))),
    .g (.xc (.x0 .e)) false (.x6 (.x1 .e)) (.bin .eql (.t (.xd (.x0 .e))) (.t (.x5 (.x1 .e)))),
    .s (.x7 (.x1 .e)) (.pick (.t (.xc (.x0 .e))) (.c (V.bool true)) (.t (.x6 (.x1 .e)))),
    .s (.x5 (.x0 .e)) (.asg (.t (.x7 (.x1 .e))))])
  .ret))
def e62 : EF := { depth := 2, nargs := 3, results := [.t (.x5 (.x0 .e))], body := b62 }

/-- function 63, loop 1: live [3, 4, 5, 6, 7, 8, 32, 33, 34, 39, 40, 41] -/
def M63_1 : List Pth := [(.x3 (.x0 .e)), (.x4 (.x0 .e)), (.x5 (.x0 .e)), (.x6 (.x0 .e)), (.x7 (.x0 .e)), (.x8 (.x0 .e)), (.x0 (.x2 .e)), (.x1 (.x2 .e)), (.x2 (.x2 .e)), (.x7 (.x2 .e)), (.x8 (.x2 .e)), (.x9 (.x2 .e))]
def L63_1 : EC :=
  (.seq (.ops [.s (.xa (.x2 .e)) (.bin .lss (.t (.x9 (.x2 .e))) (.t (.x8 (.x2 .e))))])
  (.seq (.cond (.t (.xa (.x2 .e)))
  .skip
  (.exit 2))
  (.seq (.blk 3 [(.x3 (.x0 .e)), (.x4 (.x0 .e)), (.x5 (.x0 .e)), (.x6 (.x0 .e)), (.x7 (.x0 .e)), (.x8 (.x0 .e)), (.x0 (.x2 .e)), (.x1 (.x2 .e)), (.x2 (.x2 .e)), (.x7 (.x2 .e)), (.x8 (.x2 .e)), (.x9 (.x2 .e))]
  (.seq (.ops [.s (.xb (.x2 .e)) (.mv (.t (.x9 (.x2 .e)))),
    .s (.xc (.x2 .e)) (.ixs 1 (.t (.x7 (.x2 .e))) (.t (.x9 (.x2 .e)))),
    .s (.xd (.x2 .e)) (.ld none (.t (.xc (.x2 .e)))),
    .s (.xa (.x0 .e)) (.asg (.t (.xb (.x2 .e)))),
    .s (.xb (.x0 .e)) (.asg (.t (.xd (.x2 .e))))])
  (.seq (.ops [.s (.xe (.x2 .e)) (.mv (.t (.x3 (.x0 .e)))),
    .s (.xf (.x2 .e)) (.mv (.t (.x3 (.x0 .e)))),
    .s (.x0 (.x3 .e)) (.nilck (.t (.xf (.x2 .e)))),
    .s (.x1 (.x3 .e)) (.fadr 2 (.t (.x0 (.x3 .e)))),
    .s (.x2 (.x3 .e)) (.ld none (.t (.x1 (.x3 .e)))),
    .s (.x3 (.x3 .e)) (.mv (.t (.x8 (.x0 .e)))),
    .s (.x4 (.x3 .e)) (.mv (.t (.xa (.x0 .e)))),
    .s (.x5 (.x3 .e)) (.bin .add (.c (V.int .i64 6)) (.t (.x4 (.x3 .e)))),
    .s (.x6 (.x3 .e)) (.mv (.t (.xb (.x0 .e)))),
    .s (.x7 (.x3 .e)) (.build [V.int .i64 0, V.int .i64 0, V.int .i64 0] [(0, 1, (.t (.x3 (.x3 .e)))), (1, 1, (.t (.x5 (.x3 .e)))), (2, 1, (.t (.x6 (.x3 .e))))]),
    .s (.x8 (.x3 .e)) (.bslice 3 1 [V.int .i64 0, V.int .i64 0, V.int .i64 0] [(0, (.t (.x7 (.x3 .e))))]),
    .s (.x9 (.x3 .e)) (.app 3 24 (.t (.x2 (.x3 .e))) (.t (.x8 (.x3 .e)))),
    .s (.xa (.x3 .e)) (.nilck (.t (.xe (.x2 .e)))),
    .s (.xb (.x3 .e)) (.fadr 2 (.t (.xa (.x3 .e)))),
    .u (.st none (.t (.xb (.x3 .e))) (.t (.x9 (.x3 .e))))])
  (.seq (.ops [.s (.xc (.x3 .e)) (.mv (.t (.x6 (.x0 .e)))),
    .s (.xd (.x3 .e)) (.mv (.t (.x8 (.x0 .e)))),
    .s (.xe (.x3 .e)) (.ixs 1 (.t (.xc (.x3 .e))) (.t (.xd (.x3 .e)))),
    .s (.xf (.x3 .e)) (.ld none (.t (.xe (.x3 .e)))),
    .s (.x0 (.x4 .e)) (.mv (.t (.xb (.x0 .e)))),
    .s (.x1 (.x4 .e)) (.bin .add (.t (.xf (.x3 .e))) (.t (.x0 (.x4 .e)))),
    .s (.x2 (.x4 .e)) (.ixs 1 (.t (.xc (.x3 .e))) (.t (.xd (.x3 .e)))),
    .u (.st none (.t (.x2 (.x4 .e))) (.t (.x1 (.x4 .e))))])
  (.seq (.ops [.s (.x3 (.x4 .e)) (.mv (.t (.x6 (.x0 .e)))),
    .s (.x4 (.x4 .e)) (.mv (.t (.x4 (.x0 .e)))),
    .s (.x5 (.x4 .e)) (.mv (.t (.xa (.x0 .e)))),
    .s (.x6 (.x4 .e)) (.bin .add (.t (.x4 (.x4 .e))) (.t (.x5 (.x4 .e)))),
    .s (.x7 (.x4 .e)) (.ixs 1 (.t (.x3 (.x4 .e))) (.t (.x6 (.x4 .e)))),
    .s (.x8 (.x4 .e)) (.ld none (.t (.x7 (.x4 .e)))),
    .s (.x9 (.x4 .e)) (.mv (.t (.xb (.x0 .e)))),
    .s (.xa (.x4 .e)) (.bin .add (.t (.x8 (.x4 .e))) (.t (.x9 (.x4 .e)))),
    .s (.xb (.x4 .e)) (.ixs 1 (.t (.x3 (.x4 .e))) (.t (.x6 (.x4 .e)))),
    .u (.st none (.t (.xb (.x4 .e))) (.t (.xa (.x4 .e))))])
  (.ops [.s (.xc (.x4 .e)) (.mv (.t (.x7 (.x0 .e)))),
    .s (.xd (.x4 .e)) (.mv (.t (.xb (.x0 .e)))),
    .s (.xe (.x4 .e)) (.bin .add (.t (.xc (.x4 .e))) (.t (.xd (.x4 .e)))),
    .s (.x7 (.x0 .e)) (.asg (.t (.xe (.x4 .e))))]))))))
  (.ops [.s (.xf (.x4 .e)) (.bin .add (.t (.x9 (.x2 .e))) (.c (V.int .i64 1))),
    .s (.x9 (.x2 .e)) (.mv (.t (.xf (.x4 .e))))]))))
/-- function 63, loop 0: live [3, 4, 5, 6, 7, 32, 33, 34] -/
def M63_0 : List Pth := [(.x3 (.x0 .e)), (.x4 (.x0 .e)), (.x5 (.x0 .e)), (.x6 (.x0 .e)), (.x7 (.x0 .e)), (.x0 (.x2 .e)), (.x1 (.x2 .e)), (.x2 (.x2 .e))]
def L63_0 : EC :=
  (.seq (.ops [.s (.x3 (.x2 .e)) (.bin .lss (.t (.x2 (.x2 .e))) (.t (.x1 (.x2 .e))))])
  (.seq (.cond (.t (.x3 (.x2 .e)))
  .skip
  (.exit 0))
  (.seq (.blk 1 [(.x3 (.x0 .e)), (.x4 (.x0 .e)), (.x5 (.x0 .e)), (.x6 (.x0 .e)), (.x7 (.x0 .e)), (.x0 (.x2 .e)), (.x1 (.x2 .e)), (.x2 (.x2 .e))]
  (.seq (.ops [.s (.x4 (.x2 .e)) (.mv (.t (.x2 (.x2 .e)))),
    .s (.x5 (.x2 .e)) (.ixs 1 (.t (.x0 (.x2 .e))) (.t (.x2 (.x2 .e)))),
    .s (.x6 (.x2 .e)) (.ld none (.t (.x5 (.x2 .e)))),
    .s (.x8 (.x0 .e)) (.asg (.t (.x4 (.x2 .e)))),
    .s (.x9 (.x0 .e)) (.asg (.t (.x6 (.x2 .e))))])
  (.seq (.ops [.s (.x7 (.x2 .e)) (.mv (.t (.x9 (.x0 .e)))),
    .s (.x8 (.x2 .e)) (.len (.t (.x7 (.x2 .e)))),
    .s (.x9 (.x2 .e)) (.mv (.c (V.int .i64 0)))])
  (.blk 2 [(.x3 (.x0 .e)), (.x4 (.x0 .e)), (.x5 (.x0 .e)), (.x6 (.x0 .e)), (.x7 (.x0 .e)), (.x0 (.x2 .e)), (.x1 (.x2 .e)), (.x2 (.x2 .e))]
  (.loop M63_1 L63_1)))))
  (.ops [.s (.x0 (.x5 .e)) (.bin .add (.t (.x2 (.x2 .e))) (.c (V.int .i64 1))),
    .s (.x2 (.x2 .e)) (.mv (.t (.x0 (.x5 .e))))]))))
/-- function 63, loop 2: live [3, 4, 5, 6, 7, 12, 13, 81, 82] -/
def M63_2 : List Pth := [(.x3 (.x0 .e)), (.x4 (.x0 .e)), (.x5 (.x0 .e)), (.x6 (.x0 .e)), (.x7 (.x0 .e)), (.xc (.x0 .e)), (.xd (.x0 .e)), (.x1 (.x5 .e)), (.x2 (.x5 .e))]
def L63_2 : EC :=
  (.seq (.ops [.s (.x3 (.x5 .e)) (.bin .lss (.t (.x2 (.x5 .e))) (.t (.x1 (.x5 .e))))])
  (.seq (.cond (.t (.x3 (.x5 .e)))
  .skip
  (.exit 4))
  (.seq (.blk 5 [(.x3 (.x0 .e)), (.x4 (.x0 .e)), (.x5 (.x0 .e)), (.x6 (.x0 .e)), (.x7 (.x0 .e)), (.xc (.x0 .e)), (.xd (.x0 .e)), (.x1 (.x5 .e)), (.x2 (.x5 .e))]
  (.seq (.ops [.s (.x4 (.x5 .e)) (.mv (.t (.x2 (.x5 .e)))),
    .s (.xe (.x0 .e)) (.asg (.t (.x4 (.x5 .e))))])
  (.draw [0, 1, 2, 3, 4, 5, 6, 7, 8, 9, 10, 11, 12, 13, 14, 15, 16] [0, 0, 2, 6, 14, 0, 0, 0, 0, 384, 896, 2016, 4064, 8190, 16383, 32767, 65535] [.s (.x5 (.x5 .e)) (.mv (.t (.x3 (.x0 .e)))),
    .s (.x6 (.x5 .e)) (.mv (.t (.x3 (.x0 .e)))),
    .s (.x7 (.x5 .e)) (.nilck (.t (.x6 (.x5 .e)))),
    .s (.x8 (.x5 .e)) (.fadr 2 (.t (.x7 (.x5 .e)))),
    .s (.x9 (.x5 .e)) (.ld none (.t (.x8 (.x5 .e)))),
    .s (.xa (.x5 .e)) (.mv (.t (.xc (.x0 .e)))),
    .s (.xb (.x5 .e)) (.mv (.t (.xe (.x0 .e)))),
    .s (.xc (.x5 .e)) (.mv (.t (.x6 (.x0 .e)))),
    .s (.xd (.x5 .e)) (.mv (.t (.xe (.x0 .e)))),
    .s (.xe (.x5 .e)) (.ixs 1 (.t (.xc (.x5 .e))) (.t (.xd (.x5 .e)))),
    .s (.xf (.x5 .e)) (.ld none (.t (.xe (.x5 .e)))),
    .s (.x0 (.x6 .e)) (.build [V.int .i64 0, V.int .i64 0, V.int .i64 0] [(0, 1, (.t (.xa (.x5 .e)))), (1, 1, (.t (.xb (.x5 .e)))), (2, 1, (.t (.xf (.x5 .e))))]),
    .s (.x1 (.x6 .e)) (.bslice 3 1 [V.int .i64 0, V.int .i64 0, V.int .i64 0] [(0, (.t (.x0 (.x6 .e))))]),
    .s (.x2 (.x6 .e)) (.app 3 24 (.t (.x9 (.x5 .e))) (.t (.x1 (.x6 .e)))),
    .s (.x3 (.x6 .e)) (.nilck (.t (.x5 (.x5 .e)))),
    .s (.x4 (.x6 .e)) (.fadr 2 (.t (.x3 (.x6 .e)))),
    .u (.st none (.t (.x4 (.x6 .e))) (.t (.x2 (.x6 .e))))])))
  (.ops [.s (.x5 (.x6 .e)) (.bin .add (.t (.x2 (.x5 .e))) (.c (V.int .i64 1))),
    .s (.x2 (.x5 .e)) (.mv (.t (.x5 (.x6 .e))))]))))
/-- function 63, loop 3: live [3, 4, 6, 7, 12, 13, 102, 103] -/
def M63_3 : List Pth := [(.x3 (.x0 .e)), (.x4 (.x0 .e)), (.x6 (.x0 .e)), (.x7 (.x0 .e)), (.xc (.x0 .e)), (.xd (.x0 .e)), (.x6 (.x6 .e)), (.x7 (.x6 .e))]
def L63_3 : EC :=
  (.seq (.ops [.s (.x8 (.x6 .e)) (.bin .lss (.t (.x7 (.x6 .e))) (.t (.x6 (.x6 .e))))])
  (.seq (.cond (.t (.x8 (.x6 .e)))
  .skip
  (.exit 6))
  (.seq (.blk 7 [(.x3 (.x0 .e)), (.x4 (.x0 .e)), (.x6 (.x0 .e)), (.x7 (.x0 .e)), (.xc (.x0 .e)), (.xd (.x0 .e)), (.x6 (.x6 .e)), (.x7 (.x6 .e))]
  (.seq (.ops [.s (.x9 (.x6 .e)) (.mv (.t (.x7 (.x6 .e)))),
    .s (.xf (.x0 .e)) (.asg (.t (.x9 (.x6 .e))))])
  (.draw [0, 1, 2, 3, 4, 5, 6, 7, 8, 9, 10, 11, 12, 13, 14, 15, 16, 17, 18, 19] [0, 0, 2, 6, 14, 0, 32, 0, 0, 0, 0, 1536, 3840, 7936, 16352, 32736, 65534, 131071, 262143, 524287] [.s (.xa (.x6 .e)) (.mv (.t (.x3 (.x0 .e)))),
    .s (.xb (.x6 .e)) (.mv (.t (.x3 (.x0 .e)))),
    .s (.xc (.x6 .e)) (.nilck (.t (.xb (.x6 .e)))),
    .s (.xd (.x6 .e)) (.fadr 2 (.t (.xc (.x6 .e)))),
    .s (.xe (.x6 .e)) (.ld none (.t (.xd (.x6 .e)))),
    .s (.xf (.x6 .e)) (.mv (.t (.xf (.x0 .e)))),
    .s (.x0 (.x7 .e)) (.bin .add (.c (V.int .i64 6)) (.t (.xf (.x6 .e)))),
    .s (.x1 (.x7 .e)) (.mv (.t (.xd (.x0 .e)))),
    .s (.x2 (.x7 .e)) (.mv (.t (.x6 (.x0 .e)))),
    .s (.x3 (.x7 .e)) (.mv (.t (.x4 (.x0 .e)))),
    .s (.x4 (.x7 .e)) (.mv (.t (.xf (.x0 .e)))),
    .s (.x5 (.x7 .e)) (.bin .add (.t (.x3 (.x7 .e))) (.t (.x4 (.x7 .e)))),
    .s (.x6 (.x7 .e)) (.ixs 1 (.t (.x2 (.x7 .e))) (.t (.x5 (.x7 .e)))),
    .s (.x7 (.x7 .e)) (.ld none (.t (.x6 (.x7 .e)))),
    .s (.x8 (.x7 .e)) (.build [V.int .i64 0, V.int .i64 0, V.int .i64 0] [(0, 1, (.t (.x0 (.x7 .e)))), (1, 1, (.t (.x1 (.x7 .e)))), (2, 1, (.t (.x7 (.x7 .e))))]),
    .s (.x9 (.x7 .e)) (.bslice 3 1 [V.int .i64 0, V.int .i64 0, V.int .i64 0] [(0, (.t (.x8 (.x7 .e))))]),
    .s (.xa (.x7 .e)) (.app 3 24 (.t (.xe (.x6 .e))) (.t (.x9 (.x7 .e)))),
    .s (.xb (.x7 .e)) (.nilck (.t (.xa (.x6 .e)))),
    .s (.xc (.x7 .e)) (.fadr 2 (.t (.xb (.x7 .e)))),
    .u (.st none (.t (.xc (.x7 .e))) (.t (.xa (.x7 .e))))])))
  (.ops [.s (.xd (.x7 .e)) (.bin .add (.t (.x7 (.x6 .e))) (.c (V.int .i64 1))),
    .s (.x7 (.x6 .e)) (.mv (.t (.xd (.x7 .e))))]))))
/-- forecourt/pole.newBook -/
def b63 : EC :=
  (.seq (.ops [.s (.x1 (.x0 .e)) (.box (.t (.x0 (.x0 .e)))),
    .s (.x2 (.x0 .e)) (.asg (.c (V.nilptr)))])
  (.seq (.ops [.s (.x0 (.x1 .e)) (.ld (some 2) (.t (.x1 (.x0 .e)))),
    .s (.x1 (.x1 .e)) (.build [V.int .i64 0, V.nilslice, V.nilslice, V.int .i64 0, V.int .i64 0, V.int .i64 0, V.int .i64 0, V.int .i64 0, V.int .i64 0, V.int .i64 0, V.int .i64 0, V.int .i64 0, V.int .i64 0, V.int .i64 0, V.int .i64 0, V.int .i64 0, V.int .i64 0] [(0, 2, (.t (.x0 (.x1 .e))))]),
    .s (.x2 (.x1 .e)) (.box (.t (.x1 (.x1 .e)))),
    .s (.x3 (.x0 .e)) (.asg (.t (.x2 (.x1 .e))))])
  (.seq (.draw [0, 1, 2, 3, 4, 5, 6, 7, 8, 9] [0, 1, 3, 0, 8, 24, 56, 120, 7, 511] [.s (.x3 (.x1 .e)) (.fadr 1 (.t (.x1 (.x0 .e)))),
    .s (.x4 (.x1 .e)) (.ld none (.t (.x3 (.x1 .e)))),
    .s (.x5 (.x1 .e)) (.len (.t (.x4 (.x1 .e)))),
    .s (.x6 (.x1 .e)) (.fadr 1 (.t (.x1 (.x0 .e)))),
    .s (.x7 (.x1 .e)) (.ld none (.t (.x6 (.x1 .e)))),
    .s (.x8 (.x1 .e)) (.ixs 1 (.t (.x7 (.x1 .e))) (.c (V.int .i64 0))),
    .s (.x9 (.x1 .e)) (.ld none (.t (.x8 (.x1 .e)))),
    .s (.xa (.x1 .e)) (.len (.t (.x9 (.x1 .e)))),
    .s (.x4 (.x0 .e)) (.asg (.t (.x5 (.x1 .e)))),
    .s (.x5 (.x0 .e)) (.asg (.t (.xa (.x1 .e))))])
  (.seq (.ops [.s (.xb (.x1 .e)) (.mv (.t (.x4 (.x0 .e)))),
    .s (.xc (.x1 .e)) (.mv (.t (.x5 (.x0 .e)))),
    .s (.xd (.x1 .e)) (.bin .add (.t (.xb (.x1 .e))) (.t (.xc (.x1 .e)))),
    .s (.xe (.x1 .e)) (.mksl 1 8 [V.int .i64 0] (.t (.xd (.x1 .e))) (.t (.xd (.x1 .e)))),
    .s (.x6 (.x0 .e)) (.asg (.t (.xe (.x1 .e))))])
  (.seq (.ops [.s (.x7 (.x0 .e)) (.asg (.c (V.int .i64 0)))])
  (.seq (.seq (.ops [.s (.xf (.x1 .e)) (.fadr 1 (.t (.x1 (.x0 .e)))),
    .s (.x0 (.x2 .e)) (.ld none (.t (.xf (.x1 .e)))),
    .s (.x1 (.x2 .e)) (.len (.t (.x0 (.x2 .e)))),
    .s (.x2 (.x2 .e)) (.mv (.c (V.int .i64 0)))])
  (.blk 0 [(.x3 (.x0 .e)), (.x4 (.x0 .e)), (.x5 (.x0 .e)), (.x6 (.x0 .e)), (.x7 (.x0 .e))]
  (.loop M63_0 L63_0)))
  (.seq (.ops [.s (.xc (.x0 .e)) (.asg (.c (V.int .i64 12))),
    .s (.xd (.x0 .e)) (.asg (.c (V.int .i64 13)))])
  (.seq (.seq (.ops [.s (.x1 (.x5 .e)) (.mv (.t (.x4 (.x0 .e)))),
    .s (.x2 (.x5 .e)) (.mv (.c (V.int .i64 0)))])
  (.blk 4 [(.x3 (.x0 .e)), (.x4 (.x0 .e)), (.x5 (.x0 .e)), (.x6 (.x0 .e)), (.x7 (.x0 .e)), (.xc (.x0 .e)), (.xd (.x0 .e))]
  (.loop M63_2 L63_2)))
  (.seq (.seq (.ops [.s (.x6 (.x6 .e)) (.mv (.t (.x5 (.x0 .e)))),
    .s (.x7 (.x6 .e)) (.mv (.c (V.int .i64 0)))])
  (.blk 6 [(.x3 (.x0 .e)), (.x7 (.x0 .e)), (.xc (.x0 .e)), (.xd (.x0 .e))]
  (.loop M63_3 L63_3)))
  (.seq (.ops [.s (.xe (.x7 .e)) (.mv (.t (.x3 (.x0 .e)))),
    .s (.xf (.x7 .e)) (.mv (.t (.x3 (.x0 .e)))),
    .s (.x0 (.x8 .e)) (.nilck (.t (.xf (.x7 .e)))),
    .s (.x1 (.x8 .e)) (.fadr 2 (.t (.x0 (.x8 .e)))),
    .s (.x2 (.x8 .e)) (.ld none (.t (.x1 (.x8 .e)))),
    .s (.x3 (.x8 .e)) (.mv (.t (.xd (.x0 .e)))),
    .s (.x4 (.x8 .e)) (.mv (.t (.xc (.x0 .e)))),
    .s (.x5 (.x8 .e)) (.mv (.t (.x7 (.x0 .e)))),
    .s (.x6 (.x8 .e)) (.build [V.int .i64 0, V.int .i64 0, V.int .i64 0] [(0, 1, (.t (.x3 (.x8 .e)))), (1, 1, (.t (.x4 (.x8 .e)))), (2, 1, (.t (.x5 (.x8 .e))))]),
    .s (.x7 (.x8 .e)) (.bslice 3 1 [V.int .i64 0, V.int .i64 0, V.int .i64 0] [(0, (.t (.x6 (.x8 .e))))]),
    .s (.x8 (.x8 .e)) (.app 3 24 (.t (.x2 (.x8 .e))) (.t (.x7 (.x8 .e)))),
    .s (.x9 (.x8 .e)) (.nilck (.t (.xe (.x7 .e)))),
    .s (.xa (.x8 .e)) (.fadr 2 (.t (.x9 (.x8 .e)))),
    .u (.st none (.t (.xa (.x8 .e))) (.t (.x8 (.x8 .e))))])
  (.seq (.ops [.s (.xb (.x8 .e)) (.mv (.t (.x3 (.x0 .e)))),
    .s (.x2 (.x0 .e)) (.asg (.t (.xb (.x8 .e))))])
  .ret)))))))))))
def e63 : EF := { depth := 2, nargs := 1, results := [.t (.x2 (.x0 .e))], body := b63 }

/-- forecourt/pole.round -/
def b64 : EC :=
  (.seq (.ops [.s (.x1 .e) (.box (.t (.x0 .e))),
    .s (.x2 .e) (.asg (.c (V.nilslice)))])
  (.seq (.ops [.s (.x4 .e) (.ld (some 2) (.t (.x1 .e))),
    .s (.x5 .e) (.call 63 [(.t (.x4 .e))]),
    .s (.x3 .e) (.asg (.t (.x5 .e)))])
  (.seq (.ops [.s (.x6 .e) (.mv (.t (.x3 .e))),
    .s (.x7 .e) (.call 67 [(.t (.x6 .e))])])
  (.seq (.ops [.s (.x8 .e) (.mv (.t (.x3 .e))),
    .s (.x9 .e) (.call 68 [(.t (.x8 .e))]),
    .s (.x2 .e) (.asg (.t (.x9 .e)))])
  .ret))))
def e64 : EF := { depth := 1, nargs := 1, results := [.t (.x2 .e)], body := b64 }

/-- (*forecourt/pole.book).broken -/
def b65 : EC :=
  (.seq (.ops [.s (.x4 (.x0 .e)) (.asg (.c (V.bool false)))])
  (.seq (.draw [0, 1, 2, 3, 4, 5, 6, 7, 8, 9, 10, 11, 12, 13, 14, 15] [0, 1, 3, 7, 0, 31, 63, 127, 0, 256, 768, 1792, 3840, 8191, 16383, 32767] [.s (.x5 (.x0 .e)) (.mv (.t (.x0 (.x0 .e)))),
    .s (.x6 (.x0 .e)) (.nilck (.t (.x5 (.x0 .e)))),
    .s (.x7 (.x0 .e)) (.fadr 2 (.t (.x6 (.x0 .e)))),
    .s (.x8 (.x0 .e)) (.ld none (.t (.x7 (.x0 .e)))),
    .s (.x9 (.x0 .e)) (.mv (.t (.x1 (.x0 .e)))),
    .s (.xa (.x0 .e)) (.ixs 3 (.t (.x8 (.x0 .e))) (.t (.x9 (.x0 .e)))),
    .s (.xb (.x0 .e)) (.fadr 2 (.t (.xa (.x0 .e)))),
    .s (.xc (.x0 .e)) (.ld none (.t (.xb (.x0 .e)))),
    .s (.xd (.x0 .e)) (.mv (.t (.x0 (.x0 .e)))),
    .s (.xe (.x0 .e)) (.nilck (.t (.xd (.x0 .e)))),
    .s (.xf (.x0 .e)) (.fadr 0 (.t (.xe (.x0 .e)))),
    .s (.x0 (.x1 .e)) (.fadr 0 (.t (.xf (.x0 .e)))),
    .s (.x1 (.x1 .e)) (.ld none (.t (.x0 (.x1 .e)))),
    .s (.x2 (.x1 .e)) (.bin .rem (.t (.xc (.x0 .e))) (.t (.x1 (.x1 .e)))),
    .s (.x3 (.x1 .e)) (.bin .neq (.t (.x2 (.x1 .e))) (.c (V.int .i64 0))),
    .s (.x4 (.x0 .e)) (.asg (.t (.x3 (.x1 .e))))])
  .ret))
def e65 : EF := { depth := 2, nargs := 2, results := [.t (.x4 (.x0 .e))], body := b65 }

/-- function 66, loop 0: live [3, 7, 9, 46, 47, 48] -/
def M66_0 : List Pth := [(.x3 (.x0 .e)), (.x7 (.x0 .e)), (.x9 (.x0 .e)), (.xe (.x2 .e)), (.xf (.x2 .e)), (.x0 (.x3 .e))]
def L66_0 : EC :=
  (.seq (.ops [.s (.x1 (.x3 .e)) (.bin .lss (.t (.x0 (.x3 .e))) (.t (.xf (.x2 .e))))])
  (.seq (.cond (.t (.x1 (.x3 .e)))
  .skip
  (.exit 0))
  (.seq (.blk 1 [(.x3 (.x0 .e)), (.x7 (.x0 .e)), (.x9 (.x0 .e)), (.xe (.x2 .e)), (.xf (.x2 .e)), (.x0 (.x3 .e))]
  (.seq (.ops [.s (.x2 (.x3 .e)) (.ixs 3 (.t (.xe (.x2 .e))) (.t (.x0 (.x3 .e)))),
    .s (.x3 (.x3 .e)) (.ld (some 3) (.t (.x2 (.x3 .e)))),
    .s (.xb (.x0 .e)) (.alloc [V.int .i64 0, V.int .i64 0, V.int .i64 0]),
    .u (.st (some 3) (.t (.xb (.x0 .e))) (.t (.x3 (.x3 .e))))])
  (.seq (.ops [.s (.x4 (.x3 .e)) (.ld none (.t (.x7 (.x0 .e)))),
    .s (.x5 (.x3 .e)) (.ld (some 3) (.t (.xb (.x0 .e)))),
    .s (.x6 (.x3 .e)) (.calld (.t (.x4 (.x3 .e))) [(.t (.x5 (.x3 .e)))])])
  (.cond (.t (.x6 (.x3 .e)))
  (.draw [0, 1, 2, 3, 4, 5, 6, 7, 8, 9, 10, 11, 12, 13] [0, 1, 3, 7, 0, 16, 63, 127, 255, 0, 1023, 2047, 4095, 8191] [.s (.x7 (.x3 .e)) (.ld none (.t (.x3 (.x0 .e)))),
    .s (.x8 (.x3 .e)) (.nilck (.t (.x7 (.x3 .e)))),
    .s (.x9 (.x3 .e)) (.fadr 2 (.t (.x8 (.x3 .e)))),
    .s (.xa (.x3 .e)) (.ld none (.t (.x9 (.x3 .e)))),
    .s (.xb (.x3 .e)) (.fadr 0 (.t (.xb (.x0 .e)))),
    .s (.xc (.x3 .e)) (.ld none (.t (.xb (.x3 .e)))),
    .s (.xd (.x3 .e)) (.ixs 3 (.t (.xa (.x3 .e))) (.t (.xc (.x3 .e)))),
    .s (.xe (.x3 .e)) (.fadr 2 (.t (.xd (.x3 .e)))),
    .s (.xf (.x3 .e)) (.ld none (.t (.xe (.x3 .e)))),
    .s (.x0 (.x4 .e)) (.mv (.t (.x9 (.x0 .e)))),
    .s (.x1 (.x4 .e)) (.bin .add (.t (.xf (.x3 .e))) (.t (.x0 (.x4 .e)))),
    .s (.x2 (.x4 .e)) (.ixs 3 (.t (.xa (.x3 .e))) (.t (.xc (.x3 .e)))),
    .s (.x3 (.x4 .e)) (.fadr 2 (.t (.x2 (.x4 .e)))),
    .u (.st none (.t (.x3 (.x4 .e))) (.t (.x1 (.x4 .e))))])
  (.draw [0, 1, 2, 3, 4, 5, 6, 7, 8, 9, 10, 11, 12, 13] [0, 1, 3, 7, 0, 16, 63, 127, 255, 0, 1023, 2047, 4095, 8191] [.s (.x4 (.x4 .e)) (.ld none (.t (.x3 (.x0 .e)))),
    .s (.x5 (.x4 .e)) (.nilck (.t (.x4 (.x4 .e)))),
    .s (.x6 (.x4 .e)) (.fadr 2 (.t (.x5 (.x4 .e)))),
    .s (.x7 (.x4 .e)) (.ld none (.t (.x6 (.x4 .e)))),
    .s (.x8 (.x4 .e)) (.fadr 0 (.t (.xb (.x0 .e)))),
    .s (.x9 (.x4 .e)) (.ld none (.t (.x8 (.x4 .e)))),
    .s (.xa (.x4 .e)) (.ixs 3 (.t (.x7 (.x4 .e))) (.t (.x9 (.x4 .e)))),
    .s (.xb (.x4 .e)) (.fadr 2 (.t (.xa (.x4 .e)))),
    .s (.xc (.x4 .e)) (.ld none (.t (.xb (.x4 .e)))),
    .s (.xd (.x4 .e)) (.mv (.t (.x9 (.x0 .e)))),
    .s (.xe (.x4 .e)) (.bin .sub (.t (.xc (.x4 .e))) (.t (.xd (.x4 .e)))),
    .s (.xf (.x4 .e)) (.ixs 3 (.t (.x7 (.x4 .e))) (.t (.x9 (.x4 .e)))),
    .s (.x0 (.x5 .e)) (.fadr 2 (.t (.xf (.x4 .e)))),
    .u (.st none (.t (.x0 (.x5 .e))) (.t (.xe (.x4 .e))))])))))
  (.ops [.s (.x1 (.x5 .e)) (.bin .add (.t (.x0 (.x3 .e))) (.c (V.int .i64 1))),
    .s (.x0 (.x3 .e)) (.mv (.t (.x1 (.x5 .e))))]))))
/-- (*forecourt/pole.book).push -/
def b66 : EC :=
  (.seq (.ops [.s (.x3 (.x0 .e)) (.box (.t (.x0 (.x0 .e)))),
    .s (.x5 (.x0 .e)) (.box (.t (.x2 (.x0 .e))))])
  (.seq (.draw [0, 1, 2, 3, 4, 5, 6, 7, 8, 9, 10, 11, 12, 13, 14, 15, 16, 17, 18, 19, 20, 21, 22, 23] [0, 0, 2, 6, 14, 0, 62, 126, 254, 0, 512, 1536, 3584, 0, 15872, 32256, 65024, 131071, 262143, 0, 0, 1572864, 4194303, 8388607] [.s (.xc (.x0 .e)) (.mv (.t (.x1 (.x0 .e)))),
    .s (.xd (.x0 .e)) (.ld none (.t (.x3 (.x0 .e)))),
    .s (.xe (.x0 .e)) (.nilck (.t (.xd (.x0 .e)))),
    .s (.xf (.x0 .e)) (.fadr 2 (.t (.xe (.x0 .e)))),
    .s (.x0 (.x1 .e)) (.ld none (.t (.xf (.x0 .e)))),
    .s (.x1 (.x1 .e)) (.mv (.t (.x1 (.x0 .e)))),
    .s (.x2 (.x1 .e)) (.ixs 3 (.t (.x0 (.x1 .e))) (.t (.x1 (.x1 .e)))),
    .s (.x3 (.x1 .e)) (.fadr 0 (.t (.x2 (.x1 .e)))),
    .s (.x4 (.x1 .e)) (.ld none (.t (.x3 (.x1 .e)))),
    .s (.x5 (.x1 .e)) (.ld none (.t (.x3 (.x0 .e)))),
    .s (.x6 (.x1 .e)) (.nilck (.t (.x5 (.x1 .e)))),
    .s (.x7 (.x1 .e)) (.fadr 2 (.t (.x6 (.x1 .e)))),
    .s (.x8 (.x1 .e)) (.ld none (.t (.x7 (.x1 .e)))),
    .s (.x9 (.x1 .e)) (.mv (.t (.x1 (.x0 .e)))),
    .s (.xa (.x1 .e)) (.ixs 3 (.t (.x8 (.x1 .e))) (.t (.x9 (.x1 .e)))),
    .s (.xb (.x1 .e)) (.fadr 1 (.t (.xa (.x1 .e)))),
    .s (.xc (.x1 .e)) (.ld none (.t (.xb (.x1 .e)))),
    .s (.xd (.x1 .e)) (.build [V.int .i64 0, V.int .i64 0, V.int .i64 0] [(0, 1, (.t (.xc (.x0 .e)))), (1, 1, (.t (.x4 (.x1 .e)))), (2, 1, (.t (.xc (.x1 .e))))]),
    .s (.xe (.x1 .e)) (.bslice 3 1 [V.int .i64 0, V.int .i64 0, V.int .i64 0] [(0, (.t (.xd (.x1 .e))))]),
    .s (.xf (.x1 .e)) (.ld none (.t (.x3 (.x0 .e)))),
    .s (.x0 (.x2 .e)) (.mv (.t (.x1 (.x0 .e)))),
    .s (.x1 (.x2 .e)) (.call 80 [(.t (.xf (.x1 .e))), (.t (.x0 (.x2 .e)))]),
    .s (.x2 (.x2 .e)) (.app 3 24 (.t (.xe (.x1 .e))) (.t (.x1 (.x2 .e)))),
    .s (.x6 (.x0 .e)) (.asg (.t (.x2 (.x2 .e))))])
  (.seq (.ops [.s (.x3 (.x2 .e)) (.mkfn 81 [] [(.t (.x3 (.x0 .e))), (.t (.x5 (.x0 .e)))]),
    .s (.x7 (.x0 .e)) (.alloc [V.nilfunc]),
    .u (.st none (.t (.x7 (.x0 .e))) (.t (.x3 (.x2 .e))))])
  (.seq (.ops [.s (.x4 (.x2 .e)) (.mv (.t (.x6 (.x0 .e)))),
    .s (.x5 (.x2 .e)) (.mkfn 83 [] [(.t (.x3 (.x0 .e))), (.t (.x7 (.x0 .e)))]),
    .s (.x6 (.x2 .e)) (.call 82 [(.t (.x4 (.x2 .e))), (.t (.x5 (.x2 .e)))]),
    .s (.x8 (.x0 .e)) (.alloc [V.int .i64 0, V.int .i64 0, V.int .i64 0]),
    .u (.st (some 3) (.t (.x8 (.x0 .e))) (.t (.x6 (.x2 .e))))])
  (.seq (.draw [0, 1, 2, 3, 4, 5, 6, 7] [0, 0, 2, 0, 0, 24, 63, 127] [.s (.x7 (.x2 .e)) (.ld none (.t (.x3 (.x0 .e)))),
    .s (.x8 (.x2 .e)) (.fadr 0 (.t (.x8 (.x0 .e)))),
    .s (.x9 (.x2 .e)) (.ld none (.t (.x8 (.x2 .e)))),
    .s (.xa (.x2 .e)) (.ld none (.t (.x7 (.x0 .e)))),
    .s (.xb (.x2 .e)) (.ld (some 3) (.t (.x8 (.x0 .e)))),
    .s (.xc (.x2 .e)) (.calld (.t (.xa (.x2 .e))) [(.t (.xb (.x2 .e)))]),
    .s (.xd (.x2 .e)) (.call 84 [(.t (.x7 (.x2 .e))), (.t (.x9 (.x2 .e))), (.t (.xc (.x2 .e)))]),
    .s (.x9 (.x0 .e)) (.asg (.t (.xd (.x2 .e))))])
  (.seq (.ops [.s (.xe (.x2 .e)) (.mv (.t (.x6 (.x0 .e)))),
    .s (.xf (.x2 .e)) (.len (.t (.xe (.x2 .e)))),
    .s (.x0 (.x3 .e)) (.mv (.c (V.int .i64 0)))])
  (.blk 0 []
  (.loop M66_0 L66_0))))))))
def e66 : EF := { depth := 2, nargs := 3, results := [], body := b66 }

/-- function 67, loop 1: live [0, 2, 3, 9, 10, 11] -/
def M67_1 : List Pth := [(.x0 (.x0 .e)), (.x2 (.x0 .e)), (.x3 (.x0 .e)), (.x9 (.x0 .e)), (.xa (.x0 .e)), (.xb (.x0 .e))]
def L67_1 : EC :=
  (.seq (.ops [.s (.xc (.x0 .e)) (.bin .lss (.t (.xb (.x0 .e))) (.t (.xa (.x0 .e))))])
  (.seq (.cond (.t (.xc (.x0 .e)))
  .skip
  (.exit 2))
  (.seq (.blk 3 [(.x0 (.x0 .e)), (.x2 (.x0 .e)), (.x3 (.x0 .e)), (.x9 (.x0 .e)), (.xa (.x0 .e)), (.xb (.x0 .e))]
  (.seq (.ops [.s (.xd (.x0 .e)) (.mv (.t (.xb (.x0 .e)))),
    .s (.xe (.x0 .e)) (.ixs 3 (.t (.x9 (.x0 .e))) (.t (.xb (.x0 .e)))),
    .s (.xf (.x0 .e)) (.ld (some 3) (.t (.xe (.x0 .e)))),
    .s (.x5 (.x0 .e)) (.alloc [V.int .i64 0, V.int .i64 0, V.int .i64 0]),
    .s (.x4 (.x0 .e)) (.asg (.t (.xd (.x0 .e)))),
    .u (.st (some 3) (.t (.x5 (.x0 .e))) (.t (.xf (.x0 .e))))])
  (.seq (.ops [.s (.x0 (.x1 .e)) (.mv (.t (.x0 (.x0 .e)))),
    .s (.x1 (.x1 .e)) (.mv (.t (.x4 (.x0 .e)))),
    .s (.x2 (.x1 .e)) (.call 65 [(.t (.x0 (.x1 .e))), (.t (.x1 (.x1 .e)))])])
  (.cond (.t (.x2 (.x1 .e)))
  (.seq (.ops [.s (.x3 (.x1 .e)) (.fadr 0 (.t (.x5 (.x0 .e)))),
    .s (.x4 (.x1 .e)) (.ld none (.t (.x3 (.x1 .e)))),
    .s (.x5 (.x1 .e)) (.ixa 14 1 (.t (.x2 (.x0 .e))) (.t (.x4 (.x1 .e)))),
    .s (.x6 (.x1 .e)) (.ld none (.t (.x5 (.x1 .e)))),
    .s (.x7 (.x1 .e)) (.bin .add (.t (.x6 (.x1 .e))) (.c (V.int .i64 1))),
    .s (.x8 (.x1 .e)) (.ixa 14 1 (.t (.x2 (.x0 .e))) (.t (.x4 (.x1 .e)))),
    .u (.st none (.t (.x8 (.x1 .e))) (.t (.x7 (.x1 .e))))])
  (.ops [.s (.x9 (.x1 .e)) (.mv (.t (.x4 (.x0 .e)))),
    .s (.x3 (.x0 .e)) (.asg (.t (.x9 (.x1 .e))))]))
  .skip))))
  (.ops [.s (.xa (.x1 .e)) (.bin .add (.t (.xb (.x0 .e))) (.c (V.int .i64 1))),
    .s (.xb (.x0 .e)) (.mv (.t (.xa (.x1 .e))))]))))
/-- function 67, loop 0: live [0] -/
def M67_0 : List Pth := [(.x0 (.x0 .e))]
def L67_0 : EC :=
  (.blk 1 [(.x0 (.x0 .e))]
  (.seq (.ops [.s (.x2 (.x0 .e)) (.alloc (List.replicate 14 (V.int .i64 0)))])
  (.seq (.ops [.s (.x3 (.x0 .e)) (.asg (.c (V.int .i64 (-1))))])
  (.seq (.seq (.ops [.s (.x6 (.x0 .e)) (.mv (.t (.x0 (.x0 .e)))),
    .s (.x7 (.x0 .e)) (.nilck (.t (.x6 (.x0 .e)))),
    .s (.x8 (.x0 .e)) (.fadr 2 (.t (.x7 (.x0 .e)))),
    .s (.x9 (.x0 .e)) (.ld none (.t (.x8 (.x0 .e)))),
    .s (.xa (.x0 .e)) (.len (.t (.x9 (.x0 .e)))),
    .s (.xb (.x0 .e)) (.mv (.c (V.int .i64 0)))])
  (.blk 2 [(.x0 (.x0 .e)), (.x2 (.x0 .e)), (.x3 (.x0 .e))]
  (.loop M67_1 L67_1)))
  (.seq (.seq (.ops [.s (.xb (.x1 .e)) (.ld (some 14) (.t (.x2 (.x0 .e)))),
    .s (.xc (.x1 .e)) (.build (List.replicate 14 (V.int .i64 0)) []),
    .s (.xd (.x1 .e)) (.eqa false [.int .i64, .int .i64, .int .i64, .int .i64, .int .i64, .int .i64, .int .i64, .int .i64, .int .i64, .int .i64, .int .i64, .int .i64, .int .i64, .int .i64] (.t (.xb (.x1 .e))) (.t (.xc (.x1 .e))))])
  (.cond (.t (.xd (.x1 .e)))
  .ret
  .skip))
  (.ops [.s (.xe (.x1 .e)) (.mv (.t (.x0 (.x0 .e)))),
    .s (.xf (.x1 .e)) (.mv (.t (.x3 (.x0 .e)))),
    .s (.x0 (.x2 .e)) (.call 66 [(.t (.xe (.x1 .e))), (.t (.xf (.x1 .e))), (.c (V.bool true))])]))))))
/-- (*forecourt/pole.book).settle -/
def b67 : EC :=
  (.blk 0 []
  (.loop M67_0 L67_0))
def e67 : EF := { depth := 2, nargs := 1, results := [], body := b67 }

/-- function 68, loop 1: live [0, 3, 4, 5, 6, 21, 22, 25, 26] -/
def M68_1 : List Pth := [(.x0 (.x0 .e)), (.x3 (.x0 .e)), (.x4 (.x0 .e)), (.x5 (.x0 .e)), (.x6 (.x0 .e)), (.x5 (.x1 .e)), (.x6 (.x1 .e)), (.x9 (.x1 .e)), (.xa (.x1 .e))]
def L68_1 : EC :=
  (.seq (.ops [.s (.xb (.x1 .e)) (.bin .lss (.t (.xa (.x1 .e))) (.t (.x9 (.x1 .e))))])
  (.seq (.cond (.t (.xb (.x1 .e)))
  .skip
  (.exit 2))
  (.seq (.blk 3 [(.x0 (.x0 .e)), (.x3 (.x0 .e)), (.x4 (.x0 .e)), (.x5 (.x0 .e)), (.x6 (.x0 .e)), (.x5 (.x1 .e)), (.x6 (.x1 .e)), (.x9 (.x1 .e)), (.xa (.x1 .e))]
  (.seq (.ops [.s (.xc (.x1 .e)) (.mv (.t (.xa (.x1 .e)))),
    .s (.x7 (.x0 .e)) (.asg (.t (.xc (.x1 .e))))])
  (.draw [0, 1, 2, 3, 4, 5, 6, 7, 8, 9, 10, 11, 12, 13, 14, 15, 16, 17, 18, 19, 20, 21] [0, 0, 2, 6, 14, 0, 0, 96, 0, 480, 1022, 2046, 4094, 0, 8192, 24576, 57344, 122880, 262142, 524286, 1048575, 2097151] [.s (.xd (.x1 .e)) (.mv (.t (.x6 (.x0 .e)))),
    .s (.xe (.x1 .e)) (.mv (.t (.x0 (.x0 .e)))),
    .s (.xf (.x1 .e)) (.nilck (.t (.xe (.x1 .e)))),
    .s (.x0 (.x2 .e)) (.fadr 2 (.t (.xf (.x1 .e)))),
    .s (.x1 (.x2 .e)) (.ld none (.t (.x0 (.x2 .e)))),
    .s (.x2 (.x2 .e)) (.mv (.t (.x5 (.x0 .e)))),
    .s (.x3 (.x2 .e)) (.mv (.t (.x4 (.x0 .e)))),
    .s (.x4 (.x2 .e)) (.bin .mul (.t (.x2 (.x2 .e))) (.t (.x3 (.x2 .e)))),
    .s (.x5 (.x2 .e)) (.mv (.t (.x7 (.x0 .e)))),
    .s (.x6 (.x2 .e)) (.bin .add (.t (.x4 (.x2 .e))) (.t (.x5 (.x2 .e)))),
    .s (.x7 (.x2 .e)) (.ixs 3 (.t (.x1 (.x2 .e))) (.t (.x6 (.x2 .e)))),
    .s (.x8 (.x2 .e)) (.fadr 2 (.t (.x7 (.x2 .e)))),
    .s (.x9 (.x2 .e)) (.ld none (.t (.x8 (.x2 .e)))),
    .s (.xa (.x2 .e)) (.mv (.t (.x0 (.x0 .e)))),
    .s (.xb (.x2 .e)) (.nilck (.t (.xa (.x2 .e)))),
    .s (.xc (.x2 .e)) (.fadr 0 (.t (.xb (.x2 .e)))),
    .s (.xd (.x2 .e)) (.fadr 0 (.t (.xc (.x2 .e)))),
    .s (.xe (.x2 .e)) (.ld none (.t (.xd (.x2 .e)))),
    .s (.xf (.x2 .e)) (.bin .quo (.t (.x9 (.x2 .e))) (.t (.xe (.x2 .e)))),
    .s (.x0 (.x3 .e)) (.bslice 1 1 [V.int .i64 0] [(0, (.t (.xf (.x2 .e))))]),
    .s (.x1 (.x3 .e)) (.app 1 8 (.t (.xd (.x1 .e))) (.t (.x0 (.x3 .e)))),
    .s (.x6 (.x0 .e)) (.asg (.t (.x1 (.x3 .e))))])))
  (.ops [.s (.x2 (.x3 .e)) (.bin .add (.t (.xa (.x1 .e))) (.c (V.int .i64 1))),
    .s (.xa (.x1 .e)) (.mv (.t (.x2 (.x3 .e))))]))))
/-- function 68, loop 0: live [0, 3, 4, 21, 22] -/
def M68_0 : List Pth := [(.x0 (.x0 .e)), (.x3 (.x0 .e)), (.x4 (.x0 .e)), (.x5 (.x1 .e)), (.x6 (.x1 .e))]
def L68_0 : EC :=
  (.seq (.ops [.s (.x7 (.x1 .e)) (.bin .lss (.t (.x6 (.x1 .e))) (.t (.x5 (.x1 .e))))])
  (.seq (.cond (.t (.x7 (.x1 .e)))
  .skip
  (.exit 0))
  (.seq (.blk 1 [(.x0 (.x0 .e)), (.x3 (.x0 .e)), (.x4 (.x0 .e)), (.x5 (.x1 .e)), (.x6 (.x1 .e))]
  (.seq (.ops [.s (.x8 (.x1 .e)) (.mv (.t (.x6 (.x1 .e)))),
    .s (.x5 (.x0 .e)) (.asg (.t (.x8 (.x1 .e))))])
  (.seq (.ops [.s (.x6 (.x0 .e)) (.asg (.c (V.nilslice)))])
  (.seq (.seq (.ops [.s (.x9 (.x1 .e)) (.mv (.t (.x4 (.x0 .e)))),
    .s (.xa (.x1 .e)) (.mv (.c (V.int .i64 0)))])
  (.blk 2 [(.x0 (.x0 .e)), (.x3 (.x0 .e)), (.x4 (.x0 .e)), (.x6 (.x0 .e)), (.x5 (.x1 .e)), (.x6 (.x1 .e))]
  (.loop M68_1 L68_1)))
  (.ops [.s (.x3 (.x3 .e)) (.mv (.t (.x3 (.x0 .e)))),
    .s (.x4 (.x3 .e)) (.mv (.t (.x6 (.x0 .e)))),
    .s (.x5 (.x3 .e)) (.bslice 1 1 [V.nilslice] [(0, (.t (.x4 (.x3 .e))))]),
    .s (.x6 (.x3 .e)) (.app 1 24 (.t (.x3 (.x3 .e))) (.t (.x5 (.x3 .e)))),
    .s (.x3 (.x0 .e)) (.asg (.t (.x6 (.x3 .e))))])))))
  (.ops [.s (.x7 (.x3 .e)) (.bin .add (.t (.x6 (.x1 .e))) (.c (V.int .i64 1))),
    .s (.x6 (.x1 .e)) (.mv (.t (.x7 (.x3 .e))))]))))
/-- (*forecourt/pole.book).coins -/
def b68 : EC :=
  (.seq (.ops [.s (.x2 (.x0 .e)) (.asg (.c (V.nilslice)))])
  (.seq (.ops [.s (.x3 (.x0 .e)) (.asg (.c (V.nilslice)))])
  (.seq (.ops [.s (.x8 (.x0 .e)) (.mv (.t (.x0 (.x0 .e)))),
    .s (.x9 (.x0 .e)) (.nilck (.t (.x8 (.x0 .e)))),
    .s (.xa (.x0 .e)) (.fadr 0 (.t (.x9 (.x0 .e)))),
    .s (.xb (.x0 .e)) (.fadr 1 (.t (.xa (.x0 .e)))),
    .s (.xc (.x0 .e)) (.ld none (.t (.xb (.x0 .e)))),
    .s (.xd (.x0 .e)) (.ixs 1 (.t (.xc (.x0 .e))) (.c (V.int .i64 0))),
    .s (.xe (.x0 .e)) (.ld none (.t (.xd (.x0 .e)))),
    .s (.xf (.x0 .e)) (.len (.t (.xe (.x0 .e)))),
    .s (.x4 (.x0 .e)) (.asg (.t (.xf (.x0 .e))))])
  (.seq (.seq (.ops [.s (.x0 (.x1 .e)) (.mv (.t (.x0 (.x0 .e)))),
    .s (.x1 (.x1 .e)) (.nilck (.t (.x0 (.x1 .e)))),
    .s (.x2 (.x1 .e)) (.fadr 0 (.t (.x1 (.x1 .e)))),
    .s (.x3 (.x1 .e)) (.fadr 1 (.t (.x2 (.x1 .e)))),
    .s (.x4 (.x1 .e)) (.ld none (.t (.x3 (.x1 .e)))),
    .s (.x5 (.x1 .e)) (.len (.t (.x4 (.x1 .e)))),
    .s (.x6 (.x1 .e)) (.mv (.c (V.int .i64 0)))])
  (.blk 0 [(.x3 (.x0 .e))]
  (.loop M68_0 L68_0)))
  (.seq (.ops [.s (.x8 (.x3 .e)) (.mv (.t (.x3 (.x0 .e)))),
    .s (.x2 (.x0 .e)) (.asg (.t (.x8 (.x3 .e))))])
  .ret)))))
def e68 : EF := { depth := 2, nargs := 1, results := [.t (.x2 (.x0 .e))], body := b68 }

/-- function 69, loop 0: live [3, 7, 8, 9] -/
def M69_0 : List Pth := [(.x3 (.x0 .e)), (.x7 (.x0 .e)), (.x8 (.x0 .e)), (.x9 (.x0 .e))]
def L69_0 : EC :=
  (.seq (.ops [.s (.xa (.x0 .e)) (.bin .lss (.t (.x9 (.x0 .e))) (.t (.x8 (.x0 .e))))])
  (.seq (.cond (.t (.xa (.x0 .e)))
  .skip
  (.exit 0))
  (.seq (.blk 1 [(.x3 (.x0 .e)), (.x7 (.x0 .e)), (.x8 (.x0 .e)), (.x9 (.x0 .e))]
  (.seq (.ops [.s (.xb (.x0 .e)) (.ixs 1 (.t (.x7 (.x0 .e))) (.t (.x9 (.x0 .e)))),
    .s (.xc (.x0 .e)) (.ld none (.t (.xb (.x0 .e)))),
    .s (.x5 (.x0 .e)) (.asg (.t (.xc (.x0 .e))))])
  (.seq (.ops [.s (.xd (.x0 .e)) (.mv (.t (.x5 (.x0 .e)))),
    .s (.xe (.x0 .e)) (.len (.t (.xd (.x0 .e)))),
    .s (.xf (.x0 .e)) (.mksl 1 8 [V.int .i64 0] (.t (.xe (.x0 .e))) (.t (.xe (.x0 .e)))),
    .s (.x6 (.x0 .e)) (.asg (.t (.xf (.x0 .e))))])
  (.seq (.ops [.s (.x0 (.x1 .e)) (.mv (.t (.x6 (.x0 .e)))),
    .s (.x1 (.x1 .e)) (.mv (.t (.x5 (.x0 .e)))),
    .s (.x2 (.x1 .e)) (.copy 1 (.t (.x0 (.x1 .e))) (.t (.x1 (.x1 .e))))])
  (.ops [.s (.x3 (.x1 .e)) (.mv (.t (.x3 (.x0 .e)))),
    .s (.x4 (.x1 .e)) (.mv (.t (.x6 (.x0 .e)))),
    .s (.x5 (.x1 .e)) (.bslice 1 1 [V.nilslice] [(0, (.t (.x4 (.x1 .e))))]),
    .s (.x6 (.x1 .e)) (.app 1 24 (.t (.x3 (.x1 .e))) (.t (.x5 (.x1 .e)))),
    .s (.x3 (.x0 .e)) (.asg (.t (.x6 (.x1 .e))))])))))
  (.ops [.s (.x7 (.x1 .e)) (.bin .add (.t (.x9 (.x0 .e))) (.c (V.int .i64 1))),
    .s (.x9 (.x0 .e)) (.mv (.t (.x7 (.x1 .e))))]))))
/-- forecourt/pole.copied -/
def b69 : EC :=
  (.seq (.ops [.s (.x2 (.x0 .e)) (.asg (.c (V.nilslice)))])
  (.seq (.ops [.s (.x3 (.x0 .e)) (.asg (.c (V.nilslice)))])
  (.seq (.seq (.ops [.s (.x7 (.x0 .e)) (.mv (.t (.x0 (.x0 .e)))),
    .s (.x8 (.x0 .e)) (.len (.t (.x7 (.x0 .e)))),
    .s (.x9 (.x0 .e)) (.mv (.c (V.int .i64 0)))])
  (.blk 0 [(.x3 (.x0 .e))]
  (.loop M69_0 L69_0)))
  (.seq (.ops [.s (.x8 (.x1 .e)) (.mv (.t (.x3 (.x0 .e)))),
    .s (.x2 (.x0 .e)) (.asg (.t (.x8 (.x1 .e))))])
  .ret))))
def e69 : EF := { depth := 2, nargs := 1, results := [.t (.x2 (.x0 .e))], body := b69 }

/-- function 70, loop 1: live [0, 3, 4, 9, 10, 11, 16, 17, 18] -/
def M70_1 : List Pth := [(.x0 (.x0 .e)), (.x3 (.x0 .e)), (.x4 (.x0 .e)), (.x9 (.x0 .e)), (.xa (.x0 .e)), (.xb (.x0 .e)), (.x0 (.x1 .e)), (.x1 (.x1 .e)), (.x2 (.x1 .e))]
def L70_1 : EC :=
  (.seq (.ops [.s (.x3 (.x1 .e)) (.bin .lss (.t (.x2 (.x1 .e))) (.t (.x1 (.x1 .e))))])
  (.seq (.cond (.t (.x3 (.x1 .e)))
  .skip
  (.exit 2))
  (.seq (.blk 3 [(.x0 (.x0 .e)), (.x3 (.x0 .e)), (.x4 (.x0 .e)), (.x9 (.x0 .e)), (.xa (.x0 .e)), (.xb (.x0 .e)), (.x0 (.x1 .e)), (.x1 (.x1 .e)), (.x2 (.x1 .e))]
  (.seq (.ops [.s (.x4 (.x1 .e)) (.mv (.t (.x2 (.x1 .e)))),
    .s (.x5 (.x1 .e)) (.ixs 1 (.t (.x0 (.x1 .e))) (.t (.x2 (.x1 .e)))),
    .s (.x6 (.x1 .e)) (.ld none (.t (.x5 (.x1 .e)))),
    .s (.x6 (.x0 .e)) (.asg (.t (.x4 (.x1 .e)))),
    .s (.x7 (.x0 .e)) (.asg (.t (.x6 (.x1 .e))))])
  (.draw [0, 1, 2, 3, 4, 5, 6, 7, 8, 9, 10, 11, 12, 13] [0, 0, 3, 7, 0, 31, 63, 0, 128, 0, 896, 2047, 4095, 8191] [.s (.x7 (.x1 .e)) (.mv (.t (.x0 (.x0 .e)))),
    .s (.x8 (.x1 .e)) (.mv (.t (.x4 (.x0 .e)))),
    .s (.x9 (.x1 .e)) (.ixs 1 (.t (.x7 (.x1 .e))) (.t (.x8 (.x1 .e)))),
    .s (.xa (.x1 .e)) (.ld none (.t (.x9 (.x1 .e)))),
    .s (.xb (.x1 .e)) (.mv (.t (.x6 (.x0 .e)))),
    .s (.xc (.x1 .e)) (.ixs 1 (.t (.xa (.x1 .e))) (.t (.xb (.x1 .e)))),
    .s (.xd (.x1 .e)) (.ld none (.t (.xc (.x1 .e)))),
    .s (.xe (.x1 .e)) (.fadr 0 (.t (.x3 (.x0 .e)))),
    .s (.xf (.x1 .e)) (.ld none (.t (.xe (.x1 .e)))),
    .s (.x0 (.x2 .e)) (.mv (.t (.x7 (.x0 .e)))),
    .s (.x1 (.x2 .e)) (.bin .mul (.t (.xf (.x1 .e))) (.t (.x0 (.x2 .e)))),
    .s (.x2 (.x2 .e)) (.bin .sub (.t (.xd (.x1 .e))) (.t (.x1 (.x2 .e)))),
    .s (.x3 (.x2 .e)) (.ixs 1 (.t (.xa (.x1 .e))) (.t (.xb (.x1 .e)))),
    .u (.st none (.t (.x3 (.x2 .e))) (.t (.x2 (.x2 .e))))])))
  (.ops [.s (.x4 (.x2 .e)) (.bin .add (.t (.x2 (.x1 .e))) (.c (V.int .i64 1))),
    .s (.x2 (.x1 .e)) (.mv (.t (.x4 (.x2 .e))))]))))
/-- function 70, loop 0: live [0, 3, 9, 10, 11] -/
def M70_0 : List Pth := [(.x0 (.x0 .e)), (.x3 (.x0 .e)), (.x9 (.x0 .e)), (.xa (.x0 .e)), (.xb (.x0 .e))]
def L70_0 : EC :=
  (.seq (.ops [.s (.xc (.x0 .e)) (.bin .lss (.t (.xb (.x0 .e))) (.t (.xa (.x0 .e))))])
  (.seq (.cond (.t (.xc (.x0 .e)))
  .skip
  (.exit 0))
  (.seq (.blk 1 [(.x0 (.x0 .e)), (.x3 (.x0 .e)), (.x9 (.x0 .e)), (.xa (.x0 .e)), (.xb (.x0 .e))]
  (.seq (.ops [.s (.xd (.x0 .e)) (.mv (.t (.xb (.x0 .e)))),
    .s (.xe (.x0 .e)) (.ixs 1 (.t (.x9 (.x0 .e))) (.t (.xb (.x0 .e)))),
    .s (.xf (.x0 .e)) (.ld none (.t (.xe (.x0 .e)))),
    .s (.x4 (.x0 .e)) (.asg (.t (.xd (.x0 .e)))),
    .s (.x5 (.x0 .e)) (.asg (.t (.xf (.x0 .e))))])
  (.seq (.ops [.s (.x0 (.x1 .e)) (.mv (.t (.x5 (.x0 .e)))),
    .s (.x1 (.x1 .e)) (.len (.t (.x0 (.x1 .e)))),
    .s (.x2 (.x1 .e)) (.mv (.c (V.int .i64 0)))])
  (.blk 2 [(.x0 (.x0 .e)), (.x3 (.x0 .e)), (.x9 (.x0 .e)), (.xa (.x0 .e)), (.xb (.x0 .e))]
  (.loop M70_1 L70_1)))))
  (.ops [.s (.x5 (.x2 .e)) (.bin .add (.t (.xb (.x0 .e))) (.c (V.int .i64 1))),
    .s (.xb (.x0 .e)) (.mv (.t (.x5 (.x2 .e))))]))))
/-- forecourt/pole.take -/
def b70 : EC :=
  (.seq (.ops [.s (.x3 (.x0 .e)) (.box (.t (.x1 (.x0 .e))))])
  (.seq (.ops [.s (.x8 (.x0 .e)) (.fadr 1 (.t (.x3 (.x0 .e)))),
    .s (.x9 (.x0 .e)) (.ld none (.t (.x8 (.x0 .e)))),
    .s (.xa (.x0 .e)) (.len (.t (.x9 (.x0 .e)))),
    .s (.xb (.x0 .e)) (.mv (.c (V.int .i64 0)))])
  (.blk 0 []
  (.loop M70_0 L70_0))))
def e70 : EF := { depth := 2, nargs := 2, results := [], body := b70 }

/-- slices.ContainsFunc[[]int64,int64] -/
def b71 : EC :=
  (.seq (.ops [.s (.x4 .e) (.asg (.c (V.bool false)))])
  (.seq (.ops [.s (.x5 .e) (.mv (.t (.x0 .e))),
    .s (.x6 .e) (.mv (.t (.x1 .e))),
    .s (.x7 .e) (.call 56 [(.t (.x5 .e)), (.t (.x6 .e))]),
    .s (.x8 .e) (.bin .geq (.t (.x7 .e)) (.c (V.int .i64 0))),
    .s (.x4 .e) (.asg (.t (.x8 .e)))])
  .ret))
def e71 : EF := { depth := 1, nargs := 2, results := [.t (.x4 .e)], body := b71 }

/-- forecourt/pole.within$1 -/
def b72 : EC :=
  (.seq (.ops [.s (.x4 .e) (.asg (.c (V.bool false)))])
  (.seq (.ops [.s (.x5 .e) (.mv (.t (.x0 .e))),
    .s (.x6 .e) (.ld none (.t (.x1 .e))),
    .s (.x7 .e) (.bin .lss (.t (.x5 .e)) (.t (.x6 .e))),
    .s (.x8 .e) (.mv (.t (.x7 .e))),
    .g (.x8 .e) false (.x9 .e) (.mv (.t (.x0 .e))),
    .g (.x8 .e) false (.xa .e) (.ld none (.t (.x2 .e))),
    .g (.x8 .e) false (.xb .e) (.bin .gtr (.t (.x9 .e)) (.t (.xa .e))),
    .s (.xc .e) (.pick (.t (.x8 .e)) (.c (V.bool true)) (.t (.xb .e))),
    .s (.x4 .e) (.asg (.t (.xc .e)))])
  .ret))
def e72 : EF := { depth := 1, nargs := 3, results := [.t (.x4 .e)], body := b72 }

/-- function 73, loop 0: live [1, 4, 5, 12, 13, 14] -/
def M73_0 : List Pth := [(.x1 (.x0 .e)), (.x4 (.x0 .e)), (.x5 (.x0 .e)), (.xc (.x0 .e)), (.xd (.x0 .e)), (.xe (.x0 .e))]
def L73_0 : EC :=
  (.seq (.ops [.s (.xf (.x0 .e)) (.bin .lss (.t (.xe (.x0 .e))) (.t (.xd (.x0 .e))))])
  (.seq (.cond (.t (.xf (.x0 .e)))
  .skip
  (.exit 0))
  (.seq (.blk 1 [(.x1 (.x0 .e)), (.x4 (.x0 .e)), (.x5 (.x0 .e)), (.xc (.x0 .e)), (.xd (.x0 .e)), (.xe (.x0 .e))]
  (.seq (.ops [.s (.x0 (.x1 .e)) (.ixs 2 (.t (.xc (.x0 .e))) (.t (.xe (.x0 .e)))),
    .s (.x1 (.x1 .e)) (.ld (some 2) (.t (.x0 (.x1 .e)))),
    .s (.x7 (.x0 .e)) (.alloc [V.int .i64 0, V.int .i64 0]),
    .u (.st (some 2) (.t (.x7 (.x0 .e))) (.t (.x1 (.x1 .e))))])
  (.seq (.draw [0, 1, 3, 4, 2, 5, 6] [0, 0, 0, 0, 3, 31, 63] [.s (.x2 (.x1 .e)) (.mv (.t (.x1 (.x0 .e)))),
    .s (.x3 (.x1 .e)) (.ld (some 2) (.t (.x7 (.x0 .e)))),
    .s (.x5 (.x1 .e)) (.mv (.t (.x1 (.x0 .e)))),
    .s (.x6 (.x1 .e)) (.ld (some 2) (.t (.x5 (.x0 .e)))),
    .s (.x4 (.x1 .e)) (.calld (.t (.x2 (.x1 .e))) [(.t (.x3 (.x1 .e)))]),
    .s (.x7 (.x1 .e)) (.calld (.t (.x5 (.x1 .e))) [(.t (.x6 (.x1 .e)))]),
    .s (.x8 (.x1 .e)) (.bin .lss (.t (.x4 (.x1 .e))) (.t (.x7 (.x1 .e))))])
  (.cond (.t (.x8 (.x1 .e)))
  (.ops [.s (.x9 (.x1 .e)) (.ld (some 2) (.t (.x7 (.x0 .e)))),
    .u (.st (some 2) (.t (.x5 (.x0 .e))) (.t (.x9 (.x1 .e))))])
  .skip))))
  (.ops [.s (.xa (.x1 .e)) (.bin .add (.t (.xe (.x0 .e))) (.c (V.int .i64 1))),
    .s (.xe (.x0 .e)) (.mv (.t (.xa (.x1 .e))))]))))
/-- forecourt/pole.least[forecourt/api.PolePrice] -/
def b73 : EC :=
  (.seq (.ops [.s (.x4 (.x0 .e)) (.alloc [V.int .i64 0, V.int .i64 0])])
  (.seq (.ops [.s (.x8 (.x0 .e)) (.mv (.t (.x0 (.x0 .e)))),
    .s (.x9 (.x0 .e)) (.ixs 2 (.t (.x8 (.x0 .e))) (.c (V.int .i64 0))),
    .s (.xa (.x0 .e)) (.ld (some 2) (.t (.x9 (.x0 .e)))),
    .s (.x5 (.x0 .e)) (.alloc [V.int .i64 0, V.int .i64 0]),
    .u (.st (some 2) (.t (.x5 (.x0 .e))) (.t (.xa (.x0 .e))))])
  (.seq (.seq (.ops [.s (.xb (.x0 .e)) (.mv (.t (.x0 (.x0 .e)))),
    .s (.xc (.x0 .e)) (.slc 2 (.t (.xb (.x0 .e))) (some (.c (V.int .i64 1))) none none),
    .s (.xd (.x0 .e)) (.len (.t (.xc (.x0 .e)))),
    .s (.xe (.x0 .e)) (.mv (.c (V.int .i64 0)))])
  (.blk 0 [(.x4 (.x0 .e)), (.x5 (.x0 .e))]
  (.loop M73_0 L73_0)))
  (.seq (.ops [.s (.xb (.x1 .e)) (.ld (some 2) (.t (.x5 (.x0 .e)))),
    .u (.st (some 2) (.t (.x4 (.x0 .e))) (.t (.xb (.x1 .e))))])
  .ret))))
def e73 : EF := { depth := 2, nargs := 2, results := [.cell (.x4 (.x0 .e)) (some 2)], body := b73 }

/-- forecourt/pole.fair$1 -/
def b74 : EC :=
  (.seq (.ops [.s (.x1 .e) (.box (.t (.x0 .e))),
    .s (.x2 .e) (.asg (.c (V.int .i64 0)))])
  (.seq (.ops [.s (.x3 .e) (.fadr 1 (.t (.x1 .e))),
    .s (.x4 .e) (.ld none (.t (.x3 .e))),
    .s (.x2 .e) (.asg (.t (.x4 .e)))])
  .ret))
def e74 : EF := { depth := 1, nargs := 1, results := [.t (.x2 .e)], body := b74 }

/-- function 75, loop 0: live [0, 1, 7, 8] -/
def M75_0 : List Pth := [(.x0 (.x0 .e)), (.x1 (.x0 .e)), (.x7 (.x0 .e)), (.x8 (.x0 .e))]
def L75_0 : EC :=
  (.seq (.ops [.s (.x9 (.x0 .e)) (.bin .lss (.t (.x8 (.x0 .e))) (.t (.x7 (.x0 .e))))])
  (.seq (.cond (.t (.x9 (.x0 .e)))
  .skip
  (.exit 0))
  (.seq (.blk 1 [(.x0 (.x0 .e)), (.x1 (.x0 .e)), (.x7 (.x0 .e)), (.x8 (.x0 .e))]
  (.seq (.ops [.s (.xa (.x0 .e)) (.mv (.t (.x8 (.x0 .e)))),
    .s (.x5 (.x0 .e)) (.asg (.t (.xa (.x0 .e))))])
  (.seq (.ops [.s (.xb (.x0 .e)) (.mv (.t (.x1 (.x0 .e)))),
    .s (.xc (.x0 .e)) (.mv (.t (.x0 (.x0 .e)))),
    .s (.xd (.x0 .e)) (.mv (.t (.x5 (.x0 .e)))),
    .s (.xe (.x0 .e)) (.ixs 2 (.t (.xc (.x0 .e))) (.t (.xd (.x0 .e)))),
    .s (.xf (.x0 .e)) (.ld (some 2) (.t (.xe (.x0 .e)))),
    .s (.x0 (.x1 .e)) (.calld (.t (.xb (.x0 .e))) [(.t (.xf (.x0 .e)))])])
  (.cond (.t (.x0 (.x1 .e)))
  (.seq (.ops [.s (.x1 (.x1 .e)) (.mv (.t (.x5 (.x0 .e)))),
    .s (.x4 (.x0 .e)) (.asg (.t (.x1 (.x1 .e))))])
  .ret)
  .skip))))
  (.ops [.s (.x2 (.x1 .e)) (.bin .add (.t (.x8 (.x0 .e))) (.c (V.int .i64 1))),
    .s (.x8 (.x0 .e)) (.mv (.t (.x2 (.x1 .e))))]))))
/-- slices.IndexFunc[[]forecourt/api.PolePrice,forecourt/api.PolePrice] -/
def b75 : EC :=
  (.seq (.ops [.s (.x4 (.x0 .e)) (.asg (.c (V.int .i64 0)))])
  (.seq (.seq (.ops [.s (.x6 (.x0 .e)) (.mv (.t (.x0 (.x0 .e)))),
    .s (.x7 (.x0 .e)) (.len (.t (.x6 (.x0 .e)))),
    .s (.x8 (.x0 .e)) (.mv (.c (V.int .i64 0)))])
  (.blk 0 []
  (.loop M75_0 L75_0)))
  (.seq (.ops [.s (.x4 (.x0 .e)) (.asg (.c (V.int .i64 (-1))))])
  .ret)))
def e75 : EF := { depth := 2, nargs := 2, results := [.t (.x4 (.x0 .e))], body := b75 }

/-- function 76, loop 1: live [0, 3, 4, 5] -/
def M76_1 : List Pth := [(.x0 (.x0 .e)), (.x3 (.x0 .e)), (.x4 (.x0 .e)), (.x5 (.x0 .e))]
def L76_1 : EC :=
  (.seq (.seq (.ops [.s (.xd (.x1 .e)) (.mv (.t (.x5 (.x0 .e)))),
    .s (.xe (.x1 .e)) (.mv (.t (.x4 (.x0 .e)))),
    .s (.xf (.x1 .e)) (.len (.t (.xe (.x1 .e)))),
    .s (.x0 (.x2 .e)) (.bin .lss (.t (.xd (.x1 .e))) (.t (.xf (.x1 .e))))])
  (.cond (.t (.x0 (.x2 .e)))
  .skip
  (.exit 2)))
  (.seq (.blk 3 [(.x0 (.x0 .e)), (.x3 (.x0 .e)), (.x4 (.x0 .e)), (.x5 (.x0 .e))]
  (.seq (.draw [0, 1, 2, 3, 4, 5, 6, 7, 8, 9] [0, 0, 3, 7, 0, 0, 32, 112, 240, 511] [.s (.x3 (.x2 .e)) (.mv (.t (.x4 (.x0 .e)))),
    .s (.x4 (.x2 .e)) (.mv (.t (.x5 (.x0 .e)))),
    .s (.x5 (.x2 .e)) (.ixs 1 (.t (.x3 (.x2 .e))) (.t (.x4 (.x2 .e)))),
    .s (.x6 (.x2 .e)) (.ld none (.t (.x5 (.x2 .e)))),
    .s (.x7 (.x2 .e)) (.mv (.t (.x4 (.x0 .e)))),
    .s (.x8 (.x2 .e)) (.mv (.t (.x5 (.x0 .e)))),
    .s (.x9 (.x2 .e)) (.bin .sub (.t (.x8 (.x2 .e))) (.c (V.int .i64 1))),
    .s (.xa (.x2 .e)) (.ixs 1 (.t (.x7 (.x2 .e))) (.t (.x9 (.x2 .e)))),
    .s (.xb (.x2 .e)) (.ld none (.t (.xa (.x2 .e)))),
    .s (.xc (.x2 .e)) (.bin .neq (.t (.x6 (.x2 .e))) (.t (.xb (.x2 .e))))])
  (.cond (.t (.xc (.x2 .e)))
  (.seq (.ops [.s (.xd (.x2 .e)) (.mv (.t (.x0 (.x0 .e)))),
    .s (.xe (.x2 .e)) (.mv (.t (.x3 (.x0 .e)))),
    .s (.xf (.x2 .e)) (.mv (.t (.x4 (.x0 .e)))),
    .s (.x0 (.x3 .e)) (.mv (.t (.x5 (.x0 .e)))),
    .s (.x1 (.x3 .e)) (.ixs 1 (.t (.xf (.x2 .e))) (.t (.x0 (.x3 .e)))),
    .s (.x2 (.x3 .e)) (.ld none (.t (.x1 (.x3 .e)))),
    .s (.x3 (.x3 .e)) (.ixs 1 (.t (.xd (.x2 .e))) (.t (.xe (.x2 .e)))),
    .u (.st none (.t (.x3 (.x3 .e))) (.t (.x2 (.x3 .e))))])
  (.ops [.s (.x4 (.x3 .e)) (.mv (.t (.x3 (.x0 .e)))),
    .s (.x5 (.x3 .e)) (.bin .add (.t (.x4 (.x3 .e))) (.c (V.int .i64 1))),
    .s (.x3 (.x0 .e)) (.asg (.t (.x5 (.x3 .e))))]))
  .skip)))
  (.ops [.s (.x1 (.x2 .e)) (.mv (.t (.x5 (.x0 .e)))),
    .s (.x2 (.x2 .e)) (.bin .add (.t (.x1 (.x2 .e))) (.c (V.int .i64 1))),
    .s (.x5 (.x0 .e)) (.asg (.t (.x2 (.x2 .e))))])))
/-- function 76, loop 0: live [0, 3] -/
def M76_0 : List Pth := [(.x0 (.x0 .e)), (.x3 (.x0 .e))]
def L76_0 : EC :=
  (.seq (.seq (.ops [.s (.xa (.x0 .e)) (.mv (.t (.x3 (.x0 .e)))),
    .s (.xb (.x0 .e)) (.mv (.t (.x0 (.x0 .e)))),
    .s (.xc (.x0 .e)) (.len (.t (.xb (.x0 .e)))),
    .s (.xd (.x0 .e)) (.bin .lss (.t (.xa (.x0 .e))) (.t (.xc (.x0 .e))))])
  (.cond (.t (.xd (.x0 .e)))
  .skip
  (.exit 0)))
  (.seq (.blk 1 [(.x0 (.x0 .e)), (.x3 (.x0 .e))]
  (.seq (.draw [0, 1, 2, 3, 4, 5, 6, 7, 8, 9] [0, 0, 3, 7, 0, 0, 32, 112, 240, 511] [.s (.x0 (.x1 .e)) (.mv (.t (.x0 (.x0 .e)))),
    .s (.x1 (.x1 .e)) (.mv (.t (.x3 (.x0 .e)))),
    .s (.x2 (.x1 .e)) (.ixs 1 (.t (.x0 (.x1 .e))) (.t (.x1 (.x1 .e)))),
    .s (.x3 (.x1 .e)) (.ld none (.t (.x2 (.x1 .e)))),
    .s (.x4 (.x1 .e)) (.mv (.t (.x0 (.x0 .e)))),
    .s (.x5 (.x1 .e)) (.mv (.t (.x3 (.x0 .e)))),
    .s (.x6 (.x1 .e)) (.bin .sub (.t (.x5 (.x1 .e))) (.c (V.int .i64 1))),
    .s (.x7 (.x1 .e)) (.ixs 1 (.t (.x4 (.x1 .e))) (.t (.x6 (.x1 .e)))),
    .s (.x8 (.x1 .e)) (.ld none (.t (.x7 (.x1 .e)))),
    .s (.x9 (.x1 .e)) (.bin .eql (.t (.x3 (.x1 .e))) (.t (.x8 (.x1 .e))))])
  (.cond (.t (.x9 (.x1 .e)))
  (.seq (.ops [.s (.xa (.x1 .e)) (.mv (.t (.x0 (.x0 .e)))),
    .s (.xb (.x1 .e)) (.mv (.t (.x3 (.x0 .e)))),
    .s (.xc (.x1 .e)) (.slc 1 (.t (.xa (.x1 .e))) (some (.t (.xb (.x1 .e)))) none none),
    .s (.x4 (.x0 .e)) (.asg (.t (.xc (.x1 .e))))])
  (.seq (.seq (.ops [.s (.x5 (.x0 .e)) (.asg (.c (V.int .i64 1)))])
  (.blk 2 [(.x0 (.x0 .e)), (.x3 (.x0 .e))]
  (.loop M76_1 L76_1)))
  (.seq (.ops [.s (.x6 (.x3 .e)) (.mv (.t (.x0 (.x0 .e)))),
    .s (.x7 (.x3 .e)) (.mv (.t (.x3 (.x0 .e)))),
    .s (.x8 (.x3 .e)) (.slc 1 (.t (.x6 (.x3 .e))) (some (.t (.x7 (.x3 .e)))) none none),
    .u (.clear [V.int .i64 0] (.t (.x8 (.x3 .e))))])
  (.seq (.ops [.s (.x9 (.x3 .e)) (.mv (.t (.x0 (.x0 .e)))),
    .s (.xa (.x3 .e)) (.mv (.t (.x3 (.x0 .e)))),
    .s (.xb (.x3 .e)) (.slc 1 (.t (.x9 (.x3 .e))) none (some (.t (.xa (.x3 .e)))) none),
    .s (.x2 (.x0 .e)) (.asg (.t (.xb (.x3 .e))))])
  .ret))))
  .skip)))
  (.ops [.s (.xe (.x0 .e)) (.mv (.t (.x3 (.x0 .e)))),
    .s (.xf (.x0 .e)) (.bin .add (.t (.xe (.x0 .e))) (.c (V.int .i64 1))),
    .s (.x3 (.x0 .e)) (.asg (.t (.xf (.x0 .e))))])))
/-- slices.Compact[[]int64,int64] -/
def b76 : EC :=
  (.seq (.ops [.s (.x2 (.x0 .e)) (.asg (.c (V.nilslice)))])
  (.seq (.seq (.ops [.s (.x6 (.x0 .e)) (.mv (.t (.x0 (.x0 .e)))),
    .s (.x7 (.x0 .e)) (.len (.t (.x6 (.x0 .e)))),
    .s (.x8 (.x0 .e)) (.bin .lss (.t (.x7 (.x0 .e))) (.c (V.int .i64 2)))])
  (.cond (.t (.x8 (.x0 .e)))
  (.seq (.ops [.s (.x9 (.x0 .e)) (.mv (.t (.x0 (.x0 .e)))),
    .s (.x2 (.x0 .e)) (.asg (.t (.x9 (.x0 .e))))])
  .ret)
  .skip))
  (.seq (.seq (.ops [.s (.x3 (.x0 .e)) (.asg (.c (V.int .i64 1)))])
  (.blk 0 [(.x0 (.x0 .e))]
  (.loop M76_0 L76_0)))
  (.seq (.ops [.s (.xc (.x3 .e)) (.mv (.t (.x0 (.x0 .e)))),
    .s (.x2 (.x0 .e)) (.asg (.t (.xc (.x3 .e))))])
  .ret))))
def e76 : EF := { depth := 2, nargs := 1, results := [.t (.x2 (.x0 .e))], body := b76 }

/-- function 77, loop 0: live [0, 1, 2, 3, 8, 9] -/
def M77_0 : List Pth := [(.x0 (.x0 .e)), (.x1 (.x0 .e)), (.x2 (.x0 .e)), (.x3 (.x0 .e)), (.x8 (.x0 .e)), (.x9 (.x0 .e))]
def L77_0 : EC :=
  (.blk 1 [(.x0 (.x0 .e)), (.x1 (.x0 .e)), (.x2 (.x0 .e)), (.x3 (.x0 .e)), (.x8 (.x0 .e)), (.x9 (.x0 .e))]
  (.seq (.ops [.s (.x3 (.x1 .e)) (.mv (.t (.x2 (.x0 .e)))),
    .s (.x4 (.x1 .e)) (.mv (.t (.x1 (.x0 .e)))),
    .s (.x5 (.x1 .e)) (.bin .sub (.t (.x3 (.x1 .e))) (.t (.x4 (.x1 .e)))),
    .s (.xa (.x0 .e)) (.asg (.t (.x5 (.x1 .e))))])
  (.seq (.seq (.ops [.s (.x6 (.x1 .e)) (.mv (.t (.xa (.x0 .e)))),
    .s (.x7 (.x1 .e)) (.bin .leq (.t (.x6 (.x1 .e))) (.c (V.int .i64 12)))])
  (.cond (.t (.x7 (.x1 .e)))
  (.seq (.ops [.s (.x8 (.x1 .e)) (.mv (.t (.x0 (.x0 .e)))),
    .s (.x9 (.x1 .e)) (.mv (.t (.x1 (.x0 .e)))),
    .s (.xa (.x1 .e)) (.mv (.t (.x2 (.x0 .e)))),
    .s (.xb (.x1 .e)) (.call 85 [(.t (.x8 (.x1 .e))), (.t (.x9 (.x1 .e))), (.t (.xa (.x1 .e)))])])
  .ret)
  .skip))
  (.seq (.seq (.ops [.s (.xc (.x1 .e)) (.mv (.t (.x3 (.x0 .e)))),
    .s (.xd (.x1 .e)) (.bin .eql (.t (.xc (.x1 .e))) (.c (V.int .i64 0)))])
  (.cond (.t (.xd (.x1 .e)))
  (.seq (.ops [.s (.xe (.x1 .e)) (.mv (.t (.x0 (.x0 .e)))),
    .s (.xf (.x1 .e)) (.mv (.t (.x1 (.x0 .e)))),
    .s (.x0 (.x2 .e)) (.mv (.t (.x2 (.x0 .e)))),
    .s (.x1 (.x2 .e)) (.call 86 [(.t (.xe (.x1 .e))), (.t (.xf (.x1 .e))), (.t (.x0 (.x2 .e)))])])
  .ret)
  .skip))
  (.seq (.seq (.ops [.s (.x2 (.x2 .e)) (.mv (.t (.x8 (.x0 .e)))),
    .s (.x3 (.x2 .e)) (.un .not (.t (.x2 (.x2 .e))))])
  (.cond (.t (.x3 (.x2 .e)))
  (.seq (.ops [.s (.x4 (.x2 .e)) (.mv (.t (.x0 (.x0 .e)))),
    .s (.x5 (.x2 .e)) (.mv (.t (.x1 (.x0 .e)))),
    .s (.x6 (.x2 .e)) (.mv (.t (.x2 (.x0 .e)))),
    .s (.x7 (.x2 .e)) (.call 87 [(.t (.x4 (.x2 .e))), (.t (.x5 (.x2 .e))), (.t (.x6 (.x2 .e)))])])
  (.ops [.s (.x8 (.x2 .e)) (.mv (.t (.x3 (.x0 .e)))),
    .s (.x9 (.x2 .e)) (.bin .sub (.t (.x8 (.x2 .e))) (.c (V.int .i64 1))),
    .s (.x3 (.x0 .e)) (.asg (.t (.x9 (.x2 .e))))]))
  .skip))
  (.seq (.ops [.s (.xb (.x2 .e)) (.mv (.t (.x0 (.x0 .e)))),
    .s (.xc (.x2 .e)) (.mv (.t (.x1 (.x0 .e)))),
    .s (.xd (.x2 .e)) (.mv (.t (.x2 (.x0 .e)))),
    .s (.xe (.x2 .e)) (.call 88 [(.t (.xb (.x2 .e))), (.t (.xc (.x2 .e))), (.t (.xd (.x2 .e)))]),
    .s (.xa (.x2 .e)) (.mv (.t (.xe (.x2 .e)))),
    .s (.xf (.x2 .e)) (.ext (.t (.xa (.x2 .e))) 0),
    .s (.x0 (.x3 .e)) (.ext (.t (.xa (.x2 .e))) 1),
    .s (.xb (.x0 .e)) (.asg (.t (.xf (.x2 .e)))),
    .s (.xc (.x0 .e)) (.asg (.t (.x0 (.x3 .e))))])
  (.seq (.seq (.ops [.s (.x1 (.x3 .e)) (.mv (.t (.xc (.x0 .e)))),
    .s (.x2 (.x3 .e)) (.bin .eql (.t (.x1 (.x3 .e))) (.c (V.int .i64 2)))])
  (.cond (.t (.x2 (.x3 .e)))
  (.seq (.ops [.s (.x3 (.x3 .e)) (.mv (.t (.x0 (.x0 .e)))),
    .s (.x4 (.x3 .e)) (.mv (.t (.x1 (.x0 .e)))),
    .s (.x5 (.x3 .e)) (.mv (.t (.x2 (.x0 .e)))),
    .s (.x6 (.x3 .e)) (.call 89 [(.t (.x3 (.x3 .e))), (.t (.x4 (.x3 .e))), (.t (.x5 (.x3 .e)))])])
  (.seq (.ops [.s (.x7 (.x3 .e)) (.mv (.t (.x2 (.x0 .e)))),
    .s (.x8 (.x3 .e)) (.bin .sub (.t (.x7 (.x3 .e))) (.c (V.int .i64 1))),
    .s (.x9 (.x3 .e)) (.mv (.t (.xb (.x0 .e)))),
    .s (.xa (.x3 .e)) (.mv (.t (.x1 (.x0 .e)))),
    .s (.xb (.x3 .e)) (.bin .sub (.t (.x9 (.x3 .e))) (.t (.xa (.x3 .e)))),
    .s (.xc (.x3 .e)) (.bin .sub (.t (.x8 (.x3 .e))) (.t (.xb (.x3 .e)))),
    .s (.xb (.x0 .e)) (.asg (.t (.xc (.x3 .e))))])
  (.ops [.s (.xc (.x0 .e)) (.asg (.c (V.int .i64 1)))])))
  .skip))
  (.seq (.seq (.ops [.s (.xd (.x3 .e)) (.mv (.t (.x8 (.x0 .e)))),
    .s (.xe (.x3 .e)) (.mv (.t (.xd (.x3 .e)))),
    .g (.xe (.x3 .e)) true (.xf (.x3 .e)) (.mv (.t (.x9 (.x0 .e)))),
    .s (.x0 (.x4 .e)) (.pick (.t (.xe (.x3 .e))) (.t (.xf (.x3 .e))) (.c (V.bool false))),
    .s (.x1 (.x4 .e)) (.mv (.t (.x0 (.x4 .e)))),
    .g (.x1 (.x4 .e)) true (.x2 (.x4 .e)) (.mv (.t (.xc (.x0 .e)))),
    .g (.x1 (.x4 .e)) true (.x3 (.x4 .e)) (.bin .eql (.t (.x2 (.x4 .e))) (.c (V.int .i64 1))),
    .s (.x4 (.x4 .e)) (.pick (.t (.x1 (.x4 .e))) (.t (.x3 (.x4 .e))) (.c (V.bool false)))])
  (.cond (.t (.x4 (.x4 .e)))
  (.seq (.ops [.s (.x5 (.x4 .e)) (.mv (.t (.x0 (.x0 .e)))),
    .s (.x6 (.x4 .e)) (.mv (.t (.x1 (.x0 .e)))),
    .s (.x7 (.x4 .e)) (.mv (.t (.x2 (.x0 .e)))),
    .s (.x8 (.x4 .e)) (.call 90 [(.t (.x5 (.x4 .e))), (.t (.x6 (.x4 .e))), (.t (.x7 (.x4 .e)))])])
  (.cond (.t (.x8 (.x4 .e)))
  .ret
  .skip))
  .skip))
  (.seq (.seq (.draw [0, 1, 2, 3, 4, 5, 6, 7, 8, 9, 10, 11, 12, 13, 14] [0, 1, 3, 7, 7, 23, 63, 127, 7, 7, 775, 1799, 4095, 8191, 16383] [.s (.x9 (.x4 .e)) (.mv (.t (.x1 (.x0 .e)))),
    .s (.xa (.x4 .e)) (.bin .gtr (.t (.x9 (.x4 .e))) (.c (V.int .i64 0))),
    .s (.xb (.x4 .e)) (.mv (.t (.xa (.x4 .e)))),
    .g (.xb (.x4 .e)) true (.xc (.x4 .e)) (.mv (.t (.x0 (.x0 .e)))),
    .g (.xb (.x4 .e)) true (.xd (.x4 .e)) (.mv (.t (.x1 (.x0 .e)))),
    .g (.xb (.x4 .e)) true (.xe (.x4 .e)) (.bin .sub (.t (.xd (.x4 .e))) (.c (V.int .i64 1))),
    .g (.xb (.x4 .e)) true (.xf (.x4 .e)) (.ixs 1 (.t (.xc (.x4 .e))) (.t (.xe (.x4 .e)))),
    .g (.xb (.x4 .e)) true (.x0 (.x5 .e)) (.ld none (.t (.xf (.x4 .e)))),
    .g (.xb (.x4 .e)) true (.x1 (.x5 .e)) (.mv (.t (.x0 (.x0 .e)))),
    .g (.xb (.x4 .e)) true (.x2 (.x5 .e)) (.mv (.t (.xb (.x0 .e)))),
    .g (.xb (.x4 .e)) true (.x3 (.x5 .e)) (.ixs 1 (.t (.x1 (.x5 .e))) (.t (.x2 (.x5 .e)))),
    .g (.xb (.x4 .e)) true (.x4 (.x5 .e)) (.ld none (.t (.x3 (.x5 .e)))),
    .g (.xb (.x4 .e)) true (.x5 (.x5 .e)) (.call 91 [(.t (.x0 (.x5 .e))), (.t (.x4 (.x5 .e)))]),
    .g (.xb (.x4 .e)) true (.x6 (.x5 .e)) (.un .not (.t (.x5 (.x5 .e)))),
    .s (.x7 (.x5 .e)) (.pick (.t (.xb (.x4 .e))) (.t (.x6 (.x5 .e))) (.c (V.bool false)))])
  (.cond (.t (.x7 (.x5 .e)))
  (.seq (.ops [.s (.x8 (.x5 .e)) (.mv (.t (.x0 (.x0 .e)))),
    .s (.x9 (.x5 .e)) (.mv (.t (.x1 (.x0 .e)))),
    .s (.xa (.x5 .e)) (.mv (.t (.x2 (.x0 .e)))),
    .s (.xb (.x5 .e)) (.mv (.t (.xb (.x0 .e)))),
    .s (.xc (.x5 .e)) (.call 92 [(.t (.x8 (.x5 .e))), (.t (.x9 (.x5 .e))), (.t (.xa (.x5 .e))), (.t (.xb (.x5 .e)))]),
    .s (.xd (.x0 .e)) (.asg (.t (.xc (.x5 .e))))])
  (.seq (.ops [.s (.xd (.x5 .e)) (.mv (.t (.xd (.x0 .e)))),
    .s (.x1 (.x0 .e)) (.asg (.t (.xd (.x5 .e))))])
  (.exit 1)))
  .skip))
  (.seq (.ops [.s (.xf (.x5 .e)) (.mv (.t (.x0 (.x0 .e)))),
    .s (.x0 (.x6 .e)) (.mv (.t (.x1 (.x0 .e)))),
    .s (.x1 (.x6 .e)) (.mv (.t (.x2 (.x0 .e)))),
    .s (.x2 (.x6 .e)) (.mv (.t (.xb (.x0 .e)))),
    .s (.x3 (.x6 .e)) (.call 93 [(.t (.xf (.x5 .e))), (.t (.x0 (.x6 .e))), (.t (.x1 (.x6 .e))), (.t (.x2 (.x6 .e)))]),
    .s (.xe (.x5 .e)) (.mv (.t (.x3 (.x6 .e)))),
    .s (.x4 (.x6 .e)) (.ext (.t (.xe (.x5 .e))) 0),
    .s (.x5 (.x6 .e)) (.ext (.t (.xe (.x5 .e))) 1),
    .s (.xe (.x0 .e)) (.asg (.t (.x4 (.x6 .e)))),
    .s (.xf (.x0 .e)) (.asg (.t (.x5 (.x6 .e))))])
  (.seq (.ops [.s (.x6 (.x6 .e)) (.mv (.t (.xf (.x0 .e)))),
    .s (.x9 (.x0 .e)) (.asg (.t (.x6 (.x6 .e))))])
  (.seq (.ops [.s (.x7 (.x6 .e)) (.mv (.t (.xe (.x0 .e)))),
    .s (.x8 (.x6 .e)) (.mv (.t (.x1 (.x0 .e)))),
    .s (.x9 (.x6 .e)) (.bin .sub (.t (.x7 (.x6 .e))) (.t (.x8 (.x6 .e)))),
    .s (.xa (.x6 .e)) (.mv (.t (.x2 (.x0 .e)))),
    .s (.xb (.x6 .e)) (.mv (.t (.xe (.x0 .e)))),
    .s (.xc (.x6 .e)) (.bin .sub (.t (.xa (.x6 .e))) (.t (.xb (.x6 .e)))),
    .s (.x0 (.x1 .e)) (.asg (.t (.x9 (.x6 .e)))),
    .s (.x1 (.x1 .e)) (.asg (.t (.xc (.x6 .e))))])
  (.seq (.ops [.s (.xd (.x6 .e)) (.mv (.t (.xa (.x0 .e)))),
    .s (.xe (.x6 .e)) (.bin .quo (.t (.xd (.x6 .e))) (.c (V.int .i64 8))),
    .s (.x2 (.x1 .e)) (.asg (.t (.xe (.x6 .e))))])
  (.seq (.ops [.s (.xf (.x6 .e)) (.mv (.t (.x0 (.x1 .e)))),
    .s (.x0 (.x7 .e)) (.mv (.t (.x1 (.x1 .e)))),
    .s (.x1 (.x7 .e)) (.bin .lss (.t (.xf (.x6 .e))) (.t (.x0 (.x7 .e))))])
  (.cond (.t (.x1 (.x7 .e)))
  (.seq (.ops [.s (.x2 (.x7 .e)) (.mv (.t (.x0 (.x1 .e)))),
    .s (.x3 (.x7 .e)) (.mv (.t (.x2 (.x1 .e)))),
    .s (.x4 (.x7 .e)) (.bin .geq (.t (.x2 (.x7 .e))) (.t (.x3 (.x7 .e)))),
    .s (.x8 (.x0 .e)) (.asg (.t (.x4 (.x7 .e))))])
  (.seq (.ops [.s (.x5 (.x7 .e)) (.mv (.t (.x0 (.x0 .e)))),
    .s (.x6 (.x7 .e)) (.mv (.t (.x1 (.x0 .e)))),
    .s (.x7 (.x7 .e)) (.mv (.t (.xe (.x0 .e)))),
    .s (.x8 (.x7 .e)) (.mv (.t (.x3 (.x0 .e)))),
    .s (.x9 (.x7 .e)) (.call 77 [(.t (.x5 (.x7 .e))), (.t (.x6 (.x7 .e))), (.t (.x7 (.x7 .e))), (.t (.x8 (.x7 .e)))])])
  (.ops [.s (.xa (.x7 .e)) (.mv (.t (.xe (.x0 .e)))),
    .s (.xb (.x7 .e)) (.bin .add (.t (.xa (.x7 .e))) (.c (V.int .i64 1))),
    .s (.x1 (.x0 .e)) (.asg (.t (.xb (.x7 .e))))])))
  (.seq (.ops [.s (.xc (.x7 .e)) (.mv (.t (.x1 (.x1 .e)))),
    .s (.xd (.x7 .e)) (.mv (.t (.x2 (.x1 .e)))),
    .s (.xe (.x7 .e)) (.bin .geq (.t (.xc (.x7 .e))) (.t (.xd (.x7 .e)))),
    .s (.x8 (.x0 .e)) (.asg (.t (.xe (.x7 .e))))])
  (.seq (.ops [.s (.xf (.x7 .e)) (.mv (.t (.x0 (.x0 .e)))),
    .s (.x0 (.x8 .e)) (.mv (.t (.xe (.x0 .e)))),
    .s (.x1 (.x8 .e)) (.bin .add (.t (.x0 (.x8 .e))) (.c (V.int .i64 1))),
    .s (.x2 (.x8 .e)) (.mv (.t (.x2 (.x0 .e)))),
    .s (.x3 (.x8 .e)) (.mv (.t (.x3 (.x0 .e)))),
    .s (.x4 (.x8 .e)) (.call 77 [(.t (.xf (.x7 .e))), (.t (.x1 (.x8 .e))), (.t (.x2 (.x8 .e))), (.t (.x3 (.x8 .e)))])])
  (.ops [.s (.x5 (.x8 .e)) (.mv (.t (.xe (.x0 .e)))),
    .s (.x2 (.x0 .e)) (.asg (.t (.x5 (.x8 .e))))]))))))))))))))))))
/-- slices.pdqsortOrdered[int64] -/
def b77 : EC :=
  (.seq (.ops [.s (.x8 (.x0 .e)) (.asg (.c (V.bool true)))])
  (.seq (.ops [.s (.x9 (.x0 .e)) (.asg (.c (V.bool true)))])
  (.blk 0 []
  (.loop M77_0 L77_0))))
def e77 : EF := { depth := 2, nargs := 4, results := [], body := b77 }

/-- math/bits.Len -/
def b78 : EC :=
  (.seq (.ops [.s (.x2 .e) (.asg (.c (V.int .i64 0)))])
  (.seq (.cond (.c (V.bool false))
  (.seq (.ops [.s (.x3 .e) (.mv (.t (.x0 .e))),
    .s (.x4 .e) (.cvt .u32 (.t (.x3 .e))),
    .s (.x5 .e) (.call 94 [(.t (.x4 .e))]),
    .s (.x2 .e) (.asg (.t (.x5 .e)))])
  .ret)
  .skip)
  (.seq (.ops [.s (.x6 .e) (.mv (.t (.x0 .e))),
    .s (.x7 .e) (.call 95 [(.t (.x6 .e))]),
    .s (.x2 .e) (.asg (.t (.x7 .e)))])
  .ret)))
def e78 : EF := { depth := 1, nargs := 1, results := [.t (.x2 .e)], body := b78 }

/-- function 79, loop 0: live [0, 1, 7, 8] -/
def M79_0 : List Pth := [(.x0 (.x0 .e)), (.x1 (.x0 .e)), (.x7 (.x0 .e)), (.x8 (.x0 .e))]
def L79_0 : EC :=
  (.seq (.ops [.s (.x9 (.x0 .e)) (.bin .lss (.t (.x8 (.x0 .e))) (.t (.x7 (.x0 .e))))])
  (.seq (.cond (.t (.x9 (.x0 .e)))
  .skip
  (.exit 0))
  (.seq (.blk 1 [(.x0 (.x0 .e)), (.x1 (.x0 .e)), (.x7 (.x0 .e)), (.x8 (.x0 .e))]
  (.seq (.ops [.s (.xa (.x0 .e)) (.mv (.t (.x8 (.x0 .e)))),
    .s (.x5 (.x0 .e)) (.asg (.t (.xa (.x0 .e))))])
  (.seq (.ops [.s (.xb (.x0 .e)) (.mv (.t (.x1 (.x0 .e)))),
    .s (.xc (.x0 .e)) (.mv (.t (.x0 (.x0 .e)))),
    .s (.xd (.x0 .e)) (.mv (.t (.x5 (.x0 .e)))),
    .s (.xe (.x0 .e)) (.ixs 1 (.t (.xc (.x0 .e))) (.t (.xd (.x0 .e)))),
    .s (.xf (.x0 .e)) (.ld none (.t (.xe (.x0 .e)))),
    .s (.x0 (.x1 .e)) (.calld (.t (.xb (.x0 .e))) [(.t (.xf (.x0 .e)))])])
  (.cond (.t (.x0 (.x1 .e)))
  (.seq (.ops [.s (.x1 (.x1 .e)) (.mv (.t (.x5 (.x0 .e)))),
    .s (.x4 (.x0 .e)) (.asg (.t (.x1 (.x1 .e))))])
  .ret)
  .skip))))
  (.ops [.s (.x2 (.x1 .e)) (.bin .add (.t (.x8 (.x0 .e))) (.c (V.int .i64 1))),
    .s (.x8 (.x0 .e)) (.mv (.t (.x2 (.x1 .e))))]))))
/-- slices.IndexFunc[[][]int64,[]int64] -/
def b79 : EC :=
  (.seq (.ops [.s (.x4 (.x0 .e)) (.asg (.c (V.int .i64 0)))])
  (.seq (.seq (.ops [.s (.x6 (.x0 .e)) (.mv (.t (.x0 (.x0 .e)))),
    .s (.x7 (.x0 .e)) (.len (.t (.x6 (.x0 .e)))),
    .s (.x8 (.x0 .e)) (.mv (.c (V.int .i64 0)))])
  (.blk 0 []
  (.loop M79_0 L79_0)))
  (.seq (.ops [.s (.x4 (.x0 .e)) (.asg (.c (V.int .i64 (-1))))])
  .ret)))
def e79 : EF := { depth := 2, nargs := 2, results := [.t (.x4 (.x0 .e))], body := b79 }

/-- function 80, round 1 -/
def A80_1 : EC := (.ops [.s (.xa (.x0 .e)) (.alloc [V.int .i64 0, V.int .i64 0, V.int .i64 0]),
    .u (.st (some 3) (.t (.xa (.x0 .e))) (.t (.xc (.x3 .e))))])
def R80_1 : EC :=
  (.blk 3 []
  (.seq (.seq (.draw [0, 1, 2, 3, 4, 5, 6, 7] [0, 0, 2, 1, 9, 31, 63, 127] [.s (.xd (.x3 .e)) (.ld none (.t (.x2 (.x0 .e)))),
    .s (.xe (.x3 .e)) (.fadr 2 (.t (.xa (.x0 .e)))),
    .s (.xf (.x3 .e)) (.ld none (.t (.xe (.x3 .e)))),
    .s (.x0 (.x4 .e)) (.nilck (.t (.xd (.x3 .e)))),
    .s (.x1 (.x4 .e)) (.fadr 3 (.t (.x0 (.x4 .e)))),
    .s (.x2 (.x4 .e)) (.ixa 14 1 (.t (.x1 (.x4 .e))) (.t (.xf (.x3 .e)))),
    .s (.x3 (.x4 .e)) (.ld none (.t (.x2 (.x4 .e)))),
    .s (.x4 (.x4 .e)) (.bin .eql (.t (.x3 (.x4 .e))) (.c (V.int .i64 1)))])
  (.cond (.t (.x4 (.x4 .e)))
  (.exit 3)
  .skip))
  (.seq (.draw [0, 1, 2, 3, 4, 5, 6] [0, 0, 2, 1, 9, 31, 63] [.s (.x5 (.x4 .e)) (.ld none (.t (.x2 (.x0 .e)))),
    .s (.x6 (.x4 .e)) (.fadr 2 (.t (.xa (.x0 .e)))),
    .s (.x7 (.x4 .e)) (.ld none (.t (.x6 (.x4 .e)))),
    .s (.x8 (.x4 .e)) (.nilck (.t (.x5 (.x4 .e)))),
    .s (.x9 (.x4 .e)) (.fadr 3 (.t (.x8 (.x4 .e)))),
    .s (.xa (.x4 .e)) (.ixa 14 1 (.t (.x9 (.x4 .e))) (.t (.x7 (.x4 .e)))),
    .u (.st none (.t (.xa (.x4 .e))) (.c (V.int .i64 1)))])
  (.seq (.ops [.s (.xb (.x4 .e)) (.ld none (.t (.x7 (.x0 .e)))),
    .s (.xc (.x4 .e)) (.fadr 2 (.t (.xa (.x0 .e)))),
    .s (.xd (.x4 .e)) (.ld none (.t (.xc (.x4 .e)))),
    .s (.xe (.x4 .e)) (.ld (some 3) (.t (.xa (.x0 .e)))),
    .u (.mput [.int .i64] (.t (.xb (.x4 .e))) (.t (.xd (.x4 .e))) (.t (.xe (.x4 .e))))])
  (.seq (.seq (.ops [.s (.xf (.x4 .e)) (.fadr 2 (.t (.xa (.x0 .e)))),
    .s (.x0 (.x5 .e)) (.ld none (.t (.xf (.x4 .e)))),
    .s (.x1 (.x5 .e)) (.ld none (.t (.x6 (.x0 .e)))),
    .s (.x2 (.x5 .e)) (.bin .eql (.t (.x0 (.x5 .e))) (.t (.x1 (.x5 .e))))])
  (.cond (.t (.x2 (.x5 .e)))
  (.exit 0)
  .skip))
  (.ops [.s (.x3 (.x5 .e)) (.ld none (.t (.x8 (.x0 .e)))),
    .s (.x4 (.x5 .e)) (.fadr 2 (.t (.xa (.x0 .e)))),
    .s (.x5 (.x5 .e)) (.ld none (.t (.x4 (.x5 .e)))),
    .s (.x6 (.x5 .e)) (.bslice 1 1 [V.int .i64 0] [(0, (.t (.x5 (.x5 .e))))]),
    .s (.x7 (.x5 .e)) (.app 1 8 (.t (.x3 (.x5 .e))) (.t (.x6 (.x5 .e)))),
    .u (.st none (.t (.x8 (.x0 .e))) (.t (.x7 (.x5 .e))))]))))))
/-- function 80, loop 0: live [1, 2, 4, 5, 6, 7, 8] -/
def M80_0 : List Pth := [(.x1 (.x0 .e)), (.x2 (.x0 .e)), (.x4 (.x0 .e)), (.x5 (.x0 .e)), (.x6 (.x0 .e)), (.x7 (.x0 .e)), (.x8 (.x0 .e))]
def L80_0 : EC :=
  (.seq (.seq (.ops [.s (.xa (.x2 .e)) (.ld none (.t (.x8 (.x0 .e)))),
    .s (.xb (.x2 .e)) (.len (.t (.xa (.x2 .e)))),
    .s (.xc (.x2 .e)) (.bin .gtr (.t (.xb (.x2 .e))) (.c (V.int .i64 0)))])
  (.cond (.t (.xc (.x2 .e)))
  .skip
  (.exit 0)))
  (.blk 1 [(.x1 (.x0 .e)), (.x2 (.x0 .e)), (.x4 (.x0 .e)), (.x5 (.x0 .e)), (.x6 (.x0 .e)), (.x7 (.x0 .e)), (.x8 (.x0 .e))]
  (.seq (.ops [.s (.xd (.x2 .e)) (.ld none (.t (.x8 (.x0 .e)))),
    .s (.xe (.x2 .e)) (.ld none (.t (.x8 (.x0 .e)))),
    .s (.xf (.x2 .e)) (.len (.t (.xe (.x2 .e)))),
    .s (.x0 (.x3 .e)) (.bin .sub (.t (.xf (.x2 .e))) (.c (V.int .i64 1))),
    .s (.x1 (.x3 .e)) (.ixs 1 (.t (.xd (.x2 .e))) (.t (.x0 (.x3 .e)))),
    .s (.x2 (.x3 .e)) (.ld none (.t (.x1 (.x3 .e)))),
    .s (.x9 (.x0 .e)) (.asg (.t (.x2 (.x3 .e))))])
  (.seq (.ops [.s (.x3 (.x3 .e)) (.ld none (.t (.x8 (.x0 .e)))),
    .s (.x4 (.x3 .e)) (.ld none (.t (.x8 (.x0 .e)))),
    .s (.x5 (.x3 .e)) (.len (.t (.x4 (.x3 .e)))),
    .s (.x6 (.x3 .e)) (.bin .sub (.t (.x5 (.x3 .e))) (.c (V.int .i64 1))),
    .s (.x7 (.x3 .e)) (.slc 1 (.t (.x3 (.x3 .e))) none (some (.t (.x6 (.x3 .e)))) none),
    .u (.st none (.t (.x8 (.x0 .e))) (.t (.x7 (.x3 .e))))])
  (.seq (.ops [.s (.x8 (.x3 .e)) (.ld none (.t (.x2 (.x0 .e)))),
    .s (.x9 (.x3 .e)) (.mv (.t (.x9 (.x0 .e)))),
    .s (.xa (.x3 .e)) (.mv (.t (.x1 (.x0 .e)))),
    .s (.xb (.x3 .e)) (.call 96 [(.t (.x8 (.x3 .e))), (.t (.x9 (.x3 .e))), (.t (.xa (.x3 .e)))])])
  (.blk 2 [(.x1 (.x0 .e)), (.x2 (.x0 .e)), (.x4 (.x0 .e)), (.x5 (.x0 .e)), (.x6 (.x0 .e)), (.x7 (.x0 .e)), (.x8 (.x0 .e))]
  (.rfunc (.t (.xb (.x3 .e))) [(.xc (.x3 .e))] A80_1 R80_1)))))))
/-- function 80, loop 2: live [5, 7, 11, 12] -/
def M80_2 : List Pth := [(.x5 (.x0 .e)), (.x7 (.x0 .e)), (.xb (.x0 .e)), (.xc (.x0 .e))]
def L80_2 : EC :=
  (.seq (.seq (.ops [.s (.x9 (.x5 .e)) (.mv (.t (.xc (.x0 .e)))),
    .s (.xa (.x5 .e)) (.mv (.t (.x5 (.x0 .e)))),
    .s (.xb (.x5 .e)) (.bin .neq (.t (.x9 (.x5 .e))) (.t (.xa (.x5 .e))))])
  (.cond (.t (.xb (.x5 .e)))
  .skip
  (.exit 4)))
  (.blk 5 [(.x5 (.x0 .e)), (.x7 (.x0 .e)), (.xb (.x0 .e)), (.xc (.x0 .e))]
  (.seq (.ops [.s (.xc (.x5 .e)) (.ld none (.t (.x7 (.x0 .e)))),
    .s (.xd (.x5 .e)) (.mv (.t (.xc (.x0 .e)))),
    .s (.xe (.x5 .e)) (.look [.int .i64] (V.agg [V.int .i64 0, V.int .i64 0, V.int .i64 0]) (.t (.xc (.x5 .e))) (.t (.xd (.x5 .e))) false),
    .s (.xd (.x0 .e)) (.alloc [V.int .i64 0, V.int .i64 0, V.int .i64 0]),
    .u (.st (some 3) (.t (.xd (.x0 .e))) (.t (.xe (.x5 .e))))])
  (.seq (.seq (.ops [.s (.xf (.x5 .e)) (.ld (some 3) (.t (.xd (.x0 .e)))),
    .s (.x0 (.x6 .e)) (.build [V.int .i64 0, V.int .i64 0, V.int .i64 0] []),
    .s (.x1 (.x6 .e)) (.eqa false [.int .i64, .int .i64, .int .i64] (.t (.xf (.x5 .e))) (.t (.x0 (.x6 .e))))])
  (.cond (.t (.x1 (.x6 .e)))
  (.seq (.ops [.s (.x4 (.x0 .e)) (.asg (.c (V.nilslice)))])
  .ret)
  .skip))
  (.seq (.ops [.s (.x2 (.x6 .e)) (.ld none (.t (.x7 (.x0 .e)))),
    .s (.x3 (.x6 .e)) (.mv (.t (.xc (.x0 .e)))),
    .u (.del [.int .i64] (.t (.x2 (.x6 .e))) (.t (.x3 (.x6 .e))))])
  (.seq (.draw [0, 1, 2, 3, 4, 5, 6, 7, 8, 9] [0, 0, 2, 0, 8, 31, 0, 64, 255, 511] [.s (.x4 (.x6 .e)) (.mv (.t (.xb (.x0 .e)))),
    .s (.x5 (.x6 .e)) (.mv (.t (.xb (.x0 .e)))),
    .s (.x6 (.x6 .e)) (.len (.t (.x5 (.x6 .e)))),
    .s (.x7 (.x6 .e)) (.mv (.t (.xb (.x0 .e)))),
    .s (.x8 (.x6 .e)) (.len (.t (.x7 (.x6 .e)))),
    .s (.x9 (.x6 .e)) (.slc 3 (.t (.x4 (.x6 .e))) none (some (.t (.x6 (.x6 .e)))) (some (.t (.x8 (.x6 .e))))),
    .s (.xa (.x6 .e)) (.ld (some 3) (.t (.xd (.x0 .e)))),
    .s (.xb (.x6 .e)) (.bslice 3 1 [V.int .i64 0, V.int .i64 0, V.int .i64 0] [(0, (.t (.xa (.x6 .e))))]),
    .s (.xc (.x6 .e)) (.app 3 24 (.t (.x9 (.x6 .e))) (.t (.xb (.x6 .e)))),
    .s (.xb (.x0 .e)) (.asg (.t (.xc (.x6 .e))))])
  (.ops [.s (.xd (.x6 .e)) (.fadr 1 (.t (.xd (.x0 .e)))),
    .s (.xe (.x6 .e)) (.ld none (.t (.xd (.x6 .e)))),
    .s (.xc (.x0 .e)) (.asg (.t (.xe (.x6 .e))))])))))))
/-- (*forecourt/pole.book).round -/
def b80 : EC :=
  (.seq (.ops [.s (.x2 (.x0 .e)) (.box (.t (.x0 (.x0 .e)))),
    .s (.x4 (.x0 .e)) (.asg (.c (V.nilslice)))])
  (.seq (.draw [0, 1, 2, 3, 4, 5, 6, 7, 8, 9, 10, 11, 12, 13, 14, 15, 16, 17, 18] [0, 1, 3, 7, 0, 31, 63, 127, 0, 256, 768, 1792, 0, 7936, 16128, 32512, 0, 65791, 262143] [.s (.xe (.x0 .e)) (.ld none (.t (.x2 (.x0 .e)))),
    .s (.xf (.x0 .e)) (.nilck (.t (.xe (.x0 .e)))),
    .s (.x0 (.x1 .e)) (.fadr 2 (.t (.xf (.x0 .e)))),
    .s (.x1 (.x1 .e)) (.ld none (.t (.x0 (.x1 .e)))),
    .s (.x2 (.x1 .e)) (.mv (.t (.x1 (.x0 .e)))),
    .s (.x3 (.x1 .e)) (.ixs 3 (.t (.x1 (.x1 .e))) (.t (.x2 (.x1 .e)))),
    .s (.x4 (.x1 .e)) (.fadr 1 (.t (.x3 (.x1 .e)))),
    .s (.x5 (.x1 .e)) (.ld none (.t (.x4 (.x1 .e)))),
    .s (.x6 (.x1 .e)) (.ld none (.t (.x2 (.x0 .e)))),
    .s (.x7 (.x1 .e)) (.nilck (.t (.x6 (.x1 .e)))),
    .s (.x8 (.x1 .e)) (.fadr 2 (.t (.x7 (.x1 .e)))),
    .s (.x9 (.x1 .e)) (.ld none (.t (.x8 (.x1 .e)))),
    .s (.xa (.x1 .e)) (.mv (.t (.x1 (.x0 .e)))),
    .s (.xb (.x1 .e)) (.ixs 3 (.t (.x9 (.x1 .e))) (.t (.xa (.x1 .e)))),
    .s (.xc (.x1 .e)) (.fadr 0 (.t (.xb (.x1 .e)))),
    .s (.xd (.x1 .e)) (.ld none (.t (.xc (.x1 .e)))),
    .s (.x6 (.x0 .e)) (.alloc [V.int .i64 0]),
    .s (.x5 (.x0 .e)) (.asg (.t (.x5 (.x1 .e)))),
    .u (.st none (.t (.x6 (.x0 .e))) (.t (.xd (.x1 .e))))])
  (.seq (.ops [.s (.xe (.x1 .e)) (.ld none (.t (.x2 (.x0 .e)))),
    .s (.xf (.x1 .e)) (.nilck (.t (.xe (.x1 .e)))),
    .s (.x0 (.x2 .e)) (.fadr 3 (.t (.xf (.x1 .e)))),
    .s (.x1 (.x2 .e)) (.slca 14 1 (.t (.x0 (.x2 .e))) none none none),
    .u (.clear [V.int .i64 0] (.t (.x1 (.x2 .e))))])
  (.seq (.ops [.s (.x2 (.x2 .e)) (.ld none (.t (.x2 (.x0 .e)))),
    .s (.x3 (.x2 .e)) (.mv (.t (.x5 (.x0 .e)))),
    .s (.x4 (.x2 .e)) (.nilck (.t (.x2 (.x2 .e)))),
    .s (.x5 (.x2 .e)) (.fadr 3 (.t (.x4 (.x2 .e)))),
    .s (.x6 (.x2 .e)) (.ixa 14 1 (.t (.x5 (.x2 .e))) (.t (.x3 (.x2 .e)))),
    .u (.st none (.t (.x6 (.x2 .e))) (.c (V.int .i64 1)))])
  (.seq (.ops [.s (.x7 (.x2 .e)) (.mkmap),
    .s (.x7 (.x0 .e)) (.alloc [V.nilmap]),
    .u (.st none (.t (.x7 (.x0 .e))) (.t (.x7 (.x2 .e))))])
  (.seq (.ops [.s (.x8 (.x2 .e)) (.mv (.t (.x5 (.x0 .e)))),
    .s (.x9 (.x2 .e)) (.bslice 1 1 [V.int .i64 0] [(0, (.t (.x8 (.x2 .e))))]),
    .s (.x8 (.x0 .e)) (.alloc [V.nilslice]),
    .u (.st none (.t (.x8 (.x0 .e))) (.t (.x9 (.x2 .e))))])
  (.seq .skip
  (.seq (.blk 0 [(.x5 (.x0 .e)), (.x6 (.x0 .e)), (.x7 (.x0 .e))]
  (.loop M80_0 L80_0))
  (.seq (.ops [.s (.xb (.x0 .e)) (.asg (.c (V.nilslice)))])
  (.seq (.seq (.ops [.s (.x8 (.x5 .e)) (.ld none (.t (.x6 (.x0 .e)))),
    .s (.xc (.x0 .e)) (.asg (.t (.x8 (.x5 .e))))])
  (.blk 4 [(.xb (.x0 .e))]
  (.loop M80_2 L80_2)))
  (.seq (.ops [.s (.xf (.x6 .e)) (.mv (.t (.xb (.x0 .e)))),
    .s (.x4 (.x0 .e)) (.asg (.t (.xf (.x6 .e))))])
  .ret)))))))))))
def e80 : EF := { depth := 2, nargs := 2, results := [.t (.x4 (.x0 .e))], body := b80 }

/-- (*forecourt/pole.book).push$1 -/
def b81 : EC :=
  (.seq (.ops [.s (.x3 (.x0 .e)) (.box (.t (.x0 (.x0 .e)))),
    .s (.x4 (.x0 .e)) (.asg (.c (V.bool false)))])
  (.seq (.draw [0, 1, 2, 3, 4, 5, 6, 7, 8, 9, 10, 11, 12, 13, 14] [0, 1, 3, 7, 0, 16, 63, 127, 255, 0, 512, 2047, 0, 8191, 16383] [.s (.x5 (.x0 .e)) (.ld none (.t (.x1 (.x0 .e)))),
    .s (.x6 (.x0 .e)) (.nilck (.t (.x5 (.x0 .e)))),
    .s (.x7 (.x0 .e)) (.fadr 2 (.t (.x6 (.x0 .e)))),
    .s (.x8 (.x0 .e)) (.ld none (.t (.x7 (.x0 .e)))),
    .s (.x9 (.x0 .e)) (.fadr 0 (.t (.x3 (.x0 .e)))),
    .s (.xa (.x0 .e)) (.ld none (.t (.x9 (.x0 .e)))),
    .s (.xb (.x0 .e)) (.ixs 3 (.t (.x8 (.x0 .e))) (.t (.xa (.x0 .e)))),
    .s (.xc (.x0 .e)) (.fadr 0 (.t (.xb (.x0 .e)))),
    .s (.xd (.x0 .e)) (.ld none (.t (.xc (.x0 .e)))),
    .s (.xe (.x0 .e)) (.fadr 1 (.t (.x3 (.x0 .e)))),
    .s (.xf (.x0 .e)) (.ld none (.t (.xe (.x0 .e)))),
    .s (.x0 (.x1 .e)) (.bin .eql (.t (.xd (.x0 .e))) (.t (.xf (.x0 .e)))),
    .s (.x1 (.x1 .e)) (.ld none (.t (.x2 (.x0 .e)))),
    .s (.x2 (.x1 .e)) (.eqb false (.t (.x0 (.x1 .e))) (.t (.x1 (.x1 .e)))),
    .s (.x4 (.x0 .e)) (.asg (.t (.x2 (.x1 .e))))])
  .ret))
def e81 : EF := { depth := 2, nargs := 3, results := [.t (.x4 (.x0 .e))], body := b81 }

/-- function 82, loop 0: live [1, 4, 5, 12, 13, 14] -/
def M82_0 : List Pth := [(.x1 (.x0 .e)), (.x4 (.x0 .e)), (.x5 (.x0 .e)), (.xc (.x0 .e)), (.xd (.x0 .e)), (.xe (.x0 .e))]
def L82_0 : EC :=
  (.seq (.ops [.s (.xf (.x0 .e)) (.bin .lss (.t (.xe (.x0 .e))) (.t (.xd (.x0 .e))))])
  (.seq (.cond (.t (.xf (.x0 .e)))
  .skip
  (.exit 0))
  (.seq (.blk 1 [(.x1 (.x0 .e)), (.x4 (.x0 .e)), (.x5 (.x0 .e)), (.xc (.x0 .e)), (.xd (.x0 .e)), (.xe (.x0 .e))]
  (.seq (.ops [.s (.x0 (.x1 .e)) (.ixs 3 (.t (.xc (.x0 .e))) (.t (.xe (.x0 .e)))),
    .s (.x1 (.x1 .e)) (.ld (some 3) (.t (.x0 (.x1 .e)))),
    .s (.x7 (.x0 .e)) (.alloc [V.int .i64 0, V.int .i64 0, V.int .i64 0]),
    .u (.st (some 3) (.t (.x7 (.x0 .e))) (.t (.x1 (.x1 .e))))])
  (.seq (.draw [0, 1, 3, 4, 2, 5, 6] [0, 0, 0, 0, 3, 31, 63] [.s (.x2 (.x1 .e)) (.mv (.t (.x1 (.x0 .e)))),
    .s (.x3 (.x1 .e)) (.ld (some 3) (.t (.x7 (.x0 .e)))),
    .s (.x5 (.x1 .e)) (.mv (.t (.x1 (.x0 .e)))),
    .s (.x6 (.x1 .e)) (.ld (some 3) (.t (.x5 (.x0 .e)))),
    .s (.x4 (.x1 .e)) (.calld (.t (.x2 (.x1 .e))) [(.t (.x3 (.x1 .e)))]),
    .s (.x7 (.x1 .e)) (.calld (.t (.x5 (.x1 .e))) [(.t (.x6 (.x1 .e)))]),
    .s (.x8 (.x1 .e)) (.bin .lss (.t (.x4 (.x1 .e))) (.t (.x7 (.x1 .e))))])
  (.cond (.t (.x8 (.x1 .e)))
  (.ops [.s (.x9 (.x1 .e)) (.ld (some 3) (.t (.x7 (.x0 .e)))),
    .u (.st (some 3) (.t (.x5 (.x0 .e))) (.t (.x9 (.x1 .e))))])
  .skip))))
  (.ops [.s (.xa (.x1 .e)) (.bin .add (.t (.xe (.x0 .e))) (.c (V.int .i64 1))),
    .s (.xe (.x0 .e)) (.mv (.t (.xa (.x1 .e))))]))))
/-- forecourt/pole.least[forecourt/pole.step] -/
def b82 : EC :=
  (.seq (.ops [.s (.x4 (.x0 .e)) (.alloc [V.int .i64 0, V.int .i64 0, V.int .i64 0])])
  (.seq (.ops [.s (.x8 (.x0 .e)) (.mv (.t (.x0 (.x0 .e)))),
    .s (.x9 (.x0 .e)) (.ixs 3 (.t (.x8 (.x0 .e))) (.c (V.int .i64 0))),
    .s (.xa (.x0 .e)) (.ld (some 3) (.t (.x9 (.x0 .e)))),
    .s (.x5 (.x0 .e)) (.alloc [V.int .i64 0, V.int .i64 0, V.int .i64 0]),
    .u (.st (some 3) (.t (.x5 (.x0 .e))) (.t (.xa (.x0 .e))))])
  (.seq (.seq (.ops [.s (.xb (.x0 .e)) (.mv (.t (.x0 (.x0 .e)))),
    .s (.xc (.x0 .e)) (.slc 3 (.t (.xb (.x0 .e))) (some (.c (V.int .i64 1))) none none),
    .s (.xd (.x0 .e)) (.len (.t (.xc (.x0 .e)))),
    .s (.xe (.x0 .e)) (.mv (.c (V.int .i64 0)))])
  (.blk 0 [(.x4 (.x0 .e)), (.x5 (.x0 .e))]
  (.loop M82_0 L82_0)))
  (.seq (.ops [.s (.xb (.x1 .e)) (.ld (some 3) (.t (.x5 (.x0 .e)))),
    .u (.st (some 3) (.t (.x4 (.x0 .e))) (.t (.xb (.x1 .e))))])
  .ret))))
def e82 : EF := { depth := 2, nargs := 2, results := [.cell (.x4 (.x0 .e)) (some 3)], body := b82 }

/-- (*forecourt/pole.book).push$2 -/
def b83 : EC :=
  (.seq (.ops [.s (.x3 .e) (.box (.t (.x0 .e))),
    .s (.x4 .e) (.asg (.c (V.int .i64 0)))])
  (.seq (.draw [0, 1, 2, 3, 4, 5, 6, 7] [0, 0, 2, 0, 0, 24, 63, 127] [.s (.x5 .e) (.ld none (.t (.x1 .e))),
    .s (.x6 .e) (.fadr 0 (.t (.x3 .e))),
    .s (.x7 .e) (.ld none (.t (.x6 .e))),
    .s (.x8 .e) (.ld none (.t (.x2 .e))),
    .s (.x9 .e) (.ld (some 3) (.t (.x3 .e))),
    .s (.xa .e) (.calld (.t (.x8 .e)) [(.t (.x9 .e))]),
    .s (.xb .e) (.call 84 [(.t (.x5 .e)), (.t (.x7 .e)), (.t (.xa .e))]),
    .s (.x4 .e) (.asg (.t (.xb .e)))])
  .ret))
def e83 : EF := { depth := 1, nargs := 3, results := [.t (.x4 .e)], body := b83 }

/-- (*forecourt/pole.book).room -/
def b84 : EC :=
  (.seq (.ops [.s (.x6 (.x0 .e)) (.asg (.c (V.int .i64 0)))])
  (.seq (.draw [0, 1, 2, 3, 4, 5, 6, 7, 8, 9, 10, 11, 12, 13, 14] [0, 1, 3, 7, 0, 31, 63, 127, 0, 256, 768, 1792, 3840, 8191, 16383] [.s (.x8 (.x0 .e)) (.mv (.t (.x0 (.x0 .e)))),
    .s (.x9 (.x0 .e)) (.nilck (.t (.x8 (.x0 .e)))),
    .s (.xa (.x0 .e)) (.fadr 2 (.t (.x9 (.x0 .e)))),
    .s (.xb (.x0 .e)) (.ld none (.t (.xa (.x0 .e)))),
    .s (.xc (.x0 .e)) (.mv (.t (.x1 (.x0 .e)))),
    .s (.xd (.x0 .e)) (.ixs 3 (.t (.xb (.x0 .e))) (.t (.xc (.x0 .e)))),
    .s (.xe (.x0 .e)) (.fadr 2 (.t (.xd (.x0 .e)))),
    .s (.xf (.x0 .e)) (.ld none (.t (.xe (.x0 .e)))),
    .s (.x0 (.x1 .e)) (.mv (.t (.x0 (.x0 .e)))),
    .s (.x1 (.x1 .e)) (.nilck (.t (.x0 (.x1 .e)))),
    .s (.x2 (.x1 .e)) (.fadr 0 (.t (.x1 (.x1 .e)))),
    .s (.x3 (.x1 .e)) (.fadr 0 (.t (.x2 (.x1 .e)))),
    .s (.x4 (.x1 .e)) (.ld none (.t (.x3 (.x1 .e)))),
    .s (.x5 (.x1 .e)) (.bin .rem (.t (.xf (.x0 .e))) (.t (.x4 (.x1 .e)))),
    .s (.x7 (.x0 .e)) (.asg (.t (.x5 (.x1 .e))))])
  (.seq (.seq (.ops [.s (.x6 (.x1 .e)) (.mv (.t (.x2 (.x0 .e))))])
  (.cond (.t (.x6 (.x1 .e)))
  (.seq (.ops [.s (.x7 (.x1 .e)) (.mv (.t (.x0 (.x0 .e)))),
    .s (.x8 (.x1 .e)) (.nilck (.t (.x7 (.x1 .e)))),
    .s (.x9 (.x1 .e)) (.fadr 0 (.t (.x8 (.x1 .e)))),
    .s (.xa (.x1 .e)) (.fadr 0 (.t (.x9 (.x1 .e)))),
    .s (.xb (.x1 .e)) (.ld none (.t (.xa (.x1 .e)))),
    .s (.xc (.x1 .e)) (.mv (.t (.x7 (.x0 .e)))),
    .s (.xd (.x1 .e)) (.bin .sub (.t (.xb (.x1 .e))) (.t (.xc (.x1 .e)))),
    .s (.x6 (.x0 .e)) (.asg (.t (.xd (.x1 .e))))])
  .ret)
  .skip))
  (.seq (.ops [.s (.xe (.x1 .e)) (.mv (.t (.x7 (.x0 .e)))),
    .s (.x6 (.x0 .e)) (.asg (.t (.xe (.x1 .e))))])
  .ret))))
def e84 : EF := { depth := 2, nargs := 3, results := [.t (.x6 (.x0 .e))], body := b84 }

/-- function 85, loop 1: live [0, 1, 2, 6, 7] -/
def M85_1 : List Pth := [(.x0 (.x0 .e)), (.x1 (.x0 .e)), (.x2 (.x0 .e)), (.x6 (.x0 .e)), (.x7 (.x0 .e))]
def L85_1 : EC :=
  (.seq (.seq (.draw [0, 1, 2, 3, 4, 5, 6, 7, 8, 9, 10, 11, 12, 13, 14] [0, 0, 3, 7, 15, 15, 63, 127, 15, 15, 527, 1807, 3855, 8191, 16383] [.s (.x0 (.x1 .e)) (.mv (.t (.x7 (.x0 .e)))),
    .s (.x1 (.x1 .e)) (.mv (.t (.x1 (.x0 .e)))),
    .s (.x2 (.x1 .e)) (.bin .gtr (.t (.x0 (.x1 .e))) (.t (.x1 (.x1 .e)))),
    .s (.x3 (.x1 .e)) (.mv (.t (.x2 (.x1 .e)))),
    .g (.x3 (.x1 .e)) true (.x4 (.x1 .e)) (.mv (.t (.x0 (.x0 .e)))),
    .g (.x3 (.x1 .e)) true (.x5 (.x1 .e)) (.mv (.t (.x7 (.x0 .e)))),
    .g (.x3 (.x1 .e)) true (.x6 (.x1 .e)) (.ixs 1 (.t (.x4 (.x1 .e))) (.t (.x5 (.x1 .e)))),
    .g (.x3 (.x1 .e)) true (.x7 (.x1 .e)) (.ld none (.t (.x6 (.x1 .e)))),
    .g (.x3 (.x1 .e)) true (.x8 (.x1 .e)) (.mv (.t (.x0 (.x0 .e)))),
    .g (.x3 (.x1 .e)) true (.x9 (.x1 .e)) (.mv (.t (.x7 (.x0 .e)))),
    .g (.x3 (.x1 .e)) true (.xa (.x1 .e)) (.bin .sub (.t (.x9 (.x1 .e))) (.c (V.int .i64 1))),
    .g (.x3 (.x1 .e)) true (.xb (.x1 .e)) (.ixs 1 (.t (.x8 (.x1 .e))) (.t (.xa (.x1 .e)))),
    .g (.x3 (.x1 .e)) true (.xc (.x1 .e)) (.ld none (.t (.xb (.x1 .e)))),
    .g (.x3 (.x1 .e)) true (.xd (.x1 .e)) (.call 91 [(.t (.x7 (.x1 .e))), (.t (.xc (.x1 .e)))]),
    .s (.xe (.x1 .e)) (.pick (.t (.x3 (.x1 .e))) (.t (.xd (.x1 .e))) (.c (V.bool false)))])
  (.cond (.t (.xe (.x1 .e)))
  .skip
  (.exit 2)))
  (.seq (.blk 3 [(.x0 (.x0 .e)), (.x1 (.x0 .e)), (.x2 (.x0 .e)), (.x6 (.x0 .e)), (.x7 (.x0 .e))]
  (.draw [0, 1, 2, 3, 4, 5, 6, 7, 8, 9, 10, 11, 12, 13, 14, 15, 16, 17] [0, 0, 0, 0, 8, 0, 0, 64, 224, 480, 0, 0, 3072, 7168, 16355, 32739, 65535, 131071] [.s (.x1 (.x2 .e)) (.mv (.t (.x0 (.x0 .e)))),
    .s (.x2 (.x2 .e)) (.mv (.t (.x7 (.x0 .e)))),
    .s (.x3 (.x2 .e)) (.mv (.t (.x0 (.x0 .e)))),
    .s (.x4 (.x2 .e)) (.mv (.t (.x7 (.x0 .e)))),
    .s (.x5 (.x2 .e)) (.bin .sub (.t (.x4 (.x2 .e))) (.c (V.int .i64 1))),
    .s (.x6 (.x2 .e)) (.mv (.t (.x0 (.x0 .e)))),
    .s (.x7 (.x2 .e)) (.mv (.t (.x7 (.x0 .e)))),
    .s (.x8 (.x2 .e)) (.bin .sub (.t (.x7 (.x2 .e))) (.c (V.int .i64 1))),
    .s (.x9 (.x2 .e)) (.ixs 1 (.t (.x6 (.x2 .e))) (.t (.x8 (.x2 .e)))),
    .s (.xa (.x2 .e)) (.ld none (.t (.x9 (.x2 .e)))),
    .s (.xb (.x2 .e)) (.mv (.t (.x0 (.x0 .e)))),
    .s (.xc (.x2 .e)) (.mv (.t (.x7 (.x0 .e)))),
    .s (.xd (.x2 .e)) (.ixs 1 (.t (.xb (.x2 .e))) (.t (.xc (.x2 .e)))),
    .s (.xe (.x2 .e)) (.ld none (.t (.xd (.x2 .e)))),
    .s (.xf (.x2 .e)) (.ixs 1 (.t (.x1 (.x2 .e))) (.t (.x2 (.x2 .e)))),
    .u (.st none (.t (.xf (.x2 .e))) (.t (.xa (.x2 .e)))),
    .s (.x0 (.x3 .e)) (.ixs 1 (.t (.x3 (.x2 .e))) (.t (.x5 (.x2 .e)))),
    .u (.st none (.t (.x0 (.x3 .e))) (.t (.xe (.x2 .e))))]))
  (.ops [.s (.xf (.x1 .e)) (.mv (.t (.x7 (.x0 .e)))),
    .s (.x0 (.x2 .e)) (.bin .sub (.t (.xf (.x1 .e))) (.c (V.int .i64 1))),
    .s (.x7 (.x0 .e)) (.asg (.t (.x0 (.x2 .e))))])))
/-- function 85, loop 0: live [0, 1, 2, 6] -/
def M85_0 : List Pth := [(.x0 (.x0 .e)), (.x1 (.x0 .e)), (.x2 (.x0 .e)), (.x6 (.x0 .e))]
def L85_0 : EC :=
  (.seq (.seq (.ops [.s (.xa (.x0 .e)) (.mv (.t (.x6 (.x0 .e)))),
    .s (.xb (.x0 .e)) (.mv (.t (.x2 (.x0 .e)))),
    .s (.xc (.x0 .e)) (.bin .lss (.t (.xa (.x0 .e))) (.t (.xb (.x0 .e))))])
  (.cond (.t (.xc (.x0 .e)))
  .skip
  (.exit 0)))
  (.seq (.blk 1 [(.x0 (.x0 .e)), (.x1 (.x0 .e)), (.x2 (.x0 .e)), (.x6 (.x0 .e))]
  (.seq (.ops [.s (.xf (.x0 .e)) (.mv (.t (.x6 (.x0 .e)))),
    .s (.x7 (.x0 .e)) (.asg (.t (.xf (.x0 .e))))])
  (.blk 2 [(.x0 (.x0 .e)), (.x1 (.x0 .e)), (.x2 (.x0 .e)), (.x6 (.x0 .e))]
  (.loop M85_1 L85_1))))
  (.ops [.s (.xd (.x0 .e)) (.mv (.t (.x6 (.x0 .e)))),
    .s (.xe (.x0 .e)) (.bin .add (.t (.xd (.x0 .e))) (.c (V.int .i64 1))),
    .s (.x6 (.x0 .e)) (.asg (.t (.xe (.x0 .e))))])))
/-- slices.insertionSortOrdered[int64] -/
def b85 : EC :=
  (.seq (.ops [.s (.x8 (.x0 .e)) (.mv (.t (.x1 (.x0 .e)))),
    .s (.x9 (.x0 .e)) (.bin .add (.t (.x8 (.x0 .e))) (.c (V.int .i64 1))),
    .s (.x6 (.x0 .e)) (.asg (.t (.x9 (.x0 .e))))])
  (.blk 0 []
  (.loop M85_0 L85_0)))
def e85 : EF := { depth := 2, nargs := 3, results := [], body := b85 }

/-- function 86, loop 0: live [0, 6, 7, 8, 9] -/
def M86_0 : List Pth := [(.x0 (.x0 .e)), (.x6 (.x0 .e)), (.x7 (.x0 .e)), (.x8 (.x0 .e)), (.x9 (.x0 .e))]
def L86_0 : EC :=
  (.seq (.seq (.ops [.s (.x2 (.x1 .e)) (.mv (.t (.x9 (.x0 .e)))),
    .s (.x3 (.x1 .e)) (.bin .geq (.t (.x2 (.x1 .e))) (.c (V.int .i64 0)))])
  (.cond (.t (.x3 (.x1 .e)))
  .skip
  (.exit 0)))
  (.seq (.blk 1 [(.x0 (.x0 .e)), (.x6 (.x0 .e)), (.x7 (.x0 .e)), (.x8 (.x0 .e)), (.x9 (.x0 .e))]
  (.ops [.s (.x6 (.x1 .e)) (.mv (.t (.x0 (.x0 .e)))),
    .s (.x7 (.x1 .e)) (.mv (.t (.x9 (.x0 .e)))),
    .s (.x8 (.x1 .e)) (.mv (.t (.x8 (.x0 .e)))),
    .s (.x9 (.x1 .e)) (.mv (.t (.x6 (.x0 .e)))),
    .s (.xa (.x1 .e)) (.call 97 [(.t (.x6 (.x1 .e))), (.t (.x7 (.x1 .e))), (.t (.x8 (.x1 .e))), (.t (.x9 (.x1 .e)))])]))
  (.ops [.s (.x4 (.x1 .e)) (.mv (.t (.x9 (.x0 .e)))),
    .s (.x5 (.x1 .e)) (.bin .sub (.t (.x4 (.x1 .e))) (.c (V.int .i64 1))),
    .s (.x9 (.x0 .e)) (.asg (.t (.x5 (.x1 .e))))])))
/-- function 86, loop 1: live [0, 6, 7, 10] -/
def M86_1 : List Pth := [(.x0 (.x0 .e)), (.x6 (.x0 .e)), (.x7 (.x0 .e)), (.xa (.x0 .e))]
def L86_1 : EC :=
  (.seq (.seq (.ops [.s (.xd (.x1 .e)) (.mv (.t (.xa (.x0 .e)))),
    .s (.xe (.x1 .e)) (.bin .geq (.t (.xd (.x1 .e))) (.c (V.int .i64 0)))])
  (.cond (.t (.xe (.x1 .e)))
  .skip
  (.exit 2)))
  (.seq (.blk 3 [(.x0 (.x0 .e)), (.x6 (.x0 .e)), (.x7 (.x0 .e)), (.xa (.x0 .e))]
  (.seq (.draw [0, 1, 2, 3, 4, 5, 6, 7, 8, 9, 10, 11, 12, 13, 14, 15, 16, 17, 18, 19] [0, 0, 0, 0, 0, 24, 0, 0, 0, 384, 960, 1984, 0, 0, 12288, 28672, 65475, 131011, 262143, 524287] [.s (.x1 (.x2 .e)) (.mv (.t (.x0 (.x0 .e)))),
    .s (.x2 (.x2 .e)) (.mv (.t (.x6 (.x0 .e)))),
    .s (.x3 (.x2 .e)) (.mv (.t (.x0 (.x0 .e)))),
    .s (.x4 (.x2 .e)) (.mv (.t (.x6 (.x0 .e)))),
    .s (.x5 (.x2 .e)) (.mv (.t (.xa (.x0 .e)))),
    .s (.x6 (.x2 .e)) (.bin .add (.t (.x4 (.x2 .e))) (.t (.x5 (.x2 .e)))),
    .s (.x7 (.x2 .e)) (.mv (.t (.x0 (.x0 .e)))),
    .s (.x8 (.x2 .e)) (.mv (.t (.x6 (.x0 .e)))),
    .s (.x9 (.x2 .e)) (.mv (.t (.xa (.x0 .e)))),
    .s (.xa (.x2 .e)) (.bin .add (.t (.x8 (.x2 .e))) (.t (.x9 (.x2 .e)))),
    .s (.xb (.x2 .e)) (.ixs 1 (.t (.x7 (.x2 .e))) (.t (.xa (.x2 .e)))),
    .s (.xc (.x2 .e)) (.ld none (.t (.xb (.x2 .e)))),
    .s (.xd (.x2 .e)) (.mv (.t (.x0 (.x0 .e)))),
    .s (.xe (.x2 .e)) (.mv (.t (.x6 (.x0 .e)))),
    .s (.xf (.x2 .e)) (.ixs 1 (.t (.xd (.x2 .e))) (.t (.xe (.x2 .e)))),
    .s (.x0 (.x3 .e)) (.ld none (.t (.xf (.x2 .e)))),
    .s (.x1 (.x3 .e)) (.ixs 1 (.t (.x1 (.x2 .e))) (.t (.x2 (.x2 .e)))),
    .u (.st none (.t (.x1 (.x3 .e))) (.t (.xc (.x2 .e)))),
    .s (.x2 (.x3 .e)) (.ixs 1 (.t (.x3 (.x2 .e))) (.t (.x6 (.x2 .e)))),
    .u (.st none (.t (.x2 (.x3 .e))) (.t (.x0 (.x3 .e))))])
  (.ops [.s (.x3 (.x3 .e)) (.mv (.t (.x0 (.x0 .e)))),
    .s (.x4 (.x3 .e)) (.mv (.t (.x7 (.x0 .e)))),
    .s (.x5 (.x3 .e)) (.mv (.t (.xa (.x0 .e)))),
    .s (.x6 (.x3 .e)) (.mv (.t (.x6 (.x0 .e)))),
    .s (.x7 (.x3 .e)) (.call 97 [(.t (.x3 (.x3 .e))), (.t (.x4 (.x3 .e))), (.t (.x5 (.x3 .e))), (.t (.x6 (.x3 .e)))])])))
  (.ops [.s (.xf (.x1 .e)) (.mv (.t (.xa (.x0 .e)))),
    .s (.x0 (.x2 .e)) (.bin .sub (.t (.xf (.x1 .e))) (.c (V.int .i64 1))),
    .s (.xa (.x0 .e)) (.asg (.t (.x0 (.x2 .e))))])))
/-- slices.heapSortOrdered[int64] -/
def b86 : EC :=
  (.seq (.ops [.s (.xb (.x0 .e)) (.mv (.t (.x1 (.x0 .e)))),
    .s (.x6 (.x0 .e)) (.asg (.t (.xb (.x0 .e))))])
  (.seq (.ops [.s (.x7 (.x0 .e)) (.asg (.c (V.int .i64 0)))])
  (.seq (.ops [.s (.xc (.x0 .e)) (.mv (.t (.x2 (.x0 .e)))),
    .s (.xd (.x0 .e)) (.mv (.t (.x1 (.x0 .e)))),
    .s (.xe (.x0 .e)) (.bin .sub (.t (.xc (.x0 .e))) (.t (.xd (.x0 .e)))),
    .s (.x8 (.x0 .e)) (.asg (.t (.xe (.x0 .e))))])
  (.seq (.seq (.ops [.s (.xf (.x0 .e)) (.mv (.t (.x8 (.x0 .e)))),
    .s (.x0 (.x1 .e)) (.bin .sub (.t (.xf (.x0 .e))) (.c (V.int .i64 1))),
    .s (.x1 (.x1 .e)) (.bin .quo (.t (.x0 (.x1 .e))) (.c (V.int .i64 2))),
    .s (.x9 (.x0 .e)) (.asg (.t (.x1 (.x1 .e))))])
  (.blk 0 [(.x0 (.x0 .e)), (.x6 (.x0 .e)), (.x7 (.x0 .e)), (.x8 (.x0 .e))]
  (.loop M86_0 L86_0)))
  (.seq (.ops [.s (.xb (.x1 .e)) (.mv (.t (.x8 (.x0 .e)))),
    .s (.xc (.x1 .e)) (.bin .sub (.t (.xb (.x1 .e))) (.c (V.int .i64 1))),
    .s (.xa (.x0 .e)) (.asg (.t (.xc (.x1 .e))))])
  (.blk 2 []
  (.loop M86_1 L86_1)))))))
def e86 : EF := { depth := 2, nargs := 3, results := [], body := b86 }

/-- function 87, loop 0: live [0, 1, 6, 7, 8, 9] -/
def M87_0 : List Pth := [(.x0 (.x0 .e)), (.x1 (.x0 .e)), (.x6 (.x0 .e)), (.x7 (.x0 .e)), (.x8 (.x0 .e)), (.x9 (.x0 .e))]
def L87_0 : EC :=
  (.seq (.seq (.ops [.s (.xa (.x1 .e)) (.mv (.t (.x9 (.x0 .e)))),
    .s (.xb (.x1 .e)) (.mv (.t (.x1 (.x0 .e)))),
    .s (.xc (.x1 .e)) (.mv (.t (.x6 (.x0 .e)))),
    .s (.xd (.x1 .e)) (.bin .quo (.t (.xc (.x1 .e))) (.c (V.int .i64 4))),
    .s (.xe (.x1 .e)) (.bin .mul (.t (.xd (.x1 .e))) (.c (V.int .i64 2))),
    .s (.xf (.x1 .e)) (.bin .add (.t (.xb (.x1 .e))) (.t (.xe (.x1 .e)))),
    .s (.x0 (.x2 .e)) (.bin .add (.t (.xf (.x1 .e))) (.c (V.int .i64 1))),
    .s (.x1 (.x2 .e)) (.bin .leq (.t (.xa (.x1 .e))) (.t (.x0 (.x2 .e))))])
  (.cond (.t (.x1 (.x2 .e)))
  .skip
  (.exit 0)))
  (.seq (.blk 1 [(.x0 (.x0 .e)), (.x1 (.x0 .e)), (.x6 (.x0 .e)), (.x7 (.x0 .e)), (.x8 (.x0 .e)), (.x9 (.x0 .e))]
  (.seq (.ops [.s (.x4 (.x2 .e)) (.call 99 [(.t (.x7 (.x0 .e)))]),
    .s (.x5 (.x2 .e)) (.mv (.t (.x8 (.x0 .e)))),
    .s (.x6 (.x2 .e)) (.bin .sub (.t (.x5 (.x2 .e))) (.c (V.int .u64 1))),
    .s (.x7 (.x2 .e)) (.bin .and (.t (.x4 (.x2 .e))) (.t (.x6 (.x2 .e)))),
    .s (.x8 (.x2 .e)) (.cvt .i64 (.t (.x7 (.x2 .e)))),
    .s (.xa (.x0 .e)) (.asg (.t (.x8 (.x2 .e))))])
  (.seq (.seq (.ops [.s (.x9 (.x2 .e)) (.mv (.t (.xa (.x0 .e)))),
    .s (.xa (.x2 .e)) (.mv (.t (.x6 (.x0 .e)))),
    .s (.xb (.x2 .e)) (.bin .geq (.t (.x9 (.x2 .e))) (.t (.xa (.x2 .e))))])
  (.cond (.t (.xb (.x2 .e)))
  (.ops [.s (.xc (.x2 .e)) (.mv (.t (.xa (.x0 .e)))),
    .s (.xd (.x2 .e)) (.mv (.t (.x6 (.x0 .e)))),
    .s (.xe (.x2 .e)) (.bin .sub (.t (.xc (.x2 .e))) (.t (.xd (.x2 .e)))),
    .s (.xa (.x0 .e)) (.asg (.t (.xe (.x2 .e))))])
  .skip))
  (.draw [0, 1, 2, 3, 4, 5, 6, 7, 8, 9, 10, 11, 12, 13, 14, 15, 16, 17, 18, 19] [0, 0, 0, 0, 0, 24, 0, 0, 0, 384, 960, 1984, 0, 0, 12288, 28672, 65475, 131011, 262143, 524287] [.s (.xf (.x2 .e)) (.mv (.t (.x0 (.x0 .e)))),
    .s (.x0 (.x3 .e)) (.mv (.t (.x9 (.x0 .e)))),
    .s (.x1 (.x3 .e)) (.mv (.t (.x0 (.x0 .e)))),
    .s (.x2 (.x3 .e)) (.mv (.t (.x1 (.x0 .e)))),
    .s (.x3 (.x3 .e)) (.mv (.t (.xa (.x0 .e)))),
    .s (.x4 (.x3 .e)) (.bin .add (.t (.x2 (.x3 .e))) (.t (.x3 (.x3 .e)))),
    .s (.x5 (.x3 .e)) (.mv (.t (.x0 (.x0 .e)))),
    .s (.x6 (.x3 .e)) (.mv (.t (.x1 (.x0 .e)))),
    .s (.x7 (.x3 .e)) (.mv (.t (.xa (.x0 .e)))),
    .s (.x8 (.x3 .e)) (.bin .add (.t (.x6 (.x3 .e))) (.t (.x7 (.x3 .e)))),
    .s (.x9 (.x3 .e)) (.ixs 1 (.t (.x5 (.x3 .e))) (.t (.x8 (.x3 .e)))),
    .s (.xa (.x3 .e)) (.ld none (.t (.x9 (.x3 .e)))),
    .s (.xb (.x3 .e)) (.mv (.t (.x0 (.x0 .e)))),
    .s (.xc (.x3 .e)) (.mv (.t (.x9 (.x0 .e)))),
    .s (.xd (.x3 .e)) (.ixs 1 (.t (.xb (.x3 .e))) (.t (.xc (.x3 .e)))),
    .s (.xe (.x3 .e)) (.ld none (.t (.xd (.x3 .e)))),
    .s (.xf (.x3 .e)) (.ixs 1 (.t (.xf (.x2 .e))) (.t (.x0 (.x3 .e)))),
    .u (.st none (.t (.xf (.x3 .e))) (.t (.xa (.x3 .e)))),
    .s (.x0 (.x4 .e)) (.ixs 1 (.t (.x1 (.x3 .e))) (.t (.x4 (.x3 .e)))),
    .u (.st none (.t (.x0 (.x4 .e))) (.t (.xe (.x3 .e))))]))))
  (.ops [.s (.x2 (.x2 .e)) (.mv (.t (.x9 (.x0 .e)))),
    .s (.x3 (.x2 .e)) (.bin .add (.t (.x2 (.x2 .e))) (.c (V.int .i64 1))),
    .s (.x9 (.x0 .e)) (.asg (.t (.x3 (.x2 .e))))])))
/-- slices.breakPatternsOrdered[int64] -/
def b87 : EC :=
  (.seq (.ops [.s (.xb (.x0 .e)) (.mv (.t (.x2 (.x0 .e)))),
    .s (.xc (.x0 .e)) (.mv (.t (.x1 (.x0 .e)))),
    .s (.xd (.x0 .e)) (.bin .sub (.t (.xb (.x0 .e))) (.t (.xc (.x0 .e)))),
    .s (.x6 (.x0 .e)) (.asg (.t (.xd (.x0 .e))))])
  (.seq (.ops [.s (.xe (.x0 .e)) (.mv (.t (.x6 (.x0 .e)))),
    .s (.xf (.x0 .e)) (.bin .geq (.t (.xe (.x0 .e))) (.c (V.int .i64 8)))])
  (.cond (.t (.xf (.x0 .e)))
  (.seq (.ops [.s (.x0 (.x1 .e)) (.mv (.t (.x6 (.x0 .e)))),
    .s (.x1 (.x1 .e)) (.cvt .u64 (.t (.x0 (.x1 .e)))),
    .s (.x7 (.x0 .e)) (.alloc [V.int .u64 0]),
    .u (.st none (.t (.x7 (.x0 .e))) (.t (.x1 (.x1 .e))))])
  (.seq (.ops [.s (.x2 (.x1 .e)) (.mv (.t (.x6 (.x0 .e)))),
    .s (.x3 (.x1 .e)) (.call 98 [(.t (.x2 (.x1 .e)))]),
    .s (.x8 (.x0 .e)) (.asg (.t (.x3 (.x1 .e))))])
  (.seq (.ops [.s (.x4 (.x1 .e)) (.mv (.t (.x1 (.x0 .e)))),
    .s (.x5 (.x1 .e)) (.mv (.t (.x6 (.x0 .e)))),
    .s (.x6 (.x1 .e)) (.bin .quo (.t (.x5 (.x1 .e))) (.c (V.int .i64 4))),
    .s (.x7 (.x1 .e)) (.bin .mul (.t (.x6 (.x1 .e))) (.c (V.int .i64 2))),
    .s (.x8 (.x1 .e)) (.bin .add (.t (.x4 (.x1 .e))) (.t (.x7 (.x1 .e)))),
    .s (.x9 (.x1 .e)) (.bin .sub (.t (.x8 (.x1 .e))) (.c (V.int .i64 1))),
    .s (.x9 (.x0 .e)) (.asg (.t (.x9 (.x1 .e))))])
  (.blk 0 []
  (.loop M87_0 L87_0)))))
  .skip)))
def e87 : EF := { depth := 2, nargs := 3, results := [], body := b87 }

/-- slices.choosePivotOrdered[int64] -/
def b88 : EC :=
  (.seq (.ops [.s (.x6 (.x0 .e)) (.asg (.c (V.int .i64 0))),
    .s (.x7 (.x0 .e)) (.asg (.c (V.int .i64 0)))])
  (.seq (.ops [.s (.xd (.x0 .e)) (.mv (.t (.x2 (.x0 .e)))),
    .s (.xe (.x0 .e)) (.mv (.t (.x1 (.x0 .e)))),
    .s (.xf (.x0 .e)) (.bin .sub (.t (.xd (.x0 .e))) (.t (.xe (.x0 .e)))),
    .s (.x8 (.x0 .e)) (.asg (.t (.xf (.x0 .e))))])
  (.seq (.ops [.s (.x9 (.x0 .e)) (.alloc [V.int .i64 0])])
  (.seq (.ops [.s (.x0 (.x1 .e)) (.mv (.t (.x1 (.x0 .e)))),
    .s (.x1 (.x1 .e)) (.mv (.t (.x8 (.x0 .e)))),
    .s (.x2 (.x1 .e)) (.bin .quo (.t (.x1 (.x1 .e))) (.c (V.int .i64 4))),
    .s (.x3 (.x1 .e)) (.bin .mul (.t (.x2 (.x1 .e))) (.c (V.int .i64 1))),
    .s (.x4 (.x1 .e)) (.bin .add (.t (.x0 (.x1 .e))) (.t (.x3 (.x1 .e)))),
    .s (.xa (.x0 .e)) (.asg (.t (.x4 (.x1 .e))))])
  (.seq (.ops [.s (.x5 (.x1 .e)) (.mv (.t (.x1 (.x0 .e)))),
    .s (.x6 (.x1 .e)) (.mv (.t (.x8 (.x0 .e)))),
    .s (.x7 (.x1 .e)) (.bin .quo (.t (.x6 (.x1 .e))) (.c (V.int .i64 4))),
    .s (.x8 (.x1 .e)) (.bin .mul (.t (.x7 (.x1 .e))) (.c (V.int .i64 2))),
    .s (.x9 (.x1 .e)) (.bin .add (.t (.x5 (.x1 .e))) (.t (.x8 (.x1 .e)))),
    .s (.xb (.x0 .e)) (.asg (.t (.x9 (.x1 .e))))])
  (.seq (.ops [.s (.xa (.x1 .e)) (.mv (.t (.x1 (.x0 .e)))),
    .s (.xb (.x1 .e)) (.mv (.t (.x8 (.x0 .e)))),
    .s (.xc (.x1 .e)) (.bin .quo (.t (.xb (.x1 .e))) (.c (V.int .i64 4))),
    .s (.xd (.x1 .e)) (.bin .mul (.t (.xc (.x1 .e))) (.c (V.int .i64 3))),
    .s (.xe (.x1 .e)) (.bin .add (.t (.xa (.x1 .e))) (.t (.xd (.x1 .e)))),
    .s (.xc (.x0 .e)) (.asg (.t (.xe (.x1 .e))))])
  (.seq (.seq (.ops [.s (.xf (.x1 .e)) (.mv (.t (.x8 (.x0 .e)))),
    .s (.x0 (.x2 .e)) (.bin .geq (.t (.xf (.x1 .e))) (.c (V.int .i64 8)))])
  (.cond (.t (.x0 (.x2 .e)))
  (.seq (.seq (.ops [.s (.x1 (.x2 .e)) (.mv (.t (.x8 (.x0 .e)))),
    .s (.x2 (.x2 .e)) (.bin .geq (.t (.x1 (.x2 .e))) (.c (V.int .i64 50)))])
  (.cond (.t (.x2 (.x2 .e)))
  (.seq (.ops [.s (.x3 (.x2 .e)) (.mv (.t (.x0 (.x0 .e)))),
    .s (.x4 (.x2 .e)) (.mv (.t (.xa (.x0 .e)))),
    .s (.x5 (.x2 .e)) (.call 100 [(.t (.x3 (.x2 .e))), (.t (.x4 (.x2 .e))), (.t (.x9 (.x0 .e)))]),
    .s (.xa (.x0 .e)) (.asg (.t (.x5 (.x2 .e))))])
  (.seq (.ops [.s (.x6 (.x2 .e)) (.mv (.t (.x0 (.x0 .e)))),
    .s (.x7 (.x2 .e)) (.mv (.t (.xb (.x0 .e)))),
    .s (.x8 (.x2 .e)) (.call 100 [(.t (.x6 (.x2 .e))), (.t (.x7 (.x2 .e))), (.t (.x9 (.x0 .e)))]),
    .s (.xb (.x0 .e)) (.asg (.t (.x8 (.x2 .e))))])
  (.ops [.s (.x9 (.x2 .e)) (.mv (.t (.x0 (.x0 .e)))),
    .s (.xa (.x2 .e)) (.mv (.t (.xc (.x0 .e)))),
    .s (.xb (.x2 .e)) (.call 100 [(.t (.x9 (.x2 .e))), (.t (.xa (.x2 .e))), (.t (.x9 (.x0 .e)))]),
    .s (.xc (.x0 .e)) (.asg (.t (.xb (.x2 .e))))])))
  .skip))
  (.ops [.s (.xc (.x2 .e)) (.mv (.t (.x0 (.x0 .e)))),
    .s (.xd (.x2 .e)) (.mv (.t (.xa (.x0 .e)))),
    .s (.xe (.x2 .e)) (.mv (.t (.xb (.x0 .e)))),
    .s (.xf (.x2 .e)) (.mv (.t (.xc (.x0 .e)))),
    .s (.x0 (.x3 .e)) (.call 101 [(.t (.xc (.x2 .e))), (.t (.xd (.x2 .e))), (.t (.xe (.x2 .e))), (.t (.xf (.x2 .e))), (.t (.x9 (.x0 .e)))]),
    .s (.xb (.x0 .e)) (.asg (.t (.x0 (.x3 .e))))]))
  .skip))
  (.seq (.ops [.s (.x1 (.x3 .e)) (.ld none (.t (.x9 (.x0 .e))))])
  (.blk 0 [(.x6 (.x0 .e)), (.x7 (.x0 .e))]
  (.seq (.ops [.s (.x4 (.x3 .e)) (.bin .eql (.t (.x1 (.x3 .e))) (.c (V.int .i64 0))),
    .s (.x3 (.x3 .e)) (.asg (.t (.x4 (.x3 .e))))])
  (.cond (.t (.x3 (.x3 .e)))
  (.seq (.ops [.s (.x5 (.x3 .e)) (.mv (.t (.xb (.x0 .e)))),
    .s (.x6 (.x0 .e)) (.asg (.t (.x5 (.x3 .e)))),
    .s (.x7 (.x0 .e)) (.asg (.c (V.int .i64 1)))])
  .ret)
  (.seq (.ops [.s (.x7 (.x3 .e)) (.bin .eql (.t (.x1 (.x3 .e))) (.c (V.int .i64 12))),
    .s (.x6 (.x3 .e)) (.asg (.t (.x7 (.x3 .e))))])
  (.cond (.t (.x6 (.x3 .e)))
  (.seq (.ops [.s (.x8 (.x3 .e)) (.mv (.t (.xb (.x0 .e)))),
    .s (.x6 (.x0 .e)) (.asg (.t (.x8 (.x3 .e)))),
    .s (.x7 (.x0 .e)) (.asg (.c (V.int .i64 2)))])
  .ret)
  (.seq (.ops [.s (.x2 (.x3 .e)) (.mv (.t (.xb (.x0 .e)))),
    .s (.x6 (.x0 .e)) (.asg (.t (.x2 (.x3 .e)))),
    .s (.x7 (.x0 .e)) (.asg (.c (V.int .i64 0)))])
  .ret))))))))))))))
def e88 : EF := { depth := 2, nargs := 3, results := [.t (.x6 (.x0 .e)), .t (.x7 (.x0 .e))], body := b88 }

/-- function 89, loop 0: live [0, 6, 7] -/
def M89_0 : List Pth := [(.x0 (.x0 .e)), (.x6 (.x0 .e)), (.x7 (.x0 .e))]
def L89_0 : EC :=
  (.seq (.seq (.ops [.s (.xb (.x0 .e)) (.mv (.t (.x6 (.x0 .e)))),
    .s (.xc (.x0 .e)) (.mv (.t (.x7 (.x0 .e)))),
    .s (.xd (.x0 .e)) (.bin .lss (.t (.xb (.x0 .e))) (.t (.xc (.x0 .e))))])
  (.cond (.t (.xd (.x0 .e)))
  .skip
  (.exit 0)))
  (.blk 1 [(.x0 (.x0 .e)), (.x6 (.x0 .e)), (.x7 (.x0 .e))]
  (.seq (.draw [0, 1, 2, 3, 4, 5, 6, 7, 8, 9, 10, 11, 12, 13, 14, 15] [0, 0, 0, 0, 0, 0, 48, 112, 0, 0, 768, 1792, 4083, 8179, 16383, 32767] [.s (.xe (.x0 .e)) (.mv (.t (.x0 (.x0 .e)))),
    .s (.xf (.x0 .e)) (.mv (.t (.x6 (.x0 .e)))),
    .s (.x0 (.x1 .e)) (.mv (.t (.x0 (.x0 .e)))),
    .s (.x1 (.x1 .e)) (.mv (.t (.x7 (.x0 .e)))),
    .s (.x2 (.x1 .e)) (.mv (.t (.x0 (.x0 .e)))),
    .s (.x3 (.x1 .e)) (.mv (.t (.x7 (.x0 .e)))),
    .s (.x4 (.x1 .e)) (.ixs 1 (.t (.x2 (.x1 .e))) (.t (.x3 (.x1 .e)))),
    .s (.x5 (.x1 .e)) (.ld none (.t (.x4 (.x1 .e)))),
    .s (.x6 (.x1 .e)) (.mv (.t (.x0 (.x0 .e)))),
    .s (.x7 (.x1 .e)) (.mv (.t (.x6 (.x0 .e)))),
    .s (.x8 (.x1 .e)) (.ixs 1 (.t (.x6 (.x1 .e))) (.t (.x7 (.x1 .e)))),
    .s (.x9 (.x1 .e)) (.ld none (.t (.x8 (.x1 .e)))),
    .s (.xa (.x1 .e)) (.ixs 1 (.t (.xe (.x0 .e))) (.t (.xf (.x0 .e)))),
    .u (.st none (.t (.xa (.x1 .e))) (.t (.x5 (.x1 .e)))),
    .s (.xb (.x1 .e)) (.ixs 1 (.t (.x0 (.x1 .e))) (.t (.x1 (.x1 .e)))),
    .u (.st none (.t (.xb (.x1 .e))) (.t (.x9 (.x1 .e))))])
  (.seq (.ops [.s (.xc (.x1 .e)) (.mv (.t (.x6 (.x0 .e)))),
    .s (.xd (.x1 .e)) (.bin .add (.t (.xc (.x1 .e))) (.c (V.int .i64 1))),
    .s (.x6 (.x0 .e)) (.asg (.t (.xd (.x1 .e))))])
  (.ops [.s (.xe (.x1 .e)) (.mv (.t (.x7 (.x0 .e)))),
    .s (.xf (.x1 .e)) (.bin .sub (.t (.xe (.x1 .e))) (.c (V.int .i64 1))),
    .s (.x7 (.x0 .e)) (.asg (.t (.xf (.x1 .e))))])))))
/-- slices.reverseRangeOrdered[int64] -/
def b89 : EC :=
  (.seq (.ops [.s (.x8 (.x0 .e)) (.mv (.t (.x1 (.x0 .e)))),
    .s (.x6 (.x0 .e)) (.asg (.t (.x8 (.x0 .e))))])
  (.seq (.ops [.s (.x9 (.x0 .e)) (.mv (.t (.x2 (.x0 .e)))),
    .s (.xa (.x0 .e)) (.bin .sub (.t (.x9 (.x0 .e))) (.c (V.int .i64 1))),
    .s (.x7 (.x0 .e)) (.asg (.t (.xa (.x0 .e))))])
  (.blk 0 []
  (.loop M89_0 L89_0))))
def e89 : EF := { depth := 2, nargs := 3, results := [], body := b89 }

/-- function 90, loop 1: live [0, 1, 2, 7, 8] -/
def M90_1 : List Pth := [(.x0 (.x0 .e)), (.x1 (.x0 .e)), (.x2 (.x0 .e)), (.x7 (.x0 .e)), (.x8 (.x0 .e))]
def L90_1 : EC :=
  (.seq (.seq (.draw [0, 1, 2, 3, 4, 5, 6, 7, 8, 9, 10, 11, 12, 13, 14, 15] [0, 0, 3, 7, 15, 15, 63, 127, 15, 15, 527, 1807, 3855, 8191, 16383, 32767] [.s (.x1 (.x1 .e)) (.mv (.t (.x7 (.x0 .e)))),
    .s (.x2 (.x1 .e)) (.mv (.t (.x2 (.x0 .e)))),
    .s (.x3 (.x1 .e)) (.bin .lss (.t (.x1 (.x1 .e))) (.t (.x2 (.x1 .e)))),
    .s (.x4 (.x1 .e)) (.mv (.t (.x3 (.x1 .e)))),
    .g (.x4 (.x1 .e)) true (.x5 (.x1 .e)) (.mv (.t (.x0 (.x0 .e)))),
    .g (.x4 (.x1 .e)) true (.x6 (.x1 .e)) (.mv (.t (.x7 (.x0 .e)))),
    .g (.x4 (.x1 .e)) true (.x7 (.x1 .e)) (.ixs 1 (.t (.x5 (.x1 .e))) (.t (.x6 (.x1 .e)))),
    .g (.x4 (.x1 .e)) true (.x8 (.x1 .e)) (.ld none (.t (.x7 (.x1 .e)))),
    .g (.x4 (.x1 .e)) true (.x9 (.x1 .e)) (.mv (.t (.x0 (.x0 .e)))),
    .g (.x4 (.x1 .e)) true (.xa (.x1 .e)) (.mv (.t (.x7 (.x0 .e)))),
    .g (.x4 (.x1 .e)) true (.xb (.x1 .e)) (.bin .sub (.t (.xa (.x1 .e))) (.c (V.int .i64 1))),
    .g (.x4 (.x1 .e)) true (.xc (.x1 .e)) (.ixs 1 (.t (.x9 (.x1 .e))) (.t (.xb (.x1 .e)))),
    .g (.x4 (.x1 .e)) true (.xd (.x1 .e)) (.ld none (.t (.xc (.x1 .e)))),
    .g (.x4 (.x1 .e)) true (.xe (.x1 .e)) (.call 91 [(.t (.x8 (.x1 .e))), (.t (.xd (.x1 .e)))]),
    .g (.x4 (.x1 .e)) true (.xf (.x1 .e)) (.un .not (.t (.xe (.x1 .e)))),
    .s (.x0 (.x2 .e)) (.pick (.t (.x4 (.x1 .e))) (.t (.xf (.x1 .e))) (.c (V.bool false)))])
  (.cond (.t (.x0 (.x2 .e)))
  .skip
  (.exit 2)))
  (.blk 3 [(.x0 (.x0 .e)), (.x1 (.x0 .e)), (.x2 (.x0 .e)), (.x7 (.x0 .e)), (.x8 (.x0 .e))]
  (.ops [.s (.x1 (.x2 .e)) (.mv (.t (.x7 (.x0 .e)))),
    .s (.x2 (.x2 .e)) (.bin .add (.t (.x1 (.x2 .e))) (.c (V.int .i64 1))),
    .s (.x7 (.x0 .e)) (.asg (.t (.x2 (.x2 .e))))])))
/-- function 90, loop 2: live [0, 1, 2, 7, 8, 9] -/
def M90_2 : List Pth := [(.x0 (.x0 .e)), (.x1 (.x0 .e)), (.x2 (.x0 .e)), (.x7 (.x0 .e)), (.x8 (.x0 .e)), (.x9 (.x0 .e))]
def L90_2 : EC :=
  (.seq (.seq (.ops [.s (.x0 (.x4 .e)) (.mv (.t (.x9 (.x0 .e)))),
    .s (.x1 (.x4 .e)) (.bin .geq (.t (.x0 (.x4 .e))) (.c (V.int .i64 1)))])
  (.cond (.t (.x1 (.x4 .e)))
  .skip
  (.exit 4)))
  (.seq (.blk 5 [(.x0 (.x0 .e)), (.x1 (.x0 .e)), (.x2 (.x0 .e)), (.x7 (.x0 .e)), (.x8 (.x0 .e)), (.x9 (.x0 .e))]
  (.seq (.seq (.draw [0, 1, 2, 3, 4, 5, 6, 7, 8, 9, 10] [0, 0, 3, 7, 0, 0, 32, 112, 240, 511, 1023] [.s (.x4 (.x4 .e)) (.mv (.t (.x0 (.x0 .e)))),
    .s (.x5 (.x4 .e)) (.mv (.t (.x9 (.x0 .e)))),
    .s (.x6 (.x4 .e)) (.ixs 1 (.t (.x4 (.x4 .e))) (.t (.x5 (.x4 .e)))),
    .s (.x7 (.x4 .e)) (.ld none (.t (.x6 (.x4 .e)))),
    .s (.x8 (.x4 .e)) (.mv (.t (.x0 (.x0 .e)))),
    .s (.x9 (.x4 .e)) (.mv (.t (.x9 (.x0 .e)))),
    .s (.xa (.x4 .e)) (.bin .sub (.t (.x9 (.x4 .e))) (.c (V.int .i64 1))),
    .s (.xb (.x4 .e)) (.ixs 1 (.t (.x8 (.x4 .e))) (.t (.xa (.x4 .e)))),
    .s (.xc (.x4 .e)) (.ld none (.t (.xb (.x4 .e)))),
    .s (.xd (.x4 .e)) (.call 91 [(.t (.x7 (.x4 .e))), (.t (.xc (.x4 .e)))]),
    .s (.xe (.x4 .e)) (.un .not (.t (.xd (.x4 .e))))])
  (.cond (.t (.xe (.x4 .e)))
  (.exit 4)
  .skip))
  (.draw [0, 1, 2, 3, 4, 5, 6, 7, 8, 9, 10, 11, 12, 13, 14, 15, 16, 17] [0, 0, 0, 0, 8, 0, 0, 64, 224, 480, 0, 0, 3072, 7168, 16355, 32739, 65535, 131071] [.s (.xf (.x4 .e)) (.mv (.t (.x0 (.x0 .e)))),
    .s (.x0 (.x5 .e)) (.mv (.t (.x9 (.x0 .e)))),
    .s (.x1 (.x5 .e)) (.mv (.t (.x0 (.x0 .e)))),
    .s (.x2 (.x5 .e)) (.mv (.t (.x9 (.x0 .e)))),
    .s (.x3 (.x5 .e)) (.bin .sub (.t (.x2 (.x5 .e))) (.c (V.int .i64 1))),
    .s (.x4 (.x5 .e)) (.mv (.t (.x0 (.x0 .e)))),
    .s (.x5 (.x5 .e)) (.mv (.t (.x9 (.x0 .e)))),
    .s (.x6 (.x5 .e)) (.bin .sub (.t (.x5 (.x5 .e))) (.c (V.int .i64 1))),
    .s (.x7 (.x5 .e)) (.ixs 1 (.t (.x4 (.x5 .e))) (.t (.x6 (.x5 .e)))),
    .s (.x8 (.x5 .e)) (.ld none (.t (.x7 (.x5 .e)))),
    .s (.x9 (.x5 .e)) (.mv (.t (.x0 (.x0 .e)))),
    .s (.xa (.x5 .e)) (.mv (.t (.x9 (.x0 .e)))),
    .s (.xb (.x5 .e)) (.ixs 1 (.t (.x9 (.x5 .e))) (.t (.xa (.x5 .e)))),
    .s (.xc (.x5 .e)) (.ld none (.t (.xb (.x5 .e)))),
    .s (.xd (.x5 .e)) (.ixs 1 (.t (.xf (.x4 .e))) (.t (.x0 (.x5 .e)))),
    .u (.st none (.t (.xd (.x5 .e))) (.t (.x8 (.x5 .e)))),
    .s (.xe (.x5 .e)) (.ixs 1 (.t (.x1 (.x5 .e))) (.t (.x3 (.x5 .e)))),
    .u (.st none (.t (.xe (.x5 .e))) (.t (.xc (.x5 .e))))])))
  (.ops [.s (.x2 (.x4 .e)) (.mv (.t (.x9 (.x0 .e)))),
    .s (.x3 (.x4 .e)) (.bin .sub (.t (.x2 (.x4 .e))) (.c (V.int .i64 1))),
    .s (.x9 (.x0 .e)) (.asg (.t (.x3 (.x4 .e))))])))
/-- function 90, loop 3: live [0, 1, 2, 7, 8, 10] -/
def M90_3 : List Pth := [(.x0 (.x0 .e)), (.x1 (.x0 .e)), (.x2 (.x0 .e)), (.x7 (.x0 .e)), (.x8 (.x0 .e)), (.xa (.x0 .e))]
def L90_3 : EC :=
  (.seq (.seq (.ops [.s (.x5 (.x6 .e)) (.mv (.t (.xa (.x0 .e)))),
    .s (.x6 (.x6 .e)) (.mv (.t (.x2 (.x0 .e)))),
    .s (.x7 (.x6 .e)) (.bin .lss (.t (.x5 (.x6 .e))) (.t (.x6 (.x6 .e))))])
  (.cond (.t (.x7 (.x6 .e)))
  .skip
  (.exit 6)))
  (.seq (.blk 7 [(.x0 (.x0 .e)), (.x1 (.x0 .e)), (.x2 (.x0 .e)), (.x7 (.x0 .e)), (.x8 (.x0 .e)), (.xa (.x0 .e))]
  (.seq (.seq (.draw [0, 1, 2, 3, 4, 5, 6, 7, 8, 9, 10] [0, 0, 3, 7, 0, 0, 32, 112, 240, 511, 1023] [.s (.xa (.x6 .e)) (.mv (.t (.x0 (.x0 .e)))),
    .s (.xb (.x6 .e)) (.mv (.t (.xa (.x0 .e)))),
    .s (.xc (.x6 .e)) (.ixs 1 (.t (.xa (.x6 .e))) (.t (.xb (.x6 .e)))),
    .s (.xd (.x6 .e)) (.ld none (.t (.xc (.x6 .e)))),
    .s (.xe (.x6 .e)) (.mv (.t (.x0 (.x0 .e)))),
    .s (.xf (.x6 .e)) (.mv (.t (.xa (.x0 .e)))),
    .s (.x0 (.x7 .e)) (.bin .sub (.t (.xf (.x6 .e))) (.c (V.int .i64 1))),
    .s (.x1 (.x7 .e)) (.ixs 1 (.t (.xe (.x6 .e))) (.t (.x0 (.x7 .e)))),
    .s (.x2 (.x7 .e)) (.ld none (.t (.x1 (.x7 .e)))),
    .s (.x3 (.x7 .e)) (.call 91 [(.t (.xd (.x6 .e))), (.t (.x2 (.x7 .e)))]),
    .s (.x4 (.x7 .e)) (.un .not (.t (.x3 (.x7 .e))))])
  (.cond (.t (.x4 (.x7 .e)))
  (.exit 6)
  .skip))
  (.draw [0, 1, 2, 3, 4, 5, 6, 7, 8, 9, 10, 11, 12, 13, 14, 15, 16, 17] [0, 0, 0, 0, 8, 0, 0, 64, 224, 480, 0, 0, 3072, 7168, 16355, 32739, 65535, 131071] [.s (.x5 (.x7 .e)) (.mv (.t (.x0 (.x0 .e)))),
    .s (.x6 (.x7 .e)) (.mv (.t (.xa (.x0 .e)))),
    .s (.x7 (.x7 .e)) (.mv (.t (.x0 (.x0 .e)))),
    .s (.x8 (.x7 .e)) (.mv (.t (.xa (.x0 .e)))),
    .s (.x9 (.x7 .e)) (.bin .sub (.t (.x8 (.x7 .e))) (.c (V.int .i64 1))),
    .s (.xa (.x7 .e)) (.mv (.t (.x0 (.x0 .e)))),
    .s (.xb (.x7 .e)) (.mv (.t (.xa (.x0 .e)))),
    .s (.xc (.x7 .e)) (.bin .sub (.t (.xb (.x7 .e))) (.c (V.int .i64 1))),
    .s (.xd (.x7 .e)) (.ixs 1 (.t (.xa (.x7 .e))) (.t (.xc (.x7 .e)))),
    .s (.xe (.x7 .e)) (.ld none (.t (.xd (.x7 .e)))),
    .s (.xf (.x7 .e)) (.mv (.t (.x0 (.x0 .e)))),
    .s (.x0 (.x8 .e)) (.mv (.t (.xa (.x0 .e)))),
    .s (.x1 (.x8 .e)) (.ixs 1 (.t (.xf (.x7 .e))) (.t (.x0 (.x8 .e)))),
    .s (.x2 (.x8 .e)) (.ld none (.t (.x1 (.x8 .e)))),
    .s (.x3 (.x8 .e)) (.ixs 1 (.t (.x5 (.x7 .e))) (.t (.x6 (.x7 .e)))),
    .u (.st none (.t (.x3 (.x8 .e))) (.t (.xe (.x7 .e)))),
    .s (.x4 (.x8 .e)) (.ixs 1 (.t (.x7 (.x7 .e))) (.t (.x9 (.x7 .e)))),
    .u (.st none (.t (.x4 (.x8 .e))) (.t (.x2 (.x8 .e))))])))
  (.ops [.s (.x8 (.x6 .e)) (.mv (.t (.xa (.x0 .e)))),
    .s (.x9 (.x6 .e)) (.bin .add (.t (.x8 (.x6 .e))) (.c (V.int .i64 1))),
    .s (.xa (.x0 .e)) (.asg (.t (.x9 (.x6 .e))))])))
/-- function 90, loop 0: live [0, 1, 2, 7, 8] -/
def M90_0 : List Pth := [(.x0 (.x0 .e)), (.x1 (.x0 .e)), (.x2 (.x0 .e)), (.x7 (.x0 .e)), (.x8 (.x0 .e))]
def L90_0 : EC :=
  (.seq (.seq (.ops [.s (.xd (.x0 .e)) (.mv (.t (.x8 (.x0 .e)))),
    .s (.xe (.x0 .e)) (.bin .lss (.t (.xd (.x0 .e))) (.c (V.int .i64 5)))])
  (.cond (.t (.xe (.x0 .e)))
  .skip
  (.exit 0)))
  (.seq (.blk 1 [(.x0 (.x0 .e)), (.x1 (.x0 .e)), (.x2 (.x0 .e)), (.x7 (.x0 .e)), (.x8 (.x0 .e))]
  (.seq (.blk 2 [(.x0 (.x0 .e)), (.x1 (.x0 .e)), (.x2 (.x0 .e)), (.x7 (.x0 .e)), (.x8 (.x0 .e))]
  (.loop M90_1 L90_1))
  (.seq (.seq (.ops [.s (.x3 (.x2 .e)) (.mv (.t (.x7 (.x0 .e)))),
    .s (.x4 (.x2 .e)) (.mv (.t (.x2 (.x0 .e)))),
    .s (.x5 (.x2 .e)) (.bin .eql (.t (.x3 (.x2 .e))) (.t (.x4 (.x2 .e))))])
  (.cond (.t (.x5 (.x2 .e)))
  (.seq (.ops [.s (.x6 (.x0 .e)) (.asg (.c (V.bool true)))])
  .ret)
  .skip))
  (.seq (.seq (.ops [.s (.x6 (.x2 .e)) (.mv (.t (.x2 (.x0 .e)))),
    .s (.x7 (.x2 .e)) (.mv (.t (.x1 (.x0 .e)))),
    .s (.x8 (.x2 .e)) (.bin .sub (.t (.x6 (.x2 .e))) (.t (.x7 (.x2 .e)))),
    .s (.x9 (.x2 .e)) (.bin .lss (.t (.x8 (.x2 .e))) (.c (V.int .i64 50)))])
  (.cond (.t (.x9 (.x2 .e)))
  (.seq (.ops [.s (.x6 (.x0 .e)) (.asg (.c (V.bool false)))])
  .ret)
  .skip))
  (.seq (.draw [0, 1, 2, 3, 4, 5, 6, 7, 8, 9, 10, 11, 12, 13, 14, 15, 16, 17] [0, 0, 0, 0, 8, 0, 0, 64, 224, 480, 0, 0, 3072, 7168, 16355, 32739, 65535, 131071] [.s (.xa (.x2 .e)) (.mv (.t (.x0 (.x0 .e)))),
    .s (.xb (.x2 .e)) (.mv (.t (.x7 (.x0 .e)))),
    .s (.xc (.x2 .e)) (.mv (.t (.x0 (.x0 .e)))),
    .s (.xd (.x2 .e)) (.mv (.t (.x7 (.x0 .e)))),
    .s (.xe (.x2 .e)) (.bin .sub (.t (.xd (.x2 .e))) (.c (V.int .i64 1))),
    .s (.xf (.x2 .e)) (.mv (.t (.x0 (.x0 .e)))),
    .s (.x0 (.x3 .e)) (.mv (.t (.x7 (.x0 .e)))),
    .s (.x1 (.x3 .e)) (.bin .sub (.t (.x0 (.x3 .e))) (.c (V.int .i64 1))),
    .s (.x2 (.x3 .e)) (.ixs 1 (.t (.xf (.x2 .e))) (.t (.x1 (.x3 .e)))),
    .s (.x3 (.x3 .e)) (.ld none (.t (.x2 (.x3 .e)))),
    .s (.x4 (.x3 .e)) (.mv (.t (.x0 (.x0 .e)))),
    .s (.x5 (.x3 .e)) (.mv (.t (.x7 (.x0 .e)))),
    .s (.x6 (.x3 .e)) (.ixs 1 (.t (.x4 (.x3 .e))) (.t (.x5 (.x3 .e)))),
    .s (.x7 (.x3 .e)) (.ld none (.t (.x6 (.x3 .e)))),
    .s (.x8 (.x3 .e)) (.ixs 1 (.t (.xa (.x2 .e))) (.t (.xb (.x2 .e)))),
    .u (.st none (.t (.x8 (.x3 .e))) (.t (.x3 (.x3 .e)))),
    .s (.x9 (.x3 .e)) (.ixs 1 (.t (.xc (.x2 .e))) (.t (.xe (.x2 .e)))),
    .u (.st none (.t (.x9 (.x3 .e))) (.t (.x7 (.x3 .e))))])
  (.seq (.seq (.ops [.s (.xa (.x3 .e)) (.mv (.t (.x7 (.x0 .e)))),
    .s (.xb (.x3 .e)) (.mv (.t (.x1 (.x0 .e)))),
    .s (.xc (.x3 .e)) (.bin .sub (.t (.xa (.x3 .e))) (.t (.xb (.x3 .e)))),
    .s (.xd (.x3 .e)) (.bin .geq (.t (.xc (.x3 .e))) (.c (V.int .i64 2)))])
  (.cond (.t (.xd (.x3 .e)))
  (.seq (.ops [.s (.xe (.x3 .e)) (.mv (.t (.x7 (.x0 .e)))),
    .s (.xf (.x3 .e)) (.bin .sub (.t (.xe (.x3 .e))) (.c (V.int .i64 1))),
    .s (.x9 (.x0 .e)) (.asg (.t (.xf (.x3 .e))))])
  (.blk 4 [(.x0 (.x0 .e)), (.x1 (.x0 .e)), (.x2 (.x0 .e)), (.x7 (.x0 .e)), (.x8 (.x0 .e))]
  (.loop M90_2 L90_2)))
  .skip))
  (.seq (.ops [.s (.xf (.x5 .e)) (.mv (.t (.x2 (.x0 .e)))),
    .s (.x0 (.x6 .e)) (.mv (.t (.x7 (.x0 .e)))),
    .s (.x1 (.x6 .e)) (.bin .sub (.t (.xf (.x5 .e))) (.t (.x0 (.x6 .e)))),
    .s (.x2 (.x6 .e)) (.bin .geq (.t (.x1 (.x6 .e))) (.c (V.int .i64 2)))])
  (.cond (.t (.x2 (.x6 .e)))
  (.seq (.ops [.s (.x3 (.x6 .e)) (.mv (.t (.x7 (.x0 .e)))),
    .s (.x4 (.x6 .e)) (.bin .add (.t (.x3 (.x6 .e))) (.c (V.int .i64 1))),
    .s (.xa (.x0 .e)) (.asg (.t (.x4 (.x6 .e))))])
  (.blk 6 [(.x0 (.x0 .e)), (.x1 (.x0 .e)), (.x2 (.x0 .e)), (.x7 (.x0 .e)), (.x8 (.x0 .e))]
  (.loop M90_3 L90_3)))
  .skip))))))))
  (.ops [.s (.xf (.x0 .e)) (.mv (.t (.x8 (.x0 .e)))),
    .s (.x0 (.x1 .e)) (.bin .add (.t (.xf (.x0 .e))) (.c (V.int .i64 1))),
    .s (.x8 (.x0 .e)) (.asg (.t (.x0 (.x1 .e))))])))
/-- slices.partialInsertionSortOrdered[int64] -/
def b90 : EC :=
  (.seq (.ops [.s (.x6 (.x0 .e)) (.asg (.c (V.bool false)))])
  (.seq (.ops [.s (.xb (.x0 .e)) (.mv (.t (.x1 (.x0 .e)))),
    .s (.xc (.x0 .e)) (.bin .add (.t (.xb (.x0 .e))) (.c (V.int .i64 1))),
    .s (.x7 (.x0 .e)) (.asg (.t (.xc (.x0 .e))))])
  (.seq (.seq (.ops [.s (.x8 (.x0 .e)) (.asg (.c (V.int .i64 0)))])
  (.blk 0 []
  (.loop M90_0 L90_0)))
  (.seq (.ops [.s (.x6 (.x0 .e)) (.asg (.c (V.bool false)))])
  .ret))))
def e90 : EF := { depth := 2, nargs := 3, results := [.t (.x6 (.x0 .e))], body := b90 }

/-- cmp.Less[int64] -/
def b91 : EC :=
  (.seq (.ops [.s (.x4 (.x0 .e)) (.asg (.c (V.bool false)))])
  (.seq (.ops [.s (.x5 (.x0 .e)) (.mv (.t (.x0 (.x0 .e)))),
    .s (.x6 (.x0 .e)) (.call 102 [(.t (.x5 (.x0 .e)))]),
    .s (.x7 (.x0 .e)) (.mv (.t (.x6 (.x0 .e)))),
    .g (.x7 (.x0 .e)) true (.x8 (.x0 .e)) (.mv (.t (.x1 (.x0 .e)))),
    .g (.x7 (.x0 .e)) true (.x9 (.x0 .e)) (.call 102 [(.t (.x8 (.x0 .e)))]),
    .g (.x7 (.x0 .e)) true (.xa (.x0 .e)) (.un .not (.t (.x9 (.x0 .e)))),
    .s (.xb (.x0 .e)) (.pick (.t (.x7 (.x0 .e))) (.t (.xa (.x0 .e))) (.c (V.bool false))),
    .s (.xc (.x0 .e)) (.mv (.t (.xb (.x0 .e)))),
    .g (.xc (.x0 .e)) false (.xd (.x0 .e)) (.mv (.t (.x0 (.x0 .e)))),
    .g (.xc (.x0 .e)) false (.xe (.x0 .e)) (.mv (.t (.x1 (.x0 .e)))),
    .g (.xc (.x0 .e)) false (.xf (.x0 .e)) (.bin .lss (.t (.xd (.x0 .e))) (.t (.xe (.x0 .e)))),
    .s (.x0 (.x1 .e)) (.pick (.t (.xc (.x0 .e))) (.c (V.bool true)) (.t (.xf (.x0 .e)))),
    .s (.x4 (.x0 .e)) (.asg (.t (.x0 (.x1 .e))))])
  .ret))
def e91 : EF := { depth := 2, nargs := 2, results := [.t (.x4 (.x0 .e))], body := b91 }

/-- function 92, loop 1: live [0, 1, 9, 10] -/
def M92_1 : List Pth := [(.x0 (.x0 .e)), (.x1 (.x0 .e)), (.x9 (.x0 .e)), (.xa (.x0 .e))]
def L92_1 : EC :=
  (.seq (.seq (.draw [0, 1, 2, 3, 4, 5, 6, 7, 8, 9, 10, 11, 12, 13, 14] [0, 0, 3, 7, 15, 15, 63, 127, 15, 15, 783, 1807, 4095, 8191, 16383] [.s (.xd (.x1 .e)) (.mv (.t (.x9 (.x0 .e)))),
    .s (.xe (.x1 .e)) (.mv (.t (.xa (.x0 .e)))),
    .s (.xf (.x1 .e)) (.bin .leq (.t (.xd (.x1 .e))) (.t (.xe (.x1 .e)))),
    .s (.x0 (.x2 .e)) (.mv (.t (.xf (.x1 .e)))),
    .g (.x0 (.x2 .e)) true (.x1 (.x2 .e)) (.mv (.t (.x0 (.x0 .e)))),
    .g (.x0 (.x2 .e)) true (.x2 (.x2 .e)) (.mv (.t (.x1 (.x0 .e)))),
    .g (.x0 (.x2 .e)) true (.x3 (.x2 .e)) (.ixs 1 (.t (.x1 (.x2 .e))) (.t (.x2 (.x2 .e)))),
    .g (.x0 (.x2 .e)) true (.x4 (.x2 .e)) (.ld none (.t (.x3 (.x2 .e)))),
    .g (.x0 (.x2 .e)) true (.x5 (.x2 .e)) (.mv (.t (.x0 (.x0 .e)))),
    .g (.x0 (.x2 .e)) true (.x6 (.x2 .e)) (.mv (.t (.x9 (.x0 .e)))),
    .g (.x0 (.x2 .e)) true (.x7 (.x2 .e)) (.ixs 1 (.t (.x5 (.x2 .e))) (.t (.x6 (.x2 .e)))),
    .g (.x0 (.x2 .e)) true (.x8 (.x2 .e)) (.ld none (.t (.x7 (.x2 .e)))),
    .g (.x0 (.x2 .e)) true (.x9 (.x2 .e)) (.call 91 [(.t (.x4 (.x2 .e))), (.t (.x8 (.x2 .e)))]),
    .g (.x0 (.x2 .e)) true (.xa (.x2 .e)) (.un .not (.t (.x9 (.x2 .e)))),
    .s (.xb (.x2 .e)) (.pick (.t (.x0 (.x2 .e))) (.t (.xa (.x2 .e))) (.c (V.bool false)))])
  (.cond (.t (.xb (.x2 .e)))
  .skip
  (.exit 2)))
  (.blk 3 [(.x0 (.x0 .e)), (.x1 (.x0 .e)), (.x9 (.x0 .e)), (.xa (.x0 .e))]
  (.ops [.s (.xc (.x2 .e)) (.mv (.t (.x9 (.x0 .e)))),
    .s (.xd (.x2 .e)) (.bin .add (.t (.xc (.x2 .e))) (.c (V.int .i64 1))),
    .s (.x9 (.x0 .e)) (.asg (.t (.xd (.x2 .e))))])))
/-- function 92, loop 2: live [0, 1, 9, 10] -/
def M92_2 : List Pth := [(.x0 (.x0 .e)), (.x1 (.x0 .e)), (.x9 (.x0 .e)), (.xa (.x0 .e))]
def L92_2 : EC :=
  (.seq (.seq (.draw [0, 1, 2, 3, 4, 5, 6, 7, 8, 9, 10, 11, 12, 13] [0, 0, 3, 7, 15, 15, 63, 127, 15, 15, 783, 1807, 4095, 8191] [.s (.xe (.x2 .e)) (.mv (.t (.x9 (.x0 .e)))),
    .s (.xf (.x2 .e)) (.mv (.t (.xa (.x0 .e)))),
    .s (.x0 (.x3 .e)) (.bin .leq (.t (.xe (.x2 .e))) (.t (.xf (.x2 .e)))),
    .s (.x1 (.x3 .e)) (.mv (.t (.x0 (.x3 .e)))),
    .g (.x1 (.x3 .e)) true (.x2 (.x3 .e)) (.mv (.t (.x0 (.x0 .e)))),
    .g (.x1 (.x3 .e)) true (.x3 (.x3 .e)) (.mv (.t (.x1 (.x0 .e)))),
    .g (.x1 (.x3 .e)) true (.x4 (.x3 .e)) (.ixs 1 (.t (.x2 (.x3 .e))) (.t (.x3 (.x3 .e)))),
    .g (.x1 (.x3 .e)) true (.x5 (.x3 .e)) (.ld none (.t (.x4 (.x3 .e)))),
    .g (.x1 (.x3 .e)) true (.x6 (.x3 .e)) (.mv (.t (.x0 (.x0 .e)))),
    .g (.x1 (.x3 .e)) true (.x7 (.x3 .e)) (.mv (.t (.xa (.x0 .e)))),
    .g (.x1 (.x3 .e)) true (.x8 (.x3 .e)) (.ixs 1 (.t (.x6 (.x3 .e))) (.t (.x7 (.x3 .e)))),
    .g (.x1 (.x3 .e)) true (.x9 (.x3 .e)) (.ld none (.t (.x8 (.x3 .e)))),
    .g (.x1 (.x3 .e)) true (.xa (.x3 .e)) (.call 91 [(.t (.x5 (.x3 .e))), (.t (.x9 (.x3 .e)))]),
    .s (.xb (.x3 .e)) (.pick (.t (.x1 (.x3 .e))) (.t (.xa (.x3 .e))) (.c (V.bool false)))])
  (.cond (.t (.xb (.x3 .e)))
  .skip
  (.exit 4)))
  (.blk 5 [(.x0 (.x0 .e)), (.x1 (.x0 .e)), (.x9 (.x0 .e)), (.xa (.x0 .e))]
  (.ops [.s (.xc (.x3 .e)) (.mv (.t (.xa (.x0 .e)))),
    .s (.xd (.x3 .e)) (.bin .sub (.t (.xc (.x3 .e))) (.c (V.int .i64 1))),
    .s (.xa (.x0 .e)) (.asg (.t (.xd (.x3 .e))))])))
/-- function 92, loop 0: live [0, 1, 9, 10] -/
def M92_0 : List Pth := [(.x0 (.x0 .e)), (.x1 (.x0 .e)), (.x9 (.x0 .e)), (.xa (.x0 .e))]
def L92_0 : EC :=
  (.blk 1 [(.x0 (.x0 .e)), (.x1 (.x0 .e)), (.x9 (.x0 .e)), (.xa (.x0 .e))]
  (.seq (.blk 2 [(.x0 (.x0 .e)), (.x1 (.x0 .e)), (.x9 (.x0 .e)), (.xa (.x0 .e))]
  (.loop M92_1 L92_1))
  (.seq (.blk 4 [(.x0 (.x0 .e)), (.x1 (.x0 .e)), (.x9 (.x0 .e)), (.xa (.x0 .e))]
  (.loop M92_2 L92_2))
  (.seq (.seq (.ops [.s (.xe (.x3 .e)) (.mv (.t (.x9 (.x0 .e)))),
    .s (.xf (.x3 .e)) (.mv (.t (.xa (.x0 .e)))),
    .s (.x0 (.x4 .e)) (.bin .gtr (.t (.xe (.x3 .e))) (.t (.xf (.x3 .e))))])
  (.cond (.t (.x0 (.x4 .e)))
  (.exit 0)
  .skip))
  (.seq (.draw [0, 1, 2, 3, 4, 5, 6, 7, 8, 9, 10, 11, 12, 13, 14, 15] [0, 0, 0, 0, 0, 0, 48, 112, 0, 0, 768, 1792, 4083, 8179, 16383, 32767] [.s (.x1 (.x4 .e)) (.mv (.t (.x0 (.x0 .e)))),
    .s (.x2 (.x4 .e)) (.mv (.t (.x9 (.x0 .e)))),
    .s (.x3 (.x4 .e)) (.mv (.t (.x0 (.x0 .e)))),
    .s (.x4 (.x4 .e)) (.mv (.t (.xa (.x0 .e)))),
    .s (.x5 (.x4 .e)) (.mv (.t (.x0 (.x0 .e)))),
    .s (.x6 (.x4 .e)) (.mv (.t (.xa (.x0 .e)))),
    .s (.x7 (.x4 .e)) (.ixs 1 (.t (.x5 (.x4 .e))) (.t (.x6 (.x4 .e)))),
    .s (.x8 (.x4 .e)) (.ld none (.t (.x7 (.x4 .e)))),
    .s (.x9 (.x4 .e)) (.mv (.t (.x0 (.x0 .e)))),
    .s (.xa (.x4 .e)) (.mv (.t (.x9 (.x0 .e)))),
    .s (.xb (.x4 .e)) (.ixs 1 (.t (.x9 (.x4 .e))) (.t (.xa (.x4 .e)))),
    .s (.xc (.x4 .e)) (.ld none (.t (.xb (.x4 .e)))),
    .s (.xd (.x4 .e)) (.ixs 1 (.t (.x1 (.x4 .e))) (.t (.x2 (.x4 .e)))),
    .u (.st none (.t (.xd (.x4 .e))) (.t (.x8 (.x4 .e)))),
    .s (.xe (.x4 .e)) (.ixs 1 (.t (.x3 (.x4 .e))) (.t (.x4 (.x4 .e)))),
    .u (.st none (.t (.xe (.x4 .e))) (.t (.xc (.x4 .e))))])
  (.seq (.ops [.s (.xf (.x4 .e)) (.mv (.t (.x9 (.x0 .e)))),
    .s (.x0 (.x5 .e)) (.bin .add (.t (.xf (.x4 .e))) (.c (V.int .i64 1))),
    .s (.x9 (.x0 .e)) (.asg (.t (.x0 (.x5 .e))))])
  (.ops [.s (.x1 (.x5 .e)) (.mv (.t (.xa (.x0 .e)))),
    .s (.x2 (.x5 .e)) (.bin .sub (.t (.x1 (.x5 .e))) (.c (V.int .i64 1))),
    .s (.xa (.x0 .e)) (.asg (.t (.x2 (.x5 .e))))])))))))
/-- slices.partitionEqualOrdered[int64] -/
def b92 : EC :=
  (.seq (.ops [.s (.x8 (.x0 .e)) (.asg (.c (V.int .i64 0)))])
  (.seq (.draw [0, 1, 2, 3, 4, 5, 6, 7, 8, 9, 10, 11, 12, 13, 14, 15] [0, 0, 0, 0, 0, 0, 48, 112, 0, 0, 768, 1792, 4083, 8179, 16383, 32767] [.s (.xb (.x0 .e)) (.mv (.t (.x0 (.x0 .e)))),
    .s (.xc (.x0 .e)) (.mv (.t (.x1 (.x0 .e)))),
    .s (.xd (.x0 .e)) (.mv (.t (.x0 (.x0 .e)))),
    .s (.xe (.x0 .e)) (.mv (.t (.x3 (.x0 .e)))),
    .s (.xf (.x0 .e)) (.mv (.t (.x0 (.x0 .e)))),
    .s (.x0 (.x1 .e)) (.mv (.t (.x3 (.x0 .e)))),
    .s (.x1 (.x1 .e)) (.ixs 1 (.t (.xf (.x0 .e))) (.t (.x0 (.x1 .e)))),
    .s (.x2 (.x1 .e)) (.ld none (.t (.x1 (.x1 .e)))),
    .s (.x3 (.x1 .e)) (.mv (.t (.x0 (.x0 .e)))),
    .s (.x4 (.x1 .e)) (.mv (.t (.x1 (.x0 .e)))),
    .s (.x5 (.x1 .e)) (.ixs 1 (.t (.x3 (.x1 .e))) (.t (.x4 (.x1 .e)))),
    .s (.x6 (.x1 .e)) (.ld none (.t (.x5 (.x1 .e)))),
    .s (.x7 (.x1 .e)) (.ixs 1 (.t (.xb (.x0 .e))) (.t (.xc (.x0 .e)))),
    .u (.st none (.t (.x7 (.x1 .e))) (.t (.x2 (.x1 .e)))),
    .s (.x8 (.x1 .e)) (.ixs 1 (.t (.xd (.x0 .e))) (.t (.xe (.x0 .e)))),
    .u (.st none (.t (.x8 (.x1 .e))) (.t (.x6 (.x1 .e))))])
  (.seq (.ops [.s (.x9 (.x1 .e)) (.mv (.t (.x1 (.x0 .e)))),
    .s (.xa (.x1 .e)) (.bin .add (.t (.x9 (.x1 .e))) (.c (V.int .i64 1))),
    .s (.xb (.x1 .e)) (.mv (.t (.x2 (.x0 .e)))),
    .s (.xc (.x1 .e)) (.bin .sub (.t (.xb (.x1 .e))) (.c (V.int .i64 1))),
    .s (.x9 (.x0 .e)) (.asg (.t (.xa (.x1 .e)))),
    .s (.xa (.x0 .e)) (.asg (.t (.xc (.x1 .e))))])
  (.seq (.blk 0 [(.x9 (.x0 .e))]
  (.loop M92_0 L92_0))
  (.seq (.ops [.s (.x3 (.x5 .e)) (.mv (.t (.x9 (.x0 .e)))),
    .s (.x8 (.x0 .e)) (.asg (.t (.x3 (.x5 .e))))])
  .ret)))))
def e92 : EF := { depth := 2, nargs := 4, results := [.t (.x8 (.x0 .e))], body := b92 }

/-- function 93, loop 0: live [0, 1, 10, 11] -/
def M93_0 : List Pth := [(.x0 (.x0 .e)), (.x1 (.x0 .e)), (.xa (.x0 .e)), (.xb (.x0 .e))]
def L93_0 : EC :=
  (.seq (.seq (.draw [0, 1, 2, 3, 4, 5, 6, 7, 8, 9, 10, 11, 12, 13] [0, 0, 3, 7, 15, 15, 63, 127, 15, 15, 783, 1807, 4095, 8191] [.s (.xe (.x1 .e)) (.mv (.t (.xa (.x0 .e)))),
    .s (.xf (.x1 .e)) (.mv (.t (.xb (.x0 .e)))),
    .s (.x0 (.x2 .e)) (.bin .leq (.t (.xe (.x1 .e))) (.t (.xf (.x1 .e)))),
    .s (.x1 (.x2 .e)) (.mv (.t (.x0 (.x2 .e)))),
    .g (.x1 (.x2 .e)) true (.x2 (.x2 .e)) (.mv (.t (.x0 (.x0 .e)))),
    .g (.x1 (.x2 .e)) true (.x3 (.x2 .e)) (.mv (.t (.xa (.x0 .e)))),
    .g (.x1 (.x2 .e)) true (.x4 (.x2 .e)) (.ixs 1 (.t (.x2 (.x2 .e))) (.t (.x3 (.x2 .e)))),
    .g (.x1 (.x2 .e)) true (.x5 (.x2 .e)) (.ld none (.t (.x4 (.x2 .e)))),
    .g (.x1 (.x2 .e)) true (.x6 (.x2 .e)) (.mv (.t (.x0 (.x0 .e)))),
    .g (.x1 (.x2 .e)) true (.x7 (.x2 .e)) (.mv (.t (.x1 (.x0 .e)))),
    .g (.x1 (.x2 .e)) true (.x8 (.x2 .e)) (.ixs 1 (.t (.x6 (.x2 .e))) (.t (.x7 (.x2 .e)))),
    .g (.x1 (.x2 .e)) true (.x9 (.x2 .e)) (.ld none (.t (.x8 (.x2 .e)))),
    .g (.x1 (.x2 .e)) true (.xa (.x2 .e)) (.call 91 [(.t (.x5 (.x2 .e))), (.t (.x9 (.x2 .e)))]),
    .s (.xb (.x2 .e)) (.pick (.t (.x1 (.x2 .e))) (.t (.xa (.x2 .e))) (.c (V.bool false)))])
  (.cond (.t (.xb (.x2 .e)))
  .skip
  (.exit 0)))
  (.blk 1 [(.x0 (.x0 .e)), (.x1 (.x0 .e)), (.xa (.x0 .e)), (.xb (.x0 .e))]
  (.ops [.s (.xc (.x2 .e)) (.mv (.t (.xa (.x0 .e)))),
    .s (.xd (.x2 .e)) (.bin .add (.t (.xc (.x2 .e))) (.c (V.int .i64 1))),
    .s (.xa (.x0 .e)) (.asg (.t (.xd (.x2 .e))))])))
/-- function 93, loop 1: live [0, 1, 10, 11] -/
def M93_1 : List Pth := [(.x0 (.x0 .e)), (.x1 (.x0 .e)), (.xa (.x0 .e)), (.xb (.x0 .e))]
def L93_1 : EC :=
  (.seq (.seq (.draw [0, 1, 2, 3, 4, 5, 6, 7, 8, 9, 10, 11, 12, 13, 14] [0, 0, 3, 7, 15, 15, 63, 127, 15, 15, 783, 1807, 4095, 8191, 16383] [.s (.xe (.x2 .e)) (.mv (.t (.xa (.x0 .e)))),
    .s (.xf (.x2 .e)) (.mv (.t (.xb (.x0 .e)))),
    .s (.x0 (.x3 .e)) (.bin .leq (.t (.xe (.x2 .e))) (.t (.xf (.x2 .e)))),
    .s (.x1 (.x3 .e)) (.mv (.t (.x0 (.x3 .e)))),
    .g (.x1 (.x3 .e)) true (.x2 (.x3 .e)) (.mv (.t (.x0 (.x0 .e)))),
    .g (.x1 (.x3 .e)) true (.x3 (.x3 .e)) (.mv (.t (.xb (.x0 .e)))),
    .g (.x1 (.x3 .e)) true (.x4 (.x3 .e)) (.ixs 1 (.t (.x2 (.x3 .e))) (.t (.x3 (.x3 .e)))),
    .g (.x1 (.x3 .e)) true (.x5 (.x3 .e)) (.ld none (.t (.x4 (.x3 .e)))),
    .g (.x1 (.x3 .e)) true (.x6 (.x3 .e)) (.mv (.t (.x0 (.x0 .e)))),
    .g (.x1 (.x3 .e)) true (.x7 (.x3 .e)) (.mv (.t (.x1 (.x0 .e)))),
    .g (.x1 (.x3 .e)) true (.x8 (.x3 .e)) (.ixs 1 (.t (.x6 (.x3 .e))) (.t (.x7 (.x3 .e)))),
    .g (.x1 (.x3 .e)) true (.x9 (.x3 .e)) (.ld none (.t (.x8 (.x3 .e)))),
    .g (.x1 (.x3 .e)) true (.xa (.x3 .e)) (.call 91 [(.t (.x5 (.x3 .e))), (.t (.x9 (.x3 .e)))]),
    .g (.x1 (.x3 .e)) true (.xb (.x3 .e)) (.un .not (.t (.xa (.x3 .e)))),
    .s (.xc (.x3 .e)) (.pick (.t (.x1 (.x3 .e))) (.t (.xb (.x3 .e))) (.c (V.bool false)))])
  (.cond (.t (.xc (.x3 .e)))
  .skip
  (.exit 2)))
  (.blk 3 [(.x0 (.x0 .e)), (.x1 (.x0 .e)), (.xa (.x0 .e)), (.xb (.x0 .e))]
  (.ops [.s (.xd (.x3 .e)) (.mv (.t (.xb (.x0 .e)))),
    .s (.xe (.x3 .e)) (.bin .sub (.t (.xd (.x3 .e))) (.c (V.int .i64 1))),
    .s (.xb (.x0 .e)) (.asg (.t (.xe (.x3 .e))))])))
/-- function 93, loop 3: live [0, 1, 10, 11] -/
def M93_3 : List Pth := [(.x0 (.x0 .e)), (.x1 (.x0 .e)), (.xa (.x0 .e)), (.xb (.x0 .e))]
def L93_3 : EC :=
  (.seq (.seq (.draw [0, 1, 2, 3, 4, 5, 6, 7, 8, 9, 10, 11, 12, 13] [0, 0, 3, 7, 15, 15, 63, 127, 15, 15, 783, 1807, 4095, 8191] [.s (.x3 (.x6 .e)) (.mv (.t (.xa (.x0 .e)))),
    .s (.x4 (.x6 .e)) (.mv (.t (.xb (.x0 .e)))),
    .s (.x5 (.x6 .e)) (.bin .leq (.t (.x3 (.x6 .e))) (.t (.x4 (.x6 .e)))),
    .s (.x6 (.x6 .e)) (.mv (.t (.x5 (.x6 .e)))),
    .g (.x6 (.x6 .e)) true (.x7 (.x6 .e)) (.mv (.t (.x0 (.x0 .e)))),
    .g (.x6 (.x6 .e)) true (.x8 (.x6 .e)) (.mv (.t (.xa (.x0 .e)))),
    .g (.x6 (.x6 .e)) true (.x9 (.x6 .e)) (.ixs 1 (.t (.x7 (.x6 .e))) (.t (.x8 (.x6 .e)))),
    .g (.x6 (.x6 .e)) true (.xa (.x6 .e)) (.ld none (.t (.x9 (.x6 .e)))),
    .g (.x6 (.x6 .e)) true (.xb (.x6 .e)) (.mv (.t (.x0 (.x0 .e)))),
    .g (.x6 (.x6 .e)) true (.xc (.x6 .e)) (.mv (.t (.x1 (.x0 .e)))),
    .g (.x6 (.x6 .e)) true (.xd (.x6 .e)) (.ixs 1 (.t (.xb (.x6 .e))) (.t (.xc (.x6 .e)))),
    .g (.x6 (.x6 .e)) true (.xe (.x6 .e)) (.ld none (.t (.xd (.x6 .e)))),
    .g (.x6 (.x6 .e)) true (.xf (.x6 .e)) (.call 91 [(.t (.xa (.x6 .e))), (.t (.xe (.x6 .e)))]),
    .s (.x0 (.x7 .e)) (.pick (.t (.x6 (.x6 .e))) (.t (.xf (.x6 .e))) (.c (V.bool false)))])
  (.cond (.t (.x0 (.x7 .e)))
  .skip
  (.exit 6)))
  (.blk 7 [(.x0 (.x0 .e)), (.x1 (.x0 .e)), (.xa (.x0 .e)), (.xb (.x0 .e))]
  (.ops [.s (.x1 (.x7 .e)) (.mv (.t (.xa (.x0 .e)))),
    .s (.x2 (.x7 .e)) (.bin .add (.t (.x1 (.x7 .e))) (.c (V.int .i64 1))),
    .s (.xa (.x0 .e)) (.asg (.t (.x2 (.x7 .e))))])))
/-- function 93, loop 4: live [0, 1, 10, 11] -/
def M93_4 : List Pth := [(.x0 (.x0 .e)), (.x1 (.x0 .e)), (.xa (.x0 .e)), (.xb (.x0 .e))]
def L93_4 : EC :=
  (.seq (.seq (.draw [0, 1, 2, 3, 4, 5, 6, 7, 8, 9, 10, 11, 12, 13, 14] [0, 0, 3, 7, 15, 15, 63, 127, 15, 15, 783, 1807, 4095, 8191, 16383] [.s (.x3 (.x7 .e)) (.mv (.t (.xa (.x0 .e)))),
    .s (.x4 (.x7 .e)) (.mv (.t (.xb (.x0 .e)))),
    .s (.x5 (.x7 .e)) (.bin .leq (.t (.x3 (.x7 .e))) (.t (.x4 (.x7 .e)))),
    .s (.x6 (.x7 .e)) (.mv (.t (.x5 (.x7 .e)))),
    .g (.x6 (.x7 .e)) true (.x7 (.x7 .e)) (.mv (.t (.x0 (.x0 .e)))),
    .g (.x6 (.x7 .e)) true (.x8 (.x7 .e)) (.mv (.t (.xb (.x0 .e)))),
    .g (.x6 (.x7 .e)) true (.x9 (.x7 .e)) (.ixs 1 (.t (.x7 (.x7 .e))) (.t (.x8 (.x7 .e)))),
    .g (.x6 (.x7 .e)) true (.xa (.x7 .e)) (.ld none (.t (.x9 (.x7 .e)))),
    .g (.x6 (.x7 .e)) true (.xb (.x7 .e)) (.mv (.t (.x0 (.x0 .e)))),
    .g (.x6 (.x7 .e)) true (.xc (.x7 .e)) (.mv (.t (.x1 (.x0 .e)))),
    .g (.x6 (.x7 .e)) true (.xd (.x7 .e)) (.ixs 1 (.t (.xb (.x7 .e))) (.t (.xc (.x7 .e)))),
    .g (.x6 (.x7 .e)) true (.xe (.x7 .e)) (.ld none (.t (.xd (.x7 .e)))),
    .g (.x6 (.x7 .e)) true (.xf (.x7 .e)) (.call 91 [(.t (.xa (.x7 .e))), (.t (.xe (.x7 .e)))]),
    .g (.x6 (.x7 .e)) true (.x0 (.x8 .e)) (.un .not (.t (.xf (.x7 .e)))),
    .s (.x1 (.x8 .e)) (.pick (.t (.x6 (.x7 .e))) (.t (.x0 (.x8 .e))) (.c (V.bool false)))])
  (.cond (.t (.x1 (.x8 .e)))
  .skip
  (.exit 8)))
  (.blk 9 [(.x0 (.x0 .e)), (.x1 (.x0 .e)), (.xa (.x0 .e)), (.xb (.x0 .e))]
  (.ops [.s (.x2 (.x8 .e)) (.mv (.t (.xb (.x0 .e)))),
    .s (.x3 (.x8 .e)) (.bin .sub (.t (.x2 (.x8 .e))) (.c (V.int .i64 1))),
    .s (.xb (.x0 .e)) (.asg (.t (.x3 (.x8 .e))))])))
/-- function 93, loop 2: live [0, 1, 10, 11] -/
def M93_2 : List Pth := [(.x0 (.x0 .e)), (.x1 (.x0 .e)), (.xa (.x0 .e)), (.xb (.x0 .e))]
def L93_2 : EC :=
  (.blk 5 [(.x0 (.x0 .e)), (.x1 (.x0 .e)), (.xa (.x0 .e)), (.xb (.x0 .e))]
  (.seq (.blk 6 [(.x0 (.x0 .e)), (.x1 (.x0 .e)), (.xa (.x0 .e)), (.xb (.x0 .e))]
  (.loop M93_3 L93_3))
  (.seq (.blk 8 [(.x0 (.x0 .e)), (.x1 (.x0 .e)), (.xa (.x0 .e)), (.xb (.x0 .e))]
  (.loop M93_4 L93_4))
  (.seq (.seq (.ops [.s (.x4 (.x8 .e)) (.mv (.t (.xa (.x0 .e)))),
    .s (.x5 (.x8 .e)) (.mv (.t (.xb (.x0 .e)))),
    .s (.x6 (.x8 .e)) (.bin .gtr (.t (.x4 (.x8 .e))) (.t (.x5 (.x8 .e))))])
  (.cond (.t (.x6 (.x8 .e)))
  (.exit 4)
  .skip))
  (.seq (.draw [0, 1, 2, 3, 4, 5, 6, 7, 8, 9, 10, 11, 12, 13, 14, 15] [0, 0, 0, 0, 0, 0, 48, 112, 0, 0, 768, 1792, 4083, 8179, 16383, 32767] [.s (.x7 (.x8 .e)) (.mv (.t (.x0 (.x0 .e)))),
    .s (.x8 (.x8 .e)) (.mv (.t (.xa (.x0 .e)))),
    .s (.x9 (.x8 .e)) (.mv (.t (.x0 (.x0 .e)))),
    .s (.xa (.x8 .e)) (.mv (.t (.xb (.x0 .e)))),
    .s (.xb (.x8 .e)) (.mv (.t (.x0 (.x0 .e)))),
    .s (.xc (.x8 .e)) (.mv (.t (.xb (.x0 .e)))),
    .s (.xd (.x8 .e)) (.ixs 1 (.t (.xb (.x8 .e))) (.t (.xc (.x8 .e)))),
    .s (.xe (.x8 .e)) (.ld none (.t (.xd (.x8 .e)))),
    .s (.xf (.x8 .e)) (.mv (.t (.x0 (.x0 .e)))),
    .s (.x0 (.x9 .e)) (.mv (.t (.xa (.x0 .e)))),
    .s (.x1 (.x9 .e)) (.ixs 1 (.t (.xf (.x8 .e))) (.t (.x0 (.x9 .e)))),
    .s (.x2 (.x9 .e)) (.ld none (.t (.x1 (.x9 .e)))),
    .s (.x3 (.x9 .e)) (.ixs 1 (.t (.x7 (.x8 .e))) (.t (.x8 (.x8 .e)))),
    .u (.st none (.t (.x3 (.x9 .e))) (.t (.xe (.x8 .e)))),
    .s (.x4 (.x9 .e)) (.ixs 1 (.t (.x9 (.x8 .e))) (.t (.xa (.x8 .e)))),
    .u (.st none (.t (.x4 (.x9 .e))) (.t (.x2 (.x9 .e))))])
  (.seq (.ops [.s (.x5 (.x9 .e)) (.mv (.t (.xa (.x0 .e)))),
    .s (.x6 (.x9 .e)) (.bin .add (.t (.x5 (.x9 .e))) (.c (V.int .i64 1))),
    .s (.xa (.x0 .e)) (.asg (.t (.x6 (.x9 .e))))])
  (.ops [.s (.x7 (.x9 .e)) (.mv (.t (.xb (.x0 .e)))),
    .s (.x8 (.x9 .e)) (.bin .sub (.t (.x7 (.x9 .e))) (.c (V.int .i64 1))),
    .s (.xb (.x0 .e)) (.asg (.t (.x8 (.x9 .e))))])))))))
/-- slices.partitionOrdered[int64] -/
def b93 : EC :=
  (.seq (.ops [.s (.x8 (.x0 .e)) (.asg (.c (V.int .i64 0))),
    .s (.x9 (.x0 .e)) (.asg (.c (V.bool false)))])
  (.seq (.draw [0, 1, 2, 3, 4, 5, 6, 7, 8, 9, 10, 11, 12, 13, 14, 15] [0, 0, 0, 0, 0, 0, 48, 112, 0, 0, 768, 1792, 4083, 8179, 16383, 32767] [.s (.xc (.x0 .e)) (.mv (.t (.x0 (.x0 .e)))),
    .s (.xd (.x0 .e)) (.mv (.t (.x1 (.x0 .e)))),
    .s (.xe (.x0 .e)) (.mv (.t (.x0 (.x0 .e)))),
    .s (.xf (.x0 .e)) (.mv (.t (.x3 (.x0 .e)))),
    .s (.x0 (.x1 .e)) (.mv (.t (.x0 (.x0 .e)))),
    .s (.x1 (.x1 .e)) (.mv (.t (.x3 (.x0 .e)))),
    .s (.x2 (.x1 .e)) (.ixs 1 (.t (.x0 (.x1 .e))) (.t (.x1 (.x1 .e)))),
    .s (.x3 (.x1 .e)) (.ld none (.t (.x2 (.x1 .e)))),
    .s (.x4 (.x1 .e)) (.mv (.t (.x0 (.x0 .e)))),
    .s (.x5 (.x1 .e)) (.mv (.t (.x1 (.x0 .e)))),
    .s (.x6 (.x1 .e)) (.ixs 1 (.t (.x4 (.x1 .e))) (.t (.x5 (.x1 .e)))),
    .s (.x7 (.x1 .e)) (.ld none (.t (.x6 (.x1 .e)))),
    .s (.x8 (.x1 .e)) (.ixs 1 (.t (.xc (.x0 .e))) (.t (.xd (.x0 .e)))),
    .u (.st none (.t (.x8 (.x1 .e))) (.t (.x3 (.x1 .e)))),
    .s (.x9 (.x1 .e)) (.ixs 1 (.t (.xe (.x0 .e))) (.t (.xf (.x0 .e)))),
    .u (.st none (.t (.x9 (.x1 .e))) (.t (.x7 (.x1 .e))))])
  (.seq (.ops [.s (.xa (.x1 .e)) (.mv (.t (.x1 (.x0 .e)))),
    .s (.xb (.x1 .e)) (.bin .add (.t (.xa (.x1 .e))) (.c (V.int .i64 1))),
    .s (.xc (.x1 .e)) (.mv (.t (.x2 (.x0 .e)))),
    .s (.xd (.x1 .e)) (.bin .sub (.t (.xc (.x1 .e))) (.c (V.int .i64 1))),
    .s (.xa (.x0 .e)) (.asg (.t (.xb (.x1 .e)))),
    .s (.xb (.x0 .e)) (.asg (.t (.xd (.x1 .e))))])
  (.seq (.blk 0 [(.x0 (.x0 .e)), (.x1 (.x0 .e)), (.xa (.x0 .e)), (.xb (.x0 .e))]
  (.loop M93_0 L93_0))
  (.seq (.blk 2 [(.x0 (.x0 .e)), (.x1 (.x0 .e)), (.xa (.x0 .e)), (.xb (.x0 .e))]
  (.loop M93_1 L93_1))
  (.seq (.seq (.ops [.s (.xf (.x3 .e)) (.mv (.t (.xa (.x0 .e)))),
    .s (.x0 (.x4 .e)) (.mv (.t (.xb (.x0 .e)))),
    .s (.x1 (.x4 .e)) (.bin .gtr (.t (.xf (.x3 .e))) (.t (.x0 (.x4 .e))))])
  (.cond (.t (.x1 (.x4 .e)))
  (.seq (.draw [0, 1, 2, 3, 4, 5, 6, 7, 8, 9, 10, 11, 12, 13, 14, 15] [0, 0, 0, 0, 0, 0, 48, 112, 0, 0, 768, 1792, 4083, 8179, 16383, 32767] [.s (.x2 (.x4 .e)) (.mv (.t (.x0 (.x0 .e)))),
    .s (.x3 (.x4 .e)) (.mv (.t (.xb (.x0 .e)))),
    .s (.x4 (.x4 .e)) (.mv (.t (.x0 (.x0 .e)))),
    .s (.x5 (.x4 .e)) (.mv (.t (.x1 (.x0 .e)))),
    .s (.x6 (.x4 .e)) (.mv (.t (.x0 (.x0 .e)))),
    .s (.x7 (.x4 .e)) (.mv (.t (.x1 (.x0 .e)))),
    .s (.x8 (.x4 .e)) (.ixs 1 (.t (.x6 (.x4 .e))) (.t (.x7 (.x4 .e)))),
    .s (.x9 (.x4 .e)) (.ld none (.t (.x8 (.x4 .e)))),
    .s (.xa (.x4 .e)) (.mv (.t (.x0 (.x0 .e)))),
    .s (.xb (.x4 .e)) (.mv (.t (.xb (.x0 .e)))),
    .s (.xc (.x4 .e)) (.ixs 1 (.t (.xa (.x4 .e))) (.t (.xb (.x4 .e)))),
    .s (.xd (.x4 .e)) (.ld none (.t (.xc (.x4 .e)))),
    .s (.xe (.x4 .e)) (.ixs 1 (.t (.x2 (.x4 .e))) (.t (.x3 (.x4 .e)))),
    .u (.st none (.t (.xe (.x4 .e))) (.t (.x9 (.x4 .e)))),
    .s (.xf (.x4 .e)) (.ixs 1 (.t (.x4 (.x4 .e))) (.t (.x5 (.x4 .e)))),
    .u (.st none (.t (.xf (.x4 .e))) (.t (.xd (.x4 .e))))])
  (.seq (.ops [.s (.x0 (.x5 .e)) (.mv (.t (.xb (.x0 .e)))),
    .s (.x8 (.x0 .e)) (.asg (.t (.x0 (.x5 .e)))),
    .s (.x9 (.x0 .e)) (.asg (.c (V.bool true)))])
  .ret))
  .skip))
  (.seq (.draw [0, 1, 2, 3, 4, 5, 6, 7, 8, 9, 10, 11, 12, 13, 14, 15] [0, 0, 0, 0, 0, 0, 48, 112, 0, 0, 768, 1792, 4083, 8179, 16383, 32767] [.s (.x1 (.x5 .e)) (.mv (.t (.x0 (.x0 .e)))),
    .s (.x2 (.x5 .e)) (.mv (.t (.xa (.x0 .e)))),
    .s (.x3 (.x5 .e)) (.mv (.t (.x0 (.x0 .e)))),
    .s (.x4 (.x5 .e)) (.mv (.t (.xb (.x0 .e)))),
    .s (.x5 (.x5 .e)) (.mv (.t (.x0 (.x0 .e)))),
    .s (.x6 (.x5 .e)) (.mv (.t (.xb (.x0 .e)))),
    .s (.x7 (.x5 .e)) (.ixs 1 (.t (.x5 (.x5 .e))) (.t (.x6 (.x5 .e)))),
    .s (.x8 (.x5 .e)) (.ld none (.t (.x7 (.x5 .e)))),
    .s (.x9 (.x5 .e)) (.mv (.t (.x0 (.x0 .e)))),
    .s (.xa (.x5 .e)) (.mv (.t (.xa (.x0 .e)))),
    .s (.xb (.x5 .e)) (.ixs 1 (.t (.x9 (.x5 .e))) (.t (.xa (.x5 .e)))),
    .s (.xc (.x5 .e)) (.ld none (.t (.xb (.x5 .e)))),
    .s (.xd (.x5 .e)) (.ixs 1 (.t (.x1 (.x5 .e))) (.t (.x2 (.x5 .e)))),
    .u (.st none (.t (.xd (.x5 .e))) (.t (.x8 (.x5 .e)))),
    .s (.xe (.x5 .e)) (.ixs 1 (.t (.x3 (.x5 .e))) (.t (.x4 (.x5 .e)))),
    .u (.st none (.t (.xe (.x5 .e))) (.t (.xc (.x5 .e))))])
  (.seq (.ops [.s (.xf (.x5 .e)) (.mv (.t (.xa (.x0 .e)))),
    .s (.x0 (.x6 .e)) (.bin .add (.t (.xf (.x5 .e))) (.c (V.int .i64 1))),
    .s (.xa (.x0 .e)) (.asg (.t (.x0 (.x6 .e))))])
  (.seq (.ops [.s (.x1 (.x6 .e)) (.mv (.t (.xb (.x0 .e)))),
    .s (.x2 (.x6 .e)) (.bin .sub (.t (.x1 (.x6 .e))) (.c (V.int .i64 1))),
    .s (.xb (.x0 .e)) (.asg (.t (.x2 (.x6 .e))))])
  (.seq (.blk 4 [(.x0 (.x0 .e)), (.x1 (.x0 .e)), (.xb (.x0 .e))]
  (.loop M93_2 L93_2))
  (.seq (.draw [0, 1, 2, 3, 4, 5, 6, 7, 8, 9, 10, 11, 12, 13, 14, 15] [0, 0, 0, 0, 0, 0, 48, 112, 0, 0, 768, 1792, 4083, 8179, 16383, 32767] [.s (.x9 (.x9 .e)) (.mv (.t (.x0 (.x0 .e)))),
    .s (.xa (.x9 .e)) (.mv (.t (.xb (.x0 .e)))),
    .s (.xb (.x9 .e)) (.mv (.t (.x0 (.x0 .e)))),
    .s (.xc (.x9 .e)) (.mv (.t (.x1 (.x0 .e)))),
    .s (.xd (.x9 .e)) (.mv (.t (.x0 (.x0 .e)))),
    .s (.xe (.x9 .e)) (.mv (.t (.x1 (.x0 .e)))),
    .s (.xf (.x9 .e)) (.ixs 1 (.t (.xd (.x9 .e))) (.t (.xe (.x9 .e)))),
    .s (.x0 (.xa .e)) (.ld none (.t (.xf (.x9 .e)))),
    .s (.x1 (.xa .e)) (.mv (.t (.x0 (.x0 .e)))),
    .s (.x2 (.xa .e)) (.mv (.t (.xb (.x0 .e)))),
    .s (.x3 (.xa .e)) (.ixs 1 (.t (.x1 (.xa .e))) (.t (.x2 (.xa .e)))),
    .s (.x4 (.xa .e)) (.ld none (.t (.x3 (.xa .e)))),
    .s (.x5 (.xa .e)) (.ixs 1 (.t (.x9 (.x9 .e))) (.t (.xa (.x9 .e)))),
    .u (.st none (.t (.x5 (.xa .e))) (.t (.x0 (.xa .e)))),
    .s (.x6 (.xa .e)) (.ixs 1 (.t (.xb (.x9 .e))) (.t (.xc (.x9 .e)))),
    .u (.st none (.t (.x6 (.xa .e))) (.t (.x4 (.xa .e))))])
  (.seq (.ops [.s (.x7 (.xa .e)) (.mv (.t (.xb (.x0 .e)))),
    .s (.x8 (.x0 .e)) (.asg (.t (.x7 (.xa .e)))),
    .s (.x9 (.x0 .e)) (.asg (.c (V.bool false)))])
  .ret))))))))))))
def e93 : EF := { depth := 2, nargs := 4, results := [.t (.x8 (.x0 .e)), .t (.x9 (.x0 .e))], body := b93 }

/-- math/bits.Len32 -/
def b94 : EC :=
  (.seq (.ops [.s (.x2 (.x0 .e)) (.asg (.c (V.int .i64 0)))])
  (.seq (.seq (.ops [.s (.x3 (.x0 .e)) (.mv (.t (.x0 (.x0 .e)))),
    .s (.x4 (.x0 .e)) (.bin .geq (.t (.x3 (.x0 .e))) (.c (V.int .u32 65536)))])
  (.cond (.t (.x4 (.x0 .e)))
  (.seq (.ops [.s (.x5 (.x0 .e)) (.mv (.t (.x0 (.x0 .e)))),
    .s (.x6 (.x0 .e)) (.bin .shr (.t (.x5 (.x0 .e))) (.c (V.int .u64 16))),
    .s (.x0 (.x0 .e)) (.asg (.t (.x6 (.x0 .e))))])
  (.ops [.s (.x2 (.x0 .e)) (.asg (.c (V.int .i64 16)))]))
  .skip))
  (.seq (.seq (.ops [.s (.x7 (.x0 .e)) (.mv (.t (.x0 (.x0 .e)))),
    .s (.x8 (.x0 .e)) (.bin .geq (.t (.x7 (.x0 .e))) (.c (V.int .u32 256)))])
  (.cond (.t (.x8 (.x0 .e)))
  (.seq (.ops [.s (.x9 (.x0 .e)) (.mv (.t (.x0 (.x0 .e)))),
    .s (.xa (.x0 .e)) (.bin .shr (.t (.x9 (.x0 .e))) (.c (V.int .u64 8))),
    .s (.x0 (.x0 .e)) (.asg (.t (.xa (.x0 .e))))])
  (.ops [.s (.xb (.x0 .e)) (.mv (.t (.x2 (.x0 .e)))),
    .s (.xc (.x0 .e)) (.bin .add (.t (.xb (.x0 .e))) (.c (V.int .i64 8))),
    .s (.x2 (.x0 .e)) (.asg (.t (.xc (.x0 .e))))]))
  .skip))
  (.seq (.ops [.s (.xd (.x0 .e)) (.mv (.t (.x2 (.x0 .e)))),
    .s (.xe (.x0 .e)) (.mv (.t (.x0 (.x0 .e)))),
    .s (.xf (.x0 .e)) (.cvt .u8 (.t (.xe (.x0 .e)))),
    .s (.x0 (.x1 .e)) (.ixstr (.c (V.str ⟨#[0, 1, 2, 2, 3, 3, 3, 3, 4, 4, 4, 4, 4, 4, 4, 4, 5, 5, 5, 5, 5, 5, 5, 5, 5, 5, 5, 5, 5, 5, 5, 5, 6, 6, 6, 6, 6, 6, 6, 6, 6, 6, 6, 6, 6, 6, 6, 6, 6, 6, 6, 6, 6, 6, 6, 6, 6, 6, 6, 6, 6, 6, 6, 6, 7, 7, 7, 7, 7, 7, 7, 7, 7, 7, 7, 7, 7, 7, 7, 7, 7, 7, 7, 7, 7, 7, 7, 7, 7, 7, 7, 7, 7, 7, 7, 7, 7, 7, 7, 7, 7, 7, 7, 7, 7, 7, 7, 7, 7, 7, 7, 7, 7, 7, 7, 7, 7, 7, 7, 7, 7, 7, 7, 7, 7, 7, 7, 7, 8, 8, 8, 8, 8, 8, 8, 8, 8, 8, 8, 8, 8, 8, 8, 8, 8, 8, 8, 8, 8, 8, 8, 8, 8, 8, 8, 8, 8, 8, 8, 8, 8, 8, 8, 8, 8, 8, 8, 8, 8, 8, 8, 8, 8, 8, 8, 8, 8, 8, 8, 8, 8, 8, 8, 8, 8, 8, 8, 8, 8, 8, 8, 8, 8, 8, 8, 8, 8, 8, 8, 8, 8, 8, 8, 8, 8, 8, 8, 8, 8, 8, 8, 8, 8, 8, 8, 8, 8, 8, 8, 8, 8, 8, 8, 8, 8, 8, 8, 8, 8, 8, 8, 8, 8, 8, 8, 8, 8, 8, 8, 8, 8, 8, 8, 8, 8, 8, 8, 8, 8, 8, 8, 8, 8, 8, 8, 8]⟩)) (.t (.xf (.x0 .e)))),
    .s (.x1 (.x1 .e)) (.cvt .i64 (.t (.x0 (.x1 .e)))),
    .s (.x2 (.x1 .e)) (.bin .add (.t (.xd (.x0 .e))) (.t (.x1 (.x1 .e)))),
    .s (.x2 (.x0 .e)) (.asg (.t (.x2 (.x1 .e))))])
  .ret))))
def e94 : EF := { depth := 2, nargs := 1, results := [.t (.x2 (.x0 .e))], body := b94 }

/-- math/bits.Len64 -/
def b95 : EC :=
  (.seq (.ops [.s (.x2 (.x0 .e)) (.asg (.c (V.int .i64 0)))])
  (.seq (.seq (.ops [.s (.x3 (.x0 .e)) (.mv (.t (.x0 (.x0 .e)))),
    .s (.x4 (.x0 .e)) (.bin .geq (.t (.x3 (.x0 .e))) (.c (V.int .u64 4294967296)))])
  (.cond (.t (.x4 (.x0 .e)))
  (.seq (.ops [.s (.x5 (.x0 .e)) (.mv (.t (.x0 (.x0 .e)))),
    .s (.x6 (.x0 .e)) (.bin .shr (.t (.x5 (.x0 .e))) (.c (V.int .u64 32))),
    .s (.x0 (.x0 .e)) (.asg (.t (.x6 (.x0 .e))))])
  (.ops [.s (.x2 (.x0 .e)) (.asg (.c (V.int .i64 32)))]))
  .skip))
  (.seq (.seq (.ops [.s (.x7 (.x0 .e)) (.mv (.t (.x0 (.x0 .e)))),
    .s (.x8 (.x0 .e)) (.bin .geq (.t (.x7 (.x0 .e))) (.c (V.int .u64 65536)))])
  (.cond (.t (.x8 (.x0 .e)))
  (.seq (.ops [.s (.x9 (.x0 .e)) (.mv (.t (.x0 (.x0 .e)))),
    .s (.xa (.x0 .e)) (.bin .shr (.t (.x9 (.x0 .e))) (.c (V.int .u64 16))),
    .s (.x0 (.x0 .e)) (.asg (.t (.xa (.x0 .e))))])
  (.ops [.s (.xb (.x0 .e)) (.mv (.t (.x2 (.x0 .e)))),
    .s (.xc (.x0 .e)) (.bin .add (.t (.xb (.x0 .e))) (.c (V.int .i64 16))),
    .s (.x2 (.x0 .e)) (.asg (.t (.xc (.x0 .e))))]))
  .skip))
  (.seq (.seq (.ops [.s (.xd (.x0 .e)) (.mv (.t (.x0 (.x0 .e)))),
    .s (.xe (.x0 .e)) (.bin .geq (.t (.xd (.x0 .e))) (.c (V.int .u64 256)))])
  (.cond (.t (.xe (.x0 .e)))
  (.seq (.ops [.s (.xf (.x0 .e)) (.mv (.t (.x0 (.x0 .e)))),
    .s (.x0 (.x1 .e)) (.bin .shr (.t (.xf (.x0 .e))) (.c (V.int .u64 8))),
    .s (.x0 (.x0 .e)) (.asg (.t (.x0 (.x1 .e))))])
  (.ops [.s (.x1 (.x1 .e)) (.mv (.t (.x2 (.x0 .e)))),
    .s (.x2 (.x1 .e)) (.bin .add (.t (.x1 (.x1 .e))) (.c (V.int .i64 8))),
    .s (.x2 (.x0 .e)) (.asg (.t (.x2 (.x1 .e))))]))
  .skip))
  (.seq (.ops [.s (.x3 (.x1 .e)) (.mv (.t (.x2 (.x0 .e)))),
    .s (.x4 (.x1 .e)) (.mv (.t (.x0 (.x0 .e)))),
    .s (.x5 (.x1 .e)) (.cvt .u8 (.t (.x4 (.x1 .e)))),
    .s (.x6 (.x1 .e)) (.ixstr (.c (V.str ⟨#[0, 1, 2, 2, 3, 3, 3, 3, 4, 4, 4, 4, 4, 4, 4, 4, 5, 5, 5, 5, 5, 5, 5, 5, 5, 5, 5, 5, 5, 5, 5, 5, 6, 6, 6, 6, 6, 6, 6, 6, 6, 6, 6, 6, 6, 6, 6, 6, 6, 6, 6, 6, 6, 6, 6, 6, 6, 6, 6, 6, 6, 6, 6, 6, 7, 7, 7, 7, 7, 7, 7, 7, 7, 7, 7, 7, 7, 7, 7, 7, 7, 7, 7, 7, 7, 7, 7, 7, 7, 7, 7, 7, 7, 7, 7, 7, 7, 7, 7, 7, 7, 7, 7, 7, 7, 7, 7, 7, 7, 7, 7, 7, 7, 7, 7, 7, 7, 7, 7, 7, 7, 7, 7, 7, 7, 7, 7, 7, 8, 8, 8, 8, 8, 8, 8, 8, 8, 8, 8, 8, 8, 8, 8, 8, 8, 8, 8, 8, 8, 8, 8, 8, 8, 8, 8, 8, 8, 8, 8, 8, 8, 8, 8, 8, 8, 8, 8, 8, 8, 8, 8, 8, 8, 8, 8, 8, 8, 8, 8, 8, 8, 8, 8, 8, 8, 8, 8, 8, 8, 8, 8, 8, 8, 8, 8, 8, 8, 8, 8, 8, 8, 8, 8, 8, 8, 8, 8, 8, 8, 8, 8, 8, 8, 8, 8, 8, 8, 8, 8, 8, 8, 8, 8, 8, 8, 8, 8, 8, 8, 8, 8, 8, 8, 8, 8, 8, 8, 8, 8, 8, 8, 8, 8, 8, 8, 8, 8, 8, 8, 8, 8, 8, 8, 8, 8, 8]⟩)) (.t (.x5 (.x1 .e)))),
    .s (.x7 (.x1 .e)) (.cvt .i64 (.t (.x6 (.x1 .e)))),
    .s (.x8 (.x1 .e)) (.bin .add (.t (.x3 (.x1 .e))) (.t (.x7 (.x1 .e)))),
    .s (.x2 (.x0 .e)) (.asg (.t (.x8 (.x1 .e))))])
  .ret)))))
def e95 : EF := { depth := 2, nargs := 1, results := [.t (.x2 (.x0 .e))], body := b95 }

/-- (*forecourt/pole.book).steps -/
def b96 : EC :=
  (.seq (.ops [.s (.x3 .e) (.box (.t (.x0 .e))),
    .s (.x4 .e) (.box (.t (.x1 .e))),
    .s (.x5 .e) (.box (.t (.x2 .e))),
    .s (.x6 .e) (.asg (.c (V.nilfunc)))])
  (.seq (.ops [.s (.x8 .e) (.ld none (.t (.x3 .e))),
    .s (.x9 .e) (.mkfn 65 [(.t (.x8 .e))] []),
    .s (.x7 .e) (.alloc [V.nilfunc]),
    .u (.st none (.t (.x7 .e)) (.t (.x9 .e)))])
  (.seq (.ops [.s (.xa .e) (.mkfn 103 [] [(.t (.x3 .e)), (.t (.x4 .e)), (.t (.x5 .e)), (.t (.x7 .e))]),
    .s (.x6 .e) (.asg (.t (.xa .e)))])
  .ret)))
def e96 : EF := { depth := 1, nargs := 3, results := [.t (.x6 .e)], body := b96 }

/-- function 97, loop 0: live [0, 2, 3, 8] -/
def M97_0 : List Pth := [(.x0 (.x0 .e)), (.x2 (.x0 .e)), (.x3 (.x0 .e)), (.x8 (.x0 .e))]
def L97_0 : EC :=
  (.blk 1 [(.x0 (.x0 .e)), (.x2 (.x0 .e)), (.x3 (.x0 .e)), (.x8 (.x0 .e))]
  (.seq (.ops [.s (.xb (.x0 .e)) (.mv (.t (.x8 (.x0 .e)))),
    .s (.xc (.x0 .e)) (.bin .mul (.c (V.int .i64 2)) (.t (.xb (.x0 .e)))),
    .s (.xd (.x0 .e)) (.bin .add (.t (.xc (.x0 .e))) (.c (V.int .i64 1))),
    .s (.x9 (.x0 .e)) (.asg (.t (.xd (.x0 .e))))])
  (.seq (.seq (.ops [.s (.xe (.x0 .e)) (.mv (.t (.x9 (.x0 .e)))),
    .s (.xf (.x0 .e)) (.mv (.t (.x2 (.x0 .e)))),
    .s (.x0 (.x1 .e)) (.bin .geq (.t (.xe (.x0 .e))) (.t (.xf (.x0 .e))))])
  (.cond (.t (.x0 (.x1 .e)))
  (.exit 0)
  .skip))
  (.seq (.seq (.draw [0, 1, 2, 3, 4, 5, 6, 7, 8, 9, 10, 11, 12, 13, 14, 15, 16, 17, 18, 19] [0, 1, 0, 7, 15, 31, 31, 31, 223, 511, 1023, 31, 31, 31, 12319, 28703, 63519, 129055, 262143, 524287] [.s (.x1 (.x1 .e)) (.mv (.t (.x9 (.x0 .e)))),
    .s (.x2 (.x1 .e)) (.bin .add (.t (.x1 (.x1 .e))) (.c (V.int .i64 1))),
    .s (.x3 (.x1 .e)) (.mv (.t (.x2 (.x0 .e)))),
    .s (.x4 (.x1 .e)) (.bin .lss (.t (.x2 (.x1 .e))) (.t (.x3 (.x1 .e)))),
    .s (.x5 (.x1 .e)) (.mv (.t (.x4 (.x1 .e)))),
    .g (.x5 (.x1 .e)) true (.x6 (.x1 .e)) (.mv (.t (.x0 (.x0 .e)))),
    .g (.x5 (.x1 .e)) true (.x7 (.x1 .e)) (.mv (.t (.x3 (.x0 .e)))),
    .g (.x5 (.x1 .e)) true (.x8 (.x1 .e)) (.mv (.t (.x9 (.x0 .e)))),
    .g (.x5 (.x1 .e)) true (.x9 (.x1 .e)) (.bin .add (.t (.x7 (.x1 .e))) (.t (.x8 (.x1 .e)))),
    .g (.x5 (.x1 .e)) true (.xa (.x1 .e)) (.ixs 1 (.t (.x6 (.x1 .e))) (.t (.x9 (.x1 .e)))),
    .g (.x5 (.x1 .e)) true (.xb (.x1 .e)) (.ld none (.t (.xa (.x1 .e)))),
    .g (.x5 (.x1 .e)) true (.xc (.x1 .e)) (.mv (.t (.x0 (.x0 .e)))),
    .g (.x5 (.x1 .e)) true (.xd (.x1 .e)) (.mv (.t (.x3 (.x0 .e)))),
    .g (.x5 (.x1 .e)) true (.xe (.x1 .e)) (.mv (.t (.x9 (.x0 .e)))),
    .g (.x5 (.x1 .e)) true (.xf (.x1 .e)) (.bin .add (.t (.xd (.x1 .e))) (.t (.xe (.x1 .e)))),
    .g (.x5 (.x1 .e)) true (.x0 (.x2 .e)) (.bin .add (.t (.xf (.x1 .e))) (.c (V.int .i64 1))),
    .g (.x5 (.x1 .e)) true (.x1 (.x2 .e)) (.ixs 1 (.t (.xc (.x1 .e))) (.t (.x0 (.x2 .e)))),
    .g (.x5 (.x1 .e)) true (.x2 (.x2 .e)) (.ld none (.t (.x1 (.x2 .e)))),
    .g (.x5 (.x1 .e)) true (.x3 (.x2 .e)) (.call 91 [(.t (.xb (.x1 .e))), (.t (.x2 (.x2 .e)))]),
    .s (.x4 (.x2 .e)) (.pick (.t (.x5 (.x1 .e))) (.t (.x3 (.x2 .e))) (.c (V.bool false)))])
  (.cond (.t (.x4 (.x2 .e)))
  (.ops [.s (.x5 (.x2 .e)) (.mv (.t (.x9 (.x0 .e)))),
    .s (.x6 (.x2 .e)) (.bin .add (.t (.x5 (.x2 .e))) (.c (V.int .i64 1))),
    .s (.x9 (.x0 .e)) (.asg (.t (.x6 (.x2 .e))))])
  .skip))
  (.seq (.seq (.draw [0, 1, 2, 3, 4, 5, 6, 7, 8, 9, 10, 11, 12, 13] [0, 0, 0, 6, 15, 31, 0, 0, 0, 384, 960, 1984, 4095, 8191] [.s (.x7 (.x2 .e)) (.mv (.t (.x0 (.x0 .e)))),
    .s (.x8 (.x2 .e)) (.mv (.t (.x3 (.x0 .e)))),
    .s (.x9 (.x2 .e)) (.mv (.t (.x8 (.x0 .e)))),
    .s (.xa (.x2 .e)) (.bin .add (.t (.x8 (.x2 .e))) (.t (.x9 (.x2 .e)))),
    .s (.xb (.x2 .e)) (.ixs 1 (.t (.x7 (.x2 .e))) (.t (.xa (.x2 .e)))),
    .s (.xc (.x2 .e)) (.ld none (.t (.xb (.x2 .e)))),
    .s (.xd (.x2 .e)) (.mv (.t (.x0 (.x0 .e)))),
    .s (.xe (.x2 .e)) (.mv (.t (.x3 (.x0 .e)))),
    .s (.xf (.x2 .e)) (.mv (.t (.x9 (.x0 .e)))),
    .s (.x0 (.x3 .e)) (.bin .add (.t (.xe (.x2 .e))) (.t (.xf (.x2 .e)))),
    .s (.x1 (.x3 .e)) (.ixs 1 (.t (.xd (.x2 .e))) (.t (.x0 (.x3 .e)))),
    .s (.x2 (.x3 .e)) (.ld none (.t (.x1 (.x3 .e)))),
    .s (.x3 (.x3 .e)) (.call 91 [(.t (.xc (.x2 .e))), (.t (.x2 (.x3 .e)))]),
    .s (.x4 (.x3 .e)) (.un .not (.t (.x3 (.x3 .e))))])
  (.cond (.t (.x4 (.x3 .e)))
  .ret
  .skip))
  (.seq (.draw [0, 1, 2, 3, 4, 5, 6, 7, 8, 9, 10, 11, 12, 13, 14, 15, 16, 17, 18, 19, 20, 21, 22, 23] [0, 0, 0, 6, 0, 0, 0, 96, 0, 0, 0, 1536, 3840, 7936, 0, 0, 0, 98304, 245760, 507904, 1048335, 2096911, 4194303, 8388607] [.s (.x5 (.x3 .e)) (.mv (.t (.x0 (.x0 .e)))),
    .s (.x6 (.x3 .e)) (.mv (.t (.x3 (.x0 .e)))),
    .s (.x7 (.x3 .e)) (.mv (.t (.x8 (.x0 .e)))),
    .s (.x8 (.x3 .e)) (.bin .add (.t (.x6 (.x3 .e))) (.t (.x7 (.x3 .e)))),
    .s (.x9 (.x3 .e)) (.mv (.t (.x0 (.x0 .e)))),
    .s (.xa (.x3 .e)) (.mv (.t (.x3 (.x0 .e)))),
    .s (.xb (.x3 .e)) (.mv (.t (.x9 (.x0 .e)))),
    .s (.xc (.x3 .e)) (.bin .add (.t (.xa (.x3 .e))) (.t (.xb (.x3 .e)))),
    .s (.xd (.x3 .e)) (.mv (.t (.x0 (.x0 .e)))),
    .s (.xe (.x3 .e)) (.mv (.t (.x3 (.x0 .e)))),
    .s (.xf (.x3 .e)) (.mv (.t (.x9 (.x0 .e)))),
    .s (.x0 (.x4 .e)) (.bin .add (.t (.xe (.x3 .e))) (.t (.xf (.x3 .e)))),
    .s (.x1 (.x4 .e)) (.ixs 1 (.t (.xd (.x3 .e))) (.t (.x0 (.x4 .e)))),
    .s (.x2 (.x4 .e)) (.ld none (.t (.x1 (.x4 .e)))),
    .s (.x3 (.x4 .e)) (.mv (.t (.x0 (.x0 .e)))),
    .s (.x4 (.x4 .e)) (.mv (.t (.x3 (.x0 .e)))),
    .s (.x5 (.x4 .e)) (.mv (.t (.x8 (.x0 .e)))),
    .s (.x6 (.x4 .e)) (.bin .add (.t (.x4 (.x4 .e))) (.t (.x5 (.x4 .e)))),
    .s (.x7 (.x4 .e)) (.ixs 1 (.t (.x3 (.x4 .e))) (.t (.x6 (.x4 .e)))),
    .s (.x8 (.x4 .e)) (.ld none (.t (.x7 (.x4 .e)))),
    .s (.x9 (.x4 .e)) (.ixs 1 (.t (.x5 (.x3 .e))) (.t (.x8 (.x3 .e)))),
    .u (.st none (.t (.x9 (.x4 .e))) (.t (.x2 (.x4 .e)))),
    .s (.xa (.x4 .e)) (.ixs 1 (.t (.x9 (.x3 .e))) (.t (.xc (.x3 .e)))),
    .u (.st none (.t (.xa (.x4 .e))) (.t (.x8 (.x4 .e))))])
  (.ops [.s (.xb (.x4 .e)) (.mv (.t (.x9 (.x0 .e)))),
    .s (.x8 (.x0 .e)) (.asg (.t (.xb (.x4 .e))))])))))))
/-- slices.siftDownOrdered[int64] -/
def b97 : EC :=
  (.seq (.ops [.s (.xa (.x0 .e)) (.mv (.t (.x1 (.x0 .e)))),
    .s (.x8 (.x0 .e)) (.asg (.t (.xa (.x0 .e))))])
  (.blk 0 []
  (.loop M97_0 L97_0)))
def e97 : EF := { depth := 2, nargs := 4, results := [], body := b97 }

/-- slices.nextPowerOfTwo -/
def b98 : EC :=
  (.seq (.ops [.s (.x2 .e) (.asg (.c (V.int .u64 0)))])
  (.seq (.ops [.s (.x3 .e) (.mv (.t (.x0 .e))),
    .s (.x4 .e) (.cvt .u64 (.t (.x3 .e))),
    .s (.x5 .e) (.call 78 [(.t (.x4 .e))]),
    .s (.x6 .e) (.bin .shl (.c (V.int .u64 1)) (.t (.x5 .e))),
    .s (.x2 .e) (.asg (.t (.x6 .e)))])
  .ret))
def e98 : EF := { depth := 1, nargs := 1, results := [.t (.x2 .e)], body := b98 }

/-- (*slices.xorshift).Next -/
def b99 : EC :=
  (.seq (.ops [.s (.x2 (.x0 .e)) (.asg (.c (V.int .u64 0)))])
  (.seq (.draw [0, 1, 2, 3, 4, 5, 6, 7, 8, 9] [0, 1, 3, 0, 8, 24, 56, 127, 255, 511] [.s (.x3 (.x0 .e)) (.mv (.t (.x0 (.x0 .e)))),
    .s (.x4 (.x0 .e)) (.nilck (.t (.x3 (.x0 .e)))),
    .s (.x5 (.x0 .e)) (.ld none (.t (.x4 (.x0 .e)))),
    .s (.x6 (.x0 .e)) (.mv (.t (.x0 (.x0 .e)))),
    .s (.x7 (.x0 .e)) (.nilck (.t (.x6 (.x0 .e)))),
    .s (.x8 (.x0 .e)) (.ld none (.t (.x7 (.x0 .e)))),
    .s (.x9 (.x0 .e)) (.bin .shl (.t (.x8 (.x0 .e))) (.c (V.int .u64 13))),
    .s (.xa (.x0 .e)) (.bin .xor (.t (.x5 (.x0 .e))) (.t (.x9 (.x0 .e)))),
    .s (.xb (.x0 .e)) (.nilck (.t (.x3 (.x0 .e)))),
    .u (.st none (.t (.xb (.x0 .e))) (.t (.xa (.x0 .e))))])
  (.seq (.draw [0, 1, 2, 3, 4, 5, 6, 7, 8, 9] [0, 1, 3, 0, 8, 24, 56, 127, 255, 511] [.s (.xc (.x0 .e)) (.mv (.t (.x0 (.x0 .e)))),
    .s (.xd (.x0 .e)) (.nilck (.t (.xc (.x0 .e)))),
    .s (.xe (.x0 .e)) (.ld none (.t (.xd (.x0 .e)))),
    .s (.xf (.x0 .e)) (.mv (.t (.x0 (.x0 .e)))),
    .s (.x0 (.x1 .e)) (.nilck (.t (.xf (.x0 .e)))),
    .s (.x1 (.x1 .e)) (.ld none (.t (.x0 (.x1 .e)))),
    .s (.x2 (.x1 .e)) (.bin .shr (.t (.x1 (.x1 .e))) (.c (V.int .u64 7))),
    .s (.x3 (.x1 .e)) (.bin .xor (.t (.xe (.x0 .e))) (.t (.x2 (.x1 .e)))),
    .s (.x4 (.x1 .e)) (.nilck (.t (.xc (.x0 .e)))),
    .u (.st none (.t (.x4 (.x1 .e))) (.t (.x3 (.x1 .e))))])
  (.seq (.draw [0, 1, 2, 3, 4, 5, 6, 7, 8, 9] [0, 1, 3, 0, 8, 24, 56, 127, 255, 511] [.s (.x5 (.x1 .e)) (.mv (.t (.x0 (.x0 .e)))),
    .s (.x6 (.x1 .e)) (.nilck (.t (.x5 (.x1 .e)))),
    .s (.x7 (.x1 .e)) (.ld none (.t (.x6 (.x1 .e)))),
    .s (.x8 (.x1 .e)) (.mv (.t (.x0 (.x0 .e)))),
    .s (.x9 (.x1 .e)) (.nilck (.t (.x8 (.x1 .e)))),
    .s (.xa (.x1 .e)) (.ld none (.t (.x9 (.x1 .e)))),
    .s (.xb (.x1 .e)) (.bin .shl (.t (.xa (.x1 .e))) (.c (V.int .u64 17))),
    .s (.xc (.x1 .e)) (.bin .xor (.t (.x7 (.x1 .e))) (.t (.xb (.x1 .e)))),
    .s (.xd (.x1 .e)) (.nilck (.t (.x5 (.x1 .e)))),
    .u (.st none (.t (.xd (.x1 .e))) (.t (.xc (.x1 .e))))])
  (.seq (.ops [.s (.xe (.x1 .e)) (.mv (.t (.x0 (.x0 .e)))),
    .s (.xf (.x1 .e)) (.nilck (.t (.xe (.x1 .e)))),
    .s (.x0 (.x2 .e)) (.ld none (.t (.xf (.x1 .e)))),
    .s (.x2 (.x0 .e)) (.asg (.t (.x0 (.x2 .e))))])
  .ret)))))
def e99 : EF := { depth := 2, nargs := 1, results := [.t (.x2 (.x0 .e))], body := b99 }

/-- slices.medianAdjacentOrdered[int64] -/
def b100 : EC :=
  (.seq (.ops [.s (.x6 .e) (.asg (.c (V.int .i64 0)))])
  (.seq (.ops [.s (.x7 .e) (.mv (.t (.x0 .e))),
    .s (.x8 .e) (.mv (.t (.x1 .e))),
    .s (.x9 .e) (.bin .sub (.t (.x8 .e)) (.c (V.int .i64 1))),
    .s (.xa .e) (.mv (.t (.x1 .e))),
    .s (.xb .e) (.mv (.t (.x1 .e))),
    .s (.xc .e) (.bin .add (.t (.xb .e)) (.c (V.int .i64 1))),
    .s (.xd .e) (.mv (.t (.x2 .e))),
    .s (.xe .e) (.call 101 [(.t (.x7 .e)), (.t (.x9 .e)), (.t (.xa .e)), (.t (.xc .e)), (.t (.xd .e))]),
    .s (.x6 .e) (.asg (.t (.xe .e)))])
  .ret))
def e100 : EF := { depth := 1, nargs := 3, results := [.t (.x6 .e)], body := b100 }

/-- slices.medianOrdered[int64] -/
def b101 : EC :=
  (.seq (.ops [.s (.xa (.x0 .e)) (.asg (.c (V.int .i64 0)))])
  (.seq (.ops [.s (.xc (.x0 .e)) (.mv (.t (.x0 (.x0 .e)))),
    .s (.xd (.x0 .e)) (.mv (.t (.x1 (.x0 .e)))),
    .s (.xe (.x0 .e)) (.mv (.t (.x2 (.x0 .e)))),
    .s (.xf (.x0 .e)) (.mv (.t (.x4 (.x0 .e)))),
    .s (.x0 (.x1 .e)) (.call 104 [(.t (.xc (.x0 .e))), (.t (.xd (.x0 .e))), (.t (.xe (.x0 .e))), (.t (.xf (.x0 .e)))]),
    .s (.xb (.x0 .e)) (.mv (.t (.x0 (.x1 .e)))),
    .s (.x1 (.x1 .e)) (.ext (.t (.xb (.x0 .e))) 0),
    .s (.x2 (.x1 .e)) (.ext (.t (.xb (.x0 .e))) 1),
    .s (.x1 (.x0 .e)) (.asg (.t (.x1 (.x1 .e)))),
    .s (.x2 (.x0 .e)) (.asg (.t (.x2 (.x1 .e))))])
  (.seq (.ops [.s (.x4 (.x1 .e)) (.mv (.t (.x0 (.x0 .e)))),
    .s (.x5 (.x1 .e)) (.mv (.t (.x2 (.x0 .e)))),
    .s (.x6 (.x1 .e)) (.mv (.t (.x3 (.x0 .e)))),
    .s (.x7 (.x1 .e)) (.mv (.t (.x4 (.x0 .e)))),
    .s (.x8 (.x1 .e)) (.call 104 [(.t (.x4 (.x1 .e))), (.t (.x5 (.x1 .e))), (.t (.x6 (.x1 .e))), (.t (.x7 (.x1 .e)))]),
    .s (.x3 (.x1 .e)) (.mv (.t (.x8 (.x1 .e)))),
    .s (.x9 (.x1 .e)) (.ext (.t (.x3 (.x1 .e))) 0),
    .s (.xa (.x1 .e)) (.ext (.t (.x3 (.x1 .e))) 1),
    .s (.x2 (.x0 .e)) (.asg (.t (.x9 (.x1 .e)))),
    .s (.x3 (.x0 .e)) (.asg (.t (.xa (.x1 .e))))])
  (.seq (.ops [.s (.xc (.x1 .e)) (.mv (.t (.x0 (.x0 .e)))),
    .s (.xd (.x1 .e)) (.mv (.t (.x1 (.x0 .e)))),
    .s (.xe (.x1 .e)) (.mv (.t (.x2 (.x0 .e)))),
    .s (.xf (.x1 .e)) (.mv (.t (.x4 (.x0 .e)))),
    .s (.x0 (.x2 .e)) (.call 104 [(.t (.xc (.x1 .e))), (.t (.xd (.x1 .e))), (.t (.xe (.x1 .e))), (.t (.xf (.x1 .e)))]),
    .s (.xb (.x1 .e)) (.mv (.t (.x0 (.x2 .e)))),
    .s (.x1 (.x2 .e)) (.ext (.t (.xb (.x1 .e))) 0),
    .s (.x2 (.x2 .e)) (.ext (.t (.xb (.x1 .e))) 1),
    .s (.x1 (.x0 .e)) (.asg (.t (.x1 (.x2 .e)))),
    .s (.x2 (.x0 .e)) (.asg (.t (.x2 (.x2 .e))))])
  (.seq (.ops [.s (.x3 (.x2 .e)) (.mv (.t (.x2 (.x0 .e)))),
    .s (.xa (.x0 .e)) (.asg (.t (.x3 (.x2 .e))))])
  .ret)))))
def e101 : EF := { depth := 2, nargs := 5, results := [.t (.xa (.x0 .e))], body := b101 }

/-- cmp.isNaN[int64] -/
def b102 : EC :=
  (.seq (.ops [.s (.x2 .e) (.asg (.c (V.bool false)))])
  (.seq (.ops [.s (.x3 .e) (.mv (.t (.x0 .e))),
    .s (.x4 .e) (.mv (.t (.x0 .e))),
    .s (.x5 .e) (.bin .neq (.t (.x3 .e)) (.t (.x4 .e))),
    .s (.x2 .e) (.asg (.t (.x5 .e)))])
  .ret))
def e102 : EF := { depth := 1, nargs := 1, results := [.t (.x2 .e)], body := b102 }

/-- function 103, loop 0: live [0, 2, 3, 4, 12, 13, 14] -/
def M103_0 : List Pth := [(.x0 (.x0 .e)), (.x2 (.x0 .e)), (.x3 (.x0 .e)), (.x4 (.x0 .e)), (.xc (.x0 .e)), (.xd (.x0 .e)), (.xe (.x0 .e))]
def L103_0 : EC :=
  (.seq (.ops [.s (.xf (.x0 .e)) (.bin .lss (.t (.xe (.x0 .e))) (.t (.xd (.x0 .e))))])
  (.seq (.cond (.t (.xf (.x0 .e)))
  .skip
  (.exit 0))
  (.seq (.blk 1 [(.x0 (.x0 .e)), (.x2 (.x0 .e)), (.x3 (.x0 .e)), (.x4 (.x0 .e)), (.xc (.x0 .e)), (.xd (.x0 .e)), (.xe (.x0 .e))]
  (.seq (.ops [.s (.x0 (.x1 .e)) (.mv (.t (.xe (.x0 .e)))),
    .s (.x1 (.x1 .e)) (.ixs 3 (.t (.xc (.x0 .e))) (.t (.xe (.x0 .e)))),
    .s (.x2 (.x1 .e)) (.ld (some 3) (.t (.x1 (.x1 .e)))),
    .s (.x7 (.x0 .e)) (.alloc [V.int .i64 0, V.int .i64 0, V.int .i64 0]),
    .s (.x6 (.x0 .e)) (.asg (.t (.x0 (.x1 .e)))),
    .u (.st (some 3) (.t (.x7 (.x0 .e))) (.t (.x2 (.x1 .e))))])
  (.seq (.ops [.s (.x3 (.x1 .e)) (.mv (.t (.x6 (.x0 .e)))),
    .s (.x4 (.x1 .e)) (.fadr 0 (.t (.x7 (.x0 .e)))),
    .s (.x5 (.x1 .e)) (.ld none (.t (.x4 (.x1 .e)))),
    .s (.x6 (.x1 .e)) (.fadr 1 (.t (.x7 (.x0 .e)))),
    .s (.x7 (.x1 .e)) (.ld none (.t (.x6 (.x1 .e)))),
    .s (.x8 (.x1 .e)) (.build [V.int .i64 0, V.int .i64 0, V.int .i64 0] [(0, 1, (.t (.x3 (.x1 .e)))), (1, 1, (.t (.x5 (.x1 .e)))), (2, 1, (.t (.x7 (.x1 .e))))]),
    .s (.x8 (.x0 .e)) (.alloc [V.int .i64 0, V.int .i64 0, V.int .i64 0]),
    .u (.st (some 3) (.t (.x8 (.x0 .e))) (.t (.x8 (.x1 .e))))])
  (.seq (.seq (.ops [.s (.x9 (.x1 .e)) (.fadr 1 (.t (.x7 (.x0 .e)))),
    .s (.xa (.x1 .e)) (.ld none (.t (.x9 (.x1 .e)))),
    .s (.xb (.x1 .e)) (.ld none (.t (.x2 (.x0 .e)))),
    .s (.xc (.x1 .e)) (.bin .eql (.t (.xa (.x1 .e))) (.t (.xb (.x1 .e))))])
  (.cond (.t (.xc (.x1 .e)))
  (.ops [.s (.xd (.x1 .e)) (.mv (.t (.x6 (.x0 .e)))),
    .s (.xe (.x1 .e)) (.fadr 1 (.t (.x7 (.x0 .e)))),
    .s (.xf (.x1 .e)) (.ld none (.t (.xe (.x1 .e)))),
    .s (.x0 (.x2 .e)) (.fadr 0 (.t (.x7 (.x0 .e)))),
    .s (.x1 (.x2 .e)) (.ld none (.t (.x0 (.x2 .e)))),
    .s (.x2 (.x2 .e)) (.build [V.int .i64 0, V.int .i64 0, V.int .i64 0] [(0, 1, (.t (.xd (.x1 .e)))), (1, 1, (.t (.xf (.x1 .e)))), (2, 1, (.t (.x1 (.x2 .e))))]),
    .u (.st (some 3) (.t (.x8 (.x0 .e))) (.t (.x2 (.x2 .e))))])
  .skip))
  (.seq (.ops [.s (.x3 (.x2 .e)) (.mv (.t (.x6 (.x0 .e)))),
    .s (.x4 (.x2 .e)) (.ld none (.t (.x3 (.x0 .e)))),
    .s (.x5 (.x2 .e)) (.bin .neq (.t (.x3 (.x2 .e))) (.t (.x4 (.x2 .e)))),
    .s (.x6 (.x2 .e)) (.mv (.t (.x5 (.x2 .e)))),
    .g (.x6 (.x2 .e)) true (.x7 (.x2 .e)) (.fadr 1 (.t (.x8 (.x0 .e)))),
    .g (.x6 (.x2 .e)) true (.x8 (.x2 .e)) (.ld none (.t (.x7 (.x2 .e)))),
    .g (.x6 (.x2 .e)) true (.x9 (.x2 .e)) (.ld none (.t (.x2 (.x0 .e)))),
    .g (.x6 (.x2 .e)) true (.xa (.x2 .e)) (.bin .eql (.t (.x8 (.x2 .e))) (.t (.x9 (.x2 .e)))),
    .s (.xb (.x2 .e)) (.pick (.t (.x6 (.x2 .e))) (.t (.xa (.x2 .e))) (.c (V.bool false))),
    .s (.xc (.x2 .e)) (.mv (.t (.xb (.x2 .e)))),
    .g (.xc (.x2 .e)) true (.xd (.x2 .e)) (.ld none (.t (.x4 (.x0 .e)))),
    .g (.xc (.x2 .e)) true (.xe (.x2 .e)) (.mv (.t (.x6 (.x0 .e)))),
    .g (.xc (.x2 .e)) true (.xf (.x2 .e)) (.calld (.t (.xd (.x2 .e))) [(.t (.xe (.x2 .e)))]),
    .s (.x0 (.x3 .e)) (.pick (.t (.xc (.x2 .e))) (.t (.xf (.x2 .e))) (.c (V.bool false))),
    .s (.x1 (.x3 .e)) (.mv (.t (.x0 (.x3 .e)))),
    .g (.x1 (.x3 .e)) true (.x2 (.x3 .e)) (.mv (.t (.x0 (.x0 .e)))),
    .g (.x1 (.x3 .e)) true (.x3 (.x3 .e)) (.ld (some 3) (.t (.x8 (.x0 .e)))),
    .g (.x1 (.x3 .e)) true (.x4 (.x3 .e)) (.calld (.t (.x2 (.x3 .e))) [(.t (.x3 (.x3 .e)))]),
    .g (.x1 (.x3 .e)) true (.x5 (.x3 .e)) (.un .not (.t (.x4 (.x3 .e)))),
    .s (.x6 (.x3 .e)) (.pick (.t (.x1 (.x3 .e))) (.t (.x5 (.x3 .e))) (.c (V.bool false)))])
  (.cond (.t (.x6 (.x3 .e)))
  .ret
  .skip))))))
  (.ops [.s (.x7 (.x3 .e)) (.bin .add (.t (.xe (.x0 .e))) (.c (V.int .i64 1))),
    .s (.xe (.x0 .e)) (.mv (.t (.x7 (.x3 .e))))]))))
/-- (*forecourt/pole.book).steps$1 -/
def b103 : EC :=
  (.seq (.ops [.s (.x9 (.x0 .e)) (.ld none (.t (.x1 (.x0 .e)))),
    .s (.xa (.x0 .e)) (.nilck (.t (.x9 (.x0 .e)))),
    .s (.xb (.x0 .e)) (.fadr 2 (.t (.xa (.x0 .e)))),
    .s (.xc (.x0 .e)) (.ld none (.t (.xb (.x0 .e)))),
    .s (.xd (.x0 .e)) (.len (.t (.xc (.x0 .e)))),
    .s (.xe (.x0 .e)) (.mv (.c (V.int .i64 0)))])
  (.blk 0 []
  (.loop M103_0 L103_0)))
def e103 : EF := { depth := 2, nargs := 5, results := [], body := b103 }

/-- slices.order2Ordered[int64] -/
def b104 : EC :=
  (.seq (.ops [.s (.x8 (.x0 .e)) (.asg (.c (V.int .i64 0))),
    .s (.x9 (.x0 .e)) (.asg (.c (V.int .i64 0)))])
  (.seq (.seq (.draw [0, 1, 2, 3, 4, 5, 6, 7, 8] [0, 0, 3, 7, 0, 0, 48, 112, 255] [.s (.xa (.x0 .e)) (.mv (.t (.x0 (.x0 .e)))),
    .s (.xb (.x0 .e)) (.mv (.t (.x2 (.x0 .e)))),
    .s (.xc (.x0 .e)) (.ixs 1 (.t (.xa (.x0 .e))) (.t (.xb (.x0 .e)))),
    .s (.xd (.x0 .e)) (.ld none (.t (.xc (.x0 .e)))),
    .s (.xe (.x0 .e)) (.mv (.t (.x0 (.x0 .e)))),
    .s (.xf (.x0 .e)) (.mv (.t (.x1 (.x0 .e)))),
    .s (.x0 (.x1 .e)) (.ixs 1 (.t (.xe (.x0 .e))) (.t (.xf (.x0 .e)))),
    .s (.x1 (.x1 .e)) (.ld none (.t (.x0 (.x1 .e)))),
    .s (.x2 (.x1 .e)) (.call 91 [(.t (.xd (.x0 .e))), (.t (.x1 (.x1 .e)))])])
  (.cond (.t (.x2 (.x1 .e)))
  (.seq (.ops [.s (.x3 (.x1 .e)) (.mv (.t (.x3 (.x0 .e)))),
    .s (.x4 (.x1 .e)) (.nilck (.t (.x3 (.x1 .e)))),
    .s (.x5 (.x1 .e)) (.ld none (.t (.x4 (.x1 .e)))),
    .s (.x6 (.x1 .e)) (.bin .add (.t (.x5 (.x1 .e))) (.c (V.int .i64 1))),
    .s (.x7 (.x1 .e)) (.nilck (.t (.x3 (.x1 .e)))),
    .u (.st none (.t (.x7 (.x1 .e))) (.t (.x6 (.x1 .e))))])
  (.seq (.ops [.s (.x8 (.x1 .e)) (.mv (.t (.x2 (.x0 .e)))),
    .s (.x9 (.x1 .e)) (.mv (.t (.x1 (.x0 .e)))),
    .s (.x8 (.x0 .e)) (.asg (.t (.x8 (.x1 .e)))),
    .s (.x9 (.x0 .e)) (.asg (.t (.x9 (.x1 .e))))])
  .ret))
  .skip))
  (.seq (.ops [.s (.xa (.x1 .e)) (.mv (.t (.x1 (.x0 .e)))),
    .s (.xb (.x1 .e)) (.mv (.t (.x2 (.x0 .e)))),
    .s (.x8 (.x0 .e)) (.asg (.t (.xa (.x1 .e)))),
    .s (.x9 (.x0 .e)) (.asg (.t (.xb (.x1 .e))))])
  .ret)))
def e104 : EF := { depth := 2, nargs := 4, results := [.t (.x8 (.x0 .e)), .t (.x9 (.x0 .e))], body := b104 }

def envFn : BT :=
 (.node 53 (.node 27 (.node 14 (.node 8 (.node 5 (.node 3 (.leaf 2 e2)
 (.node 4 (.leaf 3 e3)
 (.leaf 4 e4)))
 (.node 6 (.leaf 5 e5)
 (.node 7 (.leaf 6 e6)
 (.leaf 7 e7))))
 (.node 11 (.node 9 (.leaf 8 e8)
 (.node 10 (.leaf 9 e9)
 (.leaf 10 e10)))
 (.node 12 (.leaf 11 e11)
 (.node 13 (.leaf 12 e12)
 (.leaf 13 e13)))))
 (.node 20 (.node 17 (.node 15 (.leaf 14 e14)
 (.node 16 (.leaf 15 e15)
 (.leaf 16 e16)))
 (.node 18 (.leaf 17 e17)
 (.node 19 (.leaf 18 e18)
 (.leaf 19 e19))))
 (.node 23 (.node 21 (.leaf 20 e20)
 (.node 22 (.leaf 21 e21)
 (.leaf 22 e22)))
 (.node 25 (.node 24 (.leaf 23 e23)
 (.leaf 24 e24))
 (.node 26 (.leaf 25 e25)
 (.leaf 26 e26))))))
 (.node 40 (.node 33 (.node 30 (.node 28 (.leaf 27 e27)
 (.node 29 (.leaf 28 e28)
 (.leaf 29 e29)))
 (.node 31 (.leaf 30 e30)
 (.node 32 (.leaf 31 e31)
 (.leaf 32 e32))))
 (.node 36 (.node 34 (.leaf 33 e33)
 (.node 35 (.leaf 34 e34)
 (.leaf 35 e35)))
 (.node 38 (.node 37 (.leaf 36 e36)
 (.leaf 37 e37))
 (.node 39 (.leaf 38 e38)
 (.leaf 39 e39)))))
 (.node 46 (.node 43 (.node 41 (.leaf 40 e40)
 (.node 42 (.leaf 41 e41)
 (.leaf 42 e42)))
 (.node 44 (.leaf 43 e43)
 (.node 45 (.leaf 44 e44)
 (.leaf 45 e45))))
 (.node 49 (.node 47 (.leaf 46 e46)
 (.node 48 (.leaf 47 e47)
 (.leaf 48 e48)))
 (.node 51 (.node 50 (.leaf 49 e49)
 (.leaf 50 e50))
 (.node 52 (.leaf 51 e51)
 (.leaf 52 e52)))))))
 (.node 79 (.node 66 (.node 59 (.node 56 (.node 54 (.leaf 53 e53)
 (.node 55 (.leaf 54 e54)
 (.leaf 55 e55)))
 (.node 57 (.leaf 56 e56)
 (.node 58 (.leaf 57 e57)
 (.leaf 58 e58))))
 (.node 62 (.node 60 (.leaf 59 e59)
 (.node 61 (.leaf 60 e60)
 (.leaf 61 e61)))
 (.node 64 (.node 63 (.leaf 62 e62)
 (.leaf 63 e63))
 (.node 65 (.leaf 64 e64)
 (.leaf 65 e65)))))
 (.node 72 (.node 69 (.node 67 (.leaf 66 e66)
 (.node 68 (.leaf 67 e67)
 (.leaf 68 e68)))
 (.node 70 (.leaf 69 e69)
 (.node 71 (.leaf 70 e70)
 (.leaf 71 e71))))
 (.node 75 (.node 73 (.leaf 72 e72)
 (.node 74 (.leaf 73 e73)
 (.leaf 74 e74)))
 (.node 77 (.node 76 (.leaf 75 e75)
 (.leaf 76 e76))
 (.node 78 (.leaf 77 e77)
 (.leaf 78 e78))))))
 (.node 92 (.node 85 (.node 82 (.node 80 (.leaf 79 e79)
 (.node 81 (.leaf 80 e80)
 (.leaf 81 e81)))
 (.node 83 (.leaf 82 e82)
 (.node 84 (.leaf 83 e83)
 (.leaf 84 e84))))
 (.node 88 (.node 86 (.leaf 85 e85)
 (.node 87 (.leaf 86 e86)
 (.leaf 87 e87)))
 (.node 90 (.node 89 (.leaf 88 e88)
 (.leaf 89 e89))
 (.node 91 (.leaf 90 e90)
 (.leaf 91 e91)))))
 (.node 98 (.node 95 (.node 93 (.leaf 92 e92)
 (.node 94 (.leaf 93 e93)
 (.leaf 94 e94)))
 (.node 96 (.leaf 95 e95)
 (.node 97 (.leaf 96 e96)
 (.leaf 97 e97))))
 (.node 101 (.node 99 (.leaf 98 e98)
 (.node 100 (.leaf 99 e99)
 (.leaf 100 e100)))
 (.node 103 (.node 102 (.leaf 101 e101)
 (.leaf 102 e102))
 (.node 104 (.leaf 103 e103)
 (.leaf 104 e104))))))))

end Go.Proofs.Ytnmkbnejapdnnaa.Ev
