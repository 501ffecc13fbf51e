/-
  The code of the functions, as printed by wip/tools/gen.py out of Lean's own print of the loaded functions; EvOk proves that it is theirs.
-/
import Derived.Test.YtnmkbnejapdnnaaEvCore
set_option maxRecDepth 100000
namespace Go.Proofs.Ytnmkbnejapdnnaa.Ev
open Go

/-- gosem.cut.init -/
def b2 : EC :=
  (.ops [.s (.x0 .e) (.call 1 [])])
def e2 : EF := { depth := 1, nargs := 0, results := [], body := b2 }

/-- forecourt/forecourtlaw09.PoleSigns -/
def b3 : EC :=
  (.seq (.ops [.s (.x4 (.x0 .e)) (.box (.t (.x1 (.x0 .e)))),
    .s (.x6 (.x0 .e)) (.asg (.c (V.bool false)))])
  (.seq (.seq (.ops [.s (.xf (.x0 .e)) (.mv (.t (.x0 (.x0 .e)))),
    .s (.x0 (.x1 .e)) (.len (.t (.xf (.x0 .e)))),
    .s (.x1 (.x1 .e)) (.bin .gtr (.t (.x0 (.x1 .e))) (.c (V.int .i64 40)))])
  (.cond (.t (.x1 (.x1 .e)))
  (.seq (.ops [.s (.x2 (.x1 .e)) (.call 12 []),
    .s (.x6 (.x0 .e)) (.asg (.t (.x2 (.x1 .e))))])
  .ret)
  .skip))
  (.seq (.ops [.s (.x4 (.x1 .e)) (.mv (.t (.x0 (.x0 .e)))),
    .s (.x5 (.x1 .e)) (.mv (.t (.x2 (.x0 .e)))),
    .s (.x6 (.x1 .e)) (.call 13 [(.t (.x4 (.x1 .e))), (.t (.x5 (.x1 .e)))]),
    .s (.x3 (.x1 .e)) (.mv (.t (.x6 (.x1 .e)))),
    .s (.x7 (.x1 .e)) (.ext (.t (.x3 (.x1 .e))) 0),
    .s (.x8 (.x1 .e)) (.ext (.t (.x3 (.x1 .e))) 1),
    .s (.x7 (.x0 .e)) (.asg (.t (.x7 (.x1 .e)))),
    .s (.x8 (.x0 .e)) (.asg (.t (.x8 (.x1 .e))))])
  (.seq (.ops [.s (.xa (.x1 .e)) (.mv (.t (.x0 (.x0 .e)))),
    .s (.xb (.x1 .e)) (.mv (.t (.x2 (.x0 .e)))),
    .s (.xc (.x1 .e)) (.call 14 [(.t (.xa (.x1 .e))), (.t (.xb (.x1 .e)))]),
    .s (.x9 (.x1 .e)) (.mv (.t (.xc (.x1 .e)))),
    .s (.xd (.x1 .e)) (.ext (.t (.x9 (.x1 .e))) 0),
    .s (.xe (.x1 .e)) (.ext (.t (.x9 (.x1 .e))) 1),
    .s (.x9 (.x0 .e)) (.asg (.t (.xd (.x1 .e)))),
    .s (.xa (.x0 .e)) (.asg (.t (.xe (.x1 .e))))])
  (.seq (.ops [.s (.x0 (.x2 .e)) (.mv (.t (.x0 (.x0 .e)))),
    .s (.x1 (.x2 .e)) (.ld (some 2) (.t (.x4 (.x0 .e)))),
    .s (.x2 (.x2 .e)) (.mv (.t (.x2 (.x0 .e)))),
    .s (.x3 (.x2 .e)) (.call 15 [(.t (.x0 (.x2 .e))), (.t (.x1 (.x2 .e))), (.t (.x2 (.x2 .e)))]),
    .s (.xf (.x1 .e)) (.mv (.t (.x3 (.x2 .e)))),
    .s (.x4 (.x2 .e)) (.ext (.t (.xf (.x1 .e))) 0),
    .s (.x5 (.x2 .e)) (.ext (.t (.xf (.x1 .e))) 1),
    .s (.xb (.x0 .e)) (.asg (.t (.x4 (.x2 .e)))),
    .s (.xc (.x0 .e)) (.asg (.t (.x5 (.x2 .e))))])
  (.seq (.ops [.s (.x7 (.x2 .e)) (.mv (.t (.x0 (.x0 .e)))),
    .s (.x8 (.x2 .e)) (.ld (some 2) (.t (.x4 (.x0 .e)))),
    .s (.x9 (.x2 .e)) (.mv (.t (.x2 (.x0 .e)))),
    .s (.xa (.x2 .e)) (.call 16 [(.t (.x7 (.x2 .e))), (.t (.x8 (.x2 .e))), (.t (.x9 (.x2 .e)))]),
    .s (.x6 (.x2 .e)) (.mv (.t (.xa (.x2 .e)))),
    .s (.xb (.x2 .e)) (.ext (.t (.x6 (.x2 .e))) 0),
    .s (.xc (.x2 .e)) (.ext (.t (.x6 (.x2 .e))) 1),
    .s (.xd (.x0 .e)) (.asg (.t (.xb (.x2 .e)))),
    .s (.xe (.x0 .e)) (.asg (.t (.xc (.x2 .e))))])
  (.seq (.ops [.s (.xd (.x2 .e)) (.mv (.t (.x0 (.x0 .e)))),
    .s (.xe (.x2 .e)) (.call 17 [(.t (.xd (.x2 .e)))]),
    .s (.xf (.x2 .e)) (.mv (.t (.x0 (.x0 .e)))),
    .s (.x0 (.x3 .e)) (.call 18 [(.t (.xf (.x2 .e)))]),
    .s (.x1 (.x3 .e)) (.bin .eql (.t (.xe (.x2 .e))) (.t (.x0 (.x3 .e)))),
    .s (.x2 (.x3 .e)) (.mv (.t (.x1 (.x3 .e)))),
    .g (.x2 (.x3 .e)) true (.x3 (.x3 .e)) (.mv (.t (.x7 (.x0 .e)))),
    .g (.x2 (.x3 .e)) true (.x4 (.x3 .e)) (.mv (.t (.x9 (.x0 .e)))),
    .g (.x2 (.x3 .e)) true (.x5 (.x3 .e)) (.bin .eql (.t (.x3 (.x3 .e))) (.t (.x4 (.x3 .e)))),
    .s (.x6 (.x3 .e)) (.pick (.t (.x2 (.x3 .e))) (.t (.x5 (.x3 .e))) (.c (V.bool false))),
    .s (.x7 (.x3 .e)) (.mv (.t (.x6 (.x3 .e)))),
    .g (.x7 (.x3 .e)) true (.x8 (.x3 .e)) (.mv (.t (.x8 (.x0 .e)))),
    .g (.x7 (.x3 .e)) true (.x9 (.x3 .e)) (.mv (.t (.xa (.x0 .e)))),
    .g (.x7 (.x3 .e)) true (.xa (.x3 .e)) (.bin .eql (.t (.x8 (.x3 .e))) (.t (.x9 (.x3 .e)))),
    .s (.xb (.x3 .e)) (.pick (.t (.x7 (.x3 .e))) (.t (.xa (.x3 .e))) (.c (V.bool false))),
    .s (.xc (.x3 .e)) (.mv (.t (.xb (.x3 .e)))),
    .g (.xc (.x3 .e)) true (.xd (.x3 .e)) (.mv (.t (.xb (.x0 .e)))),
    .g (.xc (.x3 .e)) true (.xe (.x3 .e)) (.mv (.t (.xd (.x0 .e)))),
    .g (.xc (.x3 .e)) true (.xf (.x3 .e)) (.bin .eql (.t (.xd (.x3 .e))) (.t (.xe (.x3 .e)))),
    .s (.x0 (.x4 .e)) (.pick (.t (.xc (.x3 .e))) (.t (.xf (.x3 .e))) (.c (V.bool false))),
    .s (.x1 (.x4 .e)) (.mv (.t (.x0 (.x4 .e)))),
    .g (.x1 (.x4 .e)) true (.x2 (.x4 .e)) (.mv (.t (.xc (.x0 .e)))),
    .g (.x1 (.x4 .e)) true (.x3 (.x4 .e)) (.mv (.t (.xe (.x0 .e)))),
    .g (.x1 (.x4 .e)) true (.x4 (.x4 .e)) (.bin .eql (.t (.x2 (.x4 .e))) (.t (.x3 (.x4 .e)))),
    .s (.x5 (.x4 .e)) (.pick (.t (.x1 (.x4 .e))) (.t (.x4 (.x4 .e))) (.c (V.bool false))),
    .s (.x6 (.x4 .e)) (.mv (.t (.x5 (.x4 .e)))),
    .g (.x6 (.x4 .e)) true (.x7 (.x4 .e)) (.call 12 []),
    .s (.x8 (.x4 .e)) (.pick (.t (.x6 (.x4 .e))) (.t (.x7 (.x4 .e))) (.c (V.bool false))),
    .s (.x6 (.x0 .e)) (.asg (.t (.x8 (.x4 .e))))])
  .ret)))))))
def e3 : EF := { depth := 2, nargs := 3, results := [.t (.x6 (.x0 .e))], body := b3 }

/-- forecourt/forecourtlaw09.PoleCheats -/
def b4 : EC :=
  (.seq (.ops [.s (.x5 (.x0 .e)) (.box (.t (.x2 (.x0 .e)))),
    .s (.x6 (.x0 .e)) (.asg (.c (V.bool false)))])
  (.seq (.seq (.ops [.s (.xf (.x0 .e)) (.mv (.t (.x0 (.x0 .e)))),
    .s (.x0 (.x1 .e)) (.len (.t (.xf (.x0 .e)))),
    .s (.x1 (.x1 .e)) (.bin .gtr (.t (.x0 (.x1 .e))) (.c (V.int .i64 40))),
    .s (.x2 (.x1 .e)) (.mv (.t (.x1 (.x1 .e)))),
    .g (.x2 (.x1 .e)) false (.x3 (.x1 .e)) (.mv (.t (.x1 (.x0 .e)))),
    .g (.x2 (.x1 .e)) false (.x4 (.x1 .e)) (.len (.t (.x3 (.x1 .e)))),
    .g (.x2 (.x1 .e)) false (.x5 (.x1 .e)) (.bin .gtr (.t (.x4 (.x1 .e))) (.c (V.int .i64 40))),
    .s (.x6 (.x1 .e)) (.pick (.t (.x2 (.x1 .e))) (.c (V.bool true)) (.t (.x5 (.x1 .e))))])
  (.cond (.t (.x6 (.x1 .e)))
  (.seq (.ops [.s (.x7 (.x1 .e)) (.call 12 []),
    .s (.x6 (.x0 .e)) (.asg (.t (.x7 (.x1 .e))))])
  .ret)
  .skip))
  (.seq (.ops [.s (.x9 (.x1 .e)) (.mv (.t (.x0 (.x0 .e)))),
    .s (.xa (.x1 .e)) (.mv (.t (.x1 (.x0 .e)))),
    .s (.xb (.x1 .e)) (.ld (some 2) (.t (.x5 (.x0 .e)))),
    .s (.xc (.x1 .e)) (.call 19 [(.t (.x9 (.x1 .e))), (.t (.xa (.x1 .e))), (.t (.xb (.x1 .e)))]),
    .s (.x8 (.x1 .e)) (.mv (.t (.xc (.x1 .e)))),
    .s (.xd (.x1 .e)) (.ext (.t (.x8 (.x1 .e))) 0),
    .s (.xe (.x1 .e)) (.ext (.t (.x8 (.x1 .e))) 1),
    .s (.x7 (.x0 .e)) (.asg (.t (.xd (.x1 .e)))),
    .s (.x8 (.x0 .e)) (.asg (.t (.xe (.x1 .e))))])
  (.seq (.ops [.s (.x0 (.x2 .e)) (.mv (.t (.x0 (.x0 .e)))),
    .s (.x1 (.x2 .e)) (.mv (.t (.x1 (.x0 .e)))),
    .s (.x2 (.x2 .e)) (.ld (some 2) (.t (.x5 (.x0 .e)))),
    .s (.x3 (.x2 .e)) (.call 20 [(.t (.x0 (.x2 .e))), (.t (.x1 (.x2 .e))), (.t (.x2 (.x2 .e)))]),
    .s (.xf (.x1 .e)) (.mv (.t (.x3 (.x2 .e)))),
    .s (.x4 (.x2 .e)) (.ext (.t (.xf (.x1 .e))) 0),
    .s (.x5 (.x2 .e)) (.ext (.t (.xf (.x1 .e))) 1),
    .s (.x9 (.x0 .e)) (.asg (.t (.x4 (.x2 .e)))),
    .s (.xa (.x0 .e)) (.asg (.t (.x5 (.x2 .e))))])
  (.seq (.ops [.s (.x7 (.x2 .e)) (.mv (.t (.x0 (.x0 .e)))),
    .s (.x8 (.x2 .e)) (.ld (some 2) (.t (.x5 (.x0 .e)))),
    .s (.x9 (.x2 .e)) (.call 21 [(.t (.x7 (.x2 .e))), (.t (.x8 (.x2 .e)))]),
    .s (.x6 (.x2 .e)) (.mv (.t (.x9 (.x2 .e)))),
    .s (.xa (.x2 .e)) (.ext (.t (.x6 (.x2 .e))) 0),
    .s (.xb (.x2 .e)) (.ext (.t (.x6 (.x2 .e))) 1),
    .s (.xb (.x0 .e)) (.asg (.t (.xa (.x2 .e)))),
    .s (.xc (.x0 .e)) (.asg (.t (.xb (.x2 .e))))])
  (.seq (.ops [.s (.xd (.x2 .e)) (.mv (.t (.x0 (.x0 .e)))),
    .s (.xe (.x2 .e)) (.ld (some 2) (.t (.x5 (.x0 .e)))),
    .s (.xf (.x2 .e)) (.call 22 [(.t (.xd (.x2 .e))), (.t (.xe (.x2 .e)))]),
    .s (.xc (.x2 .e)) (.mv (.t (.xf (.x2 .e)))),
    .s (.x0 (.x3 .e)) (.ext (.t (.xc (.x2 .e))) 0),
    .s (.x1 (.x3 .e)) (.ext (.t (.xc (.x2 .e))) 1),
    .s (.xd (.x0 .e)) (.asg (.t (.x0 (.x3 .e)))),
    .s (.xe (.x0 .e)) (.asg (.t (.x1 (.x3 .e))))])
  (.seq (.ops [.s (.x2 (.x3 .e)) (.mv (.t (.x7 (.x0 .e)))),
    .s (.x3 (.x3 .e)) (.mv (.t (.x9 (.x0 .e)))),
    .s (.x4 (.x3 .e)) (.bin .eql (.t (.x2 (.x3 .e))) (.t (.x3 (.x3 .e)))),
    .s (.x5 (.x3 .e)) (.mv (.t (.x4 (.x3 .e)))),
    .g (.x5 (.x3 .e)) true (.x6 (.x3 .e)) (.mv (.t (.x8 (.x0 .e)))),
    .g (.x5 (.x3 .e)) true (.x7 (.x3 .e)) (.mv (.t (.xa (.x0 .e)))),
    .g (.x5 (.x3 .e)) true (.x8 (.x3 .e)) (.bin .eql (.t (.x6 (.x3 .e))) (.t (.x7 (.x3 .e)))),
    .s (.x9 (.x3 .e)) (.pick (.t (.x5 (.x3 .e))) (.t (.x8 (.x3 .e))) (.c (V.bool false))),
    .s (.xa (.x3 .e)) (.mv (.t (.x9 (.x3 .e)))),
    .g (.xa (.x3 .e)) true (.xb (.x3 .e)) (.mv (.t (.xb (.x0 .e)))),
    .g (.xa (.x3 .e)) true (.xc (.x3 .e)) (.mv (.t (.xd (.x0 .e)))),
    .g (.xa (.x3 .e)) true (.xd (.x3 .e)) (.call 23 [(.t (.xb (.x3 .e))), (.t (.xc (.x3 .e)))]),
    .s (.xe (.x3 .e)) (.pick (.t (.xa (.x3 .e))) (.t (.xd (.x3 .e))) (.c (V.bool false))),
    .s (.xf (.x3 .e)) (.mv (.t (.xe (.x3 .e)))),
    .g (.xf (.x3 .e)) true (.x0 (.x4 .e)) (.mv (.t (.xc (.x0 .e)))),
    .g (.xf (.x3 .e)) true (.x1 (.x4 .e)) (.mv (.t (.xe (.x0 .e)))),
    .g (.xf (.x3 .e)) true (.x2 (.x4 .e)) (.bin .eql (.t (.x0 (.x4 .e))) (.t (.x1 (.x4 .e)))),
    .s (.x3 (.x4 .e)) (.pick (.t (.xf (.x3 .e))) (.t (.x2 (.x4 .e))) (.c (V.bool false))),
    .s (.x4 (.x4 .e)) (.mv (.t (.x3 (.x4 .e)))),
    .g (.x4 (.x4 .e)) true (.x5 (.x4 .e)) (.call 12 []),
    .s (.x6 (.x4 .e)) (.pick (.t (.x4 (.x4 .e))) (.t (.x5 (.x4 .e))) (.c (V.bool false))),
    .s (.x6 (.x0 .e)) (.asg (.t (.x6 (.x4 .e))))])
  .ret)))))))
def e4 : EF := { depth := 2, nargs := 3, results := [.t (.x6 (.x0 .e))], body := b4 }

/-- forecourt/forecourtlaw09.PoleTables -/
def b5 : EC :=
  (.seq (.ops [.s (.x2 (.x0 .e)) (.box (.t (.x0 (.x0 .e)))),
    .s (.x4 (.x0 .e)) (.asg (.c (V.bool false)))])
  (.seq (.seq (.ops [.s (.x7 (.x0 .e)) (.fadr 1 (.t (.x2 (.x0 .e)))),
    .s (.x8 (.x0 .e)) (.ld none (.t (.x7 (.x0 .e)))),
    .s (.x9 (.x0 .e)) (.call 24 [(.t (.x8 (.x0 .e)))]),
    .s (.xa (.x0 .e)) (.mv (.t (.x9 (.x0 .e)))),
    .g (.xa (.x0 .e)) false (.xb (.x0 .e)) (.mv (.t (.x1 (.x0 .e)))),
    .g (.xa (.x0 .e)) false (.xc (.x0 .e)) (.call 24 [(.t (.xb (.x0 .e)))]),
    .s (.xd (.x0 .e)) (.pick (.t (.xa (.x0 .e))) (.c (V.bool true)) (.t (.xc (.x0 .e))))])
  (.cond (.t (.xd (.x0 .e)))
  (.seq (.ops [.s (.xe (.x0 .e)) (.call 12 []),
    .s (.x4 (.x0 .e)) (.asg (.t (.xe (.x0 .e))))])
  .ret)
  .skip))
  (.seq (.seq (.draw [0, 2, 1, 3, 4, 5, 6, 7, 9, 10, 8, 11, 12, 13] [0, 0, 1, 7, 15, 31, 63, 63, 63, 63, 255, 2047, 4095, 8191] [.s (.xf (.x0 .e)) (.ld (some 2) (.t (.x2 (.x0 .e)))),
    .s (.x1 (.x1 .e)) (.ld (some 2) (.t (.x2 (.x0 .e)))),
    .s (.x0 (.x1 .e)) (.call 25 [(.t (.xf (.x0 .e)))]),
    .s (.x2 (.x1 .e)) (.call 26 [(.t (.x1 (.x1 .e)))]),
    .s (.x3 (.x1 .e)) (.bin .neq (.t (.x0 (.x1 .e))) (.t (.x2 (.x1 .e)))),
    .s (.x4 (.x1 .e)) (.mv (.t (.x3 (.x1 .e)))),
    .g (.x4 (.x1 .e)) false (.x5 (.x1 .e)) (.ld (some 2) (.t (.x2 (.x0 .e)))),
    .g (.x4 (.x1 .e)) false (.x6 (.x1 .e)) (.mv (.t (.x1 (.x0 .e)))),
    .g (.x4 (.x1 .e)) false (.x8 (.x1 .e)) (.ld (some 2) (.t (.x2 (.x0 .e)))),
    .g (.x4 (.x1 .e)) false (.x9 (.x1 .e)) (.mv (.t (.x1 (.x0 .e)))),
    .g (.x4 (.x1 .e)) false (.x7 (.x1 .e)) (.call 27 [(.t (.x5 (.x1 .e))), (.t (.x6 (.x1 .e)))]),
    .g (.x4 (.x1 .e)) false (.xa (.x1 .e)) (.call 28 [(.t (.x8 (.x1 .e))), (.t (.x9 (.x1 .e)))]),
    .g (.x4 (.x1 .e)) false (.xb (.x1 .e)) (.bin .neq (.t (.x7 (.x1 .e))) (.t (.xa (.x1 .e)))),
    .s (.xc (.x1 .e)) (.pick (.t (.x4 (.x1 .e))) (.c (V.bool true)) (.t (.xb (.x1 .e))))])
  (.cond (.t (.xc (.x1 .e)))
  (.seq (.ops [.s (.x4 (.x0 .e)) (.asg (.c (V.bool false)))])
  .ret)
  .skip))
  (.seq (.ops [.s (.xe (.x1 .e)) (.ld (some 2) (.t (.x2 (.x0 .e)))),
    .s (.xf (.x1 .e)) (.call 29 [(.t (.xe (.x1 .e)))]),
    .s (.xd (.x1 .e)) (.mv (.t (.xf (.x1 .e)))),
    .s (.x0 (.x2 .e)) (.ext (.t (.xd (.x1 .e))) 0),
    .s (.x1 (.x2 .e)) (.ext (.t (.xd (.x1 .e))) 1),
    .s (.x5 (.x0 .e)) (.asg (.t (.x0 (.x2 .e)))),
    .s (.x6 (.x0 .e)) (.asg (.t (.x1 (.x2 .e))))])
  (.seq (.seq (.ops [.s (.x2 (.x2 .e)) (.mv (.t (.x6 (.x0 .e)))),
    .s (.x3 (.x2 .e)) (.ld (some 2) (.t (.x2 (.x0 .e)))),
    .s (.x4 (.x2 .e)) (.call 26 [(.t (.x3 (.x2 .e)))]),
    .s (.x5 (.x2 .e)) (.bin .neq (.t (.x2 (.x2 .e))) (.t (.x4 (.x2 .e))))])
  (.cond (.t (.x5 (.x2 .e)))
  (.seq (.ops [.s (.x4 (.x0 .e)) (.asg (.c (V.bool false)))])
  .ret)
  .skip))
  (.seq (.seq (.ops [.s (.x6 (.x2 .e)) (.mv (.t (.x6 (.x0 .e)))),
    .s (.x7 (.x2 .e)) (.bin .neq (.t (.x6 (.x2 .e))) (.c (V.int .i64 0)))])
  (.cond (.t (.x7 (.x2 .e)))
  (.seq (.ops [.s (.x8 (.x2 .e)) (.mv (.t (.x5 (.x0 .e)))),
    .s (.x9 (.x2 .e)) (.len (.t (.x8 (.x2 .e)))),
    .s (.xa (.x2 .e)) (.bin .eql (.t (.x9 (.x2 .e))) (.c (V.int .i64 0))),
    .s (.xb (.x2 .e)) (.mv (.t (.xa (.x2 .e)))),
    .g (.xb (.x2 .e)) true (.xc (.x2 .e)) (.call 12 []),
    .s (.xd (.x2 .e)) (.pick (.t (.xb (.x2 .e))) (.t (.xc (.x2 .e))) (.c (V.bool false))),
    .s (.x4 (.x0 .e)) (.asg (.t (.xd (.x2 .e))))])
  .ret)
  .skip))
  (.seq (.ops [.s (.xe (.x2 .e)) (.ld (some 2) (.t (.x2 (.x0 .e)))),
    .s (.xf (.x2 .e)) (.mv (.t (.x5 (.x0 .e)))),
    .s (.x0 (.x3 .e)) (.call 28 [(.t (.xe (.x2 .e))), (.t (.xf (.x2 .e)))]),
    .s (.x1 (.x3 .e)) (.bin .eql (.t (.x0 (.x3 .e))) (.c (V.int .i64 0))),
    .s (.x2 (.x3 .e)) (.mv (.t (.x1 (.x3 .e)))),
    .g (.x2 (.x3 .e)) true (.x3 (.x3 .e)) (.call 12 []),
    .s (.x4 (.x3 .e)) (.pick (.t (.x2 (.x3 .e))) (.t (.x3 (.x3 .e))) (.c (V.bool false))),
    .s (.x4 (.x0 .e)) (.asg (.t (.x4 (.x3 .e))))])
  .ret)))))))
def e5 : EF := { depth := 2, nargs := 2, results := [.t (.x4 (.x0 .e))], body := b5 }

/-- forecourt/forecourtlaw09.PoleForces -/
def b6 : EC :=
  (.seq (.ops [.s (.x4 (.x0 .e)) (.box (.t (.x0 (.x0 .e)))),
    .s (.x8 (.x0 .e)) (.asg (.c (V.bool false)))])
  (.seq (.seq (.ops [.s (.xc (.x0 .e)) (.fadr 1 (.t (.x4 (.x0 .e)))),
    .s (.xd (.x0 .e)) (.ld none (.t (.xc (.x0 .e)))),
    .s (.xe (.x0 .e)) (.call 24 [(.t (.xd (.x0 .e)))])])
  (.cond (.t (.xe (.x0 .e)))
  (.seq (.ops [.s (.xf (.x0 .e)) (.call 12 []),
    .s (.x8 (.x0 .e)) (.asg (.t (.xf (.x0 .e))))])
  .ret)
  .skip))
  (.seq (.ops [.s (.x1 (.x1 .e)) (.ld (some 2) (.t (.x4 (.x0 .e)))),
    .s (.x2 (.x1 .e)) (.mv (.t (.x1 (.x0 .e)))),
    .s (.x3 (.x1 .e)) (.mv (.t (.x2 (.x0 .e)))),
    .s (.x4 (.x1 .e)) (.mv (.t (.x3 (.x0 .e)))),
    .s (.x5 (.x1 .e)) (.call 30 [(.t (.x1 (.x1 .e))), (.t (.x2 (.x1 .e))), (.t (.x3 (.x1 .e))), (.t (.x4 (.x1 .e)))]),
    .s (.x0 (.x1 .e)) (.mv (.t (.x5 (.x1 .e)))),
    .s (.x6 (.x1 .e)) (.ext (.t (.x0 (.x1 .e))) 0),
    .s (.x7 (.x1 .e)) (.ext (.t (.x0 (.x1 .e))) 1),
    .s (.x9 (.x0 .e)) (.asg (.t (.x6 (.x1 .e)))),
    .s (.xa (.x0 .e)) (.asg (.t (.x7 (.x1 .e))))])
  (.seq (.seq (.ops [.s (.x8 (.x1 .e)) (.mv (.t (.xa (.x0 .e)))),
    .s (.x9 (.x1 .e)) (.ld (some 2) (.t (.x4 (.x0 .e)))),
    .s (.xa (.x1 .e)) (.mv (.t (.x1 (.x0 .e)))),
    .s (.xb (.x1 .e)) (.mv (.t (.x2 (.x0 .e)))),
    .s (.xc (.x1 .e)) (.call 31 [(.t (.x9 (.x1 .e))), (.t (.xa (.x1 .e))), (.t (.xb (.x1 .e)))]),
    .s (.xd (.x1 .e)) (.bin .neq (.t (.x8 (.x1 .e))) (.t (.xc (.x1 .e))))])
  (.cond (.t (.xd (.x1 .e)))
  (.seq (.ops [.s (.x8 (.x0 .e)) (.asg (.c (V.bool false)))])
  .ret)
  .skip))
  (.seq (.seq (.ops [.s (.xe (.x1 .e)) (.mv (.t (.xa (.x0 .e)))),
    .s (.xf (.x1 .e)) (.bin .neq (.t (.xe (.x1 .e))) (.c (V.int .i64 0)))])
  (.cond (.t (.xf (.x1 .e)))
  (.seq (.ops [.s (.x0 (.x2 .e)) (.mv (.t (.x9 (.x0 .e)))),
    .s (.x1 (.x2 .e)) (.len (.t (.x0 (.x2 .e)))),
    .s (.x2 (.x2 .e)) (.bin .eql (.t (.x1 (.x2 .e))) (.c (V.int .i64 0))),
    .s (.x3 (.x2 .e)) (.mv (.t (.x2 (.x2 .e)))),
    .g (.x3 (.x2 .e)) true (.x4 (.x2 .e)) (.call 12 []),
    .s (.x5 (.x2 .e)) (.pick (.t (.x3 (.x2 .e))) (.t (.x4 (.x2 .e))) (.c (V.bool false))),
    .s (.x8 (.x0 .e)) (.asg (.t (.x5 (.x2 .e))))])
  .ret)
  .skip))
  (.seq (.draw [0, 1, 2, 3, 4, 5, 6, 7, 8, 9, 10, 11] [0, 1, 0, 7, 15, 0, 63, 127, 0, 256, 1023, 2047] [.s (.x6 (.x2 .e)) (.fadr 1 (.t (.x4 (.x0 .e)))),
    .s (.x7 (.x2 .e)) (.ld none (.t (.x6 (.x2 .e)))),
    .s (.x8 (.x2 .e)) (.mv (.t (.x1 (.x0 .e)))),
    .s (.x9 (.x2 .e)) (.ixs 1 (.t (.x7 (.x2 .e))) (.t (.x8 (.x2 .e)))),
    .s (.xa (.x2 .e)) (.ld none (.t (.x9 (.x2 .e)))),
    .s (.xb (.x2 .e)) (.mv (.t (.x2 (.x0 .e)))),
    .s (.xc (.x2 .e)) (.ixs 1 (.t (.xa (.x2 .e))) (.t (.xb (.x2 .e)))),
    .s (.xd (.x2 .e)) (.ld none (.t (.xc (.x2 .e)))),
    .s (.xe (.x2 .e)) (.fadr 0 (.t (.x4 (.x0 .e)))),
    .s (.xf (.x2 .e)) (.ld none (.t (.xe (.x2 .e)))),
    .s (.x0 (.x3 .e)) (.bin .quo (.t (.xd (.x2 .e))) (.t (.xf (.x2 .e)))),
    .s (.xb (.x0 .e)) (.asg (.t (.x0 (.x3 .e))))])
  (.seq (.seq (.ops [.s (.x1 (.x3 .e)) (.mv (.t (.x3 (.x0 .e))))])
  (.cond (.t (.x1 (.x3 .e)))
  (.ops [.s (.x2 (.x3 .e)) (.mv (.t (.xb (.x0 .e)))),
    .s (.x3 (.x3 .e)) (.bin .add (.t (.x2 (.x3 .e))) (.c (V.int .i64 1))),
    .s (.xb (.x0 .e)) (.asg (.t (.x3 (.x3 .e))))])
  .skip))
  (.seq (.ops [.s (.x4 (.x3 .e)) (.ld (some 2) (.t (.x4 (.x0 .e)))),
    .s (.x5 (.x3 .e)) (.mv (.t (.x9 (.x0 .e)))),
    .s (.x6 (.x3 .e)) (.call 28 [(.t (.x4 (.x3 .e))), (.t (.x5 (.x3 .e)))]),
    .s (.x7 (.x3 .e)) (.bin .eql (.t (.x6 (.x3 .e))) (.c (V.int .i64 0))),
    .s (.x8 (.x3 .e)) (.mv (.t (.x7 (.x3 .e)))),
    .g (.x8 (.x3 .e)) true (.x9 (.x3 .e)) (.mv (.t (.x9 (.x0 .e)))),
    .g (.x8 (.x3 .e)) true (.xa (.x3 .e)) (.mv (.t (.x1 (.x0 .e)))),
    .g (.x8 (.x3 .e)) true (.xb (.x3 .e)) (.ixs 1 (.t (.x9 (.x3 .e))) (.t (.xa (.x3 .e)))),
    .g (.x8 (.x3 .e)) true (.xc (.x3 .e)) (.ld none (.t (.xb (.x3 .e)))),
    .g (.x8 (.x3 .e)) true (.xd (.x3 .e)) (.mv (.t (.x2 (.x0 .e)))),
    .g (.x8 (.x3 .e)) true (.xe (.x3 .e)) (.ixs 1 (.t (.xc (.x3 .e))) (.t (.xd (.x3 .e)))),
    .g (.x8 (.x3 .e)) true (.xf (.x3 .e)) (.ld none (.t (.xe (.x3 .e)))),
    .g (.x8 (.x3 .e)) true (.x0 (.x4 .e)) (.mv (.t (.xb (.x0 .e)))),
    .g (.x8 (.x3 .e)) true (.x1 (.x4 .e)) (.bin .eql (.t (.xf (.x3 .e))) (.t (.x0 (.x4 .e)))),
    .s (.x2 (.x4 .e)) (.pick (.t (.x8 (.x3 .e))) (.t (.x1 (.x4 .e))) (.c (V.bool false))),
    .s (.x3 (.x4 .e)) (.mv (.t (.x2 (.x4 .e)))),
    .g (.x3 (.x4 .e)) true (.x4 (.x4 .e)) (.call 12 []),
    .s (.x5 (.x4 .e)) (.pick (.t (.x3 (.x4 .e))) (.t (.x4 (.x4 .e))) (.c (V.bool false))),
    .s (.x8 (.x0 .e)) (.asg (.t (.x5 (.x4 .e))))])
  .ret))))))))
def e6 : EF := { depth := 2, nargs := 4, results := [.t (.x8 (.x0 .e))], body := b6 }

/-- function 7, loop 0: live [0, 2, 6, 11, 13, 15, 19, 21] -/
def M7_0 : List Pth := [(.x0 (.x0 .e)), (.x2 (.x0 .e)), (.x6 (.x0 .e)), (.xb (.x0 .e)), (.xd (.x0 .e)), (.xf (.x0 .e)), (.x3 (.x1 .e)), (.x5 (.x1 .e))]
def L7_0 : EC :=
  (.seq (.seq (.ops [.s (.xd (.x6 .e)) (.mv (.t (.x5 (.x1 .e)))),
    .s (.xe (.x6 .e)) (.mv (.t (.xd (.x0 .e)))),
    .s (.xf (.x6 .e)) (.len (.t (.xe (.x6 .e)))),
    .s (.x0 (.x7 .e)) (.bin .lss (.t (.xd (.x6 .e))) (.t (.xf (.x6 .e))))])
  (.cond (.t (.x0 (.x7 .e)))
  .skip
  (.exit 0)))
  (.seq (.blk 1 [(.x0 (.x0 .e)), (.x2 (.x0 .e)), (.x6 (.x0 .e)), (.xb (.x0 .e)), (.xd (.x0 .e)), (.xf (.x0 .e)), (.x3 (.x1 .e)), (.x5 (.x1 .e))]
  (.seq (.draw [0, 1, 2, 3, 4, 5, 6, 7, 8, 9, 10, 11] [0, 0, 3, 7, 15, 0, 0, 64, 224, 480, 992, 2047] [.s (.x3 (.x7 .e)) (.mv (.t (.xd (.x0 .e)))),
    .s (.x4 (.x7 .e)) (.mv (.t (.x5 (.x1 .e)))),
    .s (.x5 (.x7 .e)) (.ixs 2 (.t (.x3 (.x7 .e))) (.t (.x4 (.x7 .e)))),
    .s (.x6 (.x7 .e)) (.fadr 1 (.t (.x5 (.x7 .e)))),
    .s (.x7 (.x7 .e)) (.ld none (.t (.x6 (.x7 .e)))),
    .s (.x8 (.x7 .e)) (.mv (.t (.xd (.x0 .e)))),
    .s (.x9 (.x7 .e)) (.mv (.t (.x5 (.x1 .e)))),
    .s (.xa (.x7 .e)) (.bin .sub (.t (.x9 (.x7 .e))) (.c (V.int .i64 1))),
    .s (.xb (.x7 .e)) (.ixs 2 (.t (.x8 (.x7 .e))) (.t (.xa (.x7 .e)))),
    .s (.xc (.x7 .e)) (.fadr 1 (.t (.xb (.x7 .e)))),
    .s (.xd (.x7 .e)) (.ld none (.t (.xc (.x7 .e)))),
    .s (.xe (.x7 .e)) (.bin .eql (.t (.x7 (.x7 .e))) (.t (.xd (.x7 .e))))])
  (.cond (.t (.xe (.x7 .e)))
  (.seq (.ops [.s (.xa (.x0 .e)) (.asg (.c (V.bool false)))])
  .ret)
  .skip)))
  (.ops [.s (.x1 (.x7 .e)) (.mv (.t (.x5 (.x1 .e)))),
    .s (.x2 (.x7 .e)) (.bin .add (.t (.x1 (.x7 .e))) (.c (V.int .i64 1))),
    .s (.x5 (.x1 .e)) (.asg (.t (.x2 (.x7 .e))))])))
/-- forecourt/forecourtlaw09.PoleFair -/
def b7 : EC :=
  (.seq (.ops [.s (.x6 (.x0 .e)) (.box (.t (.x1 (.x0 .e)))),
    .s (.xa (.x0 .e)) (.asg (.c (V.bool false)))])
  (.seq (.seq (.ops [.s (.xb (.x1 .e)) (.mv (.t (.x0 (.x0 .e)))),
    .s (.xc (.x1 .e)) (.ld (some 2) (.t (.x6 (.x0 .e)))),
    .s (.xd (.x1 .e)) (.call 32 [(.t (.xb (.x1 .e))), (.t (.xc (.x1 .e)))]),
    .s (.xe (.x1 .e)) (.un .not (.t (.xd (.x1 .e)))),
    .s (.xf (.x1 .e)) (.mv (.t (.xe (.x1 .e)))),
    .g (.xf (.x1 .e)) false (.x0 (.x2 .e)) (.mv (.t (.x2 (.x0 .e)))),
    .g (.xf (.x1 .e)) false (.x1 (.x2 .e)) (.len (.t (.x0 (.x2 .e)))),
    .g (.xf (.x1 .e)) false (.x2 (.x2 .e)) (.bin .gtr (.t (.x1 (.x2 .e))) (.c (V.int .i64 40))),
    .s (.x3 (.x2 .e)) (.pick (.t (.xf (.x1 .e))) (.c (V.bool true)) (.t (.x2 (.x2 .e))))])
  (.cond (.t (.x3 (.x2 .e)))
  (.seq (.ops [.s (.x4 (.x2 .e)) (.call 12 []),
    .s (.xa (.x0 .e)) (.asg (.t (.x4 (.x2 .e))))])
  .ret)
  .skip))
  (.seq (.ops [.s (.x5 (.x2 .e)) (.mv (.t (.x3 (.x0 .e)))),
    .s (.x6 (.x2 .e)) (.cvt .i64 (.t (.x5 (.x2 .e)))),
    .s (.x7 (.x2 .e)) (.bin .rem (.t (.x6 (.x2 .e))) (.c (V.int .i64 2001))),
    .s (.xb (.x0 .e)) (.asg (.t (.x7 (.x2 .e))))])
  (.seq (.draw [0, 1, 2, 3, 4, 5, 6, 7, 8, 9, 10, 11, 12] [0, 1, 0, 4, 0, 16, 0, 64, 240, 496, 1020, 2047, 4095] [.s (.x8 (.x2 .e)) (.fadr 0 (.t (.x6 (.x0 .e)))),
    .s (.x9 (.x2 .e)) (.ld none (.t (.x8 (.x2 .e)))),
    .s (.xa (.x2 .e)) (.mv (.t (.x4 (.x0 .e)))),
    .s (.xb (.x2 .e)) (.cvt .i64 (.t (.xa (.x2 .e)))),
    .s (.xc (.x2 .e)) (.fadr 1 (.t (.x6 (.x0 .e)))),
    .s (.xd (.x2 .e)) (.ld none (.t (.xc (.x2 .e)))),
    .s (.xe (.x2 .e)) (.fadr 0 (.t (.x6 (.x0 .e)))),
    .s (.xf (.x2 .e)) (.ld none (.t (.xe (.x2 .e)))),
    .s (.x0 (.x3 .e)) (.bin .sub (.t (.xd (.x2 .e))) (.t (.xf (.x2 .e)))),
    .s (.x1 (.x3 .e)) (.bin .add (.t (.x0 (.x3 .e))) (.c (V.int .i64 1))),
    .s (.x2 (.x3 .e)) (.bin .rem (.t (.xb (.x2 .e))) (.t (.x1 (.x3 .e)))),
    .s (.x3 (.x3 .e)) (.bin .add (.t (.x9 (.x2 .e))) (.t (.x2 (.x3 .e)))),
    .s (.xc (.x0 .e)) (.asg (.t (.x3 (.x3 .e))))])
  (.seq (.ops [.s (.x5 (.x3 .e)) (.mv (.t (.x0 (.x0 .e)))),
    .s (.x6 (.x3 .e)) (.ld (some 2) (.t (.x6 (.x0 .e)))),
    .s (.x7 (.x3 .e)) (.call 21 [(.t (.x5 (.x3 .e))), (.t (.x6 (.x3 .e)))]),
    .s (.x4 (.x3 .e)) (.mv (.t (.x7 (.x3 .e)))),
    .s (.x8 (.x3 .e)) (.ext (.t (.x4 (.x3 .e))) 0),
    .s (.x9 (.x3 .e)) (.ext (.t (.x4 (.x3 .e))) 1),
    .s (.xd (.x0 .e)) (.asg (.t (.x8 (.x3 .e)))),
    .s (.xe (.x0 .e)) (.asg (.t (.x9 (.x3 .e))))])
  (.seq (.seq (.ops [.s (.xa (.x3 .e)) (.mv (.t (.xe (.x0 .e)))),
    .s (.xb (.x3 .e)) (.bin .neq (.t (.xa (.x3 .e))) (.c (V.int .i64 0))),
    .s (.xc (.x3 .e)) (.mv (.t (.xb (.x3 .e)))),
    .g (.xc (.x3 .e)) false (.xd (.x3 .e)) (.mv (.t (.xd (.x0 .e)))),
    .g (.xc (.x3 .e)) false (.xe (.x3 .e)) (.call 18 [(.t (.xd (.x3 .e)))]),
    .g (.xc (.x3 .e)) false (.xf (.x3 .e)) (.bin .neq (.t (.xe (.x3 .e))) (.c (V.int .i64 0))),
    .s (.x0 (.x4 .e)) (.pick (.t (.xc (.x3 .e))) (.c (V.bool true)) (.t (.xf (.x3 .e))))])
  (.cond (.t (.x0 (.x4 .e)))
  (.seq (.ops [.s (.xa (.x0 .e)) (.asg (.c (V.bool false)))])
  .ret)
  .skip))
  (.seq (.ops [.s (.x2 (.x4 .e)) (.mv (.t (.xd (.x0 .e)))),
    .s (.x3 (.x4 .e)) (.mv (.t (.xb (.x0 .e)))),
    .s (.x4 (.x4 .e)) (.call 13 [(.t (.x2 (.x4 .e))), (.t (.x3 (.x4 .e)))]),
    .s (.x1 (.x4 .e)) (.mv (.t (.x4 (.x4 .e)))),
    .s (.x5 (.x4 .e)) (.ext (.t (.x1 (.x4 .e))) 0),
    .s (.x6 (.x4 .e)) (.ext (.t (.x1 (.x4 .e))) 1),
    .s (.xf (.x0 .e)) (.asg (.t (.x5 (.x4 .e)))),
    .s (.x0 (.x1 .e)) (.asg (.t (.x6 (.x4 .e))))])
  (.seq (.ops [.s (.x8 (.x4 .e)) (.mv (.t (.x0 (.x0 .e)))),
    .s (.x9 (.x4 .e)) (.mv (.t (.xd (.x0 .e)))),
    .s (.xa (.x4 .e)) (.ld (some 2) (.t (.x6 (.x0 .e)))),
    .s (.xb (.x4 .e)) (.call 19 [(.t (.x8 (.x4 .e))), (.t (.x9 (.x4 .e))), (.t (.xa (.x4 .e)))]),
    .s (.x7 (.x4 .e)) (.mv (.t (.xb (.x4 .e)))),
    .s (.xc (.x4 .e)) (.ext (.t (.x7 (.x4 .e))) 0),
    .s (.xd (.x4 .e)) (.ext (.t (.x7 (.x4 .e))) 1),
    .s (.x1 (.x1 .e)) (.asg (.t (.xc (.x4 .e)))),
    .s (.x2 (.x1 .e)) (.asg (.t (.xd (.x4 .e))))])
  (.seq (.ops [.s (.xf (.x4 .e)) (.mv (.t (.x0 (.x0 .e)))),
    .s (.x0 (.x5 .e)) (.ld (some 2) (.t (.x6 (.x0 .e)))),
    .s (.x1 (.x5 .e)) (.mv (.t (.xb (.x0 .e)))),
    .s (.x2 (.x5 .e)) (.call 15 [(.t (.xf (.x4 .e))), (.t (.x0 (.x5 .e))), (.t (.x1 (.x5 .e)))]),
    .s (.xe (.x4 .e)) (.mv (.t (.x2 (.x5 .e)))),
    .s (.x3 (.x5 .e)) (.ext (.t (.xe (.x4 .e))) 0),
    .s (.x4 (.x5 .e)) (.ext (.t (.xe (.x4 .e))) 1),
    .s (.x3 (.x1 .e)) (.asg (.t (.x3 (.x5 .e)))),
    .s (.x4 (.x1 .e)) (.asg (.t (.x4 (.x5 .e))))])
  (.seq (.seq (.ops [.s (.x5 (.x5 .e)) (.mv (.t (.x0 (.x1 .e)))),
    .s (.x6 (.x5 .e)) (.bin .neq (.t (.x5 (.x5 .e))) (.c (V.int .i64 0))),
    .s (.x7 (.x5 .e)) (.mv (.t (.x6 (.x5 .e)))),
    .g (.x7 (.x5 .e)) false (.x8 (.x5 .e)) (.mv (.t (.x2 (.x1 .e)))),
    .g (.x7 (.x5 .e)) false (.x9 (.x5 .e)) (.bin .neq (.t (.x8 (.x5 .e))) (.c (V.int .i64 5))),
    .s (.xa (.x5 .e)) (.pick (.t (.x7 (.x5 .e))) (.c (V.bool true)) (.t (.x9 (.x5 .e)))),
    .s (.xb (.x5 .e)) (.mv (.t (.xa (.x5 .e)))),
    .g (.xb (.x5 .e)) false (.xc (.x5 .e)) (.mv (.t (.x4 (.x1 .e)))),
    .g (.xb (.x5 .e)) false (.xd (.x5 .e)) (.bin .neq (.t (.xc (.x5 .e))) (.c (V.int .i64 0))),
    .s (.xe (.x5 .e)) (.pick (.t (.xb (.x5 .e))) (.c (V.bool true)) (.t (.xd (.x5 .e)))),
    .s (.xf (.x5 .e)) (.mv (.t (.xe (.x5 .e)))),
    .g (.xf (.x5 .e)) false (.x0 (.x6 .e)) (.mv (.t (.xf (.x0 .e)))),
    .g (.xf (.x5 .e)) false (.x1 (.x6 .e)) (.mv (.t (.x0 (.x0 .e)))),
    .g (.xf (.x5 .e)) false (.x2 (.x6 .e)) (.mv (.t (.xb (.x0 .e)))),
    .g (.xf (.x5 .e)) false (.x3 (.x6 .e)) (.mv (.t (.xc (.x0 .e)))),
    .g (.xf (.x5 .e)) false (.x4 (.x6 .e)) (.bin .add (.t (.x2 (.x6 .e))) (.t (.x3 (.x6 .e)))),
    .g (.xf (.x5 .e)) false (.x5 (.x6 .e)) (.call 33 [(.t (.x1 (.x6 .e))), (.t (.x4 (.x6 .e)))]),
    .g (.xf (.x5 .e)) false (.x6 (.x6 .e)) (.bin .gtr (.t (.x0 (.x6 .e))) (.t (.x5 (.x6 .e)))),
    .s (.x7 (.x6 .e)) (.pick (.t (.xf (.x5 .e))) (.c (V.bool true)) (.t (.x6 (.x6 .e)))),
    .s (.x8 (.x6 .e)) (.mv (.t (.x7 (.x6 .e)))),
    .g (.x8 (.x6 .e)) false (.x9 (.x6 .e)) (.mv (.t (.xf (.x0 .e)))),
    .g (.x8 (.x6 .e)) false (.xa (.x6 .e)) (.mv (.t (.x3 (.x1 .e)))),
    .g (.x8 (.x6 .e)) false (.xb (.x6 .e)) (.bin .neq (.t (.x9 (.x6 .e))) (.t (.xa (.x6 .e)))),
    .s (.xc (.x6 .e)) (.pick (.t (.x8 (.x6 .e))) (.c (V.bool true)) (.t (.xb (.x6 .e))))])
  (.cond (.t (.xc (.x6 .e)))
  (.seq (.ops [.s (.xa (.x0 .e)) (.asg (.c (V.bool false)))])
  .ret)
  .skip))
  (.seq (.seq (.ops [.s (.x5 (.x1 .e)) (.asg (.c (V.int .i64 1)))])
  (.blk 0 [(.x0 (.x0 .e)), (.x2 (.x0 .e)), (.x6 (.x0 .e)), (.xb (.x0 .e)), (.xf (.x0 .e)), (.x3 (.x1 .e))]
  (.loop M7_0 L7_0)))
  (.seq (.seq (.ops [.s (.xf (.x7 .e)) (.mv (.t (.x2 (.x0 .e)))),
    .s (.x0 (.x8 .e)) (.call 18 [(.t (.xf (.x7 .e)))]),
    .s (.x1 (.x8 .e)) (.bin .neq (.t (.x0 (.x8 .e))) (.c (V.int .i64 0)))])
  (.cond (.t (.x1 (.x8 .e)))
  (.seq (.ops [.s (.x2 (.x8 .e)) (.call 12 []),
    .s (.xa (.x0 .e)) (.asg (.t (.x2 (.x8 .e))))])
  .ret)
  .skip))
  (.seq (.ops [.s (.x4 (.x8 .e)) (.mv (.t (.x0 (.x0 .e)))),
    .s (.x5 (.x8 .e)) (.mv (.t (.x2 (.x0 .e)))),
    .s (.x6 (.x8 .e)) (.ld (some 2) (.t (.x6 (.x0 .e)))),
    .s (.x7 (.x8 .e)) (.call 19 [(.t (.x4 (.x8 .e))), (.t (.x5 (.x8 .e))), (.t (.x6 (.x8 .e)))]),
    .s (.x3 (.x8 .e)) (.mv (.t (.x7 (.x8 .e)))),
    .s (.x8 (.x8 .e)) (.ext (.t (.x3 (.x8 .e))) 0),
    .s (.x9 (.x8 .e)) (.ext (.t (.x3 (.x8 .e))) 1),
    .s (.x6 (.x1 .e)) (.asg (.t (.x8 (.x8 .e)))),
    .s (.xe (.x0 .e)) (.asg (.t (.x9 (.x8 .e))))])
  (.seq (.ops [.s (.xb (.x8 .e)) (.mv (.t (.x2 (.x0 .e)))),
    .s (.xc (.x8 .e)) (.mv (.t (.xb (.x0 .e)))),
    .s (.xd (.x8 .e)) (.call 13 [(.t (.xb (.x8 .e))), (.t (.xc (.x8 .e)))]),
    .s (.xa (.x8 .e)) (.mv (.t (.xd (.x8 .e)))),
    .s (.xe (.x8 .e)) (.ext (.t (.xa (.x8 .e))) 0),
    .s (.xf (.x8 .e)) (.ext (.t (.xa (.x8 .e))) 1),
    .s (.x7 (.x1 .e)) (.asg (.t (.xe (.x8 .e)))),
    .s (.x8 (.x1 .e)) (.asg (.t (.xf (.x8 .e))))])
  (.seq (.seq (.ops [.s (.x0 (.x9 .e)) (.mv (.t (.x8 (.x1 .e)))),
    .s (.x1 (.x9 .e)) (.bin .neq (.t (.x0 (.x9 .e))) (.c (V.int .i64 0))),
    .s (.x2 (.x9 .e)) (.mv (.t (.x1 (.x9 .e)))),
    .g (.x2 (.x9 .e)) false (.x3 (.x9 .e)) (.mv (.t (.xe (.x0 .e)))),
    .g (.x2 (.x9 .e)) false (.x4 (.x9 .e)) (.bin .neq (.t (.x3 (.x9 .e))) (.c (V.int .i64 0))),
    .g (.x2 (.x9 .e)) false (.x5 (.x9 .e)) (.mv (.t (.x4 (.x9 .e)))),
    .g (.x5 (.x9 .e)) true (.x6 (.x9 .e)) (.mv (.t (.xe (.x0 .e)))),
    .g (.x5 (.x9 .e)) true (.x7 (.x9 .e)) (.bin .neq (.t (.x6 (.x9 .e))) (.c (V.int .i64 5))),
    .g (.x2 (.x9 .e)) false (.x8 (.x9 .e)) (.pick (.t (.x5 (.x9 .e))) (.t (.x7 (.x9 .e))) (.c (V.bool false))),
    .s (.x9 (.x9 .e)) (.pick (.t (.x2 (.x9 .e))) (.c (V.bool true)) (.t (.x8 (.x9 .e))))])
  (.cond (.t (.x9 (.x9 .e)))
  (.seq (.ops [.s (.xa (.x0 .e)) (.asg (.c (V.bool false)))])
  .ret)
  .skip))
  (.seq (.seq (.ops [.s (.xa (.x9 .e)) (.mv (.t (.xe (.x0 .e)))),
    .s (.xb (.x9 .e)) (.bin .eql (.t (.xa (.x9 .e))) (.c (V.int .i64 5)))])
  (.cond (.t (.xb (.x9 .e)))
  (.seq (.ops [.s (.xc (.x9 .e)) (.mv (.t (.x7 (.x1 .e)))),
    .s (.xd (.x9 .e)) (.mv (.t (.xf (.x0 .e)))),
    .s (.xe (.x9 .e)) (.bin .leq (.t (.xc (.x9 .e))) (.t (.xd (.x9 .e)))),
    .s (.xf (.x9 .e)) (.mv (.t (.xe (.x9 .e)))),
    .g (.xf (.x9 .e)) true (.x0 (.xa .e)) (.call 12 []),
    .s (.x1 (.xa .e)) (.pick (.t (.xf (.x9 .e))) (.t (.x0 (.xa .e))) (.c (V.bool false))),
    .s (.xa (.x0 .e)) (.asg (.t (.x1 (.xa .e))))])
  .ret)
  .skip))
  (.seq (.seq (.ops [.s (.x2 (.xa .e)) (.mv (.t (.x6 (.x1 .e)))),
    .s (.x3 (.xa .e)) (.bin .lss (.t (.x2 (.xa .e))) (.c (V.int .i64 0))),
    .s (.x4 (.xa .e)) (.mv (.t (.x3 (.xa .e)))),
    .g (.x4 (.xa .e)) false (.x5 (.xa .e)) (.mv (.t (.x6 (.x1 .e)))),
    .g (.x4 (.xa .e)) false (.x6 (.xa .e)) (.bin .gtr (.t (.x5 (.xa .e))) (.c (V.int .i64 2000))),
    .s (.x7 (.xa .e)) (.pick (.t (.x4 (.xa .e))) (.c (V.bool true)) (.t (.x6 (.xa .e)))),
    .s (.x8 (.xa .e)) (.mv (.t (.x7 (.xa .e)))),
    .g (.x8 (.xa .e)) false (.x9 (.xa .e)) (.mv (.t (.xb (.x0 .e)))),
    .g (.x8 (.xa .e)) false (.xa (.xa .e)) (.mv (.t (.x6 (.x1 .e)))),
    .g (.x8 (.xa .e)) false (.xb (.xa .e)) (.bin .lss (.t (.x9 (.xa .e))) (.t (.xa (.xa .e)))),
    .g (.x8 (.xa .e)) false (.xc (.xa .e)) (.mv (.t (.xb (.xa .e)))),
    .g (.xc (.xa .e)) true (.xd (.xa .e)) (.mv (.t (.x7 (.x1 .e)))),
    .g (.xc (.xa .e)) true (.xe (.xa .e)) (.mv (.t (.x3 (.x1 .e)))),
    .g (.xc (.xa .e)) true (.xf (.xa .e)) (.bin .gtr (.t (.xd (.xa .e))) (.t (.xe (.xa .e)))),
    .g (.x8 (.xa .e)) false (.x0 (.xb .e)) (.pick (.t (.xc (.xa .e))) (.t (.xf (.xa .e))) (.c (V.bool false))),
    .s (.x1 (.xb .e)) (.pick (.t (.x8 (.xa .e))) (.c (V.bool true)) (.t (.x0 (.xb .e))))])
  (.cond (.t (.x1 (.xb .e)))
  (.seq (.ops [.s (.xa (.x0 .e)) (.asg (.c (V.bool false)))])
  .ret)
  .skip))
  (.seq (.ops [.s (.x3 (.xb .e)) (.mv (.t (.x2 (.x0 .e)))),
    .s (.x4 (.xb .e)) (.mv (.t (.x6 (.x1 .e)))),
    .s (.x5 (.xb .e)) (.call 13 [(.t (.x3 (.xb .e))), (.t (.x4 (.xb .e)))]),
    .s (.x2 (.xb .e)) (.mv (.t (.x5 (.xb .e)))),
    .s (.x6 (.xb .e)) (.ext (.t (.x2 (.xb .e))) 0),
    .s (.x7 (.xb .e)) (.ext (.t (.x2 (.xb .e))) 1),
    .s (.x9 (.x1 .e)) (.asg (.t (.x6 (.xb .e)))),
    .s (.x0 (.x1 .e)) (.asg (.t (.x7 (.xb .e))))])
  (.seq (.ops [.s (.x9 (.xb .e)) (.mv (.t (.x0 (.x0 .e)))),
    .s (.xa (.xb .e)) (.ld (some 2) (.t (.x6 (.x0 .e)))),
    .s (.xb (.xb .e)) (.mv (.t (.x6 (.x1 .e)))),
    .s (.xc (.xb .e)) (.call 15 [(.t (.x9 (.xb .e))), (.t (.xa (.xb .e))), (.t (.xb (.xb .e)))]),
    .s (.x8 (.xb .e)) (.mv (.t (.xc (.xb .e)))),
    .s (.xd (.xb .e)) (.ext (.t (.x8 (.xb .e))) 0),
    .s (.xe (.xb .e)) (.ext (.t (.x8 (.xb .e))) 1),
    .s (.xa (.x1 .e)) (.asg (.t (.xd (.xb .e)))),
    .s (.x2 (.x1 .e)) (.asg (.t (.xe (.xb .e))))])
  (.seq (.ops [.s (.xf (.xb .e)) (.mv (.t (.x0 (.x1 .e)))),
    .s (.x0 (.xc .e)) (.bin .eql (.t (.xf (.xb .e))) (.c (V.int .i64 0))),
    .s (.x1 (.xc .e)) (.mv (.t (.x0 (.xc .e)))),
    .g (.x1 (.xc .e)) true (.x2 (.xc .e)) (.mv (.t (.x2 (.x1 .e)))),
    .g (.x1 (.xc .e)) true (.x3 (.xc .e)) (.bin .eql (.t (.x2 (.xc .e))) (.c (V.int .i64 0))),
    .s (.x4 (.xc .e)) (.pick (.t (.x1 (.xc .e))) (.t (.x3 (.xc .e))) (.c (V.bool false))),
    .s (.x5 (.xc .e)) (.mv (.t (.x4 (.xc .e)))),
    .g (.x5 (.xc .e)) true (.x6 (.xc .e)) (.mv (.t (.x9 (.x1 .e)))),
    .g (.x5 (.xc .e)) true (.x7 (.xc .e)) (.mv (.t (.xa (.x1 .e)))),
    .g (.x5 (.xc .e)) true (.x8 (.xc .e)) (.bin .gtr (.t (.x6 (.xc .e))) (.t (.x7 (.xc .e)))),
    .s (.x9 (.xc .e)) (.pick (.t (.x5 (.xc .e))) (.t (.x8 (.xc .e))) (.c (V.bool false))),
    .s (.xa (.xc .e)) (.mv (.t (.x9 (.xc .e)))),
    .g (.xa (.xc .e)) true (.xb (.xc .e)) (.call 12 []),
    .s (.xc (.xc .e)) (.pick (.t (.xa (.xc .e))) (.t (.xb (.xc .e))) (.c (V.bool false))),
    .s (.xa (.x0 .e)) (.asg (.t (.xc (.xc .e))))])
  .ret))))))))))))))))))))
def e7 : EF := { depth := 2, nargs := 5, results := [.t (.xa (.x0 .e))], body := b7 }

/-- function 8, loop 0: live [0, 5, 7, 13, 15, 21, 22, 23] -/
def M8_0 : List Pth := [(.x0 (.x0 .e)), (.x5 (.x0 .e)), (.x7 (.x0 .e)), (.xd (.x0 .e)), (.xf (.x0 .e)), (.x5 (.x1 .e)), (.x6 (.x1 .e)), (.x7 (.x1 .e))]
def L8_0 : EC :=
  (.seq (.seq (.ops [.s (.x6 (.x6 .e)) (.mv (.t (.x7 (.x1 .e)))),
    .s (.x7 (.x6 .e)) (.mv (.t (.x0 (.x0 .e)))),
    .s (.x8 (.x6 .e)) (.len (.t (.x7 (.x6 .e)))),
    .s (.x9 (.x6 .e)) (.bin .lss (.t (.x6 (.x6 .e))) (.t (.x8 (.x6 .e))))])
  (.cond (.t (.x9 (.x6 .e)))
  .skip
  (.exit 0)))
  (.seq (.blk 1 [(.x0 (.x0 .e)), (.x5 (.x0 .e)), (.x7 (.x0 .e)), (.xd (.x0 .e)), (.xf (.x0 .e)), (.x5 (.x1 .e)), (.x6 (.x1 .e)), (.x7 (.x1 .e))]
  (.draw [0, 1, 2, 3, 4, 5, 6, 7, 8, 9, 10, 11, 12, 13, 14, 15, 16] [0, 0, 0, 6, 14, 30, 0, 0, 0, 384, 896, 1920, 4032, 8190, 16382, 32767, 65535] [.s (.xc (.x6 .e)) (.mv (.t (.x6 (.x1 .e)))),
    .s (.xd (.x6 .e)) (.mv (.t (.x0 (.x0 .e)))),
    .s (.xe (.x6 .e)) (.mv (.t (.x7 (.x1 .e)))),
    .s (.xf (.x6 .e)) (.ixs 2 (.t (.xd (.x6 .e))) (.t (.xe (.x6 .e)))),
    .s (.x0 (.x7 .e)) (.fadr 0 (.t (.xf (.x6 .e)))),
    .s (.x1 (.x7 .e)) (.ld none (.t (.x0 (.x7 .e)))),
    .s (.x2 (.x7 .e)) (.mv (.t (.x5 (.x1 .e)))),
    .s (.x3 (.x7 .e)) (.mv (.t (.x0 (.x0 .e)))),
    .s (.x4 (.x7 .e)) (.mv (.t (.x7 (.x1 .e)))),
    .s (.x5 (.x7 .e)) (.ixs 2 (.t (.x3 (.x7 .e))) (.t (.x4 (.x7 .e)))),
    .s (.x6 (.x7 .e)) (.fadr 1 (.t (.x5 (.x7 .e)))),
    .s (.x7 (.x7 .e)) (.ld none (.t (.x6 (.x7 .e)))),
    .s (.x8 (.x7 .e)) (.bin .mul (.t (.x2 (.x7 .e))) (.t (.x7 (.x7 .e)))),
    .s (.x9 (.x7 .e)) (.call 35 [(.t (.x1 (.x7 .e))), (.t (.x8 (.x7 .e)))]),
    .s (.xa (.x7 .e)) (.bslice 2 1 [V.int .i64 0, V.int .i64 0] [(0, (.t (.x9 (.x7 .e))))]),
    .s (.xb (.x7 .e)) (.app 2 16 (.t (.xc (.x6 .e))) (.t (.xa (.x7 .e)))),
    .s (.x6 (.x1 .e)) (.asg (.t (.xb (.x7 .e))))]))
  (.ops [.s (.xa (.x6 .e)) (.mv (.t (.x7 (.x1 .e)))),
    .s (.xb (.x6 .e)) (.bin .add (.t (.xa (.x6 .e))) (.c (V.int .i64 1))),
    .s (.x7 (.x1 .e)) (.asg (.t (.xb (.x6 .e))))])))
/-- forecourt/forecourtlaw09.PoleClocks -/
def b8 : EC :=
  (.seq (.ops [.s (.x7 (.x0 .e)) (.box (.t (.x1 (.x0 .e)))),
    .s (.x8 (.x0 .e)) (.box (.t (.x2 (.x0 .e)))),
    .s (.xc (.x0 .e)) (.asg (.c (V.bool false)))])
  (.seq (.seq (.ops [.s (.xe (.x1 .e)) (.mv (.t (.x0 (.x0 .e)))),
    .s (.xf (.x1 .e)) (.ld (some 2) (.t (.x7 (.x0 .e)))),
    .s (.x0 (.x2 .e)) (.call 32 [(.t (.xe (.x1 .e))), (.t (.xf (.x1 .e)))]),
    .s (.x1 (.x2 .e)) (.un .not (.t (.x0 (.x2 .e))))])
  (.cond (.t (.x1 (.x2 .e)))
  (.seq (.ops [.s (.x2 (.x2 .e)) (.call 12 []),
    .s (.xc (.x0 .e)) (.asg (.t (.x2 (.x2 .e))))])
  .ret)
  .skip))
  (.seq (.ops [.s (.x3 (.x2 .e)) (.mv (.t (.x4 (.x0 .e)))),
    .s (.x4 (.x2 .e)) (.cvt .i64 (.t (.x3 (.x2 .e)))),
    .s (.x5 (.x2 .e)) (.bin .rem (.t (.x4 (.x2 .e))) (.c (V.int .i64 2001))),
    .s (.xd (.x0 .e)) (.asg (.t (.x5 (.x2 .e))))])
  (.seq (.ops [.s (.x6 (.x2 .e)) (.fadr 0 (.t (.x7 (.x0 .e)))),
    .s (.x7 (.x2 .e)) (.ld none (.t (.x6 (.x2 .e)))),
    .s (.x8 (.x2 .e)) (.ixa 2 1 (.t (.x8 (.x0 .e))) (.c (V.int .i64 0))),
    .s (.x9 (.x2 .e)) (.ld none (.t (.x8 (.x2 .e)))),
    .s (.xa (.x2 .e)) (.cvt .i64 (.t (.x9 (.x2 .e)))),
    .s (.xb (.x2 .e)) (.bin .sub (.t (.x7 (.x2 .e))) (.t (.xa (.x2 .e)))),
    .s (.xc (.x2 .e)) (.max [(.c (V.int .i64 (-100))), (.t (.xb (.x2 .e)))]),
    .s (.xd (.x2 .e)) (.fadr 1 (.t (.x7 (.x0 .e)))),
    .s (.xe (.x2 .e)) (.ld none (.t (.xd (.x2 .e)))),
    .s (.xf (.x2 .e)) (.ixa 2 1 (.t (.x8 (.x0 .e))) (.c (V.int .i64 1))),
    .s (.x0 (.x3 .e)) (.ld none (.t (.xf (.x2 .e)))),
    .s (.x1 (.x3 .e)) (.cvt .i64 (.t (.x0 (.x3 .e)))),
    .s (.x2 (.x3 .e)) (.bin .add (.t (.xe (.x2 .e))) (.t (.x1 (.x3 .e)))),
    .s (.x3 (.x3 .e)) (.min [(.c (V.int .i64 100)), (.t (.x2 (.x3 .e)))]),
    .s (.x4 (.x3 .e)) (.call 34 [(.t (.xc (.x2 .e))), (.t (.x3 (.x3 .e)))]),
    .s (.xe (.x0 .e)) (.alloc [V.int .i64 0, V.int .i64 0]),
    .u (.st (some 2) (.t (.xe (.x0 .e))) (.t (.x4 (.x3 .e))))])
  (.seq (.ops [.s (.x6 (.x3 .e)) (.mv (.t (.x0 (.x0 .e)))),
    .s (.x7 (.x3 .e)) (.ld (some 2) (.t (.x7 (.x0 .e)))),
    .s (.x8 (.x3 .e)) (.mv (.t (.xd (.x0 .e)))),
    .s (.x9 (.x3 .e)) (.call 15 [(.t (.x6 (.x3 .e))), (.t (.x7 (.x3 .e))), (.t (.x8 (.x3 .e)))]),
    .s (.x5 (.x3 .e)) (.mv (.t (.x9 (.x3 .e)))),
    .s (.xa (.x3 .e)) (.ext (.t (.x5 (.x3 .e))) 0),
    .s (.xb (.x3 .e)) (.ext (.t (.x5 (.x3 .e))) 1),
    .s (.xf (.x0 .e)) (.asg (.t (.xa (.x3 .e)))),
    .s (.x0 (.x1 .e)) (.asg (.t (.xb (.x3 .e))))])
  (.seq (.ops [.s (.xd (.x3 .e)) (.mv (.t (.x0 (.x0 .e)))),
    .s (.xe (.x3 .e)) (.ld (some 2) (.t (.xe (.x0 .e)))),
    .s (.xf (.x3 .e)) (.mv (.t (.xd (.x0 .e)))),
    .s (.x0 (.x4 .e)) (.call 15 [(.t (.xd (.x3 .e))), (.t (.xe (.x3 .e))), (.t (.xf (.x3 .e)))]),
    .s (.xc (.x3 .e)) (.mv (.t (.x0 (.x4 .e)))),
    .s (.x1 (.x4 .e)) (.ext (.t (.xc (.x3 .e))) 0),
    .s (.x2 (.x4 .e)) (.ext (.t (.xc (.x3 .e))) 1),
    .s (.x1 (.x1 .e)) (.asg (.t (.x1 (.x4 .e)))),
    .s (.x2 (.x1 .e)) (.asg (.t (.x2 (.x4 .e))))])
  (.seq (.draw [0, 1, 2, 3, 4, 5, 6, 7, 8, 9] [0, 1, 0, 0, 15, 31, 63, 63, 127, 511] [.s (.x4 (.x4 .e)) (.mv (.t (.x0 (.x0 .e)))),
    .s (.x5 (.x4 .e)) (.slc 2 (.t (.x4 (.x4 .e))) none (some (.c (V.int .i64 1))) none),
    .s (.x6 (.x4 .e)) (.ld (some 2) (.t (.x7 (.x0 .e)))),
    .s (.x7 (.x4 .e)) (.mv (.t (.xd (.x0 .e)))),
    .s (.x8 (.x4 .e)) (.call 15 [(.t (.x5 (.x4 .e))), (.t (.x6 (.x4 .e))), (.t (.x7 (.x4 .e)))]),
    .s (.x3 (.x4 .e)) (.mv (.t (.x8 (.x4 .e)))),
    .s (.x9 (.x4 .e)) (.ext (.t (.x3 (.x4 .e))) 0),
    .s (.xa (.x4 .e)) (.ext (.t (.x3 (.x4 .e))) 1),
    .s (.x3 (.x1 .e)) (.asg (.t (.x9 (.x4 .e)))),
    .s (.x4 (.x1 .e)) (.asg (.t (.xa (.x4 .e))))])
  (.seq (.seq (.ops [.s (.xb (.x4 .e)) (.mv (.t (.x0 (.x1 .e)))),
    .s (.xc (.x4 .e)) (.bin .neq (.t (.xb (.x4 .e))) (.c (V.int .i64 0))),
    .s (.xd (.x4 .e)) (.mv (.t (.xc (.x4 .e)))),
    .g (.xd (.x4 .e)) false (.xe (.x4 .e)) (.mv (.t (.x2 (.x1 .e)))),
    .g (.xd (.x4 .e)) false (.xf (.x4 .e)) (.bin .neq (.t (.xe (.x4 .e))) (.c (V.int .i64 0))),
    .s (.x0 (.x5 .e)) (.pick (.t (.xd (.x4 .e))) (.c (V.bool true)) (.t (.xf (.x4 .e)))),
    .s (.x1 (.x5 .e)) (.mv (.t (.x0 (.x5 .e)))),
    .g (.x1 (.x5 .e)) false (.x2 (.x5 .e)) (.mv (.t (.x4 (.x1 .e)))),
    .g (.x1 (.x5 .e)) false (.x3 (.x5 .e)) (.bin .neq (.t (.x2 (.x5 .e))) (.c (V.int .i64 0))),
    .s (.x4 (.x5 .e)) (.pick (.t (.x1 (.x5 .e))) (.c (V.bool true)) (.t (.x3 (.x5 .e)))),
    .s (.x5 (.x5 .e)) (.mv (.t (.x4 (.x5 .e)))),
    .g (.x5 (.x5 .e)) false (.x6 (.x5 .e)) (.mv (.t (.x1 (.x1 .e)))),
    .g (.x5 (.x5 .e)) false (.x7 (.x5 .e)) (.mv (.t (.xf (.x0 .e)))),
    .g (.x5 (.x5 .e)) false (.x8 (.x5 .e)) (.bin .gtr (.t (.x6 (.x5 .e))) (.t (.x7 (.x5 .e)))),
    .s (.x9 (.x5 .e)) (.pick (.t (.x5 (.x5 .e))) (.c (V.bool true)) (.t (.x8 (.x5 .e)))),
    .s (.xa (.x5 .e)) (.mv (.t (.x9 (.x5 .e)))),
    .g (.xa (.x5 .e)) false (.xb (.x5 .e)) (.mv (.t (.x3 (.x1 .e)))),
    .g (.xa (.x5 .e)) false (.xc (.x5 .e)) (.mv (.t (.x0 (.x0 .e)))),
    .g (.xa (.x5 .e)) false (.xd (.x5 .e)) (.ixs 2 (.t (.xc (.x5 .e))) (.c (V.int .i64 0))),
    .g (.xa (.x5 .e)) false (.xe (.x5 .e)) (.fadr 1 (.t (.xd (.x5 .e)))),
    .g (.xa (.x5 .e)) false (.xf (.x5 .e)) (.ld none (.t (.xe (.x5 .e)))),
    .g (.xa (.x5 .e)) false (.x0 (.x6 .e)) (.bin .neq (.t (.xb (.x5 .e))) (.t (.xf (.x5 .e)))),
    .s (.x1 (.x6 .e)) (.pick (.t (.xa (.x5 .e))) (.c (V.bool true)) (.t (.x0 (.x6 .e))))])
  (.cond (.t (.x1 (.x6 .e)))
  (.seq (.ops [.s (.xc (.x0 .e)) (.asg (.c (V.bool false)))])
  .ret)
  .skip))
  (.seq (.ops [.s (.x2 (.x6 .e)) (.mv (.t (.x3 (.x0 .e)))),
    .s (.x3 (.x6 .e)) (.cvt .i64 (.t (.x2 (.x6 .e)))),
    .s (.x4 (.x6 .e)) (.bin .rem (.t (.x3 (.x6 .e))) (.c (V.int .i64 9))),
    .s (.x5 (.x6 .e)) (.bin .add (.c (V.int .i64 1)) (.t (.x4 (.x6 .e)))),
    .s (.x5 (.x1 .e)) (.asg (.t (.x5 (.x6 .e))))])
  (.seq (.ops [.s (.x6 (.x1 .e)) (.asg (.c (V.nilslice)))])
  (.seq (.seq (.ops [.s (.x7 (.x1 .e)) (.asg (.c (V.int .i64 0)))])
  (.blk 0 [(.x0 (.x0 .e)), (.x5 (.x0 .e)), (.x7 (.x0 .e)), (.xd (.x0 .e)), (.xf (.x0 .e)), (.x5 (.x1 .e)), (.x6 (.x1 .e))]
  (.loop M8_0 L8_0)))
  (.seq (.seq (.ops [.s (.xc (.x7 .e)) (.mv (.t (.x6 (.x1 .e)))),
    .s (.xd (.x7 .e)) (.call 18 [(.t (.xc (.x7 .e)))]),
    .s (.xe (.x7 .e)) (.bin .eql (.t (.xd (.x7 .e))) (.c (V.int .i64 0)))])
  (.cond (.t (.xe (.x7 .e)))
  (.seq (.ops [.s (.x0 (.x8 .e)) (.mv (.t (.x6 (.x1 .e)))),
    .s (.x1 (.x8 .e)) (.ld (some 2) (.t (.x7 (.x0 .e)))),
    .s (.x2 (.x8 .e)) (.mv (.t (.xd (.x0 .e)))),
    .s (.x3 (.x8 .e)) (.call 15 [(.t (.x0 (.x8 .e))), (.t (.x1 (.x8 .e))), (.t (.x2 (.x8 .e)))]),
    .s (.xf (.x7 .e)) (.mv (.t (.x3 (.x8 .e)))),
    .s (.x4 (.x8 .e)) (.ext (.t (.xf (.x7 .e))) 0),
    .s (.x5 (.x8 .e)) (.ext (.t (.xf (.x7 .e))) 1),
    .s (.x8 (.x1 .e)) (.asg (.t (.x4 (.x8 .e)))),
    .s (.x9 (.x1 .e)) (.asg (.t (.x5 (.x8 .e))))])
  (.seq (.ops [.s (.x6 (.x8 .e)) (.mv (.t (.x9 (.x1 .e)))),
    .s (.x7 (.x8 .e)) (.bin .neq (.t (.x6 (.x8 .e))) (.c (V.int .i64 0))),
    .s (.x8 (.x8 .e)) (.mv (.t (.x7 (.x8 .e)))),
    .g (.x8 (.x8 .e)) false (.x9 (.x8 .e)) (.mv (.t (.x8 (.x1 .e)))),
    .g (.x8 (.x8 .e)) false (.xa (.x8 .e)) (.mv (.t (.x5 (.x1 .e)))),
    .g (.x8 (.x8 .e)) false (.xb (.x8 .e)) (.mv (.t (.xf (.x0 .e)))),
    .g (.x8 (.x8 .e)) false (.xc (.x8 .e)) (.bin .mul (.t (.xa (.x8 .e))) (.t (.xb (.x8 .e)))),
    .g (.x8 (.x8 .e)) false (.xd (.x8 .e)) (.bin .neq (.t (.x9 (.x8 .e))) (.t (.xc (.x8 .e)))),
    .s (.xe (.x8 .e)) (.pick (.t (.x8 (.x8 .e))) (.c (V.bool true)) (.t (.xd (.x8 .e))))])
  (.cond (.t (.xe (.x8 .e)))
  (.seq (.ops [.s (.xc (.x0 .e)) (.asg (.c (V.bool false)))])
  .ret)
  .skip)))
  .skip))
  (.seq (.ops [.s (.xf (.x8 .e)) (.mv (.t (.x5 (.x0 .e)))),
    .s (.x0 (.x9 .e)) (.cvt .i64 (.t (.xf (.x8 .e)))),
    .s (.x1 (.x9 .e)) (.bin .rem (.t (.x0 (.x9 .e))) (.c (V.int .i64 101))),
    .s (.xa (.x1 .e)) (.asg (.t (.x1 (.x9 .e))))])
  (.seq (.ops [.s (.x2 (.x9 .e)) (.fadr 0 (.t (.x7 (.x0 .e)))),
    .s (.x3 (.x9 .e)) (.ld none (.t (.x2 (.x9 .e)))),
    .s (.x4 (.x9 .e)) (.mv (.t (.xa (.x1 .e)))),
    .s (.x5 (.x9 .e)) (.bin .add (.t (.x3 (.x9 .e))) (.t (.x4 (.x9 .e)))),
    .s (.x6 (.x9 .e)) (.fadr 1 (.t (.x7 (.x0 .e)))),
    .s (.x7 (.x9 .e)) (.ld none (.t (.x6 (.x9 .e)))),
    .s (.x8 (.x9 .e)) (.mv (.t (.xa (.x1 .e)))),
    .s (.x9 (.x9 .e)) (.bin .add (.t (.x7 (.x9 .e))) (.t (.x8 (.x9 .e)))),
    .s (.xa (.x9 .e)) (.call 34 [(.t (.x5 (.x9 .e))), (.t (.x9 (.x9 .e)))]),
    .s (.xb (.x1 .e)) (.alloc [V.int .i64 0, V.int .i64 0]),
    .u (.st (some 2) (.t (.xb (.x1 .e))) (.t (.xa (.x9 .e))))])
  (.seq (.seq (.ops [.s (.xb (.x9 .e)) (.ld (some 2) (.t (.xb (.x1 .e)))),
    .s (.xc (.x9 .e)) (.call 36 [(.t (.xb (.x9 .e)))]),
    .s (.xd (.x9 .e)) (.un .not (.t (.xc (.x9 .e)))),
    .s (.xe (.x9 .e)) (.mv (.t (.xd (.x9 .e)))),
    .g (.xe (.x9 .e)) false (.xf (.x9 .e)) (.mv (.t (.xd (.x0 .e)))),
    .g (.xe (.x9 .e)) false (.x0 (.xa .e)) (.mv (.t (.xa (.x1 .e)))),
    .g (.xe (.x9 .e)) false (.x1 (.xa .e)) (.bin .add (.t (.xf (.x9 .e))) (.t (.x0 (.xa .e)))),
    .g (.xe (.x9 .e)) false (.x2 (.xa .e)) (.bin .gtr (.t (.x1 (.xa .e))) (.c (V.int .i64 2000))),
    .s (.x3 (.xa .e)) (.pick (.t (.xe (.x9 .e))) (.c (V.bool true)) (.t (.x2 (.xa .e))))])
  (.cond (.t (.x3 (.xa .e)))
  (.seq (.ops [.s (.x4 (.xa .e)) (.call 12 []),
    .s (.xc (.x0 .e)) (.asg (.t (.x4 (.xa .e))))])
  .ret)
  .skip))
  (.seq (.ops [.s (.x6 (.xa .e)) (.mv (.t (.x0 (.x0 .e)))),
    .s (.x7 (.xa .e)) (.ld (some 2) (.t (.xb (.x1 .e)))),
    .s (.x8 (.xa .e)) (.mv (.t (.xd (.x0 .e)))),
    .s (.x9 (.xa .e)) (.call 15 [(.t (.x6 (.xa .e))), (.t (.x7 (.xa .e))), (.t (.x8 (.xa .e)))]),
    .s (.x5 (.xa .e)) (.mv (.t (.x9 (.xa .e)))),
    .s (.xa (.xa .e)) (.ext (.t (.x5 (.xa .e))) 0),
    .s (.xb (.xa .e)) (.ext (.t (.x5 (.xa .e))) 1),
    .s (.xc (.x1 .e)) (.asg (.t (.xa (.xa .e)))),
    .s (.x0 (.x1 .e)) (.asg (.t (.xb (.xa .e))))])
  (.seq (.ops [.s (.xd (.xa .e)) (.mv (.t (.x0 (.x0 .e)))),
    .s (.xe (.xa .e)) (.ld (some 2) (.t (.x7 (.x0 .e)))),
    .s (.xf (.xa .e)) (.mv (.t (.xd (.x0 .e)))),
    .s (.x0 (.xb .e)) (.mv (.t (.xa (.x1 .e)))),
    .s (.x1 (.xb .e)) (.bin .add (.t (.xf (.xa .e))) (.t (.x0 (.xb .e)))),
    .s (.x2 (.xb .e)) (.call 15 [(.t (.xd (.xa .e))), (.t (.xe (.xa .e))), (.t (.x1 (.xb .e)))]),
    .s (.xc (.xa .e)) (.mv (.t (.x2 (.xb .e)))),
    .s (.x3 (.xb .e)) (.ext (.t (.xc (.xa .e))) 0),
    .s (.x4 (.xb .e)) (.ext (.t (.xc (.xa .e))) 1),
    .s (.xd (.x1 .e)) (.asg (.t (.x3 (.xb .e)))),
    .s (.x2 (.x1 .e)) (.asg (.t (.x4 (.xb .e))))])
  (.seq (.ops [.s (.x5 (.xb .e)) (.mv (.t (.x0 (.x1 .e)))),
    .s (.x6 (.xb .e)) (.bin .eql (.t (.x5 (.xb .e))) (.c (V.int .i64 0))),
    .s (.x7 (.xb .e)) (.mv (.t (.x6 (.xb .e)))),
    .g (.x7 (.xb .e)) true (.x8 (.xb .e)) (.mv (.t (.x2 (.x1 .e)))),
    .g (.x7 (.xb .e)) true (.x9 (.xb .e)) (.bin .eql (.t (.x8 (.xb .e))) (.c (V.int .i64 0))),
    .s (.xa (.xb .e)) (.pick (.t (.x7 (.xb .e))) (.t (.x9 (.xb .e))) (.c (V.bool false))),
    .s (.xb (.xb .e)) (.mv (.t (.xa (.xb .e)))),
    .g (.xb (.xb .e)) true (.xc (.xb .e)) (.mv (.t (.xc (.x1 .e)))),
    .g (.xb (.xb .e)) true (.xd (.xb .e)) (.mv (.t (.xd (.x1 .e)))),
    .g (.xb (.xb .e)) true (.xe (.xb .e)) (.bin .eql (.t (.xc (.xb .e))) (.t (.xd (.xb .e)))),
    .s (.xf (.xb .e)) (.pick (.t (.xb (.xb .e))) (.t (.xe (.xb .e))) (.c (V.bool false))),
    .s (.x0 (.xc .e)) (.mv (.t (.xf (.xb .e)))),
    .g (.x0 (.xc .e)) true (.x1 (.xc .e)) (.call 12 []),
    .s (.x2 (.xc .e)) (.pick (.t (.x0 (.xc .e))) (.t (.x1 (.xc .e))) (.c (V.bool false))),
    .s (.xc (.x0 .e)) (.asg (.t (.x2 (.xc .e))))])
  .ret))))))))))))))))))
def e8 : EF := { depth := 2, nargs := 6, results := [.t (.xc (.x0 .e))], body := b8 }

/-- function 9, loop 1: live [2, 7, 8, 9, 10, 11] -/
def M9_1 : List Pth := [(.x2 (.x0 .e)), (.x7 (.x0 .e)), (.x8 (.x0 .e)), (.x9 (.x0 .e)), (.xa (.x0 .e)), (.xb (.x0 .e))]
def L9_1 : EC :=
  (.seq (.seq (.ops [.s (.xa (.x4 .e)) (.mv (.t (.xb (.x0 .e)))),
    .s (.xb (.x4 .e)) (.mv (.t (.x9 (.x0 .e)))),
    .s (.xc (.x4 .e)) (.len (.t (.xb (.x4 .e)))),
    .s (.xd (.x4 .e)) (.bin .lss (.t (.xa (.x4 .e))) (.t (.xc (.x4 .e))))])
  (.cond (.t (.xd (.x4 .e)))
  .skip
  (.exit 2)))
  (.seq (.blk 3 [(.x2 (.x0 .e)), (.x7 (.x0 .e)), (.x8 (.x0 .e)), (.x9 (.x0 .e)), (.xa (.x0 .e)), (.xb (.x0 .e))]
  (.seq (.draw [0, 1, 2, 3, 4, 5, 6, 7, 8, 9, 10, 11, 12] [0, 0, 3, 7, 0, 16, 63, 0, 0, 384, 896, 2047, 4095] [.s (.x0 (.x5 .e)) (.mv (.t (.xa (.x0 .e)))),
    .s (.x1 (.x5 .e)) (.mv (.t (.xb (.x0 .e)))),
    .s (.x2 (.x5 .e)) (.ixs 1 (.t (.x0 (.x5 .e))) (.t (.x1 (.x5 .e)))),
    .s (.x3 (.x5 .e)) (.ld none (.t (.x2 (.x5 .e)))),
    .s (.x4 (.x5 .e)) (.fadr 0 (.t (.x2 (.x0 .e)))),
    .s (.x5 (.x5 .e)) (.ld none (.t (.x4 (.x5 .e)))),
    .s (.x6 (.x5 .e)) (.bin .mul (.t (.x3 (.x5 .e))) (.t (.x5 (.x5 .e)))),
    .s (.x7 (.x5 .e)) (.mv (.t (.x9 (.x0 .e)))),
    .s (.x8 (.x5 .e)) (.mv (.t (.xb (.x0 .e)))),
    .s (.x9 (.x5 .e)) (.ixs 1 (.t (.x7 (.x5 .e))) (.t (.x8 (.x5 .e)))),
    .s (.xa (.x5 .e)) (.ld none (.t (.x9 (.x5 .e)))),
    .s (.xb (.x5 .e)) (.bin .sub (.t (.x6 (.x5 .e))) (.t (.xa (.x5 .e)))),
    .s (.xc (.x0 .e)) (.asg (.t (.xb (.x5 .e))))])
  (.seq (.draw [0, 1, 2, 3, 4, 5, 6, 7, 8, 9, 10, 11, 12, 13, 14, 15, 16, 17, 18, 19, 20, 21, 22, 23, 24] [0, 0, 2, 6, 15, 31, 63, 63, 191, 511, 1023, 2047, 4095, 4095, 16383, 32767, 4095, 69631, 262143, 524287, 1048575, 2097151, 4194303, 8388607, 16777215] [.s (.xc (.x5 .e)) (.mv (.t (.xc (.x0 .e)))),
    .s (.xd (.x5 .e)) (.fadr 0 (.t (.x2 (.x0 .e)))),
    .s (.xe (.x5 .e)) (.ld none (.t (.xd (.x5 .e)))),
    .s (.xf (.x5 .e)) (.un .neg (.t (.xe (.x5 .e)))),
    .s (.x0 (.x6 .e)) (.bin .leq (.t (.xc (.x5 .e))) (.t (.xf (.x5 .e)))),
    .s (.x1 (.x6 .e)) (.mv (.t (.x0 (.x6 .e)))),
    .g (.x1 (.x6 .e)) false (.x2 (.x6 .e)) (.mv (.t (.xc (.x0 .e)))),
    .g (.x1 (.x6 .e)) false (.x3 (.x6 .e)) (.fadr 0 (.t (.x2 (.x0 .e)))),
    .g (.x1 (.x6 .e)) false (.x4 (.x6 .e)) (.ld none (.t (.x3 (.x6 .e)))),
    .g (.x1 (.x6 .e)) false (.x5 (.x6 .e)) (.bin .geq (.t (.x2 (.x6 .e))) (.t (.x4 (.x6 .e)))),
    .s (.x6 (.x6 .e)) (.pick (.t (.x1 (.x6 .e))) (.c (V.bool true)) (.t (.x5 (.x6 .e)))),
    .s (.x7 (.x6 .e)) (.mv (.t (.x6 (.x6 .e)))),
    .g (.x7 (.x6 .e)) false (.x8 (.x6 .e)) (.mv (.t (.x9 (.x0 .e)))),
    .g (.x7 (.x6 .e)) false (.x9 (.x6 .e)) (.mv (.t (.xb (.x0 .e)))),
    .g (.x7 (.x6 .e)) false (.xa (.x6 .e)) (.ixs 1 (.t (.x8 (.x6 .e))) (.t (.x9 (.x6 .e)))),
    .g (.x7 (.x6 .e)) false (.xb (.x6 .e)) (.ld none (.t (.xa (.x6 .e)))),
    .g (.x7 (.x6 .e)) false (.xc (.x6 .e)) (.fadr 0 (.t (.x2 (.x0 .e)))),
    .g (.x7 (.x6 .e)) false (.xd (.x6 .e)) (.ld none (.t (.xc (.x6 .e)))),
    .g (.x7 (.x6 .e)) false (.xe (.x6 .e)) (.bin .rem (.t (.xb (.x6 .e))) (.t (.xd (.x6 .e)))),
    .g (.x7 (.x6 .e)) false (.xf (.x6 .e)) (.bin .eql (.t (.xe (.x6 .e))) (.c (V.int .i64 0))),
    .g (.x7 (.x6 .e)) false (.x0 (.x7 .e)) (.mv (.t (.xf (.x6 .e)))),
    .g (.x0 (.x7 .e)) true (.x1 (.x7 .e)) (.mv (.t (.xc (.x0 .e)))),
    .g (.x0 (.x7 .e)) true (.x2 (.x7 .e)) (.bin .neq (.t (.x1 (.x7 .e))) (.c (V.int .i64 0))),
    .g (.x7 (.x6 .e)) false (.x3 (.x7 .e)) (.pick (.t (.x0 (.x7 .e))) (.t (.x2 (.x7 .e))) (.c (V.bool false))),
    .s (.x4 (.x7 .e)) (.pick (.t (.x7 (.x6 .e))) (.c (V.bool true)) (.t (.x3 (.x7 .e))))])
  (.cond (.t (.x4 (.x7 .e)))
  (.seq (.ops [.s (.x4 (.x0 .e)) (.asg (.c (V.bool false)))])
  .ret)
  .skip))))
  (.ops [.s (.xe (.x4 .e)) (.mv (.t (.xb (.x0 .e)))),
    .s (.xf (.x4 .e)) (.bin .add (.t (.xe (.x4 .e))) (.c (V.int .i64 1))),
    .s (.xb (.x0 .e)) (.asg (.t (.xf (.x4 .e))))])))
/-- function 9, loop 0: live [2, 7, 8] -/
def M9_0 : List Pth := [(.x2 (.x0 .e)), (.x7 (.x0 .e)), (.x8 (.x0 .e))]
def L9_0 : EC :=
  (.seq (.seq (.ops [.s (.x5 (.x2 .e)) (.mv (.t (.x8 (.x0 .e)))),
    .s (.x6 (.x2 .e)) (.bin .lss (.t (.x5 (.x2 .e))) (.c (V.int .i64 2)))])
  (.cond (.t (.x6 (.x2 .e)))
  .skip
  (.exit 0)))
  (.seq (.blk 1 [(.x2 (.x0 .e)), (.x7 (.x0 .e)), (.x8 (.x0 .e))]
  (.seq (.seq (.draw [0, 1, 2, 3, 4, 5, 6] [0, 0, 0, 6, 14, 31, 63] [.s (.x9 (.x2 .e)) (.ld (some 2) (.t (.x2 (.x0 .e)))),
    .s (.xa (.x2 .e)) (.mv (.t (.x7 (.x0 .e)))),
    .s (.xb (.x2 .e)) (.mv (.t (.x8 (.x0 .e)))),
    .s (.xc (.x2 .e)) (.ixs 1 (.t (.xa (.x2 .e))) (.t (.xb (.x2 .e)))),
    .s (.xd (.x2 .e)) (.ld none (.t (.xc (.x2 .e)))),
    .s (.xe (.x2 .e)) (.call 27 [(.t (.x9 (.x2 .e))), (.t (.xd (.x2 .e)))]),
    .s (.xf (.x2 .e)) (.bin .neq (.t (.xe (.x2 .e))) (.c (V.int .i64 0)))])
  (.cond (.t (.xf (.x2 .e)))
  (.seq (.seq (.ops [.s (.x0 (.x3 .e)) (.mv (.t (.x8 (.x0 .e)))),
    .s (.x1 (.x3 .e)) (.bin .eql (.t (.x0 (.x3 .e))) (.c (V.int .i64 0)))])
  (.cond (.t (.x1 (.x3 .e)))
  (.seq (.ops [.s (.x4 (.x0 .e)) (.asg (.c (V.bool false)))])
  .ret)
  .skip))
  (.exit 1))
  .skip))
  (.seq (.seq (.draw [0, 1, 2, 3, 4, 5, 6, 7, 8, 9, 10, 11, 12, 13, 14, 15] [0, 0, 0, 6, 14, 31, 63, 127, 255, 255, 255, 1791, 3839, 8191, 16383, 32767] [.s (.x2 (.x3 .e)) (.ld (some 2) (.t (.x2 (.x0 .e)))),
    .s (.x3 (.x3 .e)) (.mv (.t (.x7 (.x0 .e)))),
    .s (.x4 (.x3 .e)) (.mv (.t (.x8 (.x0 .e)))),
    .s (.x5 (.x3 .e)) (.ixs 1 (.t (.x3 (.x3 .e))) (.t (.x4 (.x3 .e)))),
    .s (.x6 (.x3 .e)) (.ld none (.t (.x5 (.x3 .e)))),
    .s (.x7 (.x3 .e)) (.call 38 [(.t (.x2 (.x3 .e))), (.t (.x6 (.x3 .e)))]),
    .s (.x8 (.x3 .e)) (.un .not (.t (.x7 (.x3 .e)))),
    .s (.x9 (.x3 .e)) (.mv (.t (.x8 (.x3 .e)))),
    .g (.x9 (.x3 .e)) false (.xa (.x3 .e)) (.ld (some 2) (.t (.x2 (.x0 .e)))),
    .g (.x9 (.x3 .e)) false (.xb (.x3 .e)) (.mv (.t (.x7 (.x0 .e)))),
    .g (.x9 (.x3 .e)) false (.xc (.x3 .e)) (.mv (.t (.x8 (.x0 .e)))),
    .g (.x9 (.x3 .e)) false (.xd (.x3 .e)) (.ixs 1 (.t (.xb (.x3 .e))) (.t (.xc (.x3 .e)))),
    .g (.x9 (.x3 .e)) false (.xe (.x3 .e)) (.ld none (.t (.xd (.x3 .e)))),
    .g (.x9 (.x3 .e)) false (.xf (.x3 .e)) (.call 28 [(.t (.xa (.x3 .e))), (.t (.xe (.x3 .e)))]),
    .g (.x9 (.x3 .e)) false (.x0 (.x4 .e)) (.bin .neq (.t (.xf (.x3 .e))) (.c (V.int .i64 0))),
    .s (.x1 (.x4 .e)) (.pick (.t (.x9 (.x3 .e))) (.c (V.bool true)) (.t (.x0 (.x4 .e))))])
  (.cond (.t (.x1 (.x4 .e)))
  (.seq (.ops [.s (.x4 (.x0 .e)) (.asg (.c (V.bool false)))])
  .ret)
  .skip))
  (.seq (.draw [0, 1, 3, 4, 5, 6, 2, 7, 8, 9] [0, 1, 0, 0, 12, 28, 3, 127, 255, 511] [.s (.x2 (.x4 .e)) (.fadr 1 (.t (.x2 (.x0 .e)))),
    .s (.x3 (.x4 .e)) (.ld none (.t (.x2 (.x4 .e)))),
    .s (.x5 (.x4 .e)) (.mv (.t (.x7 (.x0 .e)))),
    .s (.x6 (.x4 .e)) (.mv (.t (.x8 (.x0 .e)))),
    .s (.x7 (.x4 .e)) (.ixs 1 (.t (.x5 (.x4 .e))) (.t (.x6 (.x4 .e)))),
    .s (.x8 (.x4 .e)) (.ld none (.t (.x7 (.x4 .e)))),
    .s (.x4 (.x4 .e)) (.call 39 [(.t (.x3 (.x4 .e)))]),
    .s (.x9 (.x4 .e)) (.call 39 [(.t (.x8 (.x4 .e)))]),
    .s (.x9 (.x0 .e)) (.asg (.t (.x4 (.x4 .e)))),
    .s (.xa (.x0 .e)) (.asg (.t (.x9 (.x4 .e))))])
  (.seq (.ops [.s (.xb (.x0 .e)) (.asg (.c (V.int .i64 0)))])
  (.blk 2 [(.x2 (.x0 .e)), (.x7 (.x0 .e)), (.x8 (.x0 .e))]
  (.loop M9_1 L9_1)))))))
  (.ops [.s (.x7 (.x2 .e)) (.mv (.t (.x8 (.x0 .e)))),
    .s (.x8 (.x2 .e)) (.bin .add (.t (.x7 (.x2 .e))) (.c (V.int .i64 1))),
    .s (.x8 (.x0 .e)) (.asg (.t (.x8 (.x2 .e))))])))
/-- forecourt/forecourtlaw09.PoleCoins -/
def b9 : EC :=
  (.seq (.ops [.s (.x2 (.x0 .e)) (.box (.t (.x0 (.x0 .e)))),
    .s (.x4 (.x0 .e)) (.asg (.c (V.bool false)))])
  (.seq (.seq (.ops [.s (.xd (.x0 .e)) (.ld (some 2) (.t (.x2 (.x0 .e)))),
    .s (.xe (.x0 .e)) (.call 37 [(.t (.xd (.x0 .e)))]),
    .s (.xf (.x0 .e)) (.un .not (.t (.xe (.x0 .e)))),
    .s (.x0 (.x1 .e)) (.mv (.t (.xf (.x0 .e)))),
    .g (.x0 (.x1 .e)) false (.x1 (.x1 .e)) (.mv (.t (.x1 (.x0 .e)))),
    .g (.x0 (.x1 .e)) false (.x2 (.x1 .e)) (.call 24 [(.t (.x1 (.x1 .e)))]),
    .s (.x3 (.x1 .e)) (.pick (.t (.x0 (.x1 .e))) (.c (V.bool true)) (.t (.x2 (.x1 .e))))])
  (.cond (.t (.x3 (.x1 .e)))
  (.seq (.ops [.s (.x4 (.x1 .e)) (.call 12 []),
    .s (.x4 (.x0 .e)) (.asg (.t (.x4 (.x1 .e))))])
  .ret)
  .skip))
  (.seq (.ops [.s (.x6 (.x1 .e)) (.ld (some 2) (.t (.x2 (.x0 .e)))),
    .s (.x7 (.x1 .e)) (.call 29 [(.t (.x6 (.x1 .e)))]),
    .s (.x5 (.x1 .e)) (.mv (.t (.x7 (.x1 .e)))),
    .s (.x8 (.x1 .e)) (.ext (.t (.x5 (.x1 .e))) 0),
    .s (.x9 (.x1 .e)) (.ext (.t (.x5 (.x1 .e))) 1),
    .s (.x5 (.x0 .e)) (.asg (.t (.x8 (.x1 .e)))),
    .s (.x6 (.x0 .e)) (.asg (.t (.x9 (.x1 .e))))])
  (.seq (.seq (.ops [.s (.xa (.x1 .e)) (.mv (.t (.x6 (.x0 .e)))),
    .s (.xb (.x1 .e)) (.bin .neq (.t (.xa (.x1 .e))) (.c (V.int .i64 0))),
    .s (.xc (.x1 .e)) (.mv (.t (.xb (.x1 .e)))),
    .g (.xc (.x1 .e)) false (.xd (.x1 .e)) (.ld (some 2) (.t (.x2 (.x0 .e)))),
    .g (.xc (.x1 .e)) false (.xe (.x1 .e)) (.mv (.t (.x5 (.x0 .e)))),
    .g (.xc (.x1 .e)) false (.xf (.x1 .e)) (.call 28 [(.t (.xd (.x1 .e))), (.t (.xe (.x1 .e)))]),
    .g (.xc (.x1 .e)) false (.x0 (.x2 .e)) (.bin .neq (.t (.xf (.x1 .e))) (.c (V.int .i64 0))),
    .s (.x1 (.x2 .e)) (.pick (.t (.xc (.x1 .e))) (.c (V.bool true)) (.t (.x0 (.x2 .e))))])
  (.cond (.t (.x1 (.x2 .e)))
  (.seq (.ops [.s (.x4 (.x0 .e)) (.asg (.c (V.bool false)))])
  .ret)
  .skip))
  (.seq (.ops [.s (.x2 (.x2 .e)) (.mv (.t (.x5 (.x0 .e)))),
    .s (.x3 (.x2 .e)) (.mv (.t (.x1 (.x0 .e)))),
    .s (.x4 (.x2 .e)) (.bslice 1 2 [V.nilslice] [(0, (.t (.x2 (.x2 .e)))), (1, (.t (.x3 (.x2 .e))))]),
    .s (.x7 (.x0 .e)) (.asg (.t (.x4 (.x2 .e))))])
  (.seq (.seq (.ops [.s (.x8 (.x0 .e)) (.asg (.c (V.int .i64 0)))])
  (.blk 0 []
  (.loop M9_0 L9_0)))
  (.seq (.ops [.s (.x5 (.x7 .e)) (.call 12 []),
    .s (.x4 (.x0 .e)) (.asg (.t (.x5 (.x7 .e))))])
  .ret)))))))
def e9 : EF := { depth := 2, nargs := 2, results := [.t (.x4 (.x0 .e))], body := b9 }

/-- forecourt/forecourtlaw09.PoleEitherWay -/
def b10 : EC :=
  (.seq (.ops [.s (.x3 (.x0 .e)) (.box (.t (.x0 (.x0 .e)))),
    .s (.x6 (.x0 .e)) (.asg (.c (V.bool false)))])
  (.seq (.seq (.ops [.s (.xd (.x0 .e)) (.ld (some 2) (.t (.x3 (.x0 .e)))),
    .s (.xe (.x0 .e)) (.call 37 [(.t (.xd (.x0 .e)))]),
    .s (.xf (.x0 .e)) (.un .not (.t (.xe (.x0 .e))))])
  (.cond (.t (.xf (.x0 .e)))
  (.seq (.ops [.s (.x0 (.x1 .e)) (.call 12 []),
    .s (.x6 (.x0 .e)) (.asg (.t (.x0 (.x1 .e))))])
  .ret)
  .skip))
  (.seq (.draw [0, 1, 2, 3, 4, 5, 6, 7, 8, 9, 10, 11, 12, 13, 14, 15] [0, 1, 0, 4, 12, 31, 0, 64, 0, 256, 768, 1792, 3840, 8128, 63, 32767] [.s (.x1 (.x1 .e)) (.mv (.t (.x1 (.x0 .e)))),
    .s (.x2 (.x1 .e)) (.cvt .i64 (.t (.x1 (.x1 .e)))),
    .s (.x3 (.x1 .e)) (.fadr 1 (.t (.x3 (.x0 .e)))),
    .s (.x4 (.x1 .e)) (.ld none (.t (.x3 (.x1 .e)))),
    .s (.x5 (.x1 .e)) (.len (.t (.x4 (.x1 .e)))),
    .s (.x6 (.x1 .e)) (.bin .rem (.t (.x2 (.x1 .e))) (.t (.x5 (.x1 .e)))),
    .s (.x7 (.x1 .e)) (.mv (.t (.x2 (.x0 .e)))),
    .s (.x8 (.x1 .e)) (.cvt .i64 (.t (.x7 (.x1 .e)))),
    .s (.x9 (.x1 .e)) (.fadr 1 (.t (.x3 (.x0 .e)))),
    .s (.xa (.x1 .e)) (.ld none (.t (.x9 (.x1 .e)))),
    .s (.xb (.x1 .e)) (.ixs 1 (.t (.xa (.x1 .e))) (.c (V.int .i64 0))),
    .s (.xc (.x1 .e)) (.ld none (.t (.xb (.x1 .e)))),
    .s (.xd (.x1 .e)) (.len (.t (.xc (.x1 .e)))),
    .s (.xe (.x1 .e)) (.bin .rem (.t (.x8 (.x1 .e))) (.t (.xd (.x1 .e)))),
    .s (.x7 (.x0 .e)) (.asg (.t (.x6 (.x1 .e)))),
    .s (.x8 (.x0 .e)) (.asg (.t (.xe (.x1 .e))))])
  (.seq (.ops [.s (.x0 (.x2 .e)) (.ld (some 2) (.t (.x3 (.x0 .e)))),
    .s (.x1 (.x2 .e)) (.mv (.t (.x7 (.x0 .e)))),
    .s (.x2 (.x2 .e)) (.mv (.t (.x8 (.x0 .e)))),
    .s (.x3 (.x2 .e)) (.call 30 [(.t (.x0 (.x2 .e))), (.t (.x1 (.x2 .e))), (.t (.x2 (.x2 .e))), (.c (V.bool true))]),
    .s (.xf (.x1 .e)) (.mv (.t (.x3 (.x2 .e)))),
    .s (.x4 (.x2 .e)) (.ext (.t (.xf (.x1 .e))) 0),
    .s (.x5 (.x2 .e)) (.ext (.t (.xf (.x1 .e))) 1),
    .s (.x9 (.x0 .e)) (.asg (.t (.x4 (.x2 .e)))),
    .s (.xa (.x0 .e)) (.asg (.t (.x5 (.x2 .e))))])
  (.seq (.ops [.s (.x7 (.x2 .e)) (.ld (some 2) (.t (.x3 (.x0 .e)))),
    .s (.x8 (.x2 .e)) (.mv (.t (.x7 (.x0 .e)))),
    .s (.x9 (.x2 .e)) (.mv (.t (.x8 (.x0 .e)))),
    .s (.xa (.x2 .e)) (.call 30 [(.t (.x7 (.x2 .e))), (.t (.x8 (.x2 .e))), (.t (.x9 (.x2 .e))), (.c (V.bool false))]),
    .s (.x6 (.x2 .e)) (.mv (.t (.xa (.x2 .e)))),
    .s (.xb (.x2 .e)) (.ext (.t (.x6 (.x2 .e))) 0),
    .s (.xc (.x2 .e)) (.ext (.t (.x6 (.x2 .e))) 1),
    .s (.xb (.x0 .e)) (.asg (.t (.xb (.x2 .e)))),
    .s (.xc (.x0 .e)) (.asg (.t (.xc (.x2 .e))))])
  (.seq (.seq (.draw [0, 1, 2, 3, 4, 5, 6, 7, 8, 9, 10, 11] [0, 1, 0, 7, 15, 0, 63, 127, 0, 256, 1023, 2047] [.s (.xd (.x2 .e)) (.fadr 1 (.t (.x3 (.x0 .e)))),
    .s (.xe (.x2 .e)) (.ld none (.t (.xd (.x2 .e)))),
    .s (.xf (.x2 .e)) (.mv (.t (.x7 (.x0 .e)))),
    .s (.x0 (.x3 .e)) (.ixs 1 (.t (.xe (.x2 .e))) (.t (.xf (.x2 .e)))),
    .s (.x1 (.x3 .e)) (.ld none (.t (.x0 (.x3 .e)))),
    .s (.x2 (.x3 .e)) (.mv (.t (.x8 (.x0 .e)))),
    .s (.x3 (.x3 .e)) (.ixs 1 (.t (.x1 (.x3 .e))) (.t (.x2 (.x3 .e)))),
    .s (.x4 (.x3 .e)) (.ld none (.t (.x3 (.x3 .e)))),
    .s (.x5 (.x3 .e)) (.fadr 0 (.t (.x3 (.x0 .e)))),
    .s (.x6 (.x3 .e)) (.ld none (.t (.x5 (.x3 .e)))),
    .s (.x7 (.x3 .e)) (.bin .rem (.t (.x4 (.x3 .e))) (.t (.x6 (.x3 .e)))),
    .s (.x8 (.x3 .e)) (.bin .eql (.t (.x7 (.x3 .e))) (.c (V.int .i64 0)))])
  (.cond (.t (.x8 (.x3 .e)))
  (.seq (.ops [.s (.x9 (.x3 .e)) (.mv (.t (.xa (.x0 .e)))),
    .s (.xa (.x3 .e)) (.bin .eql (.t (.x9 (.x3 .e))) (.c (V.int .i64 5))),
    .s (.xb (.x3 .e)) (.mv (.t (.xa (.x3 .e)))),
    .g (.xb (.x3 .e)) true (.xc (.x3 .e)) (.mv (.t (.xc (.x0 .e)))),
    .g (.xb (.x3 .e)) true (.xd (.x3 .e)) (.bin .eql (.t (.xc (.x3 .e))) (.c (V.int .i64 5))),
    .s (.xe (.x3 .e)) (.pick (.t (.xb (.x3 .e))) (.t (.xd (.x3 .e))) (.c (V.bool false))),
    .s (.xf (.x3 .e)) (.mv (.t (.xe (.x3 .e)))),
    .g (.xf (.x3 .e)) true (.x0 (.x4 .e)) (.mv (.t (.x9 (.x0 .e)))),
    .g (.xf (.x3 .e)) true (.x1 (.x4 .e)) (.len (.t (.x0 (.x4 .e)))),
    .g (.xf (.x3 .e)) true (.x2 (.x4 .e)) (.bin .eql (.t (.x1 (.x4 .e))) (.c (V.int .i64 0))),
    .s (.x3 (.x4 .e)) (.pick (.t (.xf (.x3 .e))) (.t (.x2 (.x4 .e))) (.c (V.bool false))),
    .s (.x4 (.x4 .e)) (.mv (.t (.x3 (.x4 .e)))),
    .g (.x4 (.x4 .e)) true (.x5 (.x4 .e)) (.mv (.t (.xb (.x0 .e)))),
    .g (.x4 (.x4 .e)) true (.x6 (.x4 .e)) (.len (.t (.x5 (.x4 .e)))),
    .g (.x4 (.x4 .e)) true (.x7 (.x4 .e)) (.bin .eql (.t (.x6 (.x4 .e))) (.c (V.int .i64 0))),
    .s (.x8 (.x4 .e)) (.pick (.t (.x4 (.x4 .e))) (.t (.x7 (.x4 .e))) (.c (V.bool false))),
    .s (.x9 (.x4 .e)) (.mv (.t (.x8 (.x4 .e)))),
    .g (.x9 (.x4 .e)) true (.xa (.x4 .e)) (.call 12 []),
    .s (.xb (.x4 .e)) (.pick (.t (.x9 (.x4 .e))) (.t (.xa (.x4 .e))) (.c (V.bool false))),
    .s (.x6 (.x0 .e)) (.asg (.t (.xb (.x4 .e))))])
  .ret)
  .skip))
  (.seq (.draw [0, 1, 2, 3, 4, 5, 6, 7, 8, 9, 10, 11, 12, 13, 14, 15, 16, 17, 18, 19, 20, 21, 22, 23, 24, 25, 26, 27, 28, 29, 30, 31, 32, 33, 34, 35, 36, 37, 38, 39, 40, 41, 42, 43, 44, 45, 46, 47, 48, 49, 50, 51, 52, 53, 54, 55, 56, 57, 58, 59, 60, 61, 62, 63, 64, 65, 66, 67, 68, 69, 70, 71, 72] [0, 1, 3, 7, 15, 31, 63, 127, 127, 511, 1023, 2047, 4095, 8191, 8191, 32767, 65535, 131071, 262143, 524287, 524287, 2097151, 4194303, 8388607, 16777215, 33554431, 33554431, 134217727, 268435455, 536870911, 1073741823, 2147483647, 2147483647, 8589934591, 17179869183, 2147483647, 68719476735, 137438953471, 2147483647, 2147483647, 826781204479, 1926292832255, 2147483647, 8523362598911, 17319455621119, 34911641665535, 70368744177663, 140737488355327, 281474976710655, 562949953421311, 562949953421311, 2251799813685247, 4503599627370495, 562949953421311, 18014398509481983, 36028797018963967, 562949953421311, 72620543991349247, 562949953421311, 504966108218916863, 1081426860522340351, 562949953421311, 4540191374342881279, 9151877392770269183, 562949953421311, 18447307023662972927, 73715481650753699839, 147573952589676412927, 295147905179352825855, 590295810358705651711, 1180591620717411303423, 2361183241434822606847, 4722366482869645213695] [.s (.xc (.x4 .e)) (.mv (.t (.xa (.x0 .e)))),
    .s (.xd (.x4 .e)) (.bin .eql (.t (.xc (.x4 .e))) (.c (V.int .i64 0))),
    .s (.xe (.x4 .e)) (.mv (.t (.xd (.x4 .e)))),
    .g (.xe (.x4 .e)) true (.xf (.x4 .e)) (.mv (.t (.xc (.x0 .e)))),
    .g (.xe (.x4 .e)) true (.x0 (.x5 .e)) (.bin .eql (.t (.xf (.x4 .e))) (.c (V.int .i64 0))),
    .s (.x1 (.x5 .e)) (.pick (.t (.xe (.x4 .e))) (.t (.x0 (.x5 .e))) (.c (V.bool false))),
    .s (.x2 (.x5 .e)) (.mv (.t (.x1 (.x5 .e)))),
    .g (.x2 (.x5 .e)) true (.x3 (.x5 .e)) (.ld (some 2) (.t (.x3 (.x0 .e)))),
    .g (.x2 (.x5 .e)) true (.x4 (.x5 .e)) (.mv (.t (.x9 (.x0 .e)))),
    .g (.x2 (.x5 .e)) true (.x5 (.x5 .e)) (.call 27 [(.t (.x3 (.x5 .e))), (.t (.x4 (.x5 .e)))]),
    .g (.x2 (.x5 .e)) true (.x6 (.x5 .e)) (.bin .eql (.t (.x5 (.x5 .e))) (.c (V.int .i64 0))),
    .s (.x7 (.x5 .e)) (.pick (.t (.x2 (.x5 .e))) (.t (.x6 (.x5 .e))) (.c (V.bool false))),
    .s (.x8 (.x5 .e)) (.mv (.t (.x7 (.x5 .e)))),
    .g (.x8 (.x5 .e)) true (.x9 (.x5 .e)) (.ld (some 2) (.t (.x3 (.x0 .e)))),
    .g (.x8 (.x5 .e)) true (.xa (.x5 .e)) (.mv (.t (.xb (.x0 .e)))),
    .g (.x8 (.x5 .e)) true (.xb (.x5 .e)) (.call 27 [(.t (.x9 (.x5 .e))), (.t (.xa (.x5 .e)))]),
    .g (.x8 (.x5 .e)) true (.xc (.x5 .e)) (.bin .eql (.t (.xb (.x5 .e))) (.c (V.int .i64 0))),
    .s (.xd (.x5 .e)) (.pick (.t (.x8 (.x5 .e))) (.t (.xc (.x5 .e))) (.c (V.bool false))),
    .s (.xe (.x5 .e)) (.mv (.t (.xd (.x5 .e)))),
    .g (.xe (.x5 .e)) true (.xf (.x5 .e)) (.ld (some 2) (.t (.x3 (.x0 .e)))),
    .g (.xe (.x5 .e)) true (.x0 (.x6 .e)) (.mv (.t (.x9 (.x0 .e)))),
    .g (.xe (.x5 .e)) true (.x1 (.x6 .e)) (.call 28 [(.t (.xf (.x5 .e))), (.t (.x0 (.x6 .e)))]),
    .g (.xe (.x5 .e)) true (.x2 (.x6 .e)) (.bin .eql (.t (.x1 (.x6 .e))) (.c (V.int .i64 0))),
    .s (.x3 (.x6 .e)) (.pick (.t (.xe (.x5 .e))) (.t (.x2 (.x6 .e))) (.c (V.bool false))),
    .s (.x4 (.x6 .e)) (.mv (.t (.x3 (.x6 .e)))),
    .g (.x4 (.x6 .e)) true (.x5 (.x6 .e)) (.ld (some 2) (.t (.x3 (.x0 .e)))),
    .g (.x4 (.x6 .e)) true (.x6 (.x6 .e)) (.mv (.t (.xb (.x0 .e)))),
    .g (.x4 (.x6 .e)) true (.x7 (.x6 .e)) (.call 28 [(.t (.x5 (.x6 .e))), (.t (.x6 (.x6 .e)))]),
    .g (.x4 (.x6 .e)) true (.x8 (.x6 .e)) (.bin .eql (.t (.x7 (.x6 .e))) (.c (V.int .i64 0))),
    .s (.x9 (.x6 .e)) (.pick (.t (.x4 (.x6 .e))) (.t (.x8 (.x6 .e))) (.c (V.bool false))),
    .s (.xa (.x6 .e)) (.mv (.t (.x9 (.x6 .e)))),
    .g (.xa (.x6 .e)) true (.xb (.x6 .e)) (.mv (.t (.x9 (.x0 .e)))),
    .g (.xa (.x6 .e)) true (.xc (.x6 .e)) (.mv (.t (.x7 (.x0 .e)))),
    .g (.xa (.x6 .e)) true (.xd (.x6 .e)) (.ixs 1 (.t (.xb (.x6 .e))) (.t (.xc (.x6 .e)))),
    .g (.xa (.x6 .e)) true (.xe (.x6 .e)) (.ld none (.t (.xd (.x6 .e)))),
    .g (.xa (.x6 .e)) true (.xf (.x6 .e)) (.mv (.t (.x8 (.x0 .e)))),
    .g (.xa (.x6 .e)) true (.x0 (.x7 .e)) (.ixs 1 (.t (.xe (.x6 .e))) (.t (.xf (.x6 .e)))),
    .g (.xa (.x6 .e)) true (.x1 (.x7 .e)) (.ld none (.t (.x0 (.x7 .e)))),
    .g (.xa (.x6 .e)) true (.x2 (.x7 .e)) (.mv (.t (.xb (.x0 .e)))),
    .g (.xa (.x6 .e)) true (.x3 (.x7 .e)) (.mv (.t (.x7 (.x0 .e)))),
    .g (.xa (.x6 .e)) true (.x4 (.x7 .e)) (.ixs 1 (.t (.x2 (.x7 .e))) (.t (.x3 (.x7 .e)))),
    .g (.xa (.x6 .e)) true (.x5 (.x7 .e)) (.ld none (.t (.x4 (.x7 .e)))),
    .g (.xa (.x6 .e)) true (.x6 (.x7 .e)) (.mv (.t (.x8 (.x0 .e)))),
    .g (.xa (.x6 .e)) true (.x7 (.x7 .e)) (.ixs 1 (.t (.x5 (.x7 .e))) (.t (.x6 (.x7 .e)))),
    .g (.xa (.x6 .e)) true (.x8 (.x7 .e)) (.ld none (.t (.x7 (.x7 .e)))),
    .g (.xa (.x6 .e)) true (.x9 (.x7 .e)) (.bin .add (.t (.x8 (.x7 .e))) (.c (V.int .i64 1))),
    .g (.xa (.x6 .e)) true (.xa (.x7 .e)) (.bin .eql (.t (.x1 (.x7 .e))) (.t (.x9 (.x7 .e)))),
    .s (.xb (.x7 .e)) (.pick (.t (.xa (.x6 .e))) (.t (.xa (.x7 .e))) (.c (V.bool false))),
    .s (.xc (.x7 .e)) (.mv (.t (.xb (.x7 .e)))),
    .g (.xc (.x7 .e)) true (.xd (.x7 .e)) (.mv (.t (.xb (.x0 .e)))),
    .g (.xc (.x7 .e)) true (.xe (.x7 .e)) (.mv (.t (.x7 (.x0 .e)))),
    .g (.xc (.x7 .e)) true (.xf (.x7 .e)) (.ixs 1 (.t (.xd (.x7 .e))) (.t (.xe (.x7 .e)))),
    .g (.xc (.x7 .e)) true (.x0 (.x8 .e)) (.ld none (.t (.xf (.x7 .e)))),
    .g (.xc (.x7 .e)) true (.x1 (.x8 .e)) (.mv (.t (.x8 (.x0 .e)))),
    .g (.xc (.x7 .e)) true (.x2 (.x8 .e)) (.ixs 1 (.t (.x0 (.x8 .e))) (.t (.x1 (.x8 .e)))),
    .g (.xc (.x7 .e)) true (.x3 (.x8 .e)) (.ld none (.t (.x2 (.x8 .e)))),
    .g (.xc (.x7 .e)) true (.x4 (.x8 .e)) (.fadr 1 (.t (.x3 (.x0 .e)))),
    .g (.xc (.x7 .e)) true (.x5 (.x8 .e)) (.ld none (.t (.x4 (.x8 .e)))),
    .g (.xc (.x7 .e)) true (.x6 (.x8 .e)) (.mv (.t (.x7 (.x0 .e)))),
    .g (.xc (.x7 .e)) true (.x7 (.x8 .e)) (.ixs 1 (.t (.x5 (.x8 .e))) (.t (.x6 (.x8 .e)))),
    .g (.xc (.x7 .e)) true (.x8 (.x8 .e)) (.ld none (.t (.x7 (.x8 .e)))),
    .g (.xc (.x7 .e)) true (.x9 (.x8 .e)) (.mv (.t (.x8 (.x0 .e)))),
    .g (.xc (.x7 .e)) true (.xa (.x8 .e)) (.ixs 1 (.t (.x8 (.x8 .e))) (.t (.x9 (.x8 .e)))),
    .g (.xc (.x7 .e)) true (.xb (.x8 .e)) (.ld none (.t (.xa (.x8 .e)))),
    .g (.xc (.x7 .e)) true (.xc (.x8 .e)) (.fadr 0 (.t (.x3 (.x0 .e)))),
    .g (.xc (.x7 .e)) true (.xd (.x8 .e)) (.ld none (.t (.xc (.x8 .e)))),
    .g (.xc (.x7 .e)) true (.xe (.x8 .e)) (.bin .quo (.t (.xb (.x8 .e))) (.t (.xd (.x8 .e)))),
    .g (.xc (.x7 .e)) true (.xf (.x8 .e)) (.bin .eql (.t (.x3 (.x8 .e))) (.t (.xe (.x8 .e)))),
    .s (.x0 (.x9 .e)) (.pick (.t (.xc (.x7 .e))) (.t (.xf (.x8 .e))) (.c (V.bool false))),
    .s (.x1 (.x9 .e)) (.mv (.t (.x0 (.x9 .e)))),
    .g (.x1 (.x9 .e)) true (.x2 (.x9 .e)) (.call 12 []),
    .s (.x3 (.x9 .e)) (.pick (.t (.x1 (.x9 .e))) (.t (.x2 (.x9 .e))) (.c (V.bool false))),
    .s (.x6 (.x0 .e)) (.asg (.t (.x3 (.x9 .e))))])
  .ret)))))))
def e10 : EF := { depth := 2, nargs := 3, results := [.t (.x6 (.x0 .e))], body := b10 }

/-- function 11, loop 0: live [3, 5, 11, 12, 13, 14, 17, 18] -/
def M11_0 : List Pth := [(.x3 (.x0 .e)), (.x5 (.x0 .e)), (.xb (.x0 .e)), (.xc (.x0 .e)), (.xd (.x0 .e)), (.xe (.x0 .e)), (.x1 (.x1 .e)), (.x2 (.x1 .e))]
def L11_0 : EC :=
  (.seq (.seq (.ops [.s (.x6 (.x5 .e)) (.mv (.t (.x2 (.x1 .e)))),
    .s (.x7 (.x5 .e)) (.bin .lss (.t (.x6 (.x5 .e))) (.c (V.int .i64 2)))])
  (.cond (.t (.x7 (.x5 .e)))
  .skip
  (.exit 0)))
  (.seq (.blk 1 [(.x3 (.x0 .e)), (.x5 (.x0 .e)), (.xb (.x0 .e)), (.xc (.x0 .e)), (.xd (.x0 .e)), (.xe (.x0 .e)), (.x1 (.x1 .e)), (.x2 (.x1 .e))]
  (.seq (.seq (.draw [0, 1, 2, 3, 4, 5, 6] [0, 0, 0, 6, 14, 31, 63] [.s (.xa (.x5 .e)) (.ld (some 2) (.t (.x5 (.x0 .e)))),
    .s (.xb (.x5 .e)) (.mv (.t (.x1 (.x1 .e)))),
    .s (.xc (.x5 .e)) (.mv (.t (.x2 (.x1 .e)))),
    .s (.xd (.x5 .e)) (.ixs 1 (.t (.xb (.x5 .e))) (.t (.xc (.x5 .e)))),
    .s (.xe (.x5 .e)) (.ld none (.t (.xd (.x5 .e)))),
    .s (.xf (.x5 .e)) (.call 38 [(.t (.xa (.x5 .e))), (.t (.xe (.x5 .e)))]),
    .s (.x0 (.x6 .e)) (.un .not (.t (.xf (.x5 .e))))])
  (.cond (.t (.x0 (.x6 .e)))
  (.exit 1)
  .skip))
  (.seq (.draw [0, 1, 2, 3, 4, 5, 6] [0, 0, 0, 6, 14, 31, 63] [.s (.x1 (.x6 .e)) (.ld (some 2) (.t (.x5 (.x0 .e)))),
    .s (.x2 (.x6 .e)) (.mv (.t (.x1 (.x1 .e)))),
    .s (.x3 (.x6 .e)) (.mv (.t (.x2 (.x1 .e)))),
    .s (.x4 (.x6 .e)) (.ixs 1 (.t (.x2 (.x6 .e))) (.t (.x3 (.x6 .e)))),
    .s (.x5 (.x6 .e)) (.ld none (.t (.x4 (.x6 .e)))),
    .s (.x6 (.x6 .e)) (.call 27 [(.t (.x1 (.x6 .e))), (.t (.x5 (.x6 .e)))]),
    .s (.x3 (.x1 .e)) (.asg (.t (.x6 (.x6 .e))))])
  (.seq (.seq (.draw [0, 1, 2, 3, 4, 7, 5, 6, 8] [0, 0, 0, 6, 14, 0, 30, 95, 255] [.s (.x7 (.x6 .e)) (.ld (some 2) (.t (.xb (.x0 .e)))),
    .s (.x8 (.x6 .e)) (.mv (.t (.x1 (.x1 .e)))),
    .s (.x9 (.x6 .e)) (.mv (.t (.x2 (.x1 .e)))),
    .s (.xa (.x6 .e)) (.ixs 1 (.t (.x8 (.x6 .e))) (.t (.x9 (.x6 .e)))),
    .s (.xb (.x6 .e)) (.ld none (.t (.xa (.x6 .e)))),
    .s (.xe (.x6 .e)) (.mv (.t (.x3 (.x1 .e)))),
    .s (.xc (.x6 .e)) (.call 40 [(.t (.xb (.x6 .e)))]),
    .s (.xd (.x6 .e)) (.call 27 [(.t (.x7 (.x6 .e))), (.t (.xc (.x6 .e)))]),
    .s (.xf (.x6 .e)) (.bin .neq (.t (.xd (.x6 .e))) (.t (.xe (.x6 .e))))])
  (.cond (.t (.xf (.x6 .e)))
  (.seq (.ops [.s (.xa (.x0 .e)) (.asg (.c (V.bool false)))])
  .ret)
  .skip))
  (.seq (.ops [.s (.x0 (.x7 .e)) (.mv (.t (.x1 (.x1 .e)))),
    .s (.x1 (.x7 .e)) (.mv (.t (.x2 (.x1 .e)))),
    .s (.x2 (.x7 .e)) (.ixs 1 (.t (.x0 (.x7 .e))) (.t (.x1 (.x7 .e)))),
    .s (.x3 (.x7 .e)) (.ld none (.t (.x2 (.x7 .e)))),
    .s (.x4 (.x7 .e)) (.call 41 [(.t (.x3 (.x7 .e)))]),
    .s (.x4 (.x1 .e)) (.asg (.t (.x4 (.x7 .e))))])
  (.seq (.seq (.ops [.s (.x5 (.x7 .e)) (.mv (.t (.x4 (.x1 .e)))),
    .s (.x6 (.x7 .e)) (.mv (.t (.xd (.x0 .e)))),
    .s (.x7 (.x7 .e)) (.ixs 1 (.t (.x5 (.x7 .e))) (.t (.x6 (.x7 .e)))),
    .s (.x8 (.x7 .e)) (.ld none (.t (.x7 (.x7 .e)))),
    .s (.x9 (.x7 .e)) (.mv (.t (.xe (.x0 .e)))),
    .s (.xa (.x7 .e)) (.ixs 1 (.t (.x8 (.x7 .e))) (.t (.x9 (.x7 .e)))),
    .s (.xb (.x7 .e)) (.ld none (.t (.xa (.x7 .e)))),
    .s (.xc (.x7 .e)) (.bin .gtr (.t (.xb (.x7 .e))) (.c (V.int .i64 1000000))),
    .s (.xd (.x7 .e)) (.mv (.t (.xc (.x7 .e)))),
    .g (.xd (.x7 .e)) false (.xe (.x7 .e)) (.ld (some 2) (.t (.xc (.x0 .e)))),
    .g (.xd (.x7 .e)) false (.xf (.x7 .e)) (.call 37 [(.t (.xe (.x7 .e)))]),
    .g (.xd (.x7 .e)) false (.x0 (.x8 .e)) (.un .not (.t (.xf (.x7 .e)))),
    .s (.x1 (.x8 .e)) (.pick (.t (.xd (.x7 .e))) (.c (V.bool true)) (.t (.x0 (.x8 .e))))])
  (.cond (.t (.x1 (.x8 .e)))
  (.exit 1)
  .skip))
  (.seq (.ops [.s (.x2 (.x8 .e)) (.mv (.t (.x4 (.x1 .e)))),
    .s (.x3 (.x8 .e)) (.mv (.t (.xd (.x0 .e)))),
    .s (.x4 (.x8 .e)) (.ixs 1 (.t (.x2 (.x8 .e))) (.t (.x3 (.x8 .e)))),
    .s (.x5 (.x8 .e)) (.ld none (.t (.x4 (.x8 .e)))),
    .s (.x6 (.x8 .e)) (.mv (.t (.xe (.x0 .e)))),
    .s (.x7 (.x8 .e)) (.ixs 1 (.t (.x5 (.x8 .e))) (.t (.x6 (.x8 .e)))),
    .s (.x8 (.x8 .e)) (.ld none (.t (.x7 (.x8 .e)))),
    .s (.x9 (.x8 .e)) (.mv (.t (.x3 (.x0 .e)))),
    .s (.xa (.x8 .e)) (.cvt .i64 (.t (.x9 (.x8 .e)))),
    .s (.xb (.x8 .e)) (.bin .add (.t (.x8 (.x8 .e))) (.t (.xa (.x8 .e)))),
    .s (.xc (.x8 .e)) (.ixs 1 (.t (.x5 (.x8 .e))) (.t (.x6 (.x8 .e)))),
    .u (.st none (.t (.xc (.x8 .e))) (.t (.xb (.x8 .e))))])
  (.seq (.ops [.s (.xd (.x8 .e)) (.mv (.t (.x3 (.x1 .e)))),
    .s (.xe (.x8 .e)) (.bin .eql (.t (.xd (.x8 .e))) (.c (V.int .i64 0))),
    .s (.xf (.x8 .e)) (.mv (.t (.xe (.x8 .e)))),
    .g (.xf (.x8 .e)) true (.x0 (.x9 .e)) (.ld (some 2) (.t (.xc (.x0 .e)))),
    .g (.xf (.x8 .e)) true (.x1 (.x9 .e)) (.mv (.t (.x4 (.x1 .e)))),
    .g (.xf (.x8 .e)) true (.x2 (.x9 .e)) (.call 27 [(.t (.x0 (.x9 .e))), (.t (.x1 (.x9 .e)))]),
    .g (.xf (.x8 .e)) true (.x3 (.x9 .e)) (.bin .neq (.t (.x2 (.x9 .e))) (.c (V.int .i64 0))),
    .s (.x4 (.x9 .e)) (.pick (.t (.xf (.x8 .e))) (.t (.x3 (.x9 .e))) (.c (V.bool false))),
    .s (.x5 (.x9 .e)) (.mv (.t (.x4 (.x9 .e)))),
    .g (.x5 (.x9 .e)) false (.x6 (.x9 .e)) (.mv (.t (.x3 (.x1 .e)))),
    .g (.x5 (.x9 .e)) false (.x7 (.x9 .e)) (.bin .neq (.t (.x6 (.x9 .e))) (.c (V.int .i64 0))),
    .g (.x5 (.x9 .e)) false (.x8 (.x9 .e)) (.mv (.t (.x7 (.x9 .e)))),
    .g (.x8 (.x9 .e)) true (.x9 (.x9 .e)) (.mv (.t (.x1 (.x1 .e)))),
    .g (.x8 (.x9 .e)) true (.xa (.x9 .e)) (.mv (.t (.x2 (.x1 .e)))),
    .g (.x8 (.x9 .e)) true (.xb (.x9 .e)) (.ixs 1 (.t (.x9 (.x9 .e))) (.t (.xa (.x9 .e)))),
    .g (.x8 (.x9 .e)) true (.xc (.x9 .e)) (.ld none (.t (.xb (.x9 .e)))),
    .g (.x8 (.x9 .e)) true (.xd (.x9 .e)) (.mv (.t (.xd (.x0 .e)))),
    .g (.x8 (.x9 .e)) true (.xe (.x9 .e)) (.ixs 1 (.t (.xc (.x9 .e))) (.t (.xd (.x9 .e)))),
    .g (.x8 (.x9 .e)) true (.xf (.x9 .e)) (.ld none (.t (.xe (.x9 .e)))),
    .g (.x8 (.x9 .e)) true (.x0 (.xa .e)) (.mv (.t (.xe (.x0 .e)))),
    .g (.x8 (.x9 .e)) true (.x1 (.xa .e)) (.ixs 1 (.t (.xf (.x9 .e))) (.t (.x0 (.xa .e)))),
    .g (.x8 (.x9 .e)) true (.x2 (.xa .e)) (.ld none (.t (.x1 (.xa .e)))),
    .g (.x8 (.x9 .e)) true (.x3 (.xa .e)) (.bin .geq (.t (.x2 (.xa .e))) (.c (V.int .i64 0))),
    .g (.x5 (.x9 .e)) false (.x4 (.xa .e)) (.pick (.t (.x8 (.x9 .e))) (.t (.x3 (.xa .e))) (.c (V.bool false))),
    .g (.x5 (.x9 .e)) false (.x5 (.xa .e)) (.mv (.t (.x4 (.xa .e)))),
    .g (.x5 (.xa .e)) true (.x6 (.xa .e)) (.ld (some 2) (.t (.xc (.x0 .e)))),
    .g (.x5 (.xa .e)) true (.x7 (.xa .e)) (.mv (.t (.x4 (.x1 .e)))),
    .g (.x5 (.xa .e)) true (.x8 (.xa .e)) (.call 27 [(.t (.x6 (.xa .e))), (.t (.x7 (.xa .e)))]),
    .g (.x5 (.xa .e)) true (.x9 (.xa .e)) (.bin .eql (.t (.x8 (.xa .e))) (.c (V.int .i64 0))),
    .g (.x5 (.x9 .e)) false (.xa (.xa .e)) (.pick (.t (.x5 (.xa .e))) (.t (.x9 (.xa .e))) (.c (V.bool false))),
    .s (.xb (.xa .e)) (.pick (.t (.x5 (.x9 .e))) (.c (V.bool true)) (.t (.xa (.xa .e))))])
  (.cond (.t (.xb (.xa .e)))
  (.seq (.ops [.s (.xa (.x0 .e)) (.asg (.c (V.bool false)))])
  .ret)
  .skip)))))))))
  (.ops [.s (.x8 (.x5 .e)) (.mv (.t (.x2 (.x1 .e)))),
    .s (.x9 (.x5 .e)) (.bin .add (.t (.x8 (.x5 .e))) (.c (V.int .i64 1))),
    .s (.x2 (.x1 .e)) (.asg (.t (.x9 (.x5 .e))))])))
/-- forecourt/forecourtlaw09.PoleTurned -/
def b11 : EC :=
  (.seq (.ops [.s (.x5 (.x0 .e)) (.box (.t (.x0 (.x0 .e)))),
    .s (.xa (.x0 .e)) (.asg (.c (V.bool false)))])
  (.seq (.seq (.ops [.s (.x5 (.x1 .e)) (.ld (some 2) (.t (.x5 (.x0 .e)))),
    .s (.x6 (.x1 .e)) (.call 37 [(.t (.x5 (.x1 .e)))]),
    .s (.x7 (.x1 .e)) (.un .not (.t (.x6 (.x1 .e)))),
    .s (.x8 (.x1 .e)) (.mv (.t (.x7 (.x1 .e)))),
    .g (.x8 (.x1 .e)) false (.x9 (.x1 .e)) (.mv (.t (.x4 (.x0 .e)))),
    .g (.x8 (.x1 .e)) false (.xa (.x1 .e)) (.call 24 [(.t (.x9 (.x1 .e)))]),
    .s (.xb (.x1 .e)) (.pick (.t (.x8 (.x1 .e))) (.c (V.bool true)) (.t (.xa (.x1 .e))))])
  (.cond (.t (.xb (.x1 .e)))
  (.seq (.ops [.s (.xc (.x1 .e)) (.call 12 []),
    .s (.xa (.x0 .e)) (.asg (.t (.xc (.x1 .e))))])
  .ret)
  .skip))
  (.seq (.draw [0, 1, 2, 3, 6, 4, 5, 7] [0, 1, 0, 4, 0, 12, 47, 127] [.s (.xd (.x1 .e)) (.fadr 0 (.t (.x5 (.x0 .e)))),
    .s (.xe (.x1 .e)) (.ld none (.t (.xd (.x1 .e)))),
    .s (.xf (.x1 .e)) (.fadr 1 (.t (.x5 (.x0 .e)))),
    .s (.x0 (.x2 .e)) (.ld none (.t (.xf (.x1 .e)))),
    .s (.xb (.x0 .e)) (.alloc [V.int .i64 0, V.nilslice]),
    .s (.x1 (.x2 .e)) (.call 40 [(.t (.x0 (.x2 .e)))]),
    .s (.x2 (.x2 .e)) (.build [V.int .i64 0, V.nilslice] [(0, 1, (.t (.xe (.x1 .e)))), (1, 1, (.t (.x1 (.x2 .e))))]),
    .u (.st (some 2) (.t (.xb (.x0 .e))) (.t (.x2 (.x2 .e))))])
  (.seq (.draw [0, 1, 2, 3, 6, 4, 5, 7] [0, 1, 0, 4, 0, 12, 47, 127] [.s (.x3 (.x2 .e)) (.fadr 0 (.t (.x5 (.x0 .e)))),
    .s (.x4 (.x2 .e)) (.ld none (.t (.x3 (.x2 .e)))),
    .s (.x5 (.x2 .e)) (.fadr 1 (.t (.x5 (.x0 .e)))),
    .s (.x6 (.x2 .e)) (.ld none (.t (.x5 (.x2 .e)))),
    .s (.xc (.x0 .e)) (.alloc [V.int .i64 0, V.nilslice]),
    .s (.x7 (.x2 .e)) (.call 41 [(.t (.x6 (.x2 .e)))]),
    .s (.x8 (.x2 .e)) (.build [V.int .i64 0, V.nilslice] [(0, 1, (.t (.x4 (.x2 .e)))), (1, 1, (.t (.x7 (.x2 .e))))]),
    .u (.st (some 2) (.t (.xc (.x0 .e))) (.t (.x8 (.x2 .e))))])
  (.seq (.draw [0, 1, 2, 3, 4, 5, 6, 7, 8, 9, 10, 11, 12, 13, 14, 15] [0, 1, 0, 4, 12, 31, 0, 64, 0, 256, 768, 1792, 3840, 8128, 63, 32767] [.s (.x9 (.x2 .e)) (.mv (.t (.x1 (.x0 .e)))),
    .s (.xa (.x2 .e)) (.cvt .i64 (.t (.x9 (.x2 .e)))),
    .s (.xb (.x2 .e)) (.fadr 1 (.t (.x5 (.x0 .e)))),
    .s (.xc (.x2 .e)) (.ld none (.t (.xb (.x2 .e)))),
    .s (.xd (.x2 .e)) (.len (.t (.xc (.x2 .e)))),
    .s (.xe (.x2 .e)) (.bin .rem (.t (.xa (.x2 .e))) (.t (.xd (.x2 .e)))),
    .s (.xf (.x2 .e)) (.mv (.t (.x2 (.x0 .e)))),
    .s (.x0 (.x3 .e)) (.cvt .i64 (.t (.xf (.x2 .e)))),
    .s (.x1 (.x3 .e)) (.fadr 1 (.t (.x5 (.x0 .e)))),
    .s (.x2 (.x3 .e)) (.ld none (.t (.x1 (.x3 .e)))),
    .s (.x3 (.x3 .e)) (.ixs 1 (.t (.x2 (.x3 .e))) (.c (V.int .i64 0))),
    .s (.x4 (.x3 .e)) (.ld none (.t (.x3 (.x3 .e)))),
    .s (.x5 (.x3 .e)) (.len (.t (.x4 (.x3 .e)))),
    .s (.x6 (.x3 .e)) (.bin .rem (.t (.x0 (.x3 .e))) (.t (.x5 (.x3 .e)))),
    .s (.xd (.x0 .e)) (.asg (.t (.xe (.x2 .e)))),
    .s (.xe (.x0 .e)) (.asg (.t (.x6 (.x3 .e))))])
  (.seq (.draw [0, 1, 2, 3, 4, 5, 6, 7, 8, 9, 10, 11, 12, 13, 14, 15] [0, 1, 0, 7, 15, 0, 63, 127, 0, 256, 0, 1024, 3840, 8191, 16383, 32767] [.s (.x7 (.x3 .e)) (.fadr 1 (.t (.xc (.x0 .e)))),
    .s (.x8 (.x3 .e)) (.ld none (.t (.x7 (.x3 .e)))),
    .s (.x9 (.x3 .e)) (.mv (.t (.xd (.x0 .e)))),
    .s (.xa (.x3 .e)) (.ixs 1 (.t (.x8 (.x3 .e))) (.t (.x9 (.x3 .e)))),
    .s (.xb (.x3 .e)) (.ld none (.t (.xa (.x3 .e)))),
    .s (.xc (.x3 .e)) (.mv (.t (.xe (.x0 .e)))),
    .s (.xd (.x3 .e)) (.ixs 1 (.t (.xb (.x3 .e))) (.t (.xc (.x3 .e)))),
    .s (.xe (.x3 .e)) (.ld none (.t (.xd (.x3 .e)))),
    .s (.xf (.x3 .e)) (.mv (.t (.x3 (.x0 .e)))),
    .s (.x0 (.x4 .e)) (.cvt .i64 (.t (.xf (.x3 .e)))),
    .s (.x1 (.x4 .e)) (.fadr 0 (.t (.x5 (.x0 .e)))),
    .s (.x2 (.x4 .e)) (.ld none (.t (.x1 (.x4 .e)))),
    .s (.x3 (.x4 .e)) (.bin .mul (.t (.x0 (.x4 .e))) (.t (.x2 (.x4 .e)))),
    .s (.x4 (.x4 .e)) (.bin .add (.t (.xe (.x3 .e))) (.t (.x3 (.x4 .e)))),
    .s (.x5 (.x4 .e)) (.ixs 1 (.t (.xb (.x3 .e))) (.t (.xc (.x3 .e)))),
    .u (.st none (.t (.x5 (.x4 .e))) (.t (.x4 (.x4 .e))))])
  (.seq (.ops [.s (.x7 (.x4 .e)) (.ld (some 2) (.t (.x5 (.x0 .e)))),
    .s (.x8 (.x4 .e)) (.call 29 [(.t (.x7 (.x4 .e)))]),
    .s (.x6 (.x4 .e)) (.mv (.t (.x8 (.x4 .e)))),
    .s (.x9 (.x4 .e)) (.ext (.t (.x6 (.x4 .e))) 0),
    .s (.xa (.x4 .e)) (.ext (.t (.x6 (.x4 .e))) 1),
    .s (.xf (.x0 .e)) (.asg (.t (.x9 (.x4 .e)))),
    .s (.x0 (.x1 .e)) (.asg (.t (.xa (.x4 .e))))])
  (.seq (.seq (.ops [.s (.xb (.x4 .e)) (.mv (.t (.x0 (.x1 .e)))),
    .s (.xc (.x4 .e)) (.bin .neq (.t (.xb (.x4 .e))) (.c (V.int .i64 0))),
    .s (.xd (.x4 .e)) (.mv (.t (.xc (.x4 .e)))),
    .g (.xd (.x4 .e)) false (.xe (.x4 .e)) (.ld (some 2) (.t (.x5 (.x0 .e)))),
    .g (.xd (.x4 .e)) false (.xf (.x4 .e)) (.mv (.t (.xf (.x0 .e)))),
    .g (.xd (.x4 .e)) false (.x0 (.x5 .e)) (.call 28 [(.t (.xe (.x4 .e))), (.t (.xf (.x4 .e)))]),
    .g (.xd (.x4 .e)) false (.x1 (.x5 .e)) (.bin .neq (.t (.x0 (.x5 .e))) (.c (V.int .i64 0))),
    .s (.x2 (.x5 .e)) (.pick (.t (.xd (.x4 .e))) (.c (V.bool true)) (.t (.x1 (.x5 .e))))])
  (.cond (.t (.x2 (.x5 .e)))
  (.seq (.ops [.s (.xa (.x0 .e)) (.asg (.c (V.bool false)))])
  .ret)
  .skip))
  (.seq (.ops [.s (.x3 (.x5 .e)) (.mv (.t (.xf (.x0 .e)))),
    .s (.x4 (.x5 .e)) (.mv (.t (.x4 (.x0 .e)))),
    .s (.x5 (.x5 .e)) (.bslice 1 2 [V.nilslice] [(0, (.t (.x3 (.x5 .e)))), (1, (.t (.x4 (.x5 .e))))]),
    .s (.x1 (.x1 .e)) (.asg (.t (.x5 (.x5 .e))))])
  (.seq (.seq (.ops [.s (.x2 (.x1 .e)) (.asg (.c (V.int .i64 0)))])
  (.blk 0 []
  (.loop M11_0 L11_0)))
  (.seq (.ops [.s (.xc (.xa .e)) (.call 12 []),
    .s (.xa (.x0 .e)) (.asg (.t (.xc (.xa .e))))])
  .ret)))))))))))
def e11 : EF := { depth := 2, nargs := 5, results := [.t (.xa (.x0 .e))], body := b11 }

/-- forecourt/forecourtlaw09.Works -/
def b12 : EC :=
  (.seq (.ops [.s (.x0 (.x0 .e)) (.asg (.c (V.bool false)))])
  (.seq (.ops [.s (.x8 (.x1 .e)) (.call 42 []),
    .s (.x9 (.x1 .e)) (.call 43 []),
    .s (.xa (.x1 .e)) (.call 34 [(.c (V.int .i64 (-5))), (.c (V.int .i64 5))]),
    .s (.x2 (.x0 .e)) (.alloc [V.int .i64 0, V.nilslice]),
    .s (.x3 (.x0 .e)) (.alloc [V.int .i64 0, V.int .i64 0]),
    .s (.x1 (.x0 .e)) (.asg (.t (.x8 (.x1 .e)))),
    .u (.st (some 2) (.t (.x2 (.x0 .e))) (.t (.x9 (.x1 .e)))),
    .u (.st (some 2) (.t (.x3 (.x0 .e))) (.t (.xa (.x1 .e))))])
  (.seq (.ops [.s (.xc (.x1 .e)) (.mv (.t (.x1 (.x0 .e)))),
    .s (.xd (.x1 .e)) (.call 13 [(.t (.xc (.x1 .e))), (.c (V.int .i64 59))]),
    .s (.xb (.x1 .e)) (.mv (.t (.xd (.x1 .e)))),
    .s (.xe (.x1 .e)) (.ext (.t (.xb (.x1 .e))) 0),
    .s (.xf (.x1 .e)) (.ext (.t (.xb (.x1 .e))) 1),
    .s (.x4 (.x0 .e)) (.asg (.t (.xe (.x1 .e)))),
    .s (.x5 (.x0 .e)) (.asg (.t (.xf (.x1 .e))))])
  (.seq (.ops [.s (.x1 (.x2 .e)) (.mv (.t (.x1 (.x0 .e)))),
    .s (.x2 (.x2 .e)) (.ld (some 2) (.t (.x3 (.x0 .e)))),
    .s (.x3 (.x2 .e)) (.call 15 [(.t (.x1 (.x2 .e))), (.t (.x2 (.x2 .e))), (.c (V.int .i64 104))]),
    .s (.x0 (.x2 .e)) (.mv (.t (.x3 (.x2 .e)))),
    .s (.x4 (.x2 .e)) (.ext (.t (.x0 (.x2 .e))) 0),
    .s (.x5 (.x2 .e)) (.ext (.t (.x0 (.x2 .e))) 1),
    .s (.x6 (.x0 .e)) (.asg (.t (.x4 (.x2 .e)))),
    .s (.x7 (.x0 .e)) (.asg (.t (.x5 (.x2 .e))))])
  (.seq (.ops [.s (.x7 (.x2 .e)) (.mv (.t (.x1 (.x0 .e)))),
    .s (.x8 (.x2 .e)) (.ld (some 2) (.t (.x3 (.x0 .e)))),
    .s (.x9 (.x2 .e)) (.call 21 [(.t (.x7 (.x2 .e))), (.t (.x8 (.x2 .e)))]),
    .s (.x6 (.x2 .e)) (.mv (.t (.x9 (.x2 .e)))),
    .s (.xa (.x2 .e)) (.ext (.t (.x6 (.x2 .e))) 0),
    .s (.xb (.x2 .e)) (.ext (.t (.x6 (.x2 .e))) 1),
    .s (.x8 (.x0 .e)) (.asg (.t (.xa (.x2 .e)))),
    .s (.x9 (.x0 .e)) (.asg (.t (.xb (.x2 .e))))])
  (.seq (.ops [.s (.xd (.x2 .e)) (.mv (.t (.x1 (.x0 .e)))),
    .s (.xe (.x2 .e)) (.mv (.t (.x1 (.x0 .e)))),
    .s (.xf (.x2 .e)) (.ld (some 2) (.t (.x3 (.x0 .e)))),
    .s (.x0 (.x3 .e)) (.call 19 [(.t (.xd (.x2 .e))), (.t (.xe (.x2 .e))), (.t (.xf (.x2 .e)))]),
    .s (.xc (.x2 .e)) (.mv (.t (.x0 (.x3 .e)))),
    .s (.x1 (.x3 .e)) (.ext (.t (.xc (.x2 .e))) 0),
    .s (.x2 (.x3 .e)) (.ext (.t (.xc (.x2 .e))) 1),
    .s (.xa (.x0 .e)) (.asg (.t (.x1 (.x3 .e)))),
    .s (.xb (.x0 .e)) (.asg (.t (.x2 (.x3 .e))))])
  (.seq (.ops [.s (.x4 (.x3 .e)) (.mv (.t (.x1 (.x0 .e)))),
    .s (.x5 (.x3 .e)) (.mv (.t (.x1 (.x0 .e)))),
    .s (.x6 (.x3 .e)) (.call 34 [(.c (V.int .i64 0)), (.c (V.int .i64 0))]),
    .s (.x7 (.x3 .e)) (.call 19 [(.t (.x4 (.x3 .e))), (.t (.x5 (.x3 .e))), (.t (.x6 (.x3 .e)))]),
    .s (.x3 (.x3 .e)) (.mv (.t (.x7 (.x3 .e)))),
    .s (.x8 (.x3 .e)) (.ext (.t (.x3 (.x3 .e))) 0),
    .s (.x9 (.x3 .e)) (.ext (.t (.x3 (.x3 .e))) 1),
    .s (.xc (.x0 .e)) (.asg (.t (.x8 (.x3 .e)))),
    .s (.xd (.x0 .e)) (.asg (.t (.x9 (.x3 .e))))])
  (.seq (.ops [.s (.xa (.x3 .e)) (.ld (some 2) (.t (.x2 (.x0 .e)))),
    .s (.xb (.x3 .e)) (.bslice 1 3 [V.int .i64 0] [(0, (.c (V.int .i64 0))), (1, (.c (V.int .i64 1))), (2, (.c (V.int .i64 0)))]),
    .s (.xc (.x3 .e)) (.bslice 1 3 [V.int .i64 0] [(0, (.c (V.int .i64 1))), (1, (.c (V.int .i64 0))), (2, (.c (V.int .i64 0)))]),
    .s (.xd (.x3 .e)) (.bslice 1 2 [V.nilslice] [(0, (.t (.xb (.x3 .e)))), (1, (.t (.xc (.x3 .e))))]),
    .s (.xe (.x3 .e)) (.call 27 [(.t (.xa (.x3 .e))), (.t (.xd (.x3 .e)))]),
    .s (.xe (.x0 .e)) (.asg (.t (.xe (.x3 .e))))])
  (.seq (.ops [.s (.xf (.x3 .e)) (.ld (some 2) (.t (.x2 (.x0 .e)))),
    .s (.x0 (.x4 .e)) (.bslice 1 3 [V.int .i64 0] [(0, (.c (V.int .i64 1))), (1, (.c (V.int .i64 1))), (2, (.c (V.int .i64 0)))]),
    .s (.x1 (.x4 .e)) (.bslice 1 3 [V.int .i64 0] [(0, (.c (V.int .i64 0))), (1, (.c (V.int .i64 0))), (2, (.c (V.int .i64 0)))]),
    .s (.x2 (.x4 .e)) (.bslice 1 2 [V.nilslice] [(0, (.t (.x0 (.x4 .e)))), (1, (.t (.x1 (.x4 .e))))]),
    .s (.x3 (.x4 .e)) (.call 27 [(.t (.xf (.x3 .e))), (.t (.x2 (.x4 .e)))]),
    .s (.xf (.x0 .e)) (.asg (.t (.x3 (.x4 .e))))])
  (.seq (.ops [.s (.x5 (.x4 .e)) (.ld (some 2) (.t (.x2 (.x0 .e)))),
    .s (.x6 (.x4 .e)) (.call 29 [(.t (.x5 (.x4 .e)))]),
    .s (.x4 (.x4 .e)) (.mv (.t (.x6 (.x4 .e)))),
    .s (.x7 (.x4 .e)) (.ext (.t (.x4 (.x4 .e))) 0),
    .s (.x8 (.x4 .e)) (.ext (.t (.x4 (.x4 .e))) 1),
    .s (.x0 (.x1 .e)) (.asg (.t (.x7 (.x4 .e)))),
    .s (.x1 (.x1 .e)) (.asg (.t (.x8 (.x4 .e))))])
  (.seq (.ops [.s (.xa (.x4 .e)) (.ld (some 2) (.t (.x2 (.x0 .e)))),
    .s (.xb (.x4 .e)) (.call 30 [(.t (.xa (.x4 .e))), (.c (V.int .i64 0)), (.c (V.int .i64 2)), (.c (V.bool true))]),
    .s (.x9 (.x4 .e)) (.mv (.t (.xb (.x4 .e)))),
    .s (.xc (.x4 .e)) (.ext (.t (.x9 (.x4 .e))) 0),
    .s (.xd (.x4 .e)) (.ext (.t (.x9 (.x4 .e))) 1),
    .s (.x2 (.x1 .e)) (.asg (.t (.xc (.x4 .e)))),
    .s (.x3 (.x1 .e)) (.asg (.t (.xd (.x4 .e))))])
  (.seq (.ops [.s (.xf (.x4 .e)) (.ld (some 2) (.t (.x2 (.x0 .e)))),
    .s (.x0 (.x5 .e)) (.call 30 [(.t (.xf (.x4 .e))), (.c (V.int .i64 1)), (.c (V.int .i64 2)), (.c (V.bool true))]),
    .s (.xe (.x4 .e)) (.mv (.t (.x0 (.x5 .e)))),
    .s (.x1 (.x5 .e)) (.ext (.t (.xe (.x4 .e))) 0),
    .s (.x2 (.x5 .e)) (.ext (.t (.xe (.x4 .e))) 1),
    .s (.x4 (.x1 .e)) (.asg (.t (.x1 (.x5 .e)))),
    .s (.x5 (.x1 .e)) (.asg (.t (.x2 (.x5 .e))))])
  (.seq (.ops [.s (.x4 (.x5 .e)) (.ld (some 2) (.t (.x2 (.x0 .e)))),
    .s (.x5 (.x5 .e)) (.call 44 [(.t (.x4 (.x5 .e)))]),
    .s (.x3 (.x5 .e)) (.mv (.t (.x5 (.x5 .e)))),
    .s (.x6 (.x5 .e)) (.ext (.t (.x3 (.x5 .e))) 0),
    .s (.x7 (.x5 .e)) (.ext (.t (.x3 (.x5 .e))) 1),
    .s (.x6 (.x1 .e)) (.asg (.t (.x6 (.x5 .e)))),
    .s (.x7 (.x1 .e)) (.asg (.t (.x7 (.x5 .e))))])
  (.seq (.ops [.s (.x8 (.x5 .e)) (.mv (.t (.x5 (.x0 .e)))),
    .s (.x9 (.x5 .e)) (.bin .eql (.t (.x8 (.x5 .e))) (.c (V.int .i64 0))),
    .s (.xa (.x5 .e)) (.mv (.t (.x9 (.x5 .e)))),
    .g (.xa (.x5 .e)) true (.xb (.x5 .e)) (.mv (.t (.x7 (.x0 .e)))),
    .g (.xa (.x5 .e)) true (.xc (.x5 .e)) (.bin .eql (.t (.xb (.x5 .e))) (.c (V.int .i64 0))),
    .s (.xd (.x5 .e)) (.pick (.t (.xa (.x5 .e))) (.t (.xc (.x5 .e))) (.c (V.bool false))),
    .s (.xe (.x5 .e)) (.mv (.t (.xd (.x5 .e)))),
    .g (.xe (.x5 .e)) true (.xf (.x5 .e)) (.mv (.t (.x9 (.x0 .e)))),
    .g (.xe (.x5 .e)) true (.x0 (.x6 .e)) (.bin .eql (.t (.xf (.x5 .e))) (.c (V.int .i64 0))),
    .s (.x1 (.x6 .e)) (.pick (.t (.xe (.x5 .e))) (.t (.x0 (.x6 .e))) (.c (V.bool false))),
    .s (.x2 (.x6 .e)) (.mv (.t (.x1 (.x6 .e)))),
    .g (.x2 (.x6 .e)) true (.x3 (.x6 .e)) (.mv (.t (.xb (.x0 .e)))),
    .g (.x2 (.x6 .e)) true (.x4 (.x6 .e)) (.bin .eql (.t (.x3 (.x6 .e))) (.c (V.int .i64 0))),
    .s (.x5 (.x6 .e)) (.pick (.t (.x2 (.x6 .e))) (.t (.x4 (.x6 .e))) (.c (V.bool false))),
    .s (.x6 (.x6 .e)) (.mv (.t (.x5 (.x6 .e)))),
    .g (.x6 (.x6 .e)) true (.x7 (.x6 .e)) (.mv (.t (.xd (.x0 .e)))),
    .g (.x6 (.x6 .e)) true (.x8 (.x6 .e)) (.bin .eql (.t (.x7 (.x6 .e))) (.c (V.int .i64 5))),
    .s (.x9 (.x6 .e)) (.pick (.t (.x6 (.x6 .e))) (.t (.x8 (.x6 .e))) (.c (V.bool false))),
    .s (.xa (.x6 .e)) (.mv (.t (.x9 (.x6 .e)))),
    .g (.xa (.x6 .e)) true (.xb (.x6 .e)) (.mv (.t (.xe (.x0 .e)))),
    .g (.xa (.x6 .e)) true (.xc (.x6 .e)) (.bin .eql (.t (.xb (.x6 .e))) (.c (V.int .i64 0))),
    .s (.xd (.x6 .e)) (.pick (.t (.xa (.x6 .e))) (.t (.xc (.x6 .e))) (.c (V.bool false))),
    .s (.xe (.x6 .e)) (.mv (.t (.xd (.x6 .e)))),
    .g (.xe (.x6 .e)) true (.xf (.x6 .e)) (.mv (.t (.xf (.x0 .e)))),
    .g (.xe (.x6 .e)) true (.x0 (.x7 .e)) (.bin .eql (.t (.xf (.x6 .e))) (.c (V.int .i64 16))),
    .s (.x1 (.x7 .e)) (.pick (.t (.xe (.x6 .e))) (.t (.x0 (.x7 .e))) (.c (V.bool false))),
    .s (.x2 (.x7 .e)) (.mv (.t (.x1 (.x7 .e)))),
    .g (.x2 (.x7 .e)) true (.x3 (.x7 .e)) (.mv (.t (.x1 (.x1 .e)))),
    .g (.x2 (.x7 .e)) true (.x4 (.x7 .e)) (.bin .eql (.t (.x3 (.x7 .e))) (.c (V.int .i64 0))),
    .s (.x5 (.x7 .e)) (.pick (.t (.x2 (.x7 .e))) (.t (.x4 (.x7 .e))) (.c (V.bool false))),
    .s (.x6 (.x7 .e)) (.mv (.t (.x5 (.x7 .e)))),
    .g (.x6 (.x7 .e)) true (.x7 (.x7 .e)) (.mv (.t (.x3 (.x1 .e)))),
    .g (.x6 (.x7 .e)) true (.x8 (.x7 .e)) (.bin .eql (.t (.x7 (.x7 .e))) (.c (V.int .i64 0))),
    .s (.x9 (.x7 .e)) (.pick (.t (.x6 (.x7 .e))) (.t (.x8 (.x7 .e))) (.c (V.bool false))),
    .s (.xa (.x7 .e)) (.mv (.t (.x9 (.x7 .e)))),
    .g (.xa (.x7 .e)) true (.xb (.x7 .e)) (.mv (.t (.x5 (.x1 .e)))),
    .g (.xa (.x7 .e)) true (.xc (.x7 .e)) (.bin .eql (.t (.xb (.x7 .e))) (.c (V.int .i64 5))),
    .s (.xd (.x7 .e)) (.pick (.t (.xa (.x7 .e))) (.t (.xc (.x7 .e))) (.c (V.bool false))),
    .s (.xe (.x7 .e)) (.mv (.t (.xd (.x7 .e)))),
    .g (.xe (.x7 .e)) true (.xf (.x7 .e)) (.mv (.t (.x7 (.x1 .e)))),
    .g (.xe (.x7 .e)) true (.x0 (.x8 .e)) (.bin .eql (.t (.xf (.x7 .e))) (.c (V.int .i64 0))),
    .s (.x1 (.x8 .e)) (.pick (.t (.xe (.x7 .e))) (.t (.x0 (.x8 .e))) (.c (V.bool false))),
    .s (.x2 (.x8 .e)) (.mv (.t (.x1 (.x8 .e)))),
    .g (.x2 (.x8 .e)) true (.x3 (.x8 .e)) (.mv (.t (.x4 (.x0 .e)))),
    .g (.x2 (.x8 .e)) true (.x4 (.x8 .e)) (.bin .eql (.t (.x3 (.x8 .e))) (.c (V.int .i64 180))),
    .s (.x5 (.x8 .e)) (.pick (.t (.x2 (.x8 .e))) (.t (.x4 (.x8 .e))) (.c (V.bool false))),
    .s (.x6 (.x8 .e)) (.mv (.t (.x5 (.x8 .e)))),
    .g (.x6 (.x8 .e)) true (.x7 (.x8 .e)) (.mv (.t (.x6 (.x0 .e)))),
    .g (.x6 (.x8 .e)) true (.x8 (.x8 .e)) (.bin .eql (.t (.x7 (.x8 .e))) (.c (V.int .i64 170))),
    .s (.x9 (.x8 .e)) (.pick (.t (.x6 (.x8 .e))) (.t (.x8 (.x8 .e))) (.c (V.bool false))),
    .s (.xa (.x8 .e)) (.mv (.t (.x9 (.x8 .e)))),
    .g (.xa (.x8 .e)) true (.xb (.x8 .e)) (.mv (.t (.x8 (.x0 .e)))),
    .g (.xa (.x8 .e)) true (.xc (.x8 .e)) (.call 35 [(.c (V.int .i64 0)), (.c (V.int .i64 180))]),
    .g (.xa (.x8 .e)) true (.xd (.x8 .e)) (.call 35 [(.c (V.int .i64 55)), (.c (V.int .i64 170))]),
    .g (.xa (.x8 .e)) true (.xe (.x8 .e)) (.call 35 [(.c (V.int .i64 105)), (.c (V.int .i64 185))]),
    .g (.xa (.x8 .e)) true (.xf (.x8 .e)) (.bslice 2 3 [V.int .i64 0, V.int .i64 0] [(0, (.t (.xc (.x8 .e)))), (1, (.t (.xd (.x8 .e)))), (2, (.t (.xe (.x8 .e))))]),
    .g (.xa (.x8 .e)) true (.x0 (.x9 .e)) (.call 23 [(.t (.xb (.x8 .e))), (.t (.xf (.x8 .e)))]),
    .s (.x1 (.x9 .e)) (.pick (.t (.xa (.x8 .e))) (.t (.x0 (.x9 .e))) (.c (V.bool false))),
    .s (.x2 (.x9 .e)) (.mv (.t (.x1 (.x9 .e)))),
    .g (.x2 (.x9 .e)) true (.x3 (.x9 .e)) (.mv (.t (.xa (.x0 .e)))),
    .g (.x2 (.x9 .e)) true (.x4 (.x9 .e)) (.bin .eql (.t (.x3 (.x9 .e))) (.c (V.int .i64 55))),
    .s (.x5 (.x9 .e)) (.pick (.t (.x2 (.x9 .e))) (.t (.x4 (.x9 .e))) (.c (V.bool false))),
    .s (.x6 (.x9 .e)) (.mv (.t (.x5 (.x9 .e)))),
    .g (.x6 (.x9 .e)) true (.x7 (.x9 .e)) (.ld (some 2) (.t (.x2 (.x0 .e)))),
    .g (.x6 (.x9 .e)) true (.x8 (.x9 .e)) (.mv (.t (.x0 (.x1 .e)))),
    .g (.x6 (.x9 .e)) true (.x9 (.x9 .e)) (.call 28 [(.t (.x7 (.x9 .e))), (.t (.x8 (.x9 .e)))]),
    .g (.x6 (.x9 .e)) true (.xa (.x9 .e)) (.bin .eql (.t (.x9 (.x9 .e))) (.c (V.int .i64 0))),
    .s (.xb (.x9 .e)) (.pick (.t (.x6 (.x9 .e))) (.t (.xa (.x9 .e))) (.c (V.bool false))),
    .s (.xc (.x9 .e)) (.mv (.t (.xb (.x9 .e)))),
    .g (.xc (.x9 .e)) true (.xd (.x9 .e)) (.mv (.t (.x2 (.x1 .e)))),
    .g (.xc (.x9 .e)) true (.xe (.x9 .e)) (.bslice 1 3 [V.int .i64 0] [(0, (.c (V.int .i64 0))), (1, (.c (V.int .i64 0))), (2, (.c (V.int .i64 1)))]),
    .g (.xc (.x9 .e)) true (.xf (.x9 .e)) (.bslice 1 3 [V.int .i64 0] [(0, (.c (V.int .i64 1))), (1, (.c (V.int .i64 0))), (2, (.c (V.int .i64 0)))]),
    .g (.xc (.x9 .e)) true (.x0 (.xa .e)) (.bslice 1 2 [V.nilslice] [(0, (.t (.xe (.x9 .e)))), (1, (.t (.xf (.x9 .e))))]),
    .g (.xc (.x9 .e)) true (.x1 (.xa .e)) (.call 45 [(.t (.xd (.x9 .e))), (.t (.x0 (.xa .e)))]),
    .s (.x2 (.xa .e)) (.pick (.t (.xc (.x9 .e))) (.t (.x1 (.xa .e))) (.c (V.bool false))),
    .s (.x3 (.xa .e)) (.mv (.t (.x2 (.xa .e)))),
    .g (.x3 (.xa .e)) true (.x4 (.xa .e)) (.ld (some 2) (.t (.x2 (.x0 .e)))),
    .g (.x3 (.xa .e)) true (.x5 (.xa .e)) (.mv (.t (.x6 (.x1 .e)))),
    .g (.x3 (.xa .e)) true (.x6 (.xa .e)) (.call 46 [(.t (.x4 (.xa .e))), (.t (.x5 (.xa .e)))]),
    .g (.x3 (.xa .e)) true (.x7 (.xa .e)) (.bin .eql (.t (.x6 (.xa .e))) (.c (V.int .i64 0))),
    .s (.x8 (.xa .e)) (.pick (.t (.x3 (.xa .e))) (.t (.x7 (.xa .e))) (.c (V.bool false))),
    .s (.x0 (.x0 .e)) (.asg (.t (.x8 (.xa .e))))])
  .ret))))))))))))))
def e12 : EF := { depth := 2, nargs := 0, results := [.t (.x0 (.x0 .e))], body := b12 }

/-- forecourt/pole.Price -/
def b13 : EC :=
  (.seq (.ops [.s (.x4 (.x0 .e)) (.asg (.c (V.int .i64 0))),
    .s (.x5 (.x0 .e)) (.asg (.c (V.int .i64 0)))])
  (.seq (.ops [.s (.x7 (.x0 .e)) (.mv (.t (.x0 (.x0 .e)))),
    .s (.x8 (.x0 .e)) (.call 17 [(.t (.x7 (.x0 .e)))]),
    .s (.x6 (.x0 .e)) (.asg (.t (.x8 (.x0 .e))))])
  (.seq (.blk 0 [(.x0 (.x0 .e)), (.x1 (.x0 .e))]
  (.seq (.ops [.s (.xa (.x0 .e)) (.mv (.t (.x6 (.x0 .e)))),
    .s (.xb (.x0 .e)) (.bin .neq (.t (.xa (.x0 .e))) (.c (V.int .i64 0))),
    .s (.x9 (.x0 .e)) (.asg (.t (.xb (.x0 .e))))])
  (.cond (.t (.x9 (.x0 .e)))
  (.seq (.ops [.s (.xc (.x0 .e)) (.mv (.t (.x6 (.x0 .e)))),
    .s (.x4 (.x0 .e)) (.asg (.c (V.int .i64 0))),
    .s (.x5 (.x0 .e)) (.asg (.t (.xc (.x0 .e))))])
  .ret)
  (.seq (.ops [.s (.xe (.x0 .e)) (.mv (.t (.x1 (.x0 .e)))),
    .s (.xf (.x0 .e)) (.bslice 1 1 [V.int .i64 0] [(0, (.t (.xe (.x0 .e))))]),
    .s (.x0 (.x1 .e)) (.call 47 [(.c (V.int .i64 0)), (.c (V.int .i64 2000)), (.t (.xf (.x0 .e)))]),
    .s (.x1 (.x1 .e)) (.un .not (.t (.x0 (.x1 .e)))),
    .s (.xd (.x0 .e)) (.asg (.t (.x1 (.x1 .e))))])
  (.cond (.t (.xd (.x0 .e)))
  (.seq (.ops [.s (.x4 (.x0 .e)) (.asg (.c (V.int .i64 0))),
    .s (.x5 (.x0 .e)) (.asg (.c (V.int .i64 3)))])
  .ret)
  .skip)))))
  (.seq (.ops [.s (.x2 (.x1 .e)) (.mv (.t (.x0 (.x0 .e)))),
    .s (.x3 (.x1 .e)) (.mv (.t (.x0 (.x0 .e)))),
    .s (.x4 (.x1 .e)) (.mv (.t (.x1 (.x0 .e)))),
    .s (.x5 (.x1 .e)) (.call 48 [(.t (.x3 (.x1 .e))), (.t (.x4 (.x1 .e)))]),
    .s (.x6 (.x1 .e)) (.ixs 2 (.t (.x2 (.x1 .e))) (.t (.x5 (.x1 .e)))),
    .s (.x7 (.x1 .e)) (.fadr 1 (.t (.x6 (.x1 .e)))),
    .s (.x8 (.x1 .e)) (.ld none (.t (.x7 (.x1 .e)))),
    .s (.x4 (.x0 .e)) (.asg (.t (.x8 (.x1 .e)))),
    .s (.x5 (.x0 .e)) (.asg (.c (V.int .i64 0)))])
  .ret))))
def e13 : EF := { depth := 2, nargs := 2, results := [.t (.x4 (.x0 .e)), .t (.x5 (.x0 .e))], body := b13 }

/-- forecourt/forecourtref09.Price -/
def b14 : EC :=
  (.seq (.ops [.s (.x4 (.x0 .e)) (.asg (.c (V.int .i64 0))),
    .s (.x5 (.x0 .e)) (.asg (.c (V.int .i64 0)))])
  (.seq (.seq (.ops [.s (.x6 (.x0 .e)) (.mv (.t (.x0 (.x0 .e)))),
    .s (.x7 (.x0 .e)) (.call 18 [(.t (.x6 (.x0 .e)))]),
    .s (.x8 (.x0 .e)) (.bin .neq (.t (.x7 (.x0 .e))) (.c (V.int .i64 0)))])
  (.cond (.t (.x8 (.x0 .e)))
  (.seq (.ops [.s (.x9 (.x0 .e)) (.mv (.t (.x0 (.x0 .e)))),
    .s (.xa (.x0 .e)) (.call 18 [(.t (.x9 (.x0 .e)))]),
    .s (.x4 (.x0 .e)) (.asg (.c (V.int .i64 0))),
    .s (.x5 (.x0 .e)) (.asg (.t (.xa (.x0 .e))))])
  .ret)
  .skip))
  (.seq (.seq (.ops [.s (.xb (.x0 .e)) (.mv (.t (.x1 (.x0 .e)))),
    .s (.xc (.x0 .e)) (.bin .lss (.t (.xb (.x0 .e))) (.c (V.int .i64 0))),
    .s (.xd (.x0 .e)) (.mv (.t (.xc (.x0 .e)))),
    .g (.xd (.x0 .e)) false (.xe (.x0 .e)) (.mv (.t (.x1 (.x0 .e)))),
    .g (.xd (.x0 .e)) false (.xf (.x0 .e)) (.bin .gtr (.t (.xe (.x0 .e))) (.c (V.int .i64 2000))),
    .s (.x0 (.x1 .e)) (.pick (.t (.xd (.x0 .e))) (.c (V.bool true)) (.t (.xf (.x0 .e))))])
  (.cond (.t (.x0 (.x1 .e)))
  (.seq (.ops [.s (.x4 (.x0 .e)) (.asg (.c (V.int .i64 0))),
    .s (.x5 (.x0 .e)) (.asg (.c (V.int .i64 3)))])
  .ret)
  .skip))
  (.seq (.ops [.s (.x1 (.x1 .e)) (.mv (.t (.x0 (.x0 .e)))),
    .s (.x2 (.x1 .e)) (.mv (.t (.x1 (.x0 .e)))),
    .s (.x3 (.x1 .e)) (.call 33 [(.t (.x1 (.x1 .e))), (.t (.x2 (.x1 .e)))]),
    .s (.x4 (.x0 .e)) (.asg (.t (.x3 (.x1 .e)))),
    .s (.x5 (.x0 .e)) (.asg (.c (V.int .i64 0)))])
  .ret))))
def e14 : EF := { depth := 2, nargs := 2, results := [.t (.x4 (.x0 .e)), .t (.x5 (.x0 .e))], body := b14 }

/-- forecourt/pole.Fair -/
def b15 : EC :=
  (.seq (.ops [.s (.x4 (.x0 .e)) (.box (.t (.x1 (.x0 .e)))),
    .s (.x6 (.x0 .e)) (.asg (.c (V.int .i64 0))),
    .s (.x7 (.x0 .e)) (.asg (.c (V.int .i64 0)))])
  (.seq (.ops [.s (.x9 (.x0 .e)) (.mv (.t (.x0 (.x0 .e)))),
    .s (.xa (.x0 .e)) (.ld (some 2) (.t (.x4 (.x0 .e)))),
    .s (.xb (.x0 .e)) (.call 49 [(.t (.x9 (.x0 .e))), (.t (.xa (.x0 .e)))]),
    .s (.x8 (.x0 .e)) (.asg (.t (.xb (.x0 .e))))])
  (.seq (.blk 0 [(.x0 (.x0 .e)), (.x2 (.x0 .e)), (.x4 (.x0 .e))]
  (.seq (.ops [.s (.xd (.x0 .e)) (.mv (.t (.x8 (.x0 .e)))),
    .s (.xe (.x0 .e)) (.bin .neq (.t (.xd (.x0 .e))) (.c (V.int .i64 0))),
    .s (.xc (.x0 .e)) (.asg (.t (.xe (.x0 .e))))])
  (.cond (.t (.xc (.x0 .e)))
  (.seq (.ops [.s (.xf (.x0 .e)) (.mv (.t (.x8 (.x0 .e)))),
    .s (.x6 (.x0 .e)) (.asg (.c (V.int .i64 0))),
    .s (.x7 (.x0 .e)) (.asg (.t (.xf (.x0 .e))))])
  .ret)
  (.seq (.ops [.s (.x1 (.x1 .e)) (.mv (.t (.x2 (.x0 .e)))),
    .s (.x2 (.x1 .e)) (.bslice 1 1 [V.int .i64 0] [(0, (.t (.x1 (.x1 .e))))]),
    .s (.x3 (.x1 .e)) (.call 47 [(.c (V.int .i64 0)), (.c (V.int .i64 2000)), (.t (.x2 (.x1 .e)))]),
    .s (.x4 (.x1 .e)) (.un .not (.t (.x3 (.x1 .e)))),
    .s (.x0 (.x1 .e)) (.asg (.t (.x4 (.x1 .e))))])
  (.cond (.t (.x0 (.x1 .e)))
  (.seq (.ops [.s (.x6 (.x0 .e)) (.asg (.c (V.int .i64 0))),
    .s (.x7 (.x0 .e)) (.asg (.c (V.int .i64 3)))])
  .ret)
  .skip)))))
  (.seq (.ops [.s (.x5 (.x1 .e)) (.mv (.t (.x0 (.x0 .e)))),
    .s (.x6 (.x1 .e)) (.ld (some 2) (.t (.x4 (.x0 .e)))),
    .s (.x7 (.x1 .e)) (.mv (.t (.x2 (.x0 .e)))),
    .s (.x8 (.x1 .e)) (.call 50 [(.t (.x5 (.x1 .e))), (.t (.x6 (.x1 .e))), (.t (.x7 (.x1 .e)))]),
    .s (.x6 (.x0 .e)) (.asg (.t (.x8 (.x1 .e)))),
    .s (.x7 (.x0 .e)) (.asg (.c (V.int .i64 0)))])
  .ret))))
def e15 : EF := { depth := 2, nargs := 3, results := [.t (.x6 (.x0 .e)), .t (.x7 (.x0 .e))], body := b15 }

/-- function 16, loop 0: live [0, 2, 4, 8, 9] -/
def M16_0 : List Pth := [(.x0 (.x0 .e)), (.x2 (.x0 .e)), (.x4 (.x0 .e)), (.x8 (.x0 .e)), (.x9 (.x0 .e))]
def L16_0 : EC :=
  (.seq (.seq (.ops [.s (.x2 (.x2 .e)) (.mv (.t (.x9 (.x0 .e)))),
    .s (.x3 (.x2 .e)) (.mv (.t (.x2 (.x0 .e)))),
    .s (.x4 (.x2 .e)) (.fadr 1 (.t (.x4 (.x0 .e)))),
    .s (.x5 (.x2 .e)) (.ld none (.t (.x4 (.x2 .e)))),
    .s (.x6 (.x2 .e)) (.bin .add (.t (.x3 (.x2 .e))) (.t (.x5 (.x2 .e)))),
    .s (.x7 (.x2 .e)) (.bin .leq (.t (.x2 (.x2 .e))) (.t (.x6 (.x2 .e))))])
  (.cond (.t (.x7 (.x2 .e)))
  .skip
  (.exit 0)))
  (.seq (.blk 1 [(.x0 (.x0 .e)), (.x2 (.x0 .e)), (.x4 (.x0 .e)), (.x8 (.x0 .e)), (.x9 (.x0 .e))]
  (.ops [.s (.xa (.x2 .e)) (.mv (.t (.x8 (.x0 .e)))),
    .s (.xb (.x2 .e)) (.mv (.t (.x0 (.x0 .e)))),
    .s (.xc (.x2 .e)) (.mv (.t (.x9 (.x0 .e)))),
    .s (.xd (.x2 .e)) (.call 33 [(.t (.xb (.x2 .e))), (.t (.xc (.x2 .e)))]),
    .s (.xe (.x2 .e)) (.min [(.t (.xa (.x2 .e))), (.t (.xd (.x2 .e)))]),
    .s (.x8 (.x0 .e)) (.asg (.t (.xe (.x2 .e))))]))
  (.ops [.s (.x8 (.x2 .e)) (.mv (.t (.x9 (.x0 .e)))),
    .s (.x9 (.x2 .e)) (.bin .add (.t (.x8 (.x2 .e))) (.c (V.int .i64 1))),
    .s (.x9 (.x0 .e)) (.asg (.t (.x9 (.x2 .e))))])))
/-- forecourt/forecourtref09.Fair -/
def b16 : EC :=
  (.seq (.ops [.s (.x4 (.x0 .e)) (.box (.t (.x1 (.x0 .e)))),
    .s (.x6 (.x0 .e)) (.asg (.c (V.int .i64 0))),
    .s (.x7 (.x0 .e)) (.asg (.c (V.int .i64 0)))])
  (.seq (.seq (.ops [.s (.xa (.x0 .e)) (.mv (.t (.x0 (.x0 .e)))),
    .s (.xb (.x0 .e)) (.call 18 [(.t (.xa (.x0 .e)))]),
    .s (.xc (.x0 .e)) (.bin .neq (.t (.xb (.x0 .e))) (.c (V.int .i64 0)))])
  (.cond (.t (.xc (.x0 .e)))
  (.seq (.ops [.s (.xd (.x0 .e)) (.mv (.t (.x0 (.x0 .e)))),
    .s (.xe (.x0 .e)) (.call 18 [(.t (.xd (.x0 .e)))]),
    .s (.x6 (.x0 .e)) (.asg (.c (V.int .i64 0))),
    .s (.x7 (.x0 .e)) (.asg (.t (.xe (.x0 .e))))])
  .ret)
  .skip))
  (.seq (.seq (.ops [.s (.xf (.x0 .e)) (.ld (some 2) (.t (.x4 (.x0 .e)))),
    .s (.x0 (.x1 .e)) (.call 36 [(.t (.xf (.x0 .e)))]),
    .s (.x1 (.x1 .e)) (.un .not (.t (.x0 (.x1 .e))))])
  (.cond (.t (.x1 (.x1 .e)))
  (.seq (.ops [.s (.x6 (.x0 .e)) (.asg (.c (V.int .i64 0))),
    .s (.x7 (.x0 .e)) (.asg (.c (V.int .i64 2)))])
  .ret)
  .skip))
  (.seq (.seq (.ops [.s (.x2 (.x1 .e)) (.mv (.t (.x2 (.x0 .e)))),
    .s (.x3 (.x1 .e)) (.bin .lss (.t (.x2 (.x1 .e))) (.c (V.int .i64 0))),
    .s (.x4 (.x1 .e)) (.mv (.t (.x3 (.x1 .e)))),
    .g (.x4 (.x1 .e)) false (.x5 (.x1 .e)) (.mv (.t (.x2 (.x0 .e)))),
    .g (.x4 (.x1 .e)) false (.x6 (.x1 .e)) (.bin .gtr (.t (.x5 (.x1 .e))) (.c (V.int .i64 2000))),
    .s (.x7 (.x1 .e)) (.pick (.t (.x4 (.x1 .e))) (.c (V.bool true)) (.t (.x6 (.x1 .e))))])
  (.cond (.t (.x7 (.x1 .e)))
  (.seq (.ops [.s (.x6 (.x0 .e)) (.asg (.c (V.int .i64 0))),
    .s (.x7 (.x0 .e)) (.asg (.c (V.int .i64 3)))])
  .ret)
  .skip))
  (.seq (.ops [.s (.x8 (.x1 .e)) (.mv (.t (.x0 (.x0 .e)))),
    .s (.x9 (.x1 .e)) (.mv (.t (.x2 (.x0 .e)))),
    .s (.xa (.x1 .e)) (.fadr 0 (.t (.x4 (.x0 .e)))),
    .s (.xb (.x1 .e)) (.ld none (.t (.xa (.x1 .e)))),
    .s (.xc (.x1 .e)) (.bin .add (.t (.x9 (.x1 .e))) (.t (.xb (.x1 .e)))),
    .s (.xd (.x1 .e)) (.call 33 [(.t (.x8 (.x1 .e))), (.t (.xc (.x1 .e)))]),
    .s (.x8 (.x0 .e)) (.asg (.t (.xd (.x1 .e))))])
  (.seq (.seq (.ops [.s (.xe (.x1 .e)) (.mv (.t (.x2 (.x0 .e)))),
    .s (.xf (.x1 .e)) (.fadr 0 (.t (.x4 (.x0 .e)))),
    .s (.x0 (.x2 .e)) (.ld none (.t (.xf (.x1 .e)))),
    .s (.x1 (.x2 .e)) (.bin .add (.t (.xe (.x1 .e))) (.t (.x0 (.x2 .e)))),
    .s (.x9 (.x0 .e)) (.asg (.t (.x1 (.x2 .e))))])
  (.blk 0 [(.x8 (.x0 .e))]
  (.loop M16_0 L16_0)))
  (.seq (.ops [.s (.xf (.x2 .e)) (.mv (.t (.x8 (.x0 .e)))),
    .s (.x6 (.x0 .e)) (.asg (.t (.xf (.x2 .e)))),
    .s (.x7 (.x0 .e)) (.asg (.c (V.int .i64 0)))])
  .ret)))))))
def e16 : EF := { depth := 2, nargs := 3, results := [.t (.x6 (.x0 .e)), .t (.x7 (.x0 .e))], body := b16 }

/-- function 17, loop 0: live [0, 3, 14, 15, 16] -/
def M17_0 : List Pth := [(.x0 (.x0 .e)), (.x3 (.x0 .e)), (.xe (.x0 .e)), (.xf (.x0 .e)), (.x0 (.x1 .e))]
def L17_0 : EC :=
  (.seq (.ops [.s (.x1 (.x1 .e)) (.bin .lss (.t (.x0 (.x1 .e))) (.t (.xf (.x0 .e))))])
  (.seq (.cond (.t (.x1 (.x1 .e)))
  .skip
  (.exit 0))
  (.seq (.blk 1 [(.x0 (.x0 .e)), (.x3 (.x0 .e)), (.xe (.x0 .e)), (.xf (.x0 .e)), (.x0 (.x1 .e))]
  (.seq (.ops [.s (.x2 (.x1 .e)) (.mv (.t (.x0 (.x1 .e)))),
    .s (.x3 (.x1 .e)) (.ixs 2 (.t (.xe (.x0 .e))) (.t (.x0 (.x1 .e)))),
    .s (.x4 (.x1 .e)) (.ld (some 2) (.t (.x3 (.x1 .e)))),
    .s (.x5 (.x0 .e)) (.alloc [V.int .i64 0, V.int .i64 0]),
    .s (.x4 (.x0 .e)) (.asg (.t (.x2 (.x1 .e)))),
    .u (.st (some 2) (.t (.x5 (.x0 .e))) (.t (.x4 (.x1 .e))))])
  (.seq (.seq (.ops [.s (.x5 (.x1 .e)) (.fadr 0 (.t (.x5 (.x0 .e)))),
    .s (.x6 (.x1 .e)) (.ld none (.t (.x5 (.x1 .e)))),
    .s (.x7 (.x1 .e)) (.mv (.t (.x3 (.x0 .e)))),
    .s (.x8 (.x1 .e)) (.bin .lss (.t (.x6 (.x1 .e))) (.t (.x7 (.x1 .e)))),
    .s (.x9 (.x1 .e)) (.mv (.t (.x8 (.x1 .e)))),
    .g (.x9 (.x1 .e)) false (.xa (.x1 .e)) (.mv (.t (.x4 (.x0 .e)))),
    .g (.x9 (.x1 .e)) false (.xb (.x1 .e)) (.bin .eql (.t (.xa (.x1 .e))) (.c (V.int .i64 0))),
    .g (.x9 (.x1 .e)) false (.xc (.x1 .e)) (.mv (.t (.xb (.x1 .e)))),
    .g (.xc (.x1 .e)) true (.xd (.x1 .e)) (.fadr 0 (.t (.x5 (.x0 .e)))),
    .g (.xc (.x1 .e)) true (.xe (.x1 .e)) (.ld none (.t (.xd (.x1 .e)))),
    .g (.xc (.x1 .e)) true (.xf (.x1 .e)) (.bin .gtr (.t (.xe (.x1 .e))) (.c (V.int .i64 0))),
    .g (.x9 (.x1 .e)) false (.x0 (.x2 .e)) (.pick (.t (.xc (.x1 .e))) (.t (.xf (.x1 .e))) (.c (V.bool false))),
    .s (.x1 (.x2 .e)) (.pick (.t (.x9 (.x1 .e))) (.c (V.bool true)) (.t (.x0 (.x2 .e)))),
    .s (.x2 (.x2 .e)) (.mv (.t (.x1 (.x2 .e)))),
    .g (.x2 (.x2 .e)) false (.x3 (.x2 .e)) (.fadr 0 (.t (.x5 (.x0 .e)))),
    .g (.x2 (.x2 .e)) false (.x4 (.x2 .e)) (.ld none (.t (.x3 (.x2 .e)))),
    .g (.x2 (.x2 .e)) false (.x5 (.x2 .e)) (.bin .gtr (.t (.x4 (.x2 .e))) (.c (V.int .i64 2000))),
    .s (.x6 (.x2 .e)) (.pick (.t (.x2 (.x2 .e))) (.c (V.bool true)) (.t (.x5 (.x2 .e))))])
  (.cond (.t (.x6 (.x2 .e)))
  (.seq (.ops [.s (.x2 (.x0 .e)) (.asg (.c (V.int .i64 3)))])
  .ret)
  .skip))
  (.ops [.s (.x7 (.x2 .e)) (.fadr 0 (.t (.x5 (.x0 .e)))),
    .s (.x8 (.x2 .e)) (.ld none (.t (.x7 (.x2 .e)))),
    .s (.x9 (.x2 .e)) (.bin .add (.t (.x8 (.x2 .e))) (.c (V.int .i64 1))),
    .s (.x3 (.x0 .e)) (.asg (.t (.x9 (.x2 .e))))]))))
  (.ops [.s (.xa (.x2 .e)) (.bin .add (.t (.x0 (.x1 .e))) (.c (V.int .i64 1))),
    .s (.x0 (.x1 .e)) (.mv (.t (.xa (.x2 .e))))]))))
/-- forecourt/pole.CheckSign -/
def b17 : EC :=
  (.seq (.ops [.s (.x2 (.x0 .e)) (.asg (.c (V.int .i64 0)))])
  (.seq (.seq (.ops [.s (.x6 (.x0 .e)) (.mv (.t (.x0 (.x0 .e)))),
    .s (.x7 (.x0 .e)) (.len (.t (.x6 (.x0 .e)))),
    .s (.x8 (.x0 .e)) (.bin .eql (.t (.x7 (.x0 .e))) (.c (V.int .i64 0))),
    .s (.x9 (.x0 .e)) (.mv (.t (.x8 (.x0 .e)))),
    .g (.x9 (.x0 .e)) false (.xa (.x0 .e)) (.mv (.t (.x0 (.x0 .e)))),
    .g (.x9 (.x0 .e)) false (.xb (.x0 .e)) (.len (.t (.xa (.x0 .e)))),
    .g (.x9 (.x0 .e)) false (.xc (.x0 .e)) (.bin .gtr (.t (.xb (.x0 .e))) (.c (V.int .i64 30))),
    .s (.xd (.x0 .e)) (.pick (.t (.x9 (.x0 .e))) (.c (V.bool true)) (.t (.xc (.x0 .e))))])
  (.cond (.t (.xd (.x0 .e)))
  (.seq (.ops [.s (.x2 (.x0 .e)) (.asg (.c (V.int .i64 6)))])
  .ret)
  .skip))
  (.seq (.ops [.s (.x3 (.x0 .e)) (.asg (.c (V.int .i64 0)))])
  (.seq (.seq (.ops [.s (.xe (.x0 .e)) (.mv (.t (.x0 (.x0 .e)))),
    .s (.xf (.x0 .e)) (.len (.t (.xe (.x0 .e)))),
    .s (.x0 (.x1 .e)) (.mv (.c (V.int .i64 0)))])
  (.blk 0 [(.x0 (.x0 .e))]
  (.loop M17_0 L17_0)))
  (.seq (.seq (.ops [.s (.xb (.x2 .e)) (.mv (.t (.x0 (.x0 .e)))),
    .s (.xc (.x2 .e)) (.call 51 [(.t (.xb (.x2 .e))), (.c (V.func 52 [] []))])])
  (.cond (.t (.xc (.x2 .e)))
  (.seq (.ops [.s (.x2 (.x0 .e)) (.asg (.c (V.int .i64 22)))])
  .ret)
  .skip))
  (.seq (.ops [.s (.x2 (.x0 .e)) (.asg (.c (V.int .i64 0)))])
  .ret))))))
def e17 : EF := { depth := 2, nargs := 1, results := [.t (.x2 (.x0 .e))], body := b17 }

/-- function 18, loop 0: live [0, 3] -/
def M18_0 : List Pth := [(.x0 (.x0 .e)), (.x3 (.x0 .e))]
def L18_0 : EC :=
  (.seq (.seq (.ops [.s (.xd (.x0 .e)) (.mv (.t (.x3 (.x0 .e)))),
    .s (.xe (.x0 .e)) (.mv (.t (.x0 (.x0 .e)))),
    .s (.xf (.x0 .e)) (.len (.t (.xe (.x0 .e)))),
    .s (.x0 (.x1 .e)) (.bin .lss (.t (.xd (.x0 .e))) (.t (.xf (.x0 .e))))])
  (.cond (.t (.x0 (.x1 .e)))
  .skip
  (.exit 0)))
  (.seq (.blk 1 [(.x0 (.x0 .e)), (.x3 (.x0 .e))]
  (.seq (.draw [0, 1, 2, 3, 4, 5, 6, 7, 8, 9, 10, 11, 12, 13, 14, 15, 16, 17, 18, 19, 20, 21, 22, 23, 24, 25, 26, 27, 28, 29, 30, 31, 32, 33, 34, 35] [0, 1, 3, 7, 7, 31, 63, 127, 255, 511, 1023, 2047, 4095, 8191, 16383, 16383, 65535, 131071, 262143, 16383, 16383, 1064959, 3686399, 7880703, 16269311, 33554431, 67108863, 134217727, 268435455, 536870911, 536870911, 2147483647, 4294967295, 8589934591, 17179869183, 34359738367] [.s (.x3 (.x1 .e)) (.mv (.t (.x3 (.x0 .e)))),
    .s (.x4 (.x1 .e)) (.bin .eql (.t (.x3 (.x1 .e))) (.c (V.int .i64 0))),
    .s (.x5 (.x1 .e)) (.mv (.t (.x4 (.x1 .e)))),
    .g (.x5 (.x1 .e)) true (.x6 (.x1 .e)) (.mv (.t (.x0 (.x0 .e)))),
    .g (.x5 (.x1 .e)) true (.x7 (.x1 .e)) (.mv (.t (.x3 (.x0 .e)))),
    .g (.x5 (.x1 .e)) true (.x8 (.x1 .e)) (.ixs 2 (.t (.x6 (.x1 .e))) (.t (.x7 (.x1 .e)))),
    .g (.x5 (.x1 .e)) true (.x9 (.x1 .e)) (.fadr 0 (.t (.x8 (.x1 .e)))),
    .g (.x5 (.x1 .e)) true (.xa (.x1 .e)) (.ld none (.t (.x9 (.x1 .e)))),
    .g (.x5 (.x1 .e)) true (.xb (.x1 .e)) (.bin .neq (.t (.xa (.x1 .e))) (.c (V.int .i64 0))),
    .s (.xc (.x1 .e)) (.pick (.t (.x5 (.x1 .e))) (.t (.xb (.x1 .e))) (.c (V.bool false))),
    .s (.xd (.x1 .e)) (.mv (.t (.xc (.x1 .e)))),
    .g (.xd (.x1 .e)) false (.xe (.x1 .e)) (.mv (.t (.x3 (.x0 .e)))),
    .g (.xd (.x1 .e)) false (.xf (.x1 .e)) (.bin .gtr (.t (.xe (.x1 .e))) (.c (V.int .i64 0))),
    .g (.xd (.x1 .e)) false (.x0 (.x2 .e)) (.mv (.t (.xf (.x1 .e)))),
    .g (.x0 (.x2 .e)) true (.x1 (.x2 .e)) (.mv (.t (.x0 (.x0 .e)))),
    .g (.x0 (.x2 .e)) true (.x2 (.x2 .e)) (.mv (.t (.x3 (.x0 .e)))),
    .g (.x0 (.x2 .e)) true (.x3 (.x2 .e)) (.ixs 2 (.t (.x1 (.x2 .e))) (.t (.x2 (.x2 .e)))),
    .g (.x0 (.x2 .e)) true (.x4 (.x2 .e)) (.fadr 0 (.t (.x3 (.x2 .e)))),
    .g (.x0 (.x2 .e)) true (.x5 (.x2 .e)) (.ld none (.t (.x4 (.x2 .e)))),
    .g (.x0 (.x2 .e)) true (.x6 (.x2 .e)) (.mv (.t (.x0 (.x0 .e)))),
    .g (.x0 (.x2 .e)) true (.x7 (.x2 .e)) (.mv (.t (.x3 (.x0 .e)))),
    .g (.x0 (.x2 .e)) true (.x8 (.x2 .e)) (.bin .sub (.t (.x7 (.x2 .e))) (.c (V.int .i64 1))),
    .g (.x0 (.x2 .e)) true (.x9 (.x2 .e)) (.ixs 2 (.t (.x6 (.x2 .e))) (.t (.x8 (.x2 .e)))),
    .g (.x0 (.x2 .e)) true (.xa (.x2 .e)) (.fadr 0 (.t (.x9 (.x2 .e)))),
    .g (.x0 (.x2 .e)) true (.xb (.x2 .e)) (.ld none (.t (.xa (.x2 .e)))),
    .g (.x0 (.x2 .e)) true (.xc (.x2 .e)) (.bin .leq (.t (.x5 (.x2 .e))) (.t (.xb (.x2 .e)))),
    .g (.xd (.x1 .e)) false (.xd (.x2 .e)) (.pick (.t (.x0 (.x2 .e))) (.t (.xc (.x2 .e))) (.c (V.bool false))),
    .s (.xe (.x2 .e)) (.pick (.t (.xd (.x1 .e))) (.c (V.bool true)) (.t (.xd (.x2 .e)))),
    .s (.xf (.x2 .e)) (.mv (.t (.xe (.x2 .e)))),
    .g (.xf (.x2 .e)) false (.x0 (.x3 .e)) (.mv (.t (.x0 (.x0 .e)))),
    .g (.xf (.x2 .e)) false (.x1 (.x3 .e)) (.mv (.t (.x3 (.x0 .e)))),
    .g (.xf (.x2 .e)) false (.x2 (.x3 .e)) (.ixs 2 (.t (.x0 (.x3 .e))) (.t (.x1 (.x3 .e)))),
    .g (.xf (.x2 .e)) false (.x3 (.x3 .e)) (.fadr 0 (.t (.x2 (.x3 .e)))),
    .g (.xf (.x2 .e)) false (.x4 (.x3 .e)) (.ld none (.t (.x3 (.x3 .e)))),
    .g (.xf (.x2 .e)) false (.x5 (.x3 .e)) (.bin .gtr (.t (.x4 (.x3 .e))) (.c (V.int .i64 2000))),
    .s (.x6 (.x3 .e)) (.pick (.t (.xf (.x2 .e))) (.c (V.bool true)) (.t (.x5 (.x3 .e))))])
  (.cond (.t (.x6 (.x3 .e)))
  (.seq (.ops [.s (.x2 (.x0 .e)) (.asg (.c (V.int .i64 3)))])
  .ret)
  .skip)))
  (.ops [.s (.x1 (.x1 .e)) (.mv (.t (.x3 (.x0 .e)))),
    .s (.x2 (.x1 .e)) (.bin .add (.t (.x1 (.x1 .e))) (.c (V.int .i64 1))),
    .s (.x3 (.x0 .e)) (.asg (.t (.x2 (.x1 .e))))])))
/-- function 18, loop 1: live [0, 4] -/
def M18_1 : List Pth := [(.x0 (.x0 .e)), (.x4 (.x0 .e))]
def L18_1 : EC :=
  (.seq (.seq (.ops [.s (.x7 (.x3 .e)) (.mv (.t (.x4 (.x0 .e)))),
    .s (.x8 (.x3 .e)) (.mv (.t (.x0 (.x0 .e)))),
    .s (.x9 (.x3 .e)) (.len (.t (.x8 (.x3 .e)))),
    .s (.xa (.x3 .e)) (.bin .lss (.t (.x7 (.x3 .e))) (.t (.x9 (.x3 .e))))])
  (.cond (.t (.xa (.x3 .e)))
  .skip
  (.exit 2)))
  (.seq (.blk 3 [(.x0 (.x0 .e)), (.x4 (.x0 .e))]
  (.seq (.ops [.s (.xd (.x3 .e)) (.mv (.t (.x0 (.x0 .e)))),
    .s (.xe (.x3 .e)) (.mv (.t (.x4 (.x0 .e)))),
    .s (.xf (.x3 .e)) (.ixs 2 (.t (.xd (.x3 .e))) (.t (.xe (.x3 .e)))),
    .s (.x0 (.x4 .e)) (.fadr 1 (.t (.xf (.x3 .e)))),
    .s (.x1 (.x4 .e)) (.ld none (.t (.x0 (.x4 .e)))),
    .s (.x2 (.x4 .e)) (.bin .lss (.t (.x1 (.x4 .e))) (.c (V.int .i64 1))),
    .s (.x3 (.x4 .e)) (.mv (.t (.x2 (.x4 .e)))),
    .g (.x3 (.x4 .e)) false (.x4 (.x4 .e)) (.mv (.t (.x0 (.x0 .e)))),
    .g (.x3 (.x4 .e)) false (.x5 (.x4 .e)) (.mv (.t (.x4 (.x0 .e)))),
    .g (.x3 (.x4 .e)) false (.x6 (.x4 .e)) (.ixs 2 (.t (.x4 (.x4 .e))) (.t (.x5 (.x4 .e)))),
    .g (.x3 (.x4 .e)) false (.x7 (.x4 .e)) (.fadr 1 (.t (.x6 (.x4 .e)))),
    .g (.x3 (.x4 .e)) false (.x8 (.x4 .e)) (.ld none (.t (.x7 (.x4 .e)))),
    .g (.x3 (.x4 .e)) false (.x9 (.x4 .e)) (.bin .gtr (.t (.x8 (.x4 .e))) (.c (V.int .i64 100000))),
    .s (.xa (.x4 .e)) (.pick (.t (.x3 (.x4 .e))) (.c (V.bool true)) (.t (.x9 (.x4 .e))))])
  (.cond (.t (.xa (.x4 .e)))
  (.seq (.ops [.s (.x2 (.x0 .e)) (.asg (.c (V.int .i64 22)))])
  .ret)
  .skip)))
  (.ops [.s (.xb (.x3 .e)) (.mv (.t (.x4 (.x0 .e)))),
    .s (.xc (.x3 .e)) (.bin .add (.t (.xb (.x3 .e))) (.c (V.int .i64 1))),
    .s (.x4 (.x0 .e)) (.asg (.t (.xc (.x3 .e))))])))
/-- forecourt/forecourtref09.CheckSign -/
def b18 : EC :=
  (.seq (.ops [.s (.x2 (.x0 .e)) (.asg (.c (V.int .i64 0)))])
  (.seq (.seq (.ops [.s (.x5 (.x0 .e)) (.mv (.t (.x0 (.x0 .e)))),
    .s (.x6 (.x0 .e)) (.len (.t (.x5 (.x0 .e)))),
    .s (.x7 (.x0 .e)) (.bin .lss (.t (.x6 (.x0 .e))) (.c (V.int .i64 1))),
    .s (.x8 (.x0 .e)) (.mv (.t (.x7 (.x0 .e)))),
    .g (.x8 (.x0 .e)) false (.x9 (.x0 .e)) (.mv (.t (.x0 (.x0 .e)))),
    .g (.x8 (.x0 .e)) false (.xa (.x0 .e)) (.len (.t (.x9 (.x0 .e)))),
    .g (.x8 (.x0 .e)) false (.xb (.x0 .e)) (.bin .gtr (.t (.xa (.x0 .e))) (.c (V.int .i64 30))),
    .s (.xc (.x0 .e)) (.pick (.t (.x8 (.x0 .e))) (.c (V.bool true)) (.t (.xb (.x0 .e))))])
  (.cond (.t (.xc (.x0 .e)))
  (.seq (.ops [.s (.x2 (.x0 .e)) (.asg (.c (V.int .i64 6)))])
  .ret)
  .skip))
  (.seq (.seq (.ops [.s (.x3 (.x0 .e)) (.asg (.c (V.int .i64 0)))])
  (.blk 0 [(.x0 (.x0 .e))]
  (.loop M18_0 L18_0)))
  (.seq (.seq (.ops [.s (.x4 (.x0 .e)) (.asg (.c (V.int .i64 0)))])
  (.blk 2 []
  (.loop M18_1 L18_1)))
  (.seq (.ops [.s (.x2 (.x0 .e)) (.asg (.c (V.int .i64 0)))])
  .ret)))))
def e18 : EF := { depth := 2, nargs := 1, results := [.t (.x2 (.x0 .e))], body := b18 }

/-- function 19, loop 0: live [3, 4, 5, 11, 35, 36, 37] -/
def M19_0 : List Pth := [(.x3 (.x0 .e)), (.x4 (.x0 .e)), (.x5 (.x0 .e)), (.xb (.x0 .e)), (.x3 (.x2 .e)), (.x4 (.x2 .e)), (.x5 (.x2 .e))]
def L19_0 : EC :=
  (.seq (.ops [.s (.x6 (.x2 .e)) (.bin .lss (.t (.x5 (.x2 .e))) (.t (.x4 (.x2 .e))))])
  (.seq (.cond (.t (.x6 (.x2 .e)))
  .skip
  (.exit 0))
  (.seq (.blk 1 [(.x3 (.x0 .e)), (.x4 (.x0 .e)), (.x5 (.x0 .e)), (.xb (.x0 .e)), (.x3 (.x2 .e)), (.x4 (.x2 .e)), (.x5 (.x2 .e))]
  (.seq (.ops [.s (.x7 (.x2 .e)) (.ixs 2 (.t (.x3 (.x2 .e))) (.t (.x5 (.x2 .e)))),
    .s (.x8 (.x2 .e)) (.ld (some 2) (.t (.x7 (.x2 .e)))),
    .s (.xd (.x0 .e)) (.alloc [V.int .i64 0, V.int .i64 0]),
    .u (.st (some 2) (.t (.xd (.x0 .e))) (.t (.x8 (.x2 .e))))])
  (.ops [.s (.x9 (.x2 .e)) (.mv (.t (.xb (.x0 .e)))),
    .s (.xa (.x2 .e)) (.fadr 0 (.t (.xd (.x0 .e)))),
    .s (.xb (.x2 .e)) (.ld none (.t (.xa (.x2 .e)))),
    .s (.xc (.x2 .e)) (.bslice 1 1 [V.int .i64 0] [(0, (.t (.xb (.x2 .e))))]),
    .s (.xd (.x2 .e)) (.app 1 8 (.t (.x9 (.x2 .e))) (.t (.xc (.x2 .e)))),
    .s (.xb (.x0 .e)) (.asg (.t (.xd (.x2 .e))))])))
  (.ops [.s (.xe (.x2 .e)) (.bin .add (.t (.x5 (.x2 .e))) (.c (V.int .i64 1))),
    .s (.x5 (.x2 .e)) (.mv (.t (.xe (.x2 .e))))]))))
/-- forecourt/pole.Cheat -/
def b19 : EC :=
  (.seq (.ops [.s (.x3 (.x0 .e)) (.box (.t (.x0 (.x0 .e)))),
    .s (.x4 (.x0 .e)) (.box (.t (.x1 (.x0 .e)))),
    .s (.x5 (.x0 .e)) (.box (.t (.x2 (.x0 .e)))),
    .s (.x6 (.x0 .e)) (.asg (.c (V.int .i64 0))),
    .s (.x7 (.x0 .e)) (.asg (.c (V.int .i64 0)))])
  (.seq (.seq (.ops [.s (.x0 (.x1 .e)) (.ld none (.t (.x3 (.x0 .e)))),
    .s (.x1 (.x1 .e)) (.call 17 [(.t (.x0 (.x1 .e)))]),
    .s (.x8 (.x0 .e)) (.asg (.t (.x1 (.x1 .e))))])
  (.seq (.ops [.s (.x2 (.x1 .e)) (.mv (.t (.x8 (.x0 .e)))),
    .s (.x3 (.x1 .e)) (.bin .neq (.t (.x2 (.x1 .e))) (.c (V.int .i64 0)))])
  (.cond (.t (.x3 (.x1 .e)))
  (.seq (.ops [.s (.x4 (.x1 .e)) (.mv (.t (.x8 (.x0 .e)))),
    .s (.x6 (.x0 .e)) (.asg (.c (V.int .i64 0))),
    .s (.x7 (.x0 .e)) (.asg (.t (.x4 (.x1 .e))))])
  .ret)
  .skip)))
  (.seq (.seq (.ops [.s (.x5 (.x1 .e)) (.ld none (.t (.x4 (.x0 .e)))),
    .s (.x6 (.x1 .e)) (.call 17 [(.t (.x5 (.x1 .e)))]),
    .s (.x9 (.x0 .e)) (.asg (.t (.x6 (.x1 .e))))])
  (.seq (.ops [.s (.x7 (.x1 .e)) (.mv (.t (.x9 (.x0 .e)))),
    .s (.x8 (.x1 .e)) (.bin .neq (.t (.x7 (.x1 .e))) (.c (V.int .i64 0)))])
  (.cond (.t (.x8 (.x1 .e)))
  (.seq (.ops [.s (.x9 (.x1 .e)) (.mv (.t (.x9 (.x0 .e)))),
    .s (.x6 (.x0 .e)) (.asg (.c (V.int .i64 0))),
    .s (.x7 (.x0 .e)) (.asg (.t (.x9 (.x1 .e))))])
  .ret)
  .skip)))
  (.seq (.seq (.ops [.s (.xa (.x1 .e)) (.ld none (.t (.x3 (.x0 .e)))),
    .s (.xb (.x1 .e)) (.ld (some 2) (.t (.x5 (.x0 .e)))),
    .s (.xc (.x1 .e)) (.call 49 [(.t (.xa (.x1 .e))), (.t (.xb (.x1 .e)))]),
    .s (.xa (.x0 .e)) (.asg (.t (.xc (.x1 .e))))])
  (.seq (.ops [.s (.xd (.x1 .e)) (.mv (.t (.xa (.x0 .e)))),
    .s (.xe (.x1 .e)) (.bin .neq (.t (.xd (.x1 .e))) (.c (V.int .i64 0)))])
  (.cond (.t (.xe (.x1 .e)))
  (.seq (.ops [.s (.xf (.x1 .e)) (.mv (.t (.xa (.x0 .e)))),
    .s (.x6 (.x0 .e)) (.asg (.c (V.int .i64 0))),
    .s (.x7 (.x0 .e)) (.asg (.t (.xf (.x1 .e))))])
  .ret)
  .skip)))
  (.seq (.ops [.s (.x0 (.x2 .e)) (.ld none (.t (.x3 (.x0 .e)))),
    .s (.x1 (.x2 .e)) (.ld (some 2) (.t (.x5 (.x0 .e)))),
    .s (.x2 (.x2 .e)) (.call 53 [(.t (.x0 (.x2 .e))), (.t (.x1 (.x2 .e)))]),
    .s (.xb (.x0 .e)) (.asg (.t (.x2 (.x2 .e))))])
  (.seq (.seq (.ops [.s (.x3 (.x2 .e)) (.ld none (.t (.x4 (.x0 .e)))),
    .s (.x4 (.x2 .e)) (.len (.t (.x3 (.x2 .e)))),
    .s (.x5 (.x2 .e)) (.mv (.c (V.int .i64 0)))])
  (.blk 0 [(.x3 (.x0 .e)), (.x4 (.x0 .e)), (.x5 (.x0 .e)), (.xb (.x0 .e))]
  (.loop M19_0 L19_0)))
  (.seq (.ops [.s (.xf (.x2 .e)) (.mv (.t (.xb (.x0 .e)))),
    .s (.x0 (.x3 .e)) (.call 54 [(.t (.xf (.x2 .e)))])])
  (.seq (.ops [.s (.x1 (.x3 .e)) (.mkfn 55 [] [(.t (.x4 (.x0 .e))), (.t (.x3 (.x0 .e))), (.t (.x5 (.x0 .e)))]),
    .s (.xe (.x0 .e)) (.asg (.t (.x1 (.x3 .e))))])
  (.seq (.ops [.s (.x2 (.x3 .e)) (.mv (.t (.xb (.x0 .e)))),
    .s (.x3 (.x3 .e)) (.mv (.t (.xe (.x0 .e)))),
    .s (.x4 (.x3 .e)) (.call 56 [(.t (.x2 (.x3 .e))), (.t (.x3 (.x3 .e)))]),
    .s (.xf (.x0 .e)) (.asg (.t (.x4 (.x3 .e))))])
  (.seq (.seq (.ops [.s (.x5 (.x3 .e)) (.mv (.t (.xf (.x0 .e)))),
    .s (.x6 (.x3 .e)) (.bin .lss (.t (.x5 (.x3 .e))) (.c (V.int .i64 0)))])
  (.cond (.t (.x6 (.x3 .e)))
  (.seq (.ops [.s (.x6 (.x0 .e)) (.asg (.c (V.int .i64 0))),
    .s (.x7 (.x0 .e)) (.asg (.c (V.int .i64 5)))])
  .ret)
  .skip))
  (.seq (.ops [.s (.x7 (.x3 .e)) (.mv (.t (.xb (.x0 .e)))),
    .s (.x8 (.x3 .e)) (.mv (.t (.xf (.x0 .e)))),
    .s (.x9 (.x3 .e)) (.ixs 1 (.t (.x7 (.x3 .e))) (.t (.x8 (.x3 .e)))),
    .s (.xa (.x3 .e)) (.ld none (.t (.x9 (.x3 .e)))),
    .s (.x6 (.x0 .e)) (.asg (.t (.xa (.x3 .e)))),
    .s (.x7 (.x0 .e)) (.asg (.c (V.int .i64 0)))])
  .ret)))))))))))
def e19 : EF := { depth := 2, nargs := 3, results := [.t (.x6 (.x0 .e)), .t (.x7 (.x0 .e))], body := b19 }

/-- function 20, loop 0: live [1, 8, 9] -/
def M20_0 : List Pth := [(.x1 (.x0 .e)), (.x8 (.x0 .e)), (.x9 (.x0 .e))]
def L20_0 : EC :=
  (.seq (.seq (.ops [.s (.xa (.x1 .e)) (.mv (.t (.x9 (.x0 .e)))),
    .s (.xb (.x1 .e)) (.bin .leq (.t (.xa (.x1 .e))) (.c (V.int .i64 2000)))])
  (.cond (.t (.xb (.x1 .e)))
  .skip
  (.exit 0)))
  (.seq (.blk 1 [(.x1 (.x0 .e)), (.x8 (.x0 .e)), (.x9 (.x0 .e))]
  (.seq (.draw [0, 1, 3, 4, 5, 6, 2, 7] [0, 0, 0, 0, 12, 28, 3, 127] [.s (.xe (.x1 .e)) (.mv (.t (.x1 (.x0 .e)))),
    .s (.xf (.x1 .e)) (.mv (.t (.x9 (.x0 .e)))),
    .s (.x1 (.x2 .e)) (.mv (.t (.x8 (.x0 .e)))),
    .s (.x2 (.x2 .e)) (.mv (.t (.x9 (.x0 .e)))),
    .s (.x3 (.x2 .e)) (.ixs 1 (.t (.x1 (.x2 .e))) (.t (.x2 (.x2 .e)))),
    .s (.x4 (.x2 .e)) (.ld none (.t (.x3 (.x2 .e)))),
    .s (.x0 (.x2 .e)) (.call 33 [(.t (.xe (.x1 .e))), (.t (.xf (.x1 .e)))]),
    .s (.x5 (.x2 .e)) (.bin .gtr (.t (.x0 (.x2 .e))) (.t (.x4 (.x2 .e))))])
  (.cond (.t (.x5 (.x2 .e)))
  (.seq (.ops [.s (.x6 (.x2 .e)) (.mv (.t (.x9 (.x0 .e)))),
    .s (.x6 (.x0 .e)) (.asg (.t (.x6 (.x2 .e)))),
    .s (.x7 (.x0 .e)) (.asg (.c (V.int .i64 0)))])
  .ret)
  .skip)))
  (.ops [.s (.xc (.x1 .e)) (.mv (.t (.x9 (.x0 .e)))),
    .s (.xd (.x1 .e)) (.bin .add (.t (.xc (.x1 .e))) (.c (V.int .i64 1))),
    .s (.x9 (.x0 .e)) (.asg (.t (.xd (.x1 .e))))])))
/-- forecourt/forecourtref09.Cheat -/
def b20 : EC :=
  (.seq (.ops [.s (.x5 (.x0 .e)) (.box (.t (.x2 (.x0 .e)))),
    .s (.x6 (.x0 .e)) (.asg (.c (V.int .i64 0))),
    .s (.x7 (.x0 .e)) (.asg (.c (V.int .i64 0)))])
  (.seq (.seq (.ops [.s (.xa (.x0 .e)) (.mv (.t (.x0 (.x0 .e)))),
    .s (.xb (.x0 .e)) (.call 18 [(.t (.xa (.x0 .e)))]),
    .s (.xc (.x0 .e)) (.bin .neq (.t (.xb (.x0 .e))) (.c (V.int .i64 0)))])
  (.cond (.t (.xc (.x0 .e)))
  (.seq (.ops [.s (.xd (.x0 .e)) (.mv (.t (.x0 (.x0 .e)))),
    .s (.xe (.x0 .e)) (.call 18 [(.t (.xd (.x0 .e)))]),
    .s (.x6 (.x0 .e)) (.asg (.c (V.int .i64 0))),
    .s (.x7 (.x0 .e)) (.asg (.t (.xe (.x0 .e))))])
  .ret)
  .skip))
  (.seq (.seq (.ops [.s (.xf (.x0 .e)) (.mv (.t (.x1 (.x0 .e)))),
    .s (.x0 (.x1 .e)) (.call 18 [(.t (.xf (.x0 .e)))]),
    .s (.x1 (.x1 .e)) (.bin .neq (.t (.x0 (.x1 .e))) (.c (V.int .i64 0)))])
  (.cond (.t (.x1 (.x1 .e)))
  (.seq (.ops [.s (.x2 (.x1 .e)) (.mv (.t (.x1 (.x0 .e)))),
    .s (.x3 (.x1 .e)) (.call 18 [(.t (.x2 (.x1 .e)))]),
    .s (.x6 (.x0 .e)) (.asg (.c (V.int .i64 0))),
    .s (.x7 (.x0 .e)) (.asg (.t (.x3 (.x1 .e))))])
  .ret)
  .skip))
  (.seq (.seq (.ops [.s (.x4 (.x1 .e)) (.ld (some 2) (.t (.x5 (.x0 .e)))),
    .s (.x5 (.x1 .e)) (.call 36 [(.t (.x4 (.x1 .e)))]),
    .s (.x6 (.x1 .e)) (.un .not (.t (.x5 (.x1 .e))))])
  (.cond (.t (.x6 (.x1 .e)))
  (.seq (.ops [.s (.x6 (.x0 .e)) (.asg (.c (V.int .i64 0))),
    .s (.x7 (.x0 .e)) (.asg (.c (V.int .i64 2)))])
  .ret)
  .skip))
  (.seq (.ops [.s (.x7 (.x1 .e)) (.mv (.t (.x0 (.x0 .e)))),
    .s (.x8 (.x1 .e)) (.ld (some 2) (.t (.x5 (.x0 .e)))),
    .s (.x9 (.x1 .e)) (.call 57 [(.t (.x7 (.x1 .e))), (.t (.x8 (.x1 .e)))]),
    .s (.x8 (.x0 .e)) (.asg (.t (.x9 (.x1 .e))))])
  (.seq (.seq (.ops [.s (.x9 (.x0 .e)) (.asg (.c (V.int .i64 0)))])
  (.blk 0 []
  (.loop M20_0 L20_0)))
  (.seq (.ops [.s (.x6 (.x0 .e)) (.asg (.c (V.int .i64 0))),
    .s (.x7 (.x0 .e)) (.asg (.c (V.int .i64 5)))])
  .ret)))))))
def e20 : EF := { depth := 2, nargs := 3, results := [.t (.x6 (.x0 .e)), .t (.x7 (.x0 .e))], body := b20 }

/-- function 21, loop 0: live [0, 3, 7, 19, 20, 21] -/
def M21_0 : List Pth := [(.x0 (.x0 .e)), (.x3 (.x0 .e)), (.x7 (.x0 .e)), (.x3 (.x1 .e)), (.x4 (.x1 .e)), (.x5 (.x1 .e))]
def L21_0 : EC :=
  (.seq (.ops [.s (.x6 (.x1 .e)) (.bin .lss (.t (.x5 (.x1 .e))) (.t (.x4 (.x1 .e))))])
  (.seq (.cond (.t (.x6 (.x1 .e)))
  .skip
  (.exit 0))
  (.seq (.blk 1 [(.x0 (.x0 .e)), (.x3 (.x0 .e)), (.x7 (.x0 .e)), (.x3 (.x1 .e)), (.x4 (.x1 .e)), (.x5 (.x1 .e))]
  (.seq (.ops [.s (.x7 (.x1 .e)) (.ixs 1 (.t (.x3 (.x1 .e))) (.t (.x5 (.x1 .e)))),
    .s (.x8 (.x1 .e)) (.ld none (.t (.x7 (.x1 .e)))),
    .s (.x9 (.x0 .e)) (.asg (.t (.x8 (.x1 .e))))])
  (.seq (.ops [.s (.x9 (.x1 .e)) (.mv (.t (.x9 (.x0 .e)))),
    .s (.xa (.x1 .e)) (.mv (.t (.x0 (.x0 .e)))),
    .s (.xb (.x1 .e)) (.ld (some 2) (.t (.x3 (.x0 .e)))),
    .s (.xc (.x1 .e)) (.mv (.t (.x9 (.x0 .e)))),
    .s (.xd (.x1 .e)) (.call 50 [(.t (.xa (.x1 .e))), (.t (.xb (.x1 .e))), (.t (.xc (.x1 .e)))]),
    .s (.xe (.x1 .e)) (.build [V.int .i64 0, V.int .i64 0] [(0, 1, (.t (.x9 (.x1 .e)))), (1, 1, (.t (.xd (.x1 .e))))]),
    .s (.xa (.x0 .e)) (.alloc [V.int .i64 0, V.int .i64 0]),
    .u (.st (some 2) (.t (.xa (.x0 .e))) (.t (.xe (.x1 .e))))])
  (.seq (.draw [0, 1, 2, 3, 4, 5, 6, 7, 8, 9, 10, 11, 12, 13, 14] [0, 1, 3, 7, 15, 15, 47, 111, 255, 511, 1023, 15, 2063, 8191, 16383] [.s (.xf (.x1 .e)) (.mv (.t (.x7 (.x0 .e)))),
    .s (.x0 (.x2 .e)) (.len (.t (.xf (.x1 .e)))),
    .s (.x1 (.x2 .e)) (.bin .eql (.t (.x0 (.x2 .e))) (.c (V.int .i64 0))),
    .s (.x2 (.x2 .e)) (.mv (.t (.x1 (.x2 .e)))),
    .g (.x2 (.x2 .e)) false (.x3 (.x2 .e)) (.mv (.t (.x7 (.x0 .e)))),
    .g (.x2 (.x2 .e)) false (.x4 (.x2 .e)) (.mv (.t (.x7 (.x0 .e)))),
    .g (.x2 (.x2 .e)) false (.x5 (.x2 .e)) (.len (.t (.x4 (.x2 .e)))),
    .g (.x2 (.x2 .e)) false (.x6 (.x2 .e)) (.bin .sub (.t (.x5 (.x2 .e))) (.c (V.int .i64 1))),
    .g (.x2 (.x2 .e)) false (.x7 (.x2 .e)) (.ixs 2 (.t (.x3 (.x2 .e))) (.t (.x6 (.x2 .e)))),
    .g (.x2 (.x2 .e)) false (.x8 (.x2 .e)) (.fadr 1 (.t (.x7 (.x2 .e)))),
    .g (.x2 (.x2 .e)) false (.x9 (.x2 .e)) (.ld none (.t (.x8 (.x2 .e)))),
    .g (.x2 (.x2 .e)) false (.xa (.x2 .e)) (.fadr 1 (.t (.xa (.x0 .e)))),
    .g (.x2 (.x2 .e)) false (.xb (.x2 .e)) (.ld none (.t (.xa (.x2 .e)))),
    .g (.x2 (.x2 .e)) false (.xc (.x2 .e)) (.bin .neq (.t (.x9 (.x2 .e))) (.t (.xb (.x2 .e)))),
    .s (.xd (.x2 .e)) (.pick (.t (.x2 (.x2 .e))) (.c (V.bool true)) (.t (.xc (.x2 .e))))])
  (.cond (.t (.xd (.x2 .e)))
  (.draw [0, 1, 2, 3, 4, 5, 6, 7, 8, 9] [0, 0, 2, 0, 8, 31, 0, 64, 255, 511] [.s (.xe (.x2 .e)) (.mv (.t (.x7 (.x0 .e)))),
    .s (.xf (.x2 .e)) (.mv (.t (.x7 (.x0 .e)))),
    .s (.x0 (.x3 .e)) (.len (.t (.xf (.x2 .e)))),
    .s (.x1 (.x3 .e)) (.mv (.t (.x7 (.x0 .e)))),
    .s (.x2 (.x3 .e)) (.len (.t (.x1 (.x3 .e)))),
    .s (.x3 (.x3 .e)) (.slc 2 (.t (.xe (.x2 .e))) none (some (.t (.x0 (.x3 .e)))) (some (.t (.x2 (.x3 .e))))),
    .s (.x4 (.x3 .e)) (.ld (some 2) (.t (.xa (.x0 .e)))),
    .s (.x5 (.x3 .e)) (.bslice 2 1 [V.int .i64 0, V.int .i64 0] [(0, (.t (.x4 (.x3 .e))))]),
    .s (.x6 (.x3 .e)) (.app 2 16 (.t (.x3 (.x3 .e))) (.t (.x5 (.x3 .e)))),
    .s (.x7 (.x0 .e)) (.asg (.t (.x6 (.x3 .e))))])
  .skip)))))
  (.ops [.s (.x7 (.x3 .e)) (.bin .add (.t (.x5 (.x1 .e))) (.c (V.int .i64 1))),
    .s (.x5 (.x1 .e)) (.mv (.t (.x7 (.x3 .e))))]))))
/-- forecourt/pole.Highest -/
def b21 : EC :=
  (.seq (.ops [.s (.x3 (.x0 .e)) (.box (.t (.x1 (.x0 .e)))),
    .s (.x4 (.x0 .e)) (.asg (.c (V.nilslice))),
    .s (.x5 (.x0 .e)) (.asg (.c (V.int .i64 0)))])
  (.seq (.seq (.ops [.s (.xb (.x0 .e)) (.mv (.t (.x0 (.x0 .e)))),
    .s (.xc (.x0 .e)) (.ld (some 2) (.t (.x3 (.x0 .e)))),
    .s (.xd (.x0 .e)) (.call 49 [(.t (.xb (.x0 .e))), (.t (.xc (.x0 .e)))]),
    .s (.x6 (.x0 .e)) (.asg (.t (.xd (.x0 .e))))])
  (.seq (.ops [.s (.xe (.x0 .e)) (.mv (.t (.x6 (.x0 .e)))),
    .s (.xf (.x0 .e)) (.bin .neq (.t (.xe (.x0 .e))) (.c (V.int .i64 0)))])
  (.cond (.t (.xf (.x0 .e)))
  (.seq (.ops [.s (.x0 (.x1 .e)) (.mv (.t (.x6 (.x0 .e)))),
    .s (.x4 (.x0 .e)) (.asg (.c (V.nilslice))),
    .s (.x5 (.x0 .e)) (.asg (.t (.x0 (.x1 .e))))])
  .ret)
  .skip)))
  (.seq (.ops [.s (.x7 (.x0 .e)) (.asg (.c (V.nilslice)))])
  (.seq (.seq (.ops [.s (.x1 (.x1 .e)) (.mv (.t (.x0 (.x0 .e)))),
    .s (.x2 (.x1 .e)) (.ld (some 2) (.t (.x3 (.x0 .e)))),
    .s (.x3 (.x1 .e)) (.call 53 [(.t (.x1 (.x1 .e))), (.t (.x2 (.x1 .e)))]),
    .s (.x4 (.x1 .e)) (.len (.t (.x3 (.x1 .e)))),
    .s (.x5 (.x1 .e)) (.mv (.c (V.int .i64 0)))])
  (.blk 0 [(.x7 (.x0 .e))]
  (.loop M21_0 L21_0)))
  (.seq (.ops [.s (.x8 (.x3 .e)) (.mv (.t (.x7 (.x0 .e)))),
    .s (.x4 (.x0 .e)) (.asg (.t (.x8 (.x3 .e)))),
    .s (.x5 (.x0 .e)) (.asg (.c (V.int .i64 0)))])
  .ret)))))
def e21 : EF := { depth := 2, nargs := 2, results := [.t (.x4 (.x0 .e)), .t (.x5 (.x0 .e))], body := b21 }

/-- function 22, loop 0: live [6, 7, 8] -/
def M22_0 : List Pth := [(.x6 (.x0 .e)), (.x7 (.x0 .e)), (.x8 (.x0 .e))]
def L22_0 : EC :=
  (.seq (.seq (.ops [.s (.x4 (.x1 .e)) (.mv (.t (.x8 (.x0 .e)))),
    .s (.x5 (.x1 .e)) (.bin .leq (.t (.x4 (.x1 .e))) (.c (V.int .i64 2000)))])
  (.cond (.t (.x5 (.x1 .e)))
  .skip
  (.exit 0)))
  (.seq (.blk 1 [(.x6 (.x0 .e)), (.x7 (.x0 .e)), (.x8 (.x0 .e))]
  (.seq (.draw [0, 1, 2, 3, 4, 5, 6, 7, 8, 9, 10, 11, 12, 13] [0, 1, 3, 7, 7, 31, 63, 7, 7, 263, 903, 1927, 4095, 8191] [.s (.x8 (.x1 .e)) (.mv (.t (.x8 (.x0 .e)))),
    .s (.x9 (.x1 .e)) (.bin .eql (.t (.x8 (.x1 .e))) (.c (V.int .i64 0))),
    .s (.xa (.x1 .e)) (.mv (.t (.x9 (.x1 .e)))),
    .g (.xa (.x1 .e)) false (.xb (.x1 .e)) (.mv (.t (.x6 (.x0 .e)))),
    .g (.xa (.x1 .e)) false (.xc (.x1 .e)) (.mv (.t (.x8 (.x0 .e)))),
    .g (.xa (.x1 .e)) false (.xd (.x1 .e)) (.ixs 1 (.t (.xb (.x1 .e))) (.t (.xc (.x1 .e)))),
    .g (.xa (.x1 .e)) false (.xe (.x1 .e)) (.ld none (.t (.xd (.x1 .e)))),
    .g (.xa (.x1 .e)) false (.xf (.x1 .e)) (.mv (.t (.x6 (.x0 .e)))),
    .g (.xa (.x1 .e)) false (.x0 (.x2 .e)) (.mv (.t (.x8 (.x0 .e)))),
    .g (.xa (.x1 .e)) false (.x1 (.x2 .e)) (.bin .sub (.t (.x0 (.x2 .e))) (.c (V.int .i64 1))),
    .g (.xa (.x1 .e)) false (.x2 (.x2 .e)) (.ixs 1 (.t (.xf (.x1 .e))) (.t (.x1 (.x2 .e)))),
    .g (.xa (.x1 .e)) false (.x3 (.x2 .e)) (.ld none (.t (.x2 (.x2 .e)))),
    .g (.xa (.x1 .e)) false (.x4 (.x2 .e)) (.bin .neq (.t (.xe (.x1 .e))) (.t (.x3 (.x2 .e)))),
    .s (.x5 (.x2 .e)) (.pick (.t (.xa (.x1 .e))) (.c (V.bool true)) (.t (.x4 (.x2 .e))))])
  (.cond (.t (.x5 (.x2 .e)))
  (.ops [.s (.x6 (.x2 .e)) (.mv (.t (.x7 (.x0 .e)))),
    .s (.x7 (.x2 .e)) (.mv (.t (.x8 (.x0 .e)))),
    .s (.x8 (.x2 .e)) (.mv (.t (.x6 (.x0 .e)))),
    .s (.x9 (.x2 .e)) (.mv (.t (.x8 (.x0 .e)))),
    .s (.xa (.x2 .e)) (.ixs 1 (.t (.x8 (.x2 .e))) (.t (.x9 (.x2 .e)))),
    .s (.xb (.x2 .e)) (.ld none (.t (.xa (.x2 .e)))),
    .s (.xc (.x2 .e)) (.build [V.int .i64 0, V.int .i64 0] [(0, 1, (.t (.x7 (.x2 .e)))), (1, 1, (.t (.xb (.x2 .e))))]),
    .s (.xd (.x2 .e)) (.bslice 2 1 [V.int .i64 0, V.int .i64 0] [(0, (.t (.xc (.x2 .e))))]),
    .s (.xe (.x2 .e)) (.app 2 16 (.t (.x6 (.x2 .e))) (.t (.xd (.x2 .e)))),
    .s (.x7 (.x0 .e)) (.asg (.t (.xe (.x2 .e))))])
  .skip)))
  (.ops [.s (.x6 (.x1 .e)) (.mv (.t (.x8 (.x0 .e)))),
    .s (.x7 (.x1 .e)) (.bin .add (.t (.x6 (.x1 .e))) (.c (V.int .i64 1))),
    .s (.x8 (.x0 .e)) (.asg (.t (.x7 (.x1 .e))))])))
/-- forecourt/forecourtref09.Highest -/
def b22 : EC :=
  (.seq (.ops [.s (.x3 (.x0 .e)) (.box (.t (.x1 (.x0 .e)))),
    .s (.x4 (.x0 .e)) (.asg (.c (V.nilslice))),
    .s (.x5 (.x0 .e)) (.asg (.c (V.int .i64 0)))])
  (.seq (.seq (.ops [.s (.x9 (.x0 .e)) (.mv (.t (.x0 (.x0 .e)))),
    .s (.xa (.x0 .e)) (.call 18 [(.t (.x9 (.x0 .e)))]),
    .s (.xb (.x0 .e)) (.bin .neq (.t (.xa (.x0 .e))) (.c (V.int .i64 0)))])
  (.cond (.t (.xb (.x0 .e)))
  (.seq (.ops [.s (.xc (.x0 .e)) (.mv (.t (.x0 (.x0 .e)))),
    .s (.xd (.x0 .e)) (.call 18 [(.t (.xc (.x0 .e)))]),
    .s (.x4 (.x0 .e)) (.asg (.c (V.nilslice))),
    .s (.x5 (.x0 .e)) (.asg (.t (.xd (.x0 .e))))])
  .ret)
  .skip))
  (.seq (.seq (.ops [.s (.xe (.x0 .e)) (.ld (some 2) (.t (.x3 (.x0 .e)))),
    .s (.xf (.x0 .e)) (.call 36 [(.t (.xe (.x0 .e)))]),
    .s (.x0 (.x1 .e)) (.un .not (.t (.xf (.x0 .e))))])
  (.cond (.t (.x0 (.x1 .e)))
  (.seq (.ops [.s (.x4 (.x0 .e)) (.asg (.c (V.nilslice))),
    .s (.x5 (.x0 .e)) (.asg (.c (V.int .i64 2)))])
  .ret)
  .skip))
  (.seq (.ops [.s (.x1 (.x1 .e)) (.mv (.t (.x0 (.x0 .e)))),
    .s (.x2 (.x1 .e)) (.ld (some 2) (.t (.x3 (.x0 .e)))),
    .s (.x3 (.x1 .e)) (.call 57 [(.t (.x1 (.x1 .e))), (.t (.x2 (.x1 .e)))]),
    .s (.x6 (.x0 .e)) (.asg (.t (.x3 (.x1 .e))))])
  (.seq (.ops [.s (.x7 (.x0 .e)) (.asg (.c (V.nilslice)))])
  (.seq (.seq (.ops [.s (.x8 (.x0 .e)) (.asg (.c (V.int .i64 0)))])
  (.blk 0 [(.x7 (.x0 .e))]
  (.loop M22_0 L22_0)))
  (.seq (.ops [.s (.xf (.x2 .e)) (.mv (.t (.x7 (.x0 .e)))),
    .s (.x4 (.x0 .e)) (.asg (.t (.xf (.x2 .e)))),
    .s (.x5 (.x0 .e)) (.asg (.c (V.int .i64 0)))])
  .ret)))))))
def e22 : EF := { depth := 2, nargs := 2, results := [.t (.x4 (.x0 .e)), .t (.x5 (.x0 .e))], body := b22 }

/-- function 23, loop 0: live [0, 1, 5] -/
def M23_0 : List Pth := [(.x0 (.x0 .e)), (.x1 (.x0 .e)), (.x5 (.x0 .e))]
def L23_0 : EC :=
  (.seq (.seq (.ops [.s (.xb (.x0 .e)) (.mv (.t (.x5 (.x0 .e)))),
    .s (.xc (.x0 .e)) (.mv (.t (.x0 (.x0 .e)))),
    .s (.xd (.x0 .e)) (.len (.t (.xc (.x0 .e)))),
    .s (.xe (.x0 .e)) (.bin .lss (.t (.xb (.x0 .e))) (.t (.xd (.x0 .e))))])
  (.cond (.t (.xe (.x0 .e)))
  .skip
  (.exit 0)))
  (.seq (.blk 1 [(.x0 (.x0 .e)), (.x1 (.x0 .e)), (.x5 (.x0 .e))]
  (.seq (.draw [0, 1, 2, 3, 4, 5, 6, 7, 8] [0, 0, 3, 7, 0, 0, 48, 112, 255] [.s (.x1 (.x1 .e)) (.mv (.t (.x0 (.x0 .e)))),
    .s (.x2 (.x1 .e)) (.mv (.t (.x5 (.x0 .e)))),
    .s (.x3 (.x1 .e)) (.ixs 2 (.t (.x1 (.x1 .e))) (.t (.x2 (.x1 .e)))),
    .s (.x4 (.x1 .e)) (.ld (some 2) (.t (.x3 (.x1 .e)))),
    .s (.x5 (.x1 .e)) (.mv (.t (.x1 (.x0 .e)))),
    .s (.x6 (.x1 .e)) (.mv (.t (.x5 (.x0 .e)))),
    .s (.x7 (.x1 .e)) (.ixs 2 (.t (.x5 (.x1 .e))) (.t (.x6 (.x1 .e)))),
    .s (.x8 (.x1 .e)) (.ld (some 2) (.t (.x7 (.x1 .e)))),
    .s (.x9 (.x1 .e)) (.eqa true [.int .i64, .int .i64] (.t (.x4 (.x1 .e))) (.t (.x8 (.x1 .e))))])
  (.cond (.t (.x9 (.x1 .e)))
  (.seq (.ops [.s (.x4 (.x0 .e)) (.asg (.c (V.bool false)))])
  .ret)
  .skip)))
  (.ops [.s (.xf (.x0 .e)) (.mv (.t (.x5 (.x0 .e)))),
    .s (.x0 (.x1 .e)) (.bin .add (.t (.xf (.x0 .e))) (.c (V.int .i64 1))),
    .s (.x5 (.x0 .e)) (.asg (.t (.x0 (.x1 .e))))])))
/-- forecourt/forecourtlaw09.prices -/
def b23 : EC :=
  (.seq (.ops [.s (.x4 (.x0 .e)) (.asg (.c (V.bool false)))])
  (.seq (.seq (.ops [.s (.x6 (.x0 .e)) (.mv (.t (.x0 (.x0 .e)))),
    .s (.x7 (.x0 .e)) (.len (.t (.x6 (.x0 .e)))),
    .s (.x8 (.x0 .e)) (.mv (.t (.x1 (.x0 .e)))),
    .s (.x9 (.x0 .e)) (.len (.t (.x8 (.x0 .e)))),
    .s (.xa (.x0 .e)) (.bin .neq (.t (.x7 (.x0 .e))) (.t (.x9 (.x0 .e))))])
  (.cond (.t (.xa (.x0 .e)))
  (.seq (.ops [.s (.x4 (.x0 .e)) (.asg (.c (V.bool false)))])
  .ret)
  .skip))
  (.seq (.seq (.ops [.s (.x5 (.x0 .e)) (.asg (.c (V.int .i64 0)))])
  (.blk 0 []
  (.loop M23_0 L23_0)))
  (.seq (.ops [.s (.x4 (.x0 .e)) (.asg (.c (V.bool true)))])
  .ret))))
def e23 : EF := { depth := 2, nargs := 2, results := [.t (.x4 (.x0 .e))], body := b23 }

/-- function 24, loop 0: live [0, 3] -/
def M24_0 : List Pth := [(.x0 (.x0 .e)), (.x3 (.x0 .e))]
def L24_0 : EC :=
  (.seq (.seq (.ops [.s (.x7 (.x0 .e)) (.mv (.t (.x3 (.x0 .e)))),
    .s (.x8 (.x0 .e)) (.mv (.t (.x0 (.x0 .e)))),
    .s (.x9 (.x0 .e)) (.len (.t (.x8 (.x0 .e)))),
    .s (.xa (.x0 .e)) (.bin .lss (.t (.x7 (.x0 .e))) (.t (.x9 (.x0 .e))))])
  (.cond (.t (.xa (.x0 .e)))
  .skip
  (.exit 0)))
  (.seq (.blk 1 [(.x0 (.x0 .e)), (.x3 (.x0 .e))]
  (.seq (.ops [.s (.xd (.x0 .e)) (.mv (.t (.x0 (.x0 .e)))),
    .s (.xe (.x0 .e)) (.mv (.t (.x3 (.x0 .e)))),
    .s (.xf (.x0 .e)) (.ixs 1 (.t (.xd (.x0 .e))) (.t (.xe (.x0 .e)))),
    .s (.x0 (.x1 .e)) (.ld none (.t (.xf (.x0 .e)))),
    .s (.x1 (.x1 .e)) (.len (.t (.x0 (.x1 .e)))),
    .s (.x2 (.x1 .e)) (.bin .gtr (.t (.x1 (.x1 .e))) (.c (V.int .i64 10)))])
  (.cond (.t (.x2 (.x1 .e)))
  (.seq (.ops [.s (.x2 (.x0 .e)) (.asg (.c (V.bool true)))])
  .ret)
  .skip)))
  (.ops [.s (.xb (.x0 .e)) (.mv (.t (.x3 (.x0 .e)))),
    .s (.xc (.x0 .e)) (.bin .add (.t (.xb (.x0 .e))) (.c (V.int .i64 1))),
    .s (.x3 (.x0 .e)) (.asg (.t (.xc (.x0 .e))))])))
/-- forecourt/forecourtlaw09.long -/
def b24 : EC :=
  (.seq (.ops [.s (.x2 (.x0 .e)) (.asg (.c (V.bool false)))])
  (.seq (.seq (.ops [.s (.x4 (.x0 .e)) (.mv (.t (.x0 (.x0 .e)))),
    .s (.x5 (.x0 .e)) (.len (.t (.x4 (.x0 .e)))),
    .s (.x6 (.x0 .e)) (.bin .gtr (.t (.x5 (.x0 .e))) (.c (V.int .i64 10)))])
  (.cond (.t (.x6 (.x0 .e)))
  (.seq (.ops [.s (.x2 (.x0 .e)) (.asg (.c (V.bool true)))])
  .ret)
  .skip))
  (.seq (.seq (.ops [.s (.x3 (.x0 .e)) (.asg (.c (V.int .i64 0)))])
  (.blk 0 []
  (.loop M24_0 L24_0)))
  (.seq (.ops [.s (.x2 (.x0 .e)) (.asg (.c (V.bool false)))])
  .ret))))
def e24 : EF := { depth := 2, nargs := 1, results := [.t (.x2 (.x0 .e))], body := b24 }

/-- forecourt/pole.CheckTable -/
def b25 : EC :=
  (.seq (.ops [.s (.x1 (.x0 .e)) (.box (.t (.x0 (.x0 .e)))),
    .s (.x2 (.x0 .e)) (.asg (.c (V.int .i64 0)))])
  (.seq (.ops [.s (.x4 (.x0 .e)) (.fadr 1 (.t (.x1 (.x0 .e)))),
    .s (.x5 (.x0 .e)) (.ld none (.t (.x4 (.x0 .e)))),
    .s (.x6 (.x0 .e)) (.len (.t (.x5 (.x0 .e)))),
    .s (.x3 (.x0 .e)) (.asg (.t (.x6 (.x0 .e))))])
  (.seq (.seq (.ops [.s (.x7 (.x0 .e)) (.mv (.t (.x3 (.x0 .e)))),
    .s (.x8 (.x0 .e)) (.bin .eql (.t (.x7 (.x0 .e))) (.c (V.int .i64 0))),
    .s (.x9 (.x0 .e)) (.mv (.t (.x8 (.x0 .e)))),
    .g (.x9 (.x0 .e)) false (.xa (.x0 .e)) (.mv (.t (.x3 (.x0 .e)))),
    .g (.x9 (.x0 .e)) false (.xb (.x0 .e)) (.bin .gtr (.t (.xa (.x0 .e))) (.c (V.int .i64 6))),
    .s (.xc (.x0 .e)) (.pick (.t (.x9 (.x0 .e))) (.c (V.bool true)) (.t (.xb (.x0 .e)))),
    .s (.xd (.x0 .e)) (.mv (.t (.xc (.x0 .e)))),
    .g (.xd (.x0 .e)) false (.xe (.x0 .e)) (.fadr 1 (.t (.x1 (.x0 .e)))),
    .g (.xd (.x0 .e)) false (.xf (.x0 .e)) (.ld none (.t (.xe (.x0 .e)))),
    .g (.xd (.x0 .e)) false (.x0 (.x1 .e)) (.ixs 1 (.t (.xf (.x0 .e))) (.c (V.int .i64 0))),
    .g (.xd (.x0 .e)) false (.x1 (.x1 .e)) (.ld none (.t (.x0 (.x1 .e)))),
    .g (.xd (.x0 .e)) false (.x2 (.x1 .e)) (.len (.t (.x1 (.x1 .e)))),
    .g (.xd (.x0 .e)) false (.x3 (.x1 .e)) (.bin .eql (.t (.x2 (.x1 .e))) (.c (V.int .i64 0))),
    .s (.x4 (.x1 .e)) (.pick (.t (.xd (.x0 .e))) (.c (V.bool true)) (.t (.x3 (.x1 .e)))),
    .s (.x5 (.x1 .e)) (.mv (.t (.x4 (.x1 .e)))),
    .g (.x5 (.x1 .e)) false (.x6 (.x1 .e)) (.fadr 1 (.t (.x1 (.x0 .e)))),
    .g (.x5 (.x1 .e)) false (.x7 (.x1 .e)) (.ld none (.t (.x6 (.x1 .e)))),
    .g (.x5 (.x1 .e)) false (.x8 (.x1 .e)) (.ixs 1 (.t (.x7 (.x1 .e))) (.c (V.int .i64 0))),
    .g (.x5 (.x1 .e)) false (.x9 (.x1 .e)) (.ld none (.t (.x8 (.x1 .e)))),
    .g (.x5 (.x1 .e)) false (.xa (.x1 .e)) (.len (.t (.x9 (.x1 .e)))),
    .g (.x5 (.x1 .e)) false (.xb (.x1 .e)) (.bin .gtr (.t (.xa (.x1 .e))) (.c (V.int .i64 6))),
    .s (.xc (.x1 .e)) (.pick (.t (.x5 (.x1 .e))) (.c (V.bool true)) (.t (.xb (.x1 .e))))])
  (.cond (.t (.xc (.x1 .e)))
  (.seq (.ops [.s (.x2 (.x0 .e)) (.asg (.c (V.int .i64 6)))])
  .ret)
  .skip))
  (.seq (.blk 0 []
  (.seq (.ops [.s (.xe (.x1 .e)) (.fadr 1 (.t (.x1 (.x0 .e)))),
    .s (.xf (.x1 .e)) (.ld none (.t (.xe (.x1 .e)))),
    .s (.x0 (.x2 .e)) (.mkfn 59 [] [(.t (.x1 (.x0 .e)))]),
    .s (.x1 (.x2 .e)) (.call 58 [(.t (.xf (.x1 .e))), (.t (.x0 (.x2 .e)))]),
    .s (.xd (.x1 .e)) (.asg (.t (.x1 (.x2 .e))))])
  (.cond (.t (.xd (.x1 .e)))
  (.seq (.ops [.s (.x2 (.x0 .e)) (.asg (.c (V.int .i64 15)))])
  .ret)
  (.seq (.ops [.s (.x3 (.x2 .e)) (.fadr 0 (.t (.x1 (.x0 .e)))),
    .s (.x4 (.x2 .e)) (.ld none (.t (.x3 (.x2 .e)))),
    .s (.x5 (.x2 .e)) (.bslice 1 1 [V.int .i64 0] [(0, (.t (.x4 (.x2 .e))))]),
    .s (.x6 (.x2 .e)) (.call 47 [(.c (V.int .i64 1)), (.c (V.int .i64 1000)), (.t (.x5 (.x2 .e)))]),
    .s (.x7 (.x2 .e)) (.un .not (.t (.x6 (.x2 .e)))),
    .s (.x2 (.x2 .e)) (.asg (.t (.x7 (.x2 .e))))])
  (.cond (.t (.x2 (.x2 .e)))
  (.seq (.ops [.s (.x2 (.x0 .e)) (.asg (.c (V.int .i64 2)))])
  .ret)
  (.seq (.ops [.s (.x9 (.x2 .e)) (.fadr 1 (.t (.x1 (.x0 .e)))),
    .s (.xa (.x2 .e)) (.ld none (.t (.x9 (.x2 .e)))),
    .s (.xb (.x2 .e)) (.call 58 [(.t (.xa (.x2 .e))), (.c (V.func 60 [] []))]),
    .s (.x8 (.x2 .e)) (.asg (.t (.xb (.x2 .e))))])
  (.cond (.t (.x8 (.x2 .e)))
  (.seq (.ops [.s (.x2 (.x0 .e)) (.asg (.c (V.int .i64 3)))])
  .ret)
  .skip)))))))
  (.seq (.ops [.s (.x2 (.x0 .e)) (.asg (.c (V.int .i64 0)))])
  .ret)))))
def e25 : EF := { depth := 2, nargs := 1, results := [.t (.x2 (.x0 .e))], body := b25 }

/-- function 26, loop 0: live [1, 3] -/
def M26_0 : List Pth := [(.x1 (.x0 .e)), (.x3 (.x0 .e))]
def L26_0 : EC :=
  (.seq (.seq (.ops [.s (.x0 (.x2 .e)) (.mv (.t (.x3 (.x0 .e)))),
    .s (.x1 (.x2 .e)) (.fadr 1 (.t (.x1 (.x0 .e)))),
    .s (.x2 (.x2 .e)) (.ld none (.t (.x1 (.x2 .e)))),
    .s (.x3 (.x2 .e)) (.len (.t (.x2 (.x2 .e)))),
    .s (.x4 (.x2 .e)) (.bin .lss (.t (.x0 (.x2 .e))) (.t (.x3 (.x2 .e))))])
  (.cond (.t (.x4 (.x2 .e)))
  .skip
  (.exit 0)))
  (.seq (.blk 1 [(.x1 (.x0 .e)), (.x3 (.x0 .e))]
  (.seq (.draw [0, 1, 2, 3, 4, 5, 6, 7, 8, 9, 10, 11] [0, 1, 0, 7, 15, 31, 0, 64, 192, 448, 960, 2047] [.s (.x7 (.x2 .e)) (.fadr 1 (.t (.x1 (.x0 .e)))),
    .s (.x8 (.x2 .e)) (.ld none (.t (.x7 (.x2 .e)))),
    .s (.x9 (.x2 .e)) (.mv (.t (.x3 (.x0 .e)))),
    .s (.xa (.x2 .e)) (.ixs 1 (.t (.x8 (.x2 .e))) (.t (.x9 (.x2 .e)))),
    .s (.xb (.x2 .e)) (.ld none (.t (.xa (.x2 .e)))),
    .s (.xc (.x2 .e)) (.len (.t (.xb (.x2 .e)))),
    .s (.xd (.x2 .e)) (.fadr 1 (.t (.x1 (.x0 .e)))),
    .s (.xe (.x2 .e)) (.ld none (.t (.xd (.x2 .e)))),
    .s (.xf (.x2 .e)) (.ixs 1 (.t (.xe (.x2 .e))) (.c (V.int .i64 0))),
    .s (.x0 (.x3 .e)) (.ld none (.t (.xf (.x2 .e)))),
    .s (.x1 (.x3 .e)) (.len (.t (.x0 (.x3 .e)))),
    .s (.x2 (.x3 .e)) (.bin .neq (.t (.xc (.x2 .e))) (.t (.x1 (.x3 .e))))])
  (.cond (.t (.x2 (.x3 .e)))
  (.seq (.ops [.s (.x2 (.x0 .e)) (.asg (.c (V.int .i64 15)))])
  .ret)
  .skip)))
  (.ops [.s (.x5 (.x2 .e)) (.mv (.t (.x3 (.x0 .e)))),
    .s (.x6 (.x2 .e)) (.bin .add (.t (.x5 (.x2 .e))) (.c (V.int .i64 1))),
    .s (.x3 (.x0 .e)) (.asg (.t (.x6 (.x2 .e))))])))
/-- function 26, loop 2: live [1, 4, 5] -/
def M26_2 : List Pth := [(.x1 (.x0 .e)), (.x4 (.x0 .e)), (.x5 (.x0 .e))]
def L26_2 : EC :=
  (.seq (.seq (.ops [.s (.x2 (.x4 .e)) (.mv (.t (.x5 (.x0 .e)))),
    .s (.x3 (.x4 .e)) (.fadr 1 (.t (.x1 (.x0 .e)))),
    .s (.x4 (.x4 .e)) (.ld none (.t (.x3 (.x4 .e)))),
    .s (.x5 (.x4 .e)) (.mv (.t (.x4 (.x0 .e)))),
    .s (.x6 (.x4 .e)) (.ixs 1 (.t (.x4 (.x4 .e))) (.t (.x5 (.x4 .e)))),
    .s (.x7 (.x4 .e)) (.ld none (.t (.x6 (.x4 .e)))),
    .s (.x8 (.x4 .e)) (.len (.t (.x7 (.x4 .e)))),
    .s (.x9 (.x4 .e)) (.bin .lss (.t (.x2 (.x4 .e))) (.t (.x8 (.x4 .e))))])
  (.cond (.t (.x9 (.x4 .e)))
  .skip
  (.exit 4)))
  (.seq (.blk 5 [(.x1 (.x0 .e)), (.x4 (.x0 .e)), (.x5 (.x0 .e))]
  (.seq (.ops [.s (.xc (.x4 .e)) (.fadr 1 (.t (.x1 (.x0 .e)))),
    .s (.xd (.x4 .e)) (.ld none (.t (.xc (.x4 .e)))),
    .s (.xe (.x4 .e)) (.mv (.t (.x4 (.x0 .e)))),
    .s (.xf (.x4 .e)) (.ixs 1 (.t (.xd (.x4 .e))) (.t (.xe (.x4 .e)))),
    .s (.x0 (.x5 .e)) (.ld none (.t (.xf (.x4 .e)))),
    .s (.x1 (.x5 .e)) (.mv (.t (.x5 (.x0 .e)))),
    .s (.x2 (.x5 .e)) (.ixs 1 (.t (.x0 (.x5 .e))) (.t (.x1 (.x5 .e)))),
    .s (.x3 (.x5 .e)) (.ld none (.t (.x2 (.x5 .e)))),
    .s (.x4 (.x5 .e)) (.bin .lss (.t (.x3 (.x5 .e))) (.c (V.int .i64 0))),
    .s (.x5 (.x5 .e)) (.mv (.t (.x4 (.x5 .e)))),
    .g (.x5 (.x5 .e)) false (.x6 (.x5 .e)) (.fadr 1 (.t (.x1 (.x0 .e)))),
    .g (.x5 (.x5 .e)) false (.x7 (.x5 .e)) (.ld none (.t (.x6 (.x5 .e)))),
    .g (.x5 (.x5 .e)) false (.x8 (.x5 .e)) (.mv (.t (.x4 (.x0 .e)))),
    .g (.x5 (.x5 .e)) false (.x9 (.x5 .e)) (.ixs 1 (.t (.x7 (.x5 .e))) (.t (.x8 (.x5 .e)))),
    .g (.x5 (.x5 .e)) false (.xa (.x5 .e)) (.ld none (.t (.x9 (.x5 .e)))),
    .g (.x5 (.x5 .e)) false (.xb (.x5 .e)) (.mv (.t (.x5 (.x0 .e)))),
    .g (.x5 (.x5 .e)) false (.xc (.x5 .e)) (.ixs 1 (.t (.xa (.x5 .e))) (.t (.xb (.x5 .e)))),
    .g (.x5 (.x5 .e)) false (.xd (.x5 .e)) (.ld none (.t (.xc (.x5 .e)))),
    .g (.x5 (.x5 .e)) false (.xe (.x5 .e)) (.bin .gtr (.t (.xd (.x5 .e))) (.c (V.int .i64 1000000))),
    .s (.xf (.x5 .e)) (.pick (.t (.x5 (.x5 .e))) (.c (V.bool true)) (.t (.xe (.x5 .e))))])
  (.cond (.t (.xf (.x5 .e)))
  (.seq (.ops [.s (.x2 (.x0 .e)) (.asg (.c (V.int .i64 3)))])
  .ret)
  .skip)))
  (.ops [.s (.xa (.x4 .e)) (.mv (.t (.x5 (.x0 .e)))),
    .s (.xb (.x4 .e)) (.bin .add (.t (.xa (.x4 .e))) (.c (V.int .i64 1))),
    .s (.x5 (.x0 .e)) (.asg (.t (.xb (.x4 .e))))])))
/-- function 26, loop 1: live [1, 4] -/
def M26_1 : List Pth := [(.x1 (.x0 .e)), (.x4 (.x0 .e))]
def L26_1 : EC :=
  (.seq (.seq (.ops [.s (.xb (.x3 .e)) (.mv (.t (.x4 (.x0 .e)))),
    .s (.xc (.x3 .e)) (.fadr 1 (.t (.x1 (.x0 .e)))),
    .s (.xd (.x3 .e)) (.ld none (.t (.xc (.x3 .e)))),
    .s (.xe (.x3 .e)) (.len (.t (.xd (.x3 .e)))),
    .s (.xf (.x3 .e)) (.bin .lss (.t (.xb (.x3 .e))) (.t (.xe (.x3 .e))))])
  (.cond (.t (.xf (.x3 .e)))
  .skip
  (.exit 2)))
  (.seq (.blk 3 [(.x1 (.x0 .e)), (.x4 (.x0 .e))]
  (.seq (.ops [.s (.x5 (.x0 .e)) (.asg (.c (V.int .i64 0)))])
  (.blk 4 [(.x1 (.x0 .e)), (.x4 (.x0 .e))]
  (.loop M26_2 L26_2))))
  (.ops [.s (.x0 (.x4 .e)) (.mv (.t (.x4 (.x0 .e)))),
    .s (.x1 (.x4 .e)) (.bin .add (.t (.x0 (.x4 .e))) (.c (V.int .i64 1))),
    .s (.x4 (.x0 .e)) (.asg (.t (.x1 (.x4 .e))))])))
/-- forecourt/forecourtref09.CheckTable -/
def b26 : EC :=
  (.seq (.ops [.s (.x1 (.x0 .e)) (.box (.t (.x0 (.x0 .e)))),
    .s (.x2 (.x0 .e)) (.asg (.c (V.int .i64 0)))])
  (.seq (.seq (.ops [.s (.x6 (.x0 .e)) (.fadr 1 (.t (.x1 (.x0 .e)))),
    .s (.x7 (.x0 .e)) (.ld none (.t (.x6 (.x0 .e)))),
    .s (.x8 (.x0 .e)) (.len (.t (.x7 (.x0 .e)))),
    .s (.x9 (.x0 .e)) (.bin .lss (.t (.x8 (.x0 .e))) (.c (V.int .i64 1))),
    .s (.xa (.x0 .e)) (.mv (.t (.x9 (.x0 .e)))),
    .g (.xa (.x0 .e)) false (.xb (.x0 .e)) (.fadr 1 (.t (.x1 (.x0 .e)))),
    .g (.xa (.x0 .e)) false (.xc (.x0 .e)) (.ld none (.t (.xb (.x0 .e)))),
    .g (.xa (.x0 .e)) false (.xd (.x0 .e)) (.len (.t (.xc (.x0 .e)))),
    .g (.xa (.x0 .e)) false (.xe (.x0 .e)) (.bin .gtr (.t (.xd (.x0 .e))) (.c (V.int .i64 6))),
    .s (.xf (.x0 .e)) (.pick (.t (.xa (.x0 .e))) (.c (V.bool true)) (.t (.xe (.x0 .e)))),
    .s (.x0 (.x1 .e)) (.mv (.t (.xf (.x0 .e)))),
    .g (.x0 (.x1 .e)) false (.x1 (.x1 .e)) (.fadr 1 (.t (.x1 (.x0 .e)))),
    .g (.x0 (.x1 .e)) false (.x2 (.x1 .e)) (.ld none (.t (.x1 (.x1 .e)))),
    .g (.x0 (.x1 .e)) false (.x3 (.x1 .e)) (.ixs 1 (.t (.x2 (.x1 .e))) (.c (V.int .i64 0))),
    .g (.x0 (.x1 .e)) false (.x4 (.x1 .e)) (.ld none (.t (.x3 (.x1 .e)))),
    .g (.x0 (.x1 .e)) false (.x5 (.x1 .e)) (.len (.t (.x4 (.x1 .e)))),
    .g (.x0 (.x1 .e)) false (.x6 (.x1 .e)) (.bin .lss (.t (.x5 (.x1 .e))) (.c (V.int .i64 1))),
    .s (.x7 (.x1 .e)) (.pick (.t (.x0 (.x1 .e))) (.c (V.bool true)) (.t (.x6 (.x1 .e)))),
    .s (.x8 (.x1 .e)) (.mv (.t (.x7 (.x1 .e)))),
    .g (.x8 (.x1 .e)) false (.x9 (.x1 .e)) (.fadr 1 (.t (.x1 (.x0 .e)))),
    .g (.x8 (.x1 .e)) false (.xa (.x1 .e)) (.ld none (.t (.x9 (.x1 .e)))),
    .g (.x8 (.x1 .e)) false (.xb (.x1 .e)) (.ixs 1 (.t (.xa (.x1 .e))) (.c (V.int .i64 0))),
    .g (.x8 (.x1 .e)) false (.xc (.x1 .e)) (.ld none (.t (.xb (.x1 .e)))),
    .g (.x8 (.x1 .e)) false (.xd (.x1 .e)) (.len (.t (.xc (.x1 .e)))),
    .g (.x8 (.x1 .e)) false (.xe (.x1 .e)) (.bin .gtr (.t (.xd (.x1 .e))) (.c (V.int .i64 6))),
    .s (.xf (.x1 .e)) (.pick (.t (.x8 (.x1 .e))) (.c (V.bool true)) (.t (.xe (.x1 .e))))])
  (.cond (.t (.xf (.x1 .e)))
  (.seq (.ops [.s (.x2 (.x0 .e)) (.asg (.c (V.int .i64 6)))])
  .ret)
  .skip))
  (.seq (.seq (.ops [.s (.x3 (.x0 .e)) (.asg (.c (V.int .i64 0)))])
  (.blk 0 [(.x1 (.x0 .e))]
  (.loop M26_0 L26_0)))
  (.seq (.seq (.ops [.s (.x3 (.x3 .e)) (.fadr 0 (.t (.x1 (.x0 .e)))),
    .s (.x4 (.x3 .e)) (.ld none (.t (.x3 (.x3 .e)))),
    .s (.x5 (.x3 .e)) (.bin .lss (.t (.x4 (.x3 .e))) (.c (V.int .i64 1))),
    .s (.x6 (.x3 .e)) (.mv (.t (.x5 (.x3 .e)))),
    .g (.x6 (.x3 .e)) false (.x7 (.x3 .e)) (.fadr 0 (.t (.x1 (.x0 .e)))),
    .g (.x6 (.x3 .e)) false (.x8 (.x3 .e)) (.ld none (.t (.x7 (.x3 .e)))),
    .g (.x6 (.x3 .e)) false (.x9 (.x3 .e)) (.bin .gtr (.t (.x8 (.x3 .e))) (.c (V.int .i64 1000))),
    .s (.xa (.x3 .e)) (.pick (.t (.x6 (.x3 .e))) (.c (V.bool true)) (.t (.x9 (.x3 .e))))])
  (.cond (.t (.xa (.x3 .e)))
  (.seq (.ops [.s (.x2 (.x0 .e)) (.asg (.c (V.int .i64 2)))])
  .ret)
  .skip))
  (.seq (.seq (.ops [.s (.x4 (.x0 .e)) (.asg (.c (V.int .i64 0)))])
  (.blk 2 []
  (.loop M26_1 L26_1)))
  (.seq (.ops [.s (.x2 (.x0 .e)) (.asg (.c (V.int .i64 0)))])
  .ret))))))
def e26 : EF := { depth := 2, nargs := 1, results := [.t (.x2 (.x0 .e))], body := b26 }

/-- function 27, loop 1: live [1, 2, 6, 7, 33, 34, 35, 40, 41, 42] -/
def M27_1 : List Pth := [(.x1 (.x0 .e)), (.x2 (.x0 .e)), (.x6 (.x0 .e)), (.x7 (.x0 .e)), (.x1 (.x2 .e)), (.x2 (.x2 .e)), (.x3 (.x2 .e)), (.x8 (.x2 .e)), (.x9 (.x2 .e)), (.xa (.x2 .e))]
def L27_1 : EC :=
  (.seq (.ops [.s (.xb (.x2 .e)) (.bin .lss (.t (.xa (.x2 .e))) (.t (.x9 (.x2 .e))))])
  (.seq (.cond (.t (.xb (.x2 .e)))
  .skip
  (.exit 2))
  (.seq (.blk 3 [(.x1 (.x0 .e)), (.x2 (.x0 .e)), (.x6 (.x0 .e)), (.x7 (.x0 .e)), (.x1 (.x2 .e)), (.x2 (.x2 .e)), (.x3 (.x2 .e)), (.x8 (.x2 .e)), (.x9 (.x2 .e)), (.xa (.x2 .e))]
  (.seq (.ops [.s (.xc (.x2 .e)) (.mv (.t (.xa (.x2 .e)))),
    .s (.xd (.x2 .e)) (.ixs 1 (.t (.x8 (.x2 .e))) (.t (.xa (.x2 .e)))),
    .s (.xe (.x2 .e)) (.ld none (.t (.xd (.x2 .e)))),
    .s (.x9 (.x0 .e)) (.asg (.t (.xc (.x2 .e)))),
    .s (.xa (.x0 .e)) (.asg (.t (.xe (.x2 .e))))])
  (.seq (.ops [.s (.xf (.x2 .e)) (.mv (.t (.x6 (.x0 .e)))),
    .s (.x0 (.x3 .e)) (.mv (.t (.xa (.x0 .e)))),
    .s (.x1 (.x3 .e)) (.mv (.t (.x1 (.x0 .e)))),
    .s (.x2 (.x3 .e)) (.mv (.t (.x7 (.x0 .e)))),
    .s (.x3 (.x3 .e)) (.ixs 1 (.t (.x1 (.x3 .e))) (.t (.x2 (.x3 .e)))),
    .s (.x4 (.x3 .e)) (.ld none (.t (.x3 (.x3 .e)))),
    .s (.x5 (.x3 .e)) (.mv (.t (.x9 (.x0 .e)))),
    .s (.x6 (.x3 .e)) (.ixs 1 (.t (.x4 (.x3 .e))) (.t (.x5 (.x3 .e)))),
    .s (.x7 (.x3 .e)) (.ld none (.t (.x6 (.x3 .e)))),
    .s (.x8 (.x3 .e)) (.calld (.t (.xf (.x2 .e))) [(.t (.x0 (.x3 .e))), (.t (.x7 (.x3 .e)))]),
    .s (.x9 (.x3 .e)) (.un .not (.t (.x8 (.x3 .e))))])
  (.cond (.t (.x9 (.x3 .e)))
  (.seq (.ops [.s (.x4 (.x0 .e)) (.asg (.c (V.int .i64 16)))])
  .ret)
  .skip))))
  (.ops [.s (.xa (.x3 .e)) (.bin .add (.t (.xa (.x2 .e))) (.c (V.int .i64 1))),
    .s (.xa (.x2 .e)) (.mv (.t (.xa (.x3 .e))))]))))
/-- function 27, loop 0: live [1, 2, 6, 33, 34, 35] -/
def M27_0 : List Pth := [(.x1 (.x0 .e)), (.x2 (.x0 .e)), (.x6 (.x0 .e)), (.x1 (.x2 .e)), (.x2 (.x2 .e)), (.x3 (.x2 .e))]
def L27_0 : EC :=
  (.seq (.ops [.s (.x4 (.x2 .e)) (.bin .lss (.t (.x3 (.x2 .e))) (.t (.x2 (.x2 .e))))])
  (.seq (.cond (.t (.x4 (.x2 .e)))
  .skip
  (.exit 0))
  (.seq (.blk 1 [(.x1 (.x0 .e)), (.x2 (.x0 .e)), (.x6 (.x0 .e)), (.x1 (.x2 .e)), (.x2 (.x2 .e)), (.x3 (.x2 .e))]
  (.seq (.ops [.s (.x5 (.x2 .e)) (.mv (.t (.x3 (.x2 .e)))),
    .s (.x6 (.x2 .e)) (.ixs 1 (.t (.x1 (.x2 .e))) (.t (.x3 (.x2 .e)))),
    .s (.x7 (.x2 .e)) (.ld none (.t (.x6 (.x2 .e)))),
    .s (.x7 (.x0 .e)) (.asg (.t (.x5 (.x2 .e)))),
    .s (.x8 (.x0 .e)) (.asg (.t (.x7 (.x2 .e))))])
  (.seq (.ops [.s (.x8 (.x2 .e)) (.mv (.t (.x8 (.x0 .e)))),
    .s (.x9 (.x2 .e)) (.len (.t (.x8 (.x2 .e)))),
    .s (.xa (.x2 .e)) (.mv (.c (V.int .i64 0)))])
  (.blk 2 [(.x1 (.x0 .e)), (.x2 (.x0 .e)), (.x6 (.x0 .e)), (.x1 (.x2 .e)), (.x2 (.x2 .e)), (.x3 (.x2 .e))]
  (.loop M27_1 L27_1)))))
  (.ops [.s (.xb (.x3 .e)) (.bin .add (.t (.x3 (.x2 .e))) (.c (V.int .i64 1))),
    .s (.x3 (.x2 .e)) (.mv (.t (.xb (.x3 .e))))]))))
/-- function 27, loop 2: live [6, 12, 68, 69, 70] -/
def M27_2 : List Pth := [(.x6 (.x0 .e)), (.xc (.x0 .e)), (.x4 (.x4 .e)), (.x5 (.x4 .e)), (.x6 (.x4 .e))]
def L27_2 : EC :=
  (.seq (.ops [.s (.x7 (.x4 .e)) (.bin .lss (.t (.x6 (.x4 .e))) (.t (.x5 (.x4 .e))))])
  (.seq (.cond (.t (.x7 (.x4 .e)))
  .skip
  (.exit 4))
  (.seq (.blk 5 [(.x6 (.x0 .e)), (.xc (.x0 .e)), (.x4 (.x4 .e)), (.x5 (.x4 .e)), (.x6 (.x4 .e))]
  (.seq (.ops [.s (.x8 (.x4 .e)) (.mv (.t (.x6 (.x4 .e)))),
    .s (.x9 (.x4 .e)) (.ixs 3 (.t (.x4 (.x4 .e))) (.t (.x6 (.x4 .e)))),
    .s (.xa (.x4 .e)) (.ld (some 3) (.t (.x9 (.x4 .e)))),
    .s (.xe (.x0 .e)) (.alloc [V.int .i64 0, V.int .i64 0, V.int .i64 0]),
    .s (.xd (.x0 .e)) (.asg (.t (.x8 (.x4 .e)))),
    .u (.st (some 3) (.t (.xe (.x0 .e))) (.t (.xa (.x4 .e))))])
  (.seq (.draw [0, 1, 2, 3, 4, 5, 6, 7, 8, 9, 10, 11, 12] [0, 0, 2, 0, 8, 24, 56, 0, 248, 504, 1016, 2047, 4095] [.s (.xb (.x4 .e)) (.mv (.t (.x6 (.x0 .e)))),
    .s (.xc (.x4 .e)) (.fadr 2 (.t (.xe (.x0 .e)))),
    .s (.xd (.x4 .e)) (.ld none (.t (.xc (.x4 .e)))),
    .s (.xe (.x4 .e)) (.mv (.t (.xc (.x0 .e)))),
    .s (.xf (.x4 .e)) (.nilck (.t (.xe (.x4 .e)))),
    .s (.x0 (.x5 .e)) (.fadr 2 (.t (.xf (.x4 .e)))),
    .s (.x1 (.x5 .e)) (.ld none (.t (.x0 (.x5 .e)))),
    .s (.x2 (.x5 .e)) (.mv (.t (.xd (.x0 .e)))),
    .s (.x3 (.x5 .e)) (.ixs 3 (.t (.x1 (.x5 .e))) (.t (.x2 (.x5 .e)))),
    .s (.x4 (.x5 .e)) (.fadr 2 (.t (.x3 (.x5 .e)))),
    .s (.x5 (.x5 .e)) (.ld none (.t (.x4 (.x5 .e)))),
    .s (.x6 (.x5 .e)) (.calld (.t (.xb (.x4 .e))) [(.t (.xd (.x4 .e))), (.t (.x5 (.x5 .e)))]),
    .s (.x7 (.x5 .e)) (.un .not (.t (.x6 (.x5 .e))))])
  (.cond (.t (.x7 (.x5 .e)))
  (.seq (.ops [.s (.x4 (.x0 .e)) (.asg (.c (V.int .i64 16)))])
  .ret)
  .skip))))
  (.ops [.s (.x8 (.x5 .e)) (.bin .add (.t (.x6 (.x4 .e))) (.c (V.int .i64 1))),
    .s (.x6 (.x4 .e)) (.mv (.t (.x8 (.x5 .e))))]))))
/-- forecourt/pole.CheckRounding -/
def b27 : EC :=
  (.seq (.ops [.s (.x2 (.x0 .e)) (.box (.t (.x0 (.x0 .e)))),
    .s (.x4 (.x0 .e)) (.asg (.c (V.int .i64 0)))])
  (.seq (.seq (.ops [.s (.xf (.x0 .e)) (.ld (some 2) (.t (.x2 (.x0 .e)))),
    .s (.x0 (.x1 .e)) (.call 25 [(.t (.xf (.x0 .e)))]),
    .s (.x5 (.x0 .e)) (.asg (.t (.x0 (.x1 .e))))])
  (.seq (.ops [.s (.x1 (.x1 .e)) (.mv (.t (.x5 (.x0 .e)))),
    .s (.x2 (.x1 .e)) (.bin .neq (.t (.x1 (.x1 .e))) (.c (V.int .i64 0)))])
  (.cond (.t (.x2 (.x1 .e)))
  (.seq (.ops [.s (.x3 (.x1 .e)) (.mv (.t (.x5 (.x0 .e)))),
    .s (.x4 (.x0 .e)) (.asg (.t (.x3 (.x1 .e))))])
  .ret)
  .skip)))
  (.seq (.seq (.ops [.s (.x4 (.x1 .e)) (.mv (.t (.x1 (.x0 .e)))),
    .s (.x5 (.x1 .e)) (.len (.t (.x4 (.x1 .e)))),
    .s (.x6 (.x1 .e)) (.fadr 1 (.t (.x2 (.x0 .e)))),
    .s (.x7 (.x1 .e)) (.ld none (.t (.x6 (.x1 .e)))),
    .s (.x8 (.x1 .e)) (.len (.t (.x7 (.x1 .e)))),
    .s (.x9 (.x1 .e)) (.bin .neq (.t (.x5 (.x1 .e))) (.t (.x8 (.x1 .e)))),
    .s (.xa (.x1 .e)) (.mv (.t (.x9 (.x1 .e)))),
    .g (.xa (.x1 .e)) false (.xb (.x1 .e)) (.mv (.t (.x1 (.x0 .e)))),
    .g (.xa (.x1 .e)) false (.xc (.x1 .e)) (.mkfn 61 [] [(.t (.x2 (.x0 .e)))]),
    .g (.xa (.x1 .e)) false (.xd (.x1 .e)) (.call 58 [(.t (.xb (.x1 .e))), (.t (.xc (.x1 .e)))]),
    .s (.xe (.x1 .e)) (.pick (.t (.xa (.x1 .e))) (.c (V.bool true)) (.t (.xd (.x1 .e))))])
  (.cond (.t (.xe (.x1 .e)))
  (.seq (.ops [.s (.x4 (.x0 .e)) (.asg (.c (V.int .i64 15)))])
  .ret)
  .skip))
  (.seq (.ops [.s (.xf (.x1 .e)) (.mkfn 62 [] [(.t (.x2 (.x0 .e)))]),
    .s (.x6 (.x0 .e)) (.asg (.t (.xf (.x1 .e))))])
  (.seq (.seq (.ops [.s (.x0 (.x2 .e)) (.fadr 1 (.t (.x2 (.x0 .e)))),
    .s (.x1 (.x2 .e)) (.ld none (.t (.x0 (.x2 .e)))),
    .s (.x2 (.x2 .e)) (.len (.t (.x1 (.x2 .e)))),
    .s (.x3 (.x2 .e)) (.mv (.c (V.int .i64 0)))])
  (.blk 0 [(.x1 (.x0 .e)), (.x2 (.x0 .e)), (.x6 (.x0 .e))]
  (.loop M27_0 L27_0)))
  (.seq (.ops [.s (.xc (.x3 .e)) (.ld (some 2) (.t (.x2 (.x0 .e)))),
    .s (.xd (.x3 .e)) (.call 63 [(.t (.xc (.x3 .e)))]),
    .s (.xe (.x3 .e)) (.mv (.t (.x1 (.x0 .e)))),
    .s (.xf (.x3 .e)) (.build [V.int .i64 0, V.nilslice] [(0, 1, (.c (V.int .i64 1))), (1, 1, (.t (.xe (.x3 .e))))]),
    .s (.x0 (.x4 .e)) (.call 63 [(.t (.xf (.x3 .e)))]),
    .s (.xb (.x0 .e)) (.asg (.t (.xd (.x3 .e)))),
    .s (.xc (.x0 .e)) (.asg (.t (.x0 (.x4 .e))))])
  (.seq (.seq (.ops [.s (.x1 (.x4 .e)) (.mv (.t (.xb (.x0 .e)))),
    .s (.x2 (.x4 .e)) (.nilck (.t (.x1 (.x4 .e)))),
    .s (.x3 (.x4 .e)) (.fadr 2 (.t (.x2 (.x4 .e)))),
    .s (.x4 (.x4 .e)) (.ld none (.t (.x3 (.x4 .e)))),
    .s (.x5 (.x4 .e)) (.len (.t (.x4 (.x4 .e)))),
    .s (.x6 (.x4 .e)) (.mv (.c (V.int .i64 0)))])
  (.blk 4 []
  (.loop M27_2 L27_2)))
  (.seq (.ops [.s (.x4 (.x0 .e)) (.asg (.c (V.int .i64 0)))])
  .ret))))))))
def e27 : EF := { depth := 2, nargs := 2, results := [.t (.x4 (.x0 .e))], body := b27 }

/-- function 28, loop 1: live [1, 2, 5, 6] -/
def M28_1 : List Pth := [(.x1 (.x0 .e)), (.x2 (.x0 .e)), (.x5 (.x0 .e)), (.x6 (.x0 .e))]
def L28_1 : EC :=
  (.seq (.seq (.ops [.s (.x9 (.x1 .e)) (.mv (.t (.x6 (.x0 .e)))),
    .s (.xa (.x1 .e)) (.mv (.t (.x1 (.x0 .e)))),
    .s (.xb (.x1 .e)) (.mv (.t (.x5 (.x0 .e)))),
    .s (.xc (.x1 .e)) (.ixs 1 (.t (.xa (.x1 .e))) (.t (.xb (.x1 .e)))),
    .s (.xd (.x1 .e)) (.ld none (.t (.xc (.x1 .e)))),
    .s (.xe (.x1 .e)) (.len (.t (.xd (.x1 .e)))),
    .s (.xf (.x1 .e)) (.bin .lss (.t (.x9 (.x1 .e))) (.t (.xe (.x1 .e))))])
  (.cond (.t (.xf (.x1 .e)))
  .skip
  (.exit 2)))
  (.seq (.blk 3 [(.x1 (.x0 .e)), (.x2 (.x0 .e)), (.x5 (.x0 .e)), (.x6 (.x0 .e))]
  (.seq (.ops [.s (.x2 (.x2 .e)) (.mv (.t (.x1 (.x0 .e)))),
    .s (.x3 (.x2 .e)) (.mv (.t (.x5 (.x0 .e)))),
    .s (.x4 (.x2 .e)) (.ixs 1 (.t (.x2 (.x2 .e))) (.t (.x3 (.x2 .e)))),
    .s (.x5 (.x2 .e)) (.ld none (.t (.x4 (.x2 .e)))),
    .s (.x6 (.x2 .e)) (.mv (.t (.x6 (.x0 .e)))),
    .s (.x7 (.x2 .e)) (.ixs 1 (.t (.x5 (.x2 .e))) (.t (.x6 (.x2 .e)))),
    .s (.x8 (.x2 .e)) (.ld none (.t (.x7 (.x2 .e)))),
    .s (.x9 (.x2 .e)) (.bin .lss (.t (.x8 (.x2 .e))) (.c (V.int .i64 0))),
    .s (.xa (.x2 .e)) (.mv (.t (.x9 (.x2 .e)))),
    .g (.xa (.x2 .e)) false (.xb (.x2 .e)) (.mv (.t (.x1 (.x0 .e)))),
    .g (.xa (.x2 .e)) false (.xc (.x2 .e)) (.mv (.t (.x5 (.x0 .e)))),
    .g (.xa (.x2 .e)) false (.xd (.x2 .e)) (.ixs 1 (.t (.xb (.x2 .e))) (.t (.xc (.x2 .e)))),
    .g (.xa (.x2 .e)) false (.xe (.x2 .e)) (.ld none (.t (.xd (.x2 .e)))),
    .g (.xa (.x2 .e)) false (.xf (.x2 .e)) (.mv (.t (.x6 (.x0 .e)))),
    .g (.xa (.x2 .e)) false (.x0 (.x3 .e)) (.ixs 1 (.t (.xe (.x2 .e))) (.t (.xf (.x2 .e)))),
    .g (.xa (.x2 .e)) false (.x1 (.x3 .e)) (.ld none (.t (.x0 (.x3 .e)))),
    .g (.xa (.x2 .e)) false (.x2 (.x3 .e)) (.bin .gtr (.t (.x1 (.x3 .e))) (.c (V.int .i64 36000000))),
    .s (.x3 (.x3 .e)) (.pick (.t (.xa (.x2 .e))) (.c (V.bool true)) (.t (.x2 (.x3 .e))))])
  (.cond (.t (.x3 (.x3 .e)))
  (.seq (.ops [.s (.x4 (.x0 .e)) (.asg (.c (V.int .i64 16)))])
  .ret)
  .skip)))
  (.ops [.s (.x0 (.x2 .e)) (.mv (.t (.x6 (.x0 .e)))),
    .s (.x1 (.x2 .e)) (.bin .add (.t (.x0 (.x2 .e))) (.c (V.int .i64 1))),
    .s (.x6 (.x0 .e)) (.asg (.t (.x1 (.x2 .e))))])))
/-- function 28, loop 0: live [1, 2, 5] -/
def M28_0 : List Pth := [(.x1 (.x0 .e)), (.x2 (.x0 .e)), (.x5 (.x0 .e))]
def L28_0 : EC :=
  (.seq (.seq (.ops [.s (.x3 (.x1 .e)) (.mv (.t (.x5 (.x0 .e)))),
    .s (.x4 (.x1 .e)) (.mv (.t (.x1 (.x0 .e)))),
    .s (.x5 (.x1 .e)) (.len (.t (.x4 (.x1 .e)))),
    .s (.x6 (.x1 .e)) (.bin .lss (.t (.x3 (.x1 .e))) (.t (.x5 (.x1 .e))))])
  (.cond (.t (.x6 (.x1 .e)))
  .skip
  (.exit 0)))
  (.seq (.blk 1 [(.x1 (.x0 .e)), (.x2 (.x0 .e)), (.x5 (.x0 .e))]
  (.seq (.ops [.s (.x6 (.x0 .e)) (.asg (.c (V.int .i64 0)))])
  (.blk 2 [(.x1 (.x0 .e)), (.x2 (.x0 .e)), (.x5 (.x0 .e))]
  (.loop M28_1 L28_1))))
  (.ops [.s (.x7 (.x1 .e)) (.mv (.t (.x5 (.x0 .e)))),
    .s (.x8 (.x1 .e)) (.bin .add (.t (.x7 (.x1 .e))) (.c (V.int .i64 1))),
    .s (.x5 (.x0 .e)) (.asg (.t (.x8 (.x1 .e))))])))
/-- function 28, loop 2: live [2, 7, 8, 9] -/
def M28_2 : List Pth := [(.x2 (.x0 .e)), (.x7 (.x0 .e)), (.x8 (.x0 .e)), (.x9 (.x0 .e))]
def L28_2 : EC :=
  (.seq (.seq (.ops [.s (.x9 (.x3 .e)) (.mv (.t (.x9 (.x0 .e)))),
    .s (.xa (.x3 .e)) (.mv (.t (.x7 (.x0 .e)))),
    .s (.xb (.x3 .e)) (.len (.t (.xa (.x3 .e)))),
    .s (.xc (.x3 .e)) (.bin .lss (.t (.x9 (.x3 .e))) (.t (.xb (.x3 .e))))])
  (.cond (.t (.xc (.x3 .e)))
  .skip
  (.exit 4)))
  (.seq (.blk 5 [(.x2 (.x0 .e)), (.x7 (.x0 .e)), (.x8 (.x0 .e)), (.x9 (.x0 .e))]
  (.seq (.draw [0, 1, 2, 3, 4, 5, 6, 7, 8, 9, 10, 11, 12, 13, 14, 15, 16, 17, 18, 19, 20, 21, 22, 23, 24, 25, 26, 27, 28, 29] [0, 0, 3, 7, 0, 0, 48, 112, 0, 256, 1008, 2047, 4095, 8191, 8191, 32767, 65535, 8191, 8191, 401407, 925695, 8191, 2105343, 8265727, 16654335, 8191, 33562623, 134094847, 268435455, 536870911] [.s (.xf (.x3 .e)) (.mv (.t (.x8 (.x0 .e)))),
    .s (.x0 (.x4 .e)) (.mv (.t (.x9 (.x0 .e)))),
    .s (.x1 (.x4 .e)) (.ixs 1 (.t (.xf (.x3 .e))) (.t (.x0 (.x4 .e)))),
    .s (.x2 (.x4 .e)) (.ld none (.t (.x1 (.x4 .e)))),
    .s (.x3 (.x4 .e)) (.mv (.t (.x7 (.x0 .e)))),
    .s (.x4 (.x4 .e)) (.mv (.t (.x9 (.x0 .e)))),
    .s (.x5 (.x4 .e)) (.ixs 1 (.t (.x3 (.x4 .e))) (.t (.x4 (.x4 .e)))),
    .s (.x6 (.x4 .e)) (.ld none (.t (.x5 (.x4 .e)))),
    .s (.x7 (.x4 .e)) (.fadr 0 (.t (.x2 (.x0 .e)))),
    .s (.x8 (.x4 .e)) (.ld none (.t (.x7 (.x4 .e)))),
    .s (.x9 (.x4 .e)) (.bin .quo (.t (.x6 (.x4 .e))) (.t (.x8 (.x4 .e)))),
    .s (.xa (.x4 .e)) (.bin .neq (.t (.x2 (.x4 .e))) (.t (.x9 (.x4 .e)))),
    .s (.xb (.x4 .e)) (.mv (.t (.xa (.x4 .e)))),
    .g (.xb (.x4 .e)) true (.xc (.x4 .e)) (.mv (.t (.x8 (.x0 .e)))),
    .g (.xb (.x4 .e)) true (.xd (.x4 .e)) (.mv (.t (.x9 (.x0 .e)))),
    .g (.xb (.x4 .e)) true (.xe (.x4 .e)) (.ixs 1 (.t (.xc (.x4 .e))) (.t (.xd (.x4 .e)))),
    .g (.xb (.x4 .e)) true (.xf (.x4 .e)) (.ld none (.t (.xe (.x4 .e)))),
    .g (.xb (.x4 .e)) true (.x0 (.x5 .e)) (.mv (.t (.x7 (.x0 .e)))),
    .g (.xb (.x4 .e)) true (.x1 (.x5 .e)) (.mv (.t (.x9 (.x0 .e)))),
    .g (.xb (.x4 .e)) true (.x2 (.x5 .e)) (.ixs 1 (.t (.x0 (.x5 .e))) (.t (.x1 (.x5 .e)))),
    .g (.xb (.x4 .e)) true (.x3 (.x5 .e)) (.ld none (.t (.x2 (.x5 .e)))),
    .g (.xb (.x4 .e)) true (.x4 (.x5 .e)) (.fadr 0 (.t (.x2 (.x0 .e)))),
    .g (.xb (.x4 .e)) true (.x5 (.x5 .e)) (.ld none (.t (.x4 (.x5 .e)))),
    .g (.xb (.x4 .e)) true (.x6 (.x5 .e)) (.bin .add (.t (.x3 (.x5 .e))) (.t (.x5 (.x5 .e)))),
    .g (.xb (.x4 .e)) true (.x7 (.x5 .e)) (.bin .sub (.t (.x6 (.x5 .e))) (.c (V.int .i64 1))),
    .g (.xb (.x4 .e)) true (.x8 (.x5 .e)) (.fadr 0 (.t (.x2 (.x0 .e)))),
    .g (.xb (.x4 .e)) true (.x9 (.x5 .e)) (.ld none (.t (.x8 (.x5 .e)))),
    .g (.xb (.x4 .e)) true (.xa (.x5 .e)) (.bin .quo (.t (.x7 (.x5 .e))) (.t (.x9 (.x5 .e)))),
    .g (.xb (.x4 .e)) true (.xb (.x5 .e)) (.bin .neq (.t (.xf (.x4 .e))) (.t (.xa (.x5 .e)))),
    .s (.xc (.x5 .e)) (.pick (.t (.xb (.x4 .e))) (.t (.xb (.x5 .e))) (.c (V.bool false)))])
  (.cond (.t (.xc (.x5 .e)))
  (.seq (.ops [.s (.x4 (.x0 .e)) (.asg (.c (V.int .i64 16)))])
  .ret)
  .skip)))
  (.ops [.s (.xd (.x3 .e)) (.mv (.t (.x9 (.x0 .e)))),
    .s (.xe (.x3 .e)) (.bin .add (.t (.xd (.x3 .e))) (.c (V.int .i64 1))),
    .s (.x9 (.x0 .e)) (.asg (.t (.xe (.x3 .e))))])))
/-- forecourt/forecourtref09.CheckRounding -/
def b28 : EC :=
  (.seq (.ops [.s (.x2 (.x0 .e)) (.box (.t (.x0 (.x0 .e)))),
    .s (.x4 (.x0 .e)) (.asg (.c (V.int .i64 0)))])
  (.seq (.seq (.ops [.s (.xa (.x0 .e)) (.ld (some 2) (.t (.x2 (.x0 .e)))),
    .s (.xb (.x0 .e)) (.call 26 [(.t (.xa (.x0 .e)))]),
    .s (.xc (.x0 .e)) (.bin .neq (.t (.xb (.x0 .e))) (.c (V.int .i64 0)))])
  (.cond (.t (.xc (.x0 .e)))
  (.seq (.ops [.s (.xd (.x0 .e)) (.ld (some 2) (.t (.x2 (.x0 .e)))),
    .s (.xe (.x0 .e)) (.call 26 [(.t (.xd (.x0 .e)))]),
    .s (.x4 (.x0 .e)) (.asg (.t (.xe (.x0 .e))))])
  .ret)
  .skip))
  (.seq (.seq (.ops [.s (.xf (.x0 .e)) (.ld (some 2) (.t (.x2 (.x0 .e)))),
    .s (.x0 (.x1 .e)) (.mv (.t (.x1 (.x0 .e)))),
    .s (.x1 (.x1 .e)) (.call 38 [(.t (.xf (.x0 .e))), (.t (.x0 (.x1 .e)))]),
    .s (.x2 (.x1 .e)) (.un .not (.t (.x1 (.x1 .e))))])
  (.cond (.t (.x2 (.x1 .e)))
  (.seq (.ops [.s (.x4 (.x0 .e)) (.asg (.c (V.int .i64 15)))])
  .ret)
  .skip))
  (.seq (.seq (.ops [.s (.x5 (.x0 .e)) (.asg (.c (V.int .i64 0)))])
  (.blk 0 [(.x1 (.x0 .e)), (.x2 (.x0 .e))]
  (.loop M28_0 L28_0)))
  (.seq (.ops [.s (.x4 (.x3 .e)) (.fadr 1 (.t (.x2 (.x0 .e)))),
    .s (.x5 (.x3 .e)) (.ld none (.t (.x4 (.x3 .e)))),
    .s (.x6 (.x3 .e)) (.call 39 [(.t (.x5 (.x3 .e)))]),
    .s (.x7 (.x3 .e)) (.mv (.t (.x1 (.x0 .e)))),
    .s (.x8 (.x3 .e)) (.call 39 [(.t (.x7 (.x3 .e)))]),
    .s (.x7 (.x0 .e)) (.asg (.t (.x6 (.x3 .e)))),
    .s (.x8 (.x0 .e)) (.asg (.t (.x8 (.x3 .e))))])
  (.seq (.seq (.ops [.s (.x9 (.x0 .e)) (.asg (.c (V.int .i64 0)))])
  (.blk 4 []
  (.loop M28_2 L28_2)))
  (.seq (.ops [.s (.x4 (.x0 .e)) (.asg (.c (V.int .i64 0)))])
  .ret)))))))
def e28 : EF := { depth := 2, nargs := 2, results := [.t (.x4 (.x0 .e))], body := b28 }

/-- forecourt/pole.Round -/
def b29 : EC :=
  (.seq (.ops [.s (.x1 .e) (.box (.t (.x0 .e))),
    .s (.x2 .e) (.asg (.c (V.nilslice))),
    .s (.x3 .e) (.asg (.c (V.int .i64 0)))])
  (.seq (.seq (.ops [.s (.x5 .e) (.ld (some 2) (.t (.x1 .e))),
    .s (.x6 .e) (.call 25 [(.t (.x5 .e))]),
    .s (.x4 .e) (.asg (.t (.x6 .e)))])
  (.seq (.ops [.s (.x7 .e) (.mv (.t (.x4 .e))),
    .s (.x8 .e) (.bin .neq (.t (.x7 .e)) (.c (V.int .i64 0)))])
  (.cond (.t (.x8 .e))
  (.seq (.ops [.s (.x9 .e) (.mv (.t (.x4 .e))),
    .s (.x2 .e) (.asg (.c (V.nilslice))),
    .s (.x3 .e) (.asg (.t (.x9 .e)))])
  .ret)
  .skip)))
  (.seq (.ops [.s (.xa .e) (.ld (some 2) (.t (.x1 .e))),
    .s (.xb .e) (.call 64 [(.t (.xa .e))]),
    .s (.x2 .e) (.asg (.t (.xb .e))),
    .s (.x3 .e) (.asg (.c (V.int .i64 0)))])
  .ret)))
def e29 : EF := { depth := 1, nargs := 1, results := [.t (.x2 .e), .t (.x3 .e)], body := b29 }

/-- function 30, loop 0: live [3, 11, 12] -/
def M30_0 : List Pth := [(.x3 (.x0 .e)), (.xb (.x0 .e)), (.xc (.x0 .e))]
def L30_0 : EC :=
  (.seq (.seq (.ops [.s (.x2 (.x4 .e)) (.mv (.t (.xb (.x0 .e)))),
    .s (.x3 (.x4 .e)) (.mv (.t (.xc (.x0 .e)))),
    .s (.x4 (.x4 .e)) (.call 65 [(.t (.x2 (.x4 .e))), (.t (.x3 (.x4 .e)))])])
  (.cond (.t (.x4 (.x4 .e)))
  .skip
  (.exit 1)))
  (.blk 2 [(.x3 (.x0 .e)), (.xb (.x0 .e)), (.xc (.x0 .e))]
  (.ops [.s (.x5 (.x4 .e)) (.mv (.t (.xb (.x0 .e)))),
    .s (.x6 (.x4 .e)) (.mv (.t (.xc (.x0 .e)))),
    .s (.x7 (.x4 .e)) (.mv (.t (.x3 (.x0 .e)))),
    .s (.x8 (.x4 .e)) (.call 66 [(.t (.x5 (.x4 .e))), (.t (.x6 (.x4 .e))), (.t (.x7 (.x4 .e)))])])))
/-- forecourt/pole.Force -/
def b30 : EC :=
  (.seq (.ops [.s (.x4 (.x0 .e)) (.box (.t (.x0 (.x0 .e)))),
    .s (.x8 (.x0 .e)) (.asg (.c (V.nilslice))),
    .s (.x9 (.x0 .e)) (.asg (.c (V.int .i64 0)))])
  (.seq (.ops [.s (.xd (.x0 .e)) (.ld (some 2) (.t (.x4 (.x0 .e)))),
    .s (.xe (.x0 .e)) (.call 25 [(.t (.xd (.x0 .e)))]),
    .s (.xa (.x0 .e)) (.asg (.t (.xe (.x0 .e))))])
  (.seq (.blk 0 [(.x1 (.x0 .e)), (.x2 (.x0 .e)), (.x3 (.x0 .e)), (.x4 (.x0 .e))]
  (.seq (.ops [.s (.x0 (.x1 .e)) (.mv (.t (.xa (.x0 .e)))),
    .s (.x1 (.x1 .e)) (.bin .neq (.t (.x0 (.x1 .e))) (.c (V.int .i64 0))),
    .s (.xf (.x0 .e)) (.asg (.t (.x1 (.x1 .e))))])
  (.cond (.t (.xf (.x0 .e)))
  (.seq (.ops [.s (.x2 (.x1 .e)) (.mv (.t (.xa (.x0 .e)))),
    .s (.x8 (.x0 .e)) (.asg (.c (V.nilslice))),
    .s (.x9 (.x0 .e)) (.asg (.t (.x2 (.x1 .e))))])
  .ret)
  (.seq (.ops [.s (.x4 (.x1 .e)) (.mv (.t (.x1 (.x0 .e)))),
    .s (.x5 (.x1 .e)) (.bin .lss (.t (.x4 (.x1 .e))) (.c (V.int .i64 0))),
    .s (.x6 (.x1 .e)) (.mv (.t (.x5 (.x1 .e)))),
    .g (.x6 (.x1 .e)) false (.x7 (.x1 .e)) (.mv (.t (.x1 (.x0 .e)))),
    .g (.x6 (.x1 .e)) false (.x8 (.x1 .e)) (.fadr 1 (.t (.x4 (.x0 .e)))),
    .g (.x6 (.x1 .e)) false (.x9 (.x1 .e)) (.ld none (.t (.x8 (.x1 .e)))),
    .g (.x6 (.x1 .e)) false (.xa (.x1 .e)) (.len (.t (.x9 (.x1 .e)))),
    .g (.x6 (.x1 .e)) false (.xb (.x1 .e)) (.bin .geq (.t (.x7 (.x1 .e))) (.t (.xa (.x1 .e)))),
    .s (.xc (.x1 .e)) (.pick (.t (.x6 (.x1 .e))) (.c (V.bool true)) (.t (.xb (.x1 .e)))),
    .s (.xd (.x1 .e)) (.mv (.t (.xc (.x1 .e)))),
    .g (.xd (.x1 .e)) false (.xe (.x1 .e)) (.mv (.t (.x2 (.x0 .e)))),
    .g (.xd (.x1 .e)) false (.xf (.x1 .e)) (.bin .lss (.t (.xe (.x1 .e))) (.c (V.int .i64 0))),
    .s (.x0 (.x2 .e)) (.pick (.t (.xd (.x1 .e))) (.c (V.bool true)) (.t (.xf (.x1 .e)))),
    .s (.x1 (.x2 .e)) (.mv (.t (.x0 (.x2 .e)))),
    .g (.x1 (.x2 .e)) false (.x2 (.x2 .e)) (.mv (.t (.x2 (.x0 .e)))),
    .g (.x1 (.x2 .e)) false (.x3 (.x2 .e)) (.fadr 1 (.t (.x4 (.x0 .e)))),
    .g (.x1 (.x2 .e)) false (.x4 (.x2 .e)) (.ld none (.t (.x3 (.x2 .e)))),
    .g (.x1 (.x2 .e)) false (.x5 (.x2 .e)) (.ixs 1 (.t (.x4 (.x2 .e))) (.c (V.int .i64 0))),
    .g (.x1 (.x2 .e)) false (.x6 (.x2 .e)) (.ld none (.t (.x5 (.x2 .e)))),
    .g (.x1 (.x2 .e)) false (.x7 (.x2 .e)) (.len (.t (.x6 (.x2 .e)))),
    .g (.x1 (.x2 .e)) false (.x8 (.x2 .e)) (.bin .geq (.t (.x2 (.x2 .e))) (.t (.x7 (.x2 .e)))),
    .s (.x9 (.x2 .e)) (.pick (.t (.x1 (.x2 .e))) (.c (V.bool true)) (.t (.x8 (.x2 .e)))),
    .s (.x3 (.x1 .e)) (.asg (.t (.x9 (.x2 .e))))])
  (.cond (.t (.x3 (.x1 .e)))
  (.seq (.ops [.s (.x8 (.x0 .e)) (.asg (.c (V.nilslice))),
    .s (.x9 (.x0 .e)) (.asg (.c (V.int .i64 3)))])
  .ret)
  (.seq (.draw [0, 1, 2, 3, 4, 5, 6, 7, 8, 9, 10, 11, 12] [0, 1, 0, 7, 15, 0, 63, 127, 0, 256, 1023, 2047, 4095] [.s (.xb (.x2 .e)) (.fadr 1 (.t (.x4 (.x0 .e)))),
    .s (.xc (.x2 .e)) (.ld none (.t (.xb (.x2 .e)))),
    .s (.xd (.x2 .e)) (.mv (.t (.x1 (.x0 .e)))),
    .s (.xe (.x2 .e)) (.ixs 1 (.t (.xc (.x2 .e))) (.t (.xd (.x2 .e)))),
    .s (.xf (.x2 .e)) (.ld none (.t (.xe (.x2 .e)))),
    .s (.x0 (.x3 .e)) (.mv (.t (.x2 (.x0 .e)))),
    .s (.x1 (.x3 .e)) (.ixs 1 (.t (.xf (.x2 .e))) (.t (.x0 (.x3 .e)))),
    .s (.x2 (.x3 .e)) (.ld none (.t (.x1 (.x3 .e)))),
    .s (.x3 (.x3 .e)) (.fadr 0 (.t (.x4 (.x0 .e)))),
    .s (.x4 (.x3 .e)) (.ld none (.t (.x3 (.x3 .e)))),
    .s (.x5 (.x3 .e)) (.bin .rem (.t (.x2 (.x3 .e))) (.t (.x4 (.x3 .e)))),
    .s (.x6 (.x3 .e)) (.bin .eql (.t (.x5 (.x3 .e))) (.c (V.int .i64 0))),
    .s (.xa (.x2 .e)) (.asg (.t (.x6 (.x3 .e))))])
  (.cond (.t (.xa (.x2 .e)))
  (.seq (.ops [.s (.x8 (.x0 .e)) (.asg (.c (V.nilslice))),
    .s (.x9 (.x0 .e)) (.asg (.c (V.int .i64 5)))])
  .ret)
  .skip)))))))
  (.seq (.ops [.s (.x7 (.x3 .e)) (.ld (some 2) (.t (.x4 (.x0 .e)))),
    .s (.x8 (.x3 .e)) (.call 63 [(.t (.x7 (.x3 .e)))]),
    .s (.xb (.x0 .e)) (.asg (.t (.x8 (.x3 .e))))])
  (.seq (.ops [.s (.x9 (.x3 .e)) (.mv (.t (.x1 (.x0 .e)))),
    .s (.xa (.x3 .e)) (.fadr 1 (.t (.x4 (.x0 .e)))),
    .s (.xb (.x3 .e)) (.ld none (.t (.xa (.x3 .e)))),
    .s (.xc (.x3 .e)) (.ixs 1 (.t (.xb (.x3 .e))) (.c (V.int .i64 0))),
    .s (.xd (.x3 .e)) (.ld none (.t (.xc (.x3 .e)))),
    .s (.xe (.x3 .e)) (.len (.t (.xd (.x3 .e)))),
    .s (.xf (.x3 .e)) (.bin .mul (.t (.x9 (.x3 .e))) (.t (.xe (.x3 .e)))),
    .s (.x0 (.x4 .e)) (.mv (.t (.x2 (.x0 .e)))),
    .s (.x1 (.x4 .e)) (.bin .add (.t (.xf (.x3 .e))) (.t (.x0 (.x4 .e)))),
    .s (.xc (.x0 .e)) (.asg (.t (.x1 (.x4 .e))))])
  (.seq (.blk 1 [(.xb (.x0 .e))]
  (.loop M30_0 L30_0))
  (.seq (.ops [.s (.x9 (.x4 .e)) (.mv (.t (.xb (.x0 .e)))),
    .s (.xa (.x4 .e)) (.call 67 [(.t (.x9 (.x4 .e)))])])
  (.seq (.ops [.s (.xb (.x4 .e)) (.mv (.t (.xb (.x0 .e)))),
    .s (.xc (.x4 .e)) (.call 68 [(.t (.xb (.x4 .e)))]),
    .s (.x8 (.x0 .e)) (.asg (.t (.xc (.x4 .e)))),
    .s (.x9 (.x0 .e)) (.asg (.c (V.int .i64 0)))])
  .ret))))))))
def e30 : EF := { depth := 2, nargs := 4, results := [.t (.x8 (.x0 .e)), .t (.x9 (.x0 .e))], body := b30 }

/-- forecourt/forecourtref09.ForceError -/
def b31 : EC :=
  (.seq (.ops [.s (.x3 (.x0 .e)) (.box (.t (.x0 (.x0 .e)))),
    .s (.x6 (.x0 .e)) (.asg (.c (V.int .i64 0)))])
  (.seq (.seq (.ops [.s (.x7 (.x0 .e)) (.ld (some 2) (.t (.x3 (.x0 .e)))),
    .s (.x8 (.x0 .e)) (.call 26 [(.t (.x7 (.x0 .e)))]),
    .s (.x9 (.x0 .e)) (.bin .neq (.t (.x8 (.x0 .e))) (.c (V.int .i64 0)))])
  (.cond (.t (.x9 (.x0 .e)))
  (.seq (.ops [.s (.xa (.x0 .e)) (.ld (some 2) (.t (.x3 (.x0 .e)))),
    .s (.xb (.x0 .e)) (.call 26 [(.t (.xa (.x0 .e)))]),
    .s (.x6 (.x0 .e)) (.asg (.t (.xb (.x0 .e))))])
  .ret)
  .skip))
  (.seq (.seq (.ops [.s (.xc (.x0 .e)) (.mv (.t (.x1 (.x0 .e)))),
    .s (.xd (.x0 .e)) (.bin .lss (.t (.xc (.x0 .e))) (.c (V.int .i64 0))),
    .s (.xe (.x0 .e)) (.mv (.t (.xd (.x0 .e)))),
    .g (.xe (.x0 .e)) false (.xf (.x0 .e)) (.mv (.t (.x1 (.x0 .e)))),
    .g (.xe (.x0 .e)) false (.x0 (.x1 .e)) (.fadr 1 (.t (.x3 (.x0 .e)))),
    .g (.xe (.x0 .e)) false (.x1 (.x1 .e)) (.ld none (.t (.x0 (.x1 .e)))),
    .g (.xe (.x0 .e)) false (.x2 (.x1 .e)) (.len (.t (.x1 (.x1 .e)))),
    .g (.xe (.x0 .e)) false (.x3 (.x1 .e)) (.bin .geq (.t (.xf (.x0 .e))) (.t (.x2 (.x1 .e)))),
    .s (.x4 (.x1 .e)) (.pick (.t (.xe (.x0 .e))) (.c (V.bool true)) (.t (.x3 (.x1 .e)))),
    .s (.x5 (.x1 .e)) (.mv (.t (.x4 (.x1 .e)))),
    .g (.x5 (.x1 .e)) false (.x6 (.x1 .e)) (.mv (.t (.x2 (.x0 .e)))),
    .g (.x5 (.x1 .e)) false (.x7 (.x1 .e)) (.bin .lss (.t (.x6 (.x1 .e))) (.c (V.int .i64 0))),
    .s (.x8 (.x1 .e)) (.pick (.t (.x5 (.x1 .e))) (.c (V.bool true)) (.t (.x7 (.x1 .e)))),
    .s (.x9 (.x1 .e)) (.mv (.t (.x8 (.x1 .e)))),
    .g (.x9 (.x1 .e)) false (.xa (.x1 .e)) (.mv (.t (.x2 (.x0 .e)))),
    .g (.x9 (.x1 .e)) false (.xb (.x1 .e)) (.fadr 1 (.t (.x3 (.x0 .e)))),
    .g (.x9 (.x1 .e)) false (.xc (.x1 .e)) (.ld none (.t (.xb (.x1 .e)))),
    .g (.x9 (.x1 .e)) false (.xd (.x1 .e)) (.ixs 1 (.t (.xc (.x1 .e))) (.c (V.int .i64 0))),
    .g (.x9 (.x1 .e)) false (.xe (.x1 .e)) (.ld none (.t (.xd (.x1 .e)))),
    .g (.x9 (.x1 .e)) false (.xf (.x1 .e)) (.len (.t (.xe (.x1 .e)))),
    .g (.x9 (.x1 .e)) false (.x0 (.x2 .e)) (.bin .geq (.t (.xa (.x1 .e))) (.t (.xf (.x1 .e)))),
    .s (.x1 (.x2 .e)) (.pick (.t (.x9 (.x1 .e))) (.c (V.bool true)) (.t (.x0 (.x2 .e))))])
  (.cond (.t (.x1 (.x2 .e)))
  (.seq (.ops [.s (.x6 (.x0 .e)) (.asg (.c (V.int .i64 3)))])
  .ret)
  .skip))
  (.seq (.seq (.draw [0, 1, 2, 3, 4, 5, 6, 7, 8, 9, 10, 11] [0, 1, 0, 7, 15, 0, 63, 127, 0, 256, 1023, 2047] [.s (.x2 (.x2 .e)) (.fadr 1 (.t (.x3 (.x0 .e)))),
    .s (.x3 (.x2 .e)) (.ld none (.t (.x2 (.x2 .e)))),
    .s (.x4 (.x2 .e)) (.mv (.t (.x1 (.x0 .e)))),
    .s (.x5 (.x2 .e)) (.ixs 1 (.t (.x3 (.x2 .e))) (.t (.x4 (.x2 .e)))),
    .s (.x6 (.x2 .e)) (.ld none (.t (.x5 (.x2 .e)))),
    .s (.x7 (.x2 .e)) (.mv (.t (.x2 (.x0 .e)))),
    .s (.x8 (.x2 .e)) (.ixs 1 (.t (.x6 (.x2 .e))) (.t (.x7 (.x2 .e)))),
    .s (.x9 (.x2 .e)) (.ld none (.t (.x8 (.x2 .e)))),
    .s (.xa (.x2 .e)) (.fadr 0 (.t (.x3 (.x0 .e)))),
    .s (.xb (.x2 .e)) (.ld none (.t (.xa (.x2 .e)))),
    .s (.xc (.x2 .e)) (.bin .rem (.t (.x9 (.x2 .e))) (.t (.xb (.x2 .e)))),
    .s (.xd (.x2 .e)) (.bin .eql (.t (.xc (.x2 .e))) (.c (V.int .i64 0)))])
  (.cond (.t (.xd (.x2 .e)))
  (.seq (.ops [.s (.x6 (.x0 .e)) (.asg (.c (V.int .i64 5)))])
  .ret)
  .skip))
  (.seq (.ops [.s (.x6 (.x0 .e)) (.asg (.c (V.int .i64 0)))])
  .ret)))))
def e31 : EF := { depth := 2, nargs := 3, results := [.t (.x6 (.x0 .e))], body := b31 }

/-- forecourt/forecourtlaw09.fine -/
def b32 : EC :=
  (.seq (.ops [.s (.x3 (.x0 .e)) (.box (.t (.x1 (.x0 .e)))),
    .s (.x4 (.x0 .e)) (.asg (.c (V.bool false)))])
  (.seq (.ops [.s (.x5 (.x0 .e)) (.mv (.t (.x0 (.x0 .e)))),
    .s (.x6 (.x0 .e)) (.len (.t (.x5 (.x0 .e)))),
    .s (.x7 (.x0 .e)) (.bin .leq (.t (.x6 (.x0 .e))) (.c (V.int .i64 40))),
    .s (.x8 (.x0 .e)) (.mv (.t (.x7 (.x0 .e)))),
    .g (.x8 (.x0 .e)) true (.x9 (.x0 .e)) (.mv (.t (.x0 (.x0 .e)))),
    .g (.x8 (.x0 .e)) true (.xa (.x0 .e)) (.call 18 [(.t (.x9 (.x0 .e)))]),
    .g (.x8 (.x0 .e)) true (.xb (.x0 .e)) (.bin .eql (.t (.xa (.x0 .e))) (.c (V.int .i64 0))),
    .s (.xc (.x0 .e)) (.pick (.t (.x8 (.x0 .e))) (.t (.xb (.x0 .e))) (.c (V.bool false))),
    .s (.xd (.x0 .e)) (.mv (.t (.xc (.x0 .e)))),
    .g (.xd (.x0 .e)) true (.xe (.x0 .e)) (.ld (some 2) (.t (.x3 (.x0 .e)))),
    .g (.xd (.x0 .e)) true (.xf (.x0 .e)) (.call 36 [(.t (.xe (.x0 .e)))]),
    .s (.x0 (.x1 .e)) (.pick (.t (.xd (.x0 .e))) (.t (.xf (.x0 .e))) (.c (V.bool false))),
    .s (.x4 (.x0 .e)) (.asg (.t (.x0 (.x1 .e))))])
  .ret))
def e32 : EF := { depth := 2, nargs := 2, results := [.t (.x4 (.x0 .e))], body := b32 }

/-- function 33, loop 0: live [0, 1, 5, 6] -/
def M33_0 : List Pth := [(.x0 (.x0 .e)), (.x1 (.x0 .e)), (.x5 (.x0 .e)), (.x6 (.x0 .e))]
def L33_0 : EC :=
  (.seq (.seq (.ops [.s (.xb (.x0 .e)) (.mv (.t (.x6 (.x0 .e)))),
    .s (.xc (.x0 .e)) (.mv (.t (.x0 (.x0 .e)))),
    .s (.xd (.x0 .e)) (.len (.t (.xc (.x0 .e)))),
    .s (.xe (.x0 .e)) (.bin .lss (.t (.xb (.x0 .e))) (.t (.xd (.x0 .e))))])
  (.cond (.t (.xe (.x0 .e)))
  .skip
  (.exit 0)))
  (.seq (.blk 1 [(.x0 (.x0 .e)), (.x1 (.x0 .e)), (.x5 (.x0 .e)), (.x6 (.x0 .e))]
  (.seq (.ops [.s (.x1 (.x1 .e)) (.mv (.t (.x0 (.x0 .e)))),
    .s (.x2 (.x1 .e)) (.mv (.t (.x6 (.x0 .e)))),
    .s (.x3 (.x1 .e)) (.ixs 2 (.t (.x1 (.x1 .e))) (.t (.x2 (.x1 .e)))),
    .s (.x4 (.x1 .e)) (.fadr 0 (.t (.x3 (.x1 .e)))),
    .s (.x5 (.x1 .e)) (.ld none (.t (.x4 (.x1 .e)))),
    .s (.x6 (.x1 .e)) (.mv (.t (.x1 (.x0 .e)))),
    .s (.x7 (.x1 .e)) (.bin .leq (.t (.x5 (.x1 .e))) (.t (.x6 (.x1 .e))))])
  (.cond (.t (.x7 (.x1 .e)))
  (.ops [.s (.x8 (.x1 .e)) (.mv (.t (.x0 (.x0 .e)))),
    .s (.x9 (.x1 .e)) (.mv (.t (.x6 (.x0 .e)))),
    .s (.xa (.x1 .e)) (.ixs 2 (.t (.x8 (.x1 .e))) (.t (.x9 (.x1 .e)))),
    .s (.xb (.x1 .e)) (.fadr 1 (.t (.xa (.x1 .e)))),
    .s (.xc (.x1 .e)) (.ld none (.t (.xb (.x1 .e)))),
    .s (.x5 (.x0 .e)) (.asg (.t (.xc (.x1 .e))))])
  .skip)))
  (.ops [.s (.xf (.x0 .e)) (.mv (.t (.x6 (.x0 .e)))),
    .s (.x0 (.x1 .e)) (.bin .add (.t (.xf (.x0 .e))) (.c (V.int .i64 1))),
    .s (.x6 (.x0 .e)) (.asg (.t (.x0 (.x1 .e))))])))
/-- forecourt/forecourtref09.At -/
def b33 : EC :=
  (.seq (.ops [.s (.x4 (.x0 .e)) (.asg (.c (V.int .i64 0)))])
  (.seq (.ops [.s (.x7 (.x0 .e)) (.mv (.t (.x0 (.x0 .e)))),
    .s (.x8 (.x0 .e)) (.ixs 2 (.t (.x7 (.x0 .e))) (.c (V.int .i64 0))),
    .s (.x9 (.x0 .e)) (.fadr 1 (.t (.x8 (.x0 .e)))),
    .s (.xa (.x0 .e)) (.ld none (.t (.x9 (.x0 .e)))),
    .s (.x5 (.x0 .e)) (.asg (.t (.xa (.x0 .e))))])
  (.seq (.seq (.ops [.s (.x6 (.x0 .e)) (.asg (.c (V.int .i64 0)))])
  (.blk 0 [(.x5 (.x0 .e))]
  (.loop M33_0 L33_0)))
  (.seq (.ops [.s (.xd (.x1 .e)) (.mv (.t (.x5 (.x0 .e)))),
    .s (.x4 (.x0 .e)) (.asg (.t (.xd (.x1 .e))))])
  .ret))))
def e33 : EF := { depth := 2, nargs := 2, results := [.t (.x4 (.x0 .e))], body := b33 }

/-- forecourt/forecourtlaw09.rg -/
def b34 : EC :=
  (.seq (.ops [.s (.x4 .e) (.alloc [V.int .i64 0, V.int .i64 0])])
  (.seq (.ops [.s (.x5 .e) (.mv (.t (.x0 .e))),
    .s (.x6 .e) (.mv (.t (.x1 .e))),
    .s (.x7 .e) (.build [V.int .i64 0, V.int .i64 0] [(0, 1, (.t (.x5 .e))), (1, 1, (.t (.x6 .e)))]),
    .u (.st (some 2) (.t (.x4 .e)) (.t (.x7 .e)))])
  .ret))
def e34 : EF := { depth := 1, nargs := 2, results := [.cell (.x4 .e) (some 2)], body := b34 }

/-- forecourt/forecourtlaw09.Price -/
def b35 : EC :=
  (.seq (.ops [.s (.x4 .e) (.alloc [V.int .i64 0, V.int .i64 0])])
  (.seq (.ops [.s (.x5 .e) (.mv (.t (.x0 .e))),
    .s (.x6 .e) (.mv (.t (.x1 .e))),
    .s (.x7 .e) (.build [V.int .i64 0, V.int .i64 0] [(0, 1, (.t (.x5 .e))), (1, 1, (.t (.x6 .e)))]),
    .u (.st (some 2) (.t (.x4 .e)) (.t (.x7 .e)))])
  .ret))
def e35 : EF := { depth := 1, nargs := 2, results := [.cell (.x4 .e) (some 2)], body := b35 }

/-- forecourt/forecourtref09.IsClocks -/
def b36 : EC :=
  (.seq (.ops [.s (.x1 (.x0 .e)) (.box (.t (.x0 (.x0 .e)))),
    .s (.x2 (.x0 .e)) (.asg (.c (V.bool false)))])
  (.seq (.ops [.s (.x3 (.x0 .e)) (.fadr 0 (.t (.x1 (.x0 .e)))),
    .s (.x4 (.x0 .e)) (.ld none (.t (.x3 (.x0 .e)))),
    .s (.x5 (.x0 .e)) (.bin .geq (.t (.x4 (.x0 .e))) (.c (V.int .i64 (-100)))),
    .s (.x6 (.x0 .e)) (.mv (.t (.x5 (.x0 .e)))),
    .g (.x6 (.x0 .e)) true (.x7 (.x0 .e)) (.fadr 0 (.t (.x1 (.x0 .e)))),
    .g (.x6 (.x0 .e)) true (.x8 (.x0 .e)) (.ld none (.t (.x7 (.x0 .e)))),
    .g (.x6 (.x0 .e)) true (.x9 (.x0 .e)) (.fadr 1 (.t (.x1 (.x0 .e)))),
    .g (.x6 (.x0 .e)) true (.xa (.x0 .e)) (.ld none (.t (.x9 (.x0 .e)))),
    .g (.x6 (.x0 .e)) true (.xb (.x0 .e)) (.bin .leq (.t (.x8 (.x0 .e))) (.t (.xa (.x0 .e)))),
    .s (.xc (.x0 .e)) (.pick (.t (.x6 (.x0 .e))) (.t (.xb (.x0 .e))) (.c (V.bool false))),
    .s (.xd (.x0 .e)) (.mv (.t (.xc (.x0 .e)))),
    .g (.xd (.x0 .e)) true (.xe (.x0 .e)) (.fadr 1 (.t (.x1 (.x0 .e)))),
    .g (.xd (.x0 .e)) true (.xf (.x0 .e)) (.ld none (.t (.xe (.x0 .e)))),
    .g (.xd (.x0 .e)) true (.x0 (.x1 .e)) (.bin .leq (.t (.xf (.x0 .e))) (.c (V.int .i64 100))),
    .s (.x1 (.x1 .e)) (.pick (.t (.xd (.x0 .e))) (.t (.x0 (.x1 .e))) (.c (V.bool false))),
    .s (.x2 (.x0 .e)) (.asg (.t (.x1 (.x1 .e))))])
  .ret))
def e36 : EF := { depth := 2, nargs := 1, results := [.t (.x2 (.x0 .e))], body := b36 }

/-- forecourt/forecourtlaw09.table -/
def b37 : EC :=
  (.seq (.ops [.s (.x1 .e) (.box (.t (.x0 .e))),
    .s (.x2 .e) (.asg (.c (V.bool false)))])
  (.seq (.ops [.s (.x3 .e) (.fadr 1 (.t (.x1 .e))),
    .s (.x4 .e) (.ld none (.t (.x3 .e))),
    .s (.x5 .e) (.call 24 [(.t (.x4 .e))]),
    .s (.x6 .e) (.un .not (.t (.x5 .e))),
    .s (.x7 .e) (.mv (.t (.x6 .e))),
    .g (.x7 .e) true (.x8 .e) (.ld (some 2) (.t (.x1 .e))),
    .g (.x7 .e) true (.x9 .e) (.call 26 [(.t (.x8 .e))]),
    .g (.x7 .e) true (.xa .e) (.bin .eql (.t (.x9 .e)) (.c (V.int .i64 0))),
    .s (.xb .e) (.pick (.t (.x7 .e)) (.t (.xa .e)) (.c (V.bool false))),
    .s (.x2 .e) (.asg (.t (.xb .e)))])
  .ret))
def e37 : EF := { depth := 1, nargs := 1, results := [.t (.x2 .e)], body := b37 }

/-- function 38, loop 0: live [1, 2, 5] -/
def M38_0 : List Pth := [(.x1 (.x0 .e)), (.x2 (.x0 .e)), (.x5 (.x0 .e))]
def L38_0 : EC :=
  (.seq (.seq (.ops [.s (.xc (.x0 .e)) (.mv (.t (.x5 (.x0 .e)))),
    .s (.xd (.x0 .e)) (.mv (.t (.x1 (.x0 .e)))),
    .s (.xe (.x0 .e)) (.len (.t (.xd (.x0 .e)))),
    .s (.xf (.x0 .e)) (.bin .lss (.t (.xc (.x0 .e))) (.t (.xe (.x0 .e))))])
  (.cond (.t (.xf (.x0 .e)))
  .skip
  (.exit 0)))
  (.seq (.blk 1 [(.x1 (.x0 .e)), (.x2 (.x0 .e)), (.x5 (.x0 .e))]
  (.seq (.draw [0, 1, 2, 3, 4, 5, 6, 7, 8, 9, 10] [0, 0, 3, 7, 15, 0, 32, 96, 224, 480, 1023] [.s (.x2 (.x1 .e)) (.mv (.t (.x1 (.x0 .e)))),
    .s (.x3 (.x1 .e)) (.mv (.t (.x5 (.x0 .e)))),
    .s (.x4 (.x1 .e)) (.ixs 1 (.t (.x2 (.x1 .e))) (.t (.x3 (.x1 .e)))),
    .s (.x5 (.x1 .e)) (.ld none (.t (.x4 (.x1 .e)))),
    .s (.x6 (.x1 .e)) (.len (.t (.x5 (.x1 .e)))),
    .s (.x7 (.x1 .e)) (.fadr 1 (.t (.x2 (.x0 .e)))),
    .s (.x8 (.x1 .e)) (.ld none (.t (.x7 (.x1 .e)))),
    .s (.x9 (.x1 .e)) (.ixs 1 (.t (.x8 (.x1 .e))) (.c (V.int .i64 0))),
    .s (.xa (.x1 .e)) (.ld none (.t (.x9 (.x1 .e)))),
    .s (.xb (.x1 .e)) (.len (.t (.xa (.x1 .e)))),
    .s (.xc (.x1 .e)) (.bin .neq (.t (.x6 (.x1 .e))) (.t (.xb (.x1 .e))))])
  (.cond (.t (.xc (.x1 .e)))
  (.seq (.ops [.s (.x4 (.x0 .e)) (.asg (.c (V.bool false)))])
  .ret)
  .skip)))
  (.ops [.s (.x0 (.x1 .e)) (.mv (.t (.x5 (.x0 .e)))),
    .s (.x1 (.x1 .e)) (.bin .add (.t (.x0 (.x1 .e))) (.c (V.int .i64 1))),
    .s (.x5 (.x0 .e)) (.asg (.t (.x1 (.x1 .e))))])))
/-- forecourt/forecourtref09.Shaped -/
def b38 : EC :=
  (.seq (.ops [.s (.x2 (.x0 .e)) (.box (.t (.x0 (.x0 .e)))),
    .s (.x4 (.x0 .e)) (.asg (.c (V.bool false)))])
  (.seq (.seq (.ops [.s (.x6 (.x0 .e)) (.mv (.t (.x1 (.x0 .e)))),
    .s (.x7 (.x0 .e)) (.len (.t (.x6 (.x0 .e)))),
    .s (.x8 (.x0 .e)) (.fadr 1 (.t (.x2 (.x0 .e)))),
    .s (.x9 (.x0 .e)) (.ld none (.t (.x8 (.x0 .e)))),
    .s (.xa (.x0 .e)) (.len (.t (.x9 (.x0 .e)))),
    .s (.xb (.x0 .e)) (.bin .neq (.t (.x7 (.x0 .e))) (.t (.xa (.x0 .e))))])
  (.cond (.t (.xb (.x0 .e)))
  (.seq (.ops [.s (.x4 (.x0 .e)) (.asg (.c (V.bool false)))])
  .ret)
  .skip))
  (.seq (.seq (.ops [.s (.x5 (.x0 .e)) (.asg (.c (V.int .i64 0)))])
  (.blk 0 []
  (.loop M38_0 L38_0)))
  (.seq (.ops [.s (.x4 (.x0 .e)) (.asg (.c (V.bool true)))])
  .ret))))
def e38 : EF := { depth := 2, nargs := 2, results := [.t (.x4 (.x0 .e))], body := b38 }

/-- function 39, loop 1: live [0, 3, 4, 5, 6, 7, 8] -/
def M39_1 : List Pth := [(.x0 (.x0 .e)), (.x3 (.x0 .e)), (.x4 (.x0 .e)), (.x5 (.x0 .e)), (.x6 (.x0 .e)), (.x7 (.x0 .e)), (.x8 (.x0 .e))]
def L39_1 : EC :=
  (.seq (.seq (.ops [.s (.x7 (.x1 .e)) (.mv (.t (.x8 (.x0 .e)))),
    .s (.x8 (.x1 .e)) (.mv (.t (.x0 (.x0 .e)))),
    .s (.x9 (.x1 .e)) (.mv (.t (.x7 (.x0 .e)))),
    .s (.xa (.x1 .e)) (.ixs 1 (.t (.x8 (.x1 .e))) (.t (.x9 (.x1 .e)))),
    .s (.xb (.x1 .e)) (.ld none (.t (.xa (.x1 .e)))),
    .s (.xc (.x1 .e)) (.len (.t (.xb (.x1 .e)))),
    .s (.xd (.x1 .e)) (.bin .lss (.t (.x7 (.x1 .e))) (.t (.xc (.x1 .e))))])
  (.cond (.t (.xd (.x1 .e)))
  .skip
  (.exit 2)))
  (.seq (.blk 3 [(.x0 (.x0 .e)), (.x3 (.x0 .e)), (.x4 (.x0 .e)), (.x5 (.x0 .e)), (.x6 (.x0 .e)), (.x7 (.x0 .e)), (.x8 (.x0 .e))]
  (.seq (.ops [.s (.x0 (.x2 .e)) (.mv (.t (.x3 (.x0 .e)))),
    .s (.x1 (.x2 .e)) (.mv (.t (.x0 (.x0 .e)))),
    .s (.x2 (.x2 .e)) (.mv (.t (.x7 (.x0 .e)))),
    .s (.x3 (.x2 .e)) (.ixs 1 (.t (.x1 (.x2 .e))) (.t (.x2 (.x2 .e)))),
    .s (.x4 (.x2 .e)) (.ld none (.t (.x3 (.x2 .e)))),
    .s (.x5 (.x2 .e)) (.mv (.t (.x8 (.x0 .e)))),
    .s (.x6 (.x2 .e)) (.ixs 1 (.t (.x4 (.x2 .e))) (.t (.x5 (.x2 .e)))),
    .s (.x7 (.x2 .e)) (.ld none (.t (.x6 (.x2 .e)))),
    .s (.x8 (.x2 .e)) (.bslice 1 1 [V.int .i64 0] [(0, (.t (.x7 (.x2 .e))))]),
    .s (.x9 (.x2 .e)) (.app 1 8 (.t (.x0 (.x2 .e))) (.t (.x8 (.x2 .e)))),
    .s (.x3 (.x0 .e)) (.asg (.t (.x9 (.x2 .e))))])
  (.seq (.draw [0, 1, 2, 3, 4, 5, 6, 7, 8, 9, 10, 11, 12, 13] [0, 0, 3, 7, 0, 0, 48, 112, 0, 496, 1008, 2047, 4095, 8191] [.s (.xa (.x2 .e)) (.mv (.t (.x5 (.x0 .e)))),
    .s (.xb (.x2 .e)) (.mv (.t (.x7 (.x0 .e)))),
    .s (.xc (.x2 .e)) (.ixs 1 (.t (.xa (.x2 .e))) (.t (.xb (.x2 .e)))),
    .s (.xd (.x2 .e)) (.ld none (.t (.xc (.x2 .e)))),
    .s (.xe (.x2 .e)) (.mv (.t (.x0 (.x0 .e)))),
    .s (.xf (.x2 .e)) (.mv (.t (.x7 (.x0 .e)))),
    .s (.x0 (.x3 .e)) (.ixs 1 (.t (.xe (.x2 .e))) (.t (.xf (.x2 .e)))),
    .s (.x1 (.x3 .e)) (.ld none (.t (.x0 (.x3 .e)))),
    .s (.x2 (.x3 .e)) (.mv (.t (.x8 (.x0 .e)))),
    .s (.x3 (.x3 .e)) (.ixs 1 (.t (.x1 (.x3 .e))) (.t (.x2 (.x3 .e)))),
    .s (.x4 (.x3 .e)) (.ld none (.t (.x3 (.x3 .e)))),
    .s (.x5 (.x3 .e)) (.bin .add (.t (.xd (.x2 .e))) (.t (.x4 (.x3 .e)))),
    .s (.x6 (.x3 .e)) (.ixs 1 (.t (.xa (.x2 .e))) (.t (.xb (.x2 .e)))),
    .u (.st none (.t (.x6 (.x3 .e))) (.t (.x5 (.x3 .e))))])
  (.seq (.draw [0, 1, 2, 3, 4, 5, 6, 7, 8, 9, 10, 11, 12, 13] [0, 0, 3, 7, 0, 0, 48, 112, 0, 496, 1008, 2047, 4095, 8191] [.s (.x7 (.x3 .e)) (.mv (.t (.x6 (.x0 .e)))),
    .s (.x8 (.x3 .e)) (.mv (.t (.x8 (.x0 .e)))),
    .s (.x9 (.x3 .e)) (.ixs 1 (.t (.x7 (.x3 .e))) (.t (.x8 (.x3 .e)))),
    .s (.xa (.x3 .e)) (.ld none (.t (.x9 (.x3 .e)))),
    .s (.xb (.x3 .e)) (.mv (.t (.x0 (.x0 .e)))),
    .s (.xc (.x3 .e)) (.mv (.t (.x7 (.x0 .e)))),
    .s (.xd (.x3 .e)) (.ixs 1 (.t (.xb (.x3 .e))) (.t (.xc (.x3 .e)))),
    .s (.xe (.x3 .e)) (.ld none (.t (.xd (.x3 .e)))),
    .s (.xf (.x3 .e)) (.mv (.t (.x8 (.x0 .e)))),
    .s (.x0 (.x4 .e)) (.ixs 1 (.t (.xe (.x3 .e))) (.t (.xf (.x3 .e)))),
    .s (.x1 (.x4 .e)) (.ld none (.t (.x0 (.x4 .e)))),
    .s (.x2 (.x4 .e)) (.bin .add (.t (.xa (.x3 .e))) (.t (.x1 (.x4 .e)))),
    .s (.x3 (.x4 .e)) (.ixs 1 (.t (.x7 (.x3 .e))) (.t (.x8 (.x3 .e)))),
    .u (.st none (.t (.x3 (.x4 .e))) (.t (.x2 (.x4 .e))))])
  (.ops [.s (.x4 (.x4 .e)) (.mv (.t (.x4 (.x0 .e)))),
    .s (.x5 (.x4 .e)) (.mv (.t (.x0 (.x0 .e)))),
    .s (.x6 (.x4 .e)) (.mv (.t (.x7 (.x0 .e)))),
    .s (.x7 (.x4 .e)) (.ixs 1 (.t (.x5 (.x4 .e))) (.t (.x6 (.x4 .e)))),
    .s (.x8 (.x4 .e)) (.ld none (.t (.x7 (.x4 .e)))),
    .s (.x9 (.x4 .e)) (.mv (.t (.x8 (.x0 .e)))),
    .s (.xa (.x4 .e)) (.ixs 1 (.t (.x8 (.x4 .e))) (.t (.x9 (.x4 .e)))),
    .s (.xb (.x4 .e)) (.ld none (.t (.xa (.x4 .e)))),
    .s (.xc (.x4 .e)) (.bin .add (.t (.x4 (.x4 .e))) (.t (.xb (.x4 .e)))),
    .s (.x4 (.x0 .e)) (.asg (.t (.xc (.x4 .e))))])))))
  (.ops [.s (.xe (.x1 .e)) (.mv (.t (.x8 (.x0 .e)))),
    .s (.xf (.x1 .e)) (.bin .add (.t (.xe (.x1 .e))) (.c (V.int .i64 1))),
    .s (.x8 (.x0 .e)) (.asg (.t (.xf (.x1 .e))))])))
/-- function 39, loop 0: live [0, 3, 4, 5, 6, 7] -/
def M39_0 : List Pth := [(.x0 (.x0 .e)), (.x3 (.x0 .e)), (.x4 (.x0 .e)), (.x5 (.x0 .e)), (.x6 (.x0 .e)), (.x7 (.x0 .e))]
def L39_0 : EC :=
  (.seq (.seq (.ops [.s (.x1 (.x1 .e)) (.mv (.t (.x7 (.x0 .e)))),
    .s (.x2 (.x1 .e)) (.mv (.t (.x0 (.x0 .e)))),
    .s (.x3 (.x1 .e)) (.len (.t (.x2 (.x1 .e)))),
    .s (.x4 (.x1 .e)) (.bin .lss (.t (.x1 (.x1 .e))) (.t (.x3 (.x1 .e))))])
  (.cond (.t (.x4 (.x1 .e)))
  .skip
  (.exit 0)))
  (.seq (.blk 1 [(.x0 (.x0 .e)), (.x3 (.x0 .e)), (.x4 (.x0 .e)), (.x5 (.x0 .e)), (.x6 (.x0 .e)), (.x7 (.x0 .e))]
  (.seq (.ops [.s (.x8 (.x0 .e)) (.asg (.c (V.int .i64 0)))])
  (.blk 2 [(.x0 (.x0 .e)), (.x3 (.x0 .e)), (.x4 (.x0 .e)), (.x5 (.x0 .e)), (.x6 (.x0 .e)), (.x7 (.x0 .e))]
  (.loop M39_1 L39_1))))
  (.ops [.s (.x5 (.x1 .e)) (.mv (.t (.x7 (.x0 .e)))),
    .s (.x6 (.x1 .e)) (.bin .add (.t (.x5 (.x1 .e))) (.c (V.int .i64 1))),
    .s (.x7 (.x0 .e)) (.asg (.t (.x6 (.x1 .e))))])))
/-- forecourt/forecourtref09.Sums -/
def b39 : EC :=
  (.seq (.ops [.s (.x2 (.x0 .e)) (.asg (.c (V.nilslice)))])
  (.seq (.ops [.s (.x3 (.x0 .e)) (.asg (.c (V.nilslice)))])
  (.seq (.ops [.s (.x4 (.x0 .e)) (.asg (.c (V.int .i64 0)))])
  (.seq (.draw [0, 1, 2, 3, 4, 5, 6, 7, 8, 9] [0, 1, 3, 0, 8, 24, 56, 120, 7, 511] [.s (.x9 (.x0 .e)) (.mv (.t (.x0 (.x0 .e)))),
    .s (.xa (.x0 .e)) (.len (.t (.x9 (.x0 .e)))),
    .s (.xb (.x0 .e)) (.mksl 1 8 [V.int .i64 0] (.t (.xa (.x0 .e))) (.t (.xa (.x0 .e)))),
    .s (.xc (.x0 .e)) (.mv (.t (.x0 (.x0 .e)))),
    .s (.xd (.x0 .e)) (.ixs 1 (.t (.xc (.x0 .e))) (.c (V.int .i64 0))),
    .s (.xe (.x0 .e)) (.ld none (.t (.xd (.x0 .e)))),
    .s (.xf (.x0 .e)) (.len (.t (.xe (.x0 .e)))),
    .s (.x0 (.x1 .e)) (.mksl 1 8 [V.int .i64 0] (.t (.xf (.x0 .e))) (.t (.xf (.x0 .e)))),
    .s (.x5 (.x0 .e)) (.asg (.t (.xb (.x0 .e)))),
    .s (.x6 (.x0 .e)) (.asg (.t (.x0 (.x1 .e))))])
  (.seq (.seq (.ops [.s (.x7 (.x0 .e)) (.asg (.c (V.int .i64 0)))])
  (.blk 0 [(.x3 (.x0 .e)), (.x4 (.x0 .e)), (.x5 (.x0 .e)), (.x6 (.x0 .e))]
  (.loop M39_0 L39_0)))
  (.seq (.ops [.s (.xd (.x4 .e)) (.mv (.t (.x3 (.x0 .e)))),
    .s (.xe (.x4 .e)) (.mv (.t (.x5 (.x0 .e)))),
    .s (.xf (.x4 .e)) (.app 1 8 (.t (.xd (.x4 .e))) (.t (.xe (.x4 .e)))),
    .s (.x0 (.x5 .e)) (.mv (.t (.x6 (.x0 .e)))),
    .s (.x1 (.x5 .e)) (.app 1 8 (.t (.xf (.x4 .e))) (.t (.x0 (.x5 .e)))),
    .s (.x2 (.x5 .e)) (.mv (.t (.x4 (.x0 .e)))),
    .s (.x3 (.x5 .e)) (.bslice 1 1 [V.int .i64 0] [(0, (.t (.x2 (.x5 .e))))]),
    .s (.x4 (.x5 .e)) (.app 1 8 (.t (.x1 (.x5 .e))) (.t (.x3 (.x5 .e)))),
    .s (.x2 (.x0 .e)) (.asg (.t (.x4 (.x5 .e))))])
  .ret))))))
def e39 : EF := { depth := 2, nargs := 1, results := [.t (.x2 (.x0 .e))], body := b39 }

/-- function 40, loop 1: live [0, 3, 4, 5, 6] -/
def M40_1 : List Pth := [(.x0 (.x0 .e)), (.x3 (.x0 .e)), (.x4 (.x0 .e)), (.x5 (.x0 .e)), (.x6 (.x0 .e))]
def L40_1 : EC :=
  (.seq (.seq (.ops [.s (.x4 (.x1 .e)) (.mv (.t (.x6 (.x0 .e)))),
    .s (.x5 (.x1 .e)) (.mv (.t (.x0 (.x0 .e)))),
    .s (.x6 (.x1 .e)) (.len (.t (.x5 (.x1 .e)))),
    .s (.x7 (.x1 .e)) (.bin .lss (.t (.x4 (.x1 .e))) (.t (.x6 (.x1 .e))))])
  (.cond (.t (.x7 (.x1 .e)))
  .skip
  (.exit 2)))
  (.seq (.blk 3 [(.x0 (.x0 .e)), (.x3 (.x0 .e)), (.x4 (.x0 .e)), (.x5 (.x0 .e)), (.x6 (.x0 .e))]
  (.ops [.s (.xa (.x1 .e)) (.mv (.t (.x5 (.x0 .e)))),
    .s (.xb (.x1 .e)) (.mv (.t (.x0 (.x0 .e)))),
    .s (.xc (.x1 .e)) (.mv (.t (.x6 (.x0 .e)))),
    .s (.xd (.x1 .e)) (.ixs 1 (.t (.xb (.x1 .e))) (.t (.xc (.x1 .e)))),
    .s (.xe (.x1 .e)) (.ld none (.t (.xd (.x1 .e)))),
    .s (.xf (.x1 .e)) (.mv (.t (.x4 (.x0 .e)))),
    .s (.x0 (.x2 .e)) (.ixs 1 (.t (.xe (.x1 .e))) (.t (.xf (.x1 .e)))),
    .s (.x1 (.x2 .e)) (.ld none (.t (.x0 (.x2 .e)))),
    .s (.x2 (.x2 .e)) (.bslice 1 1 [V.int .i64 0] [(0, (.t (.x1 (.x2 .e))))]),
    .s (.x3 (.x2 .e)) (.app 1 8 (.t (.xa (.x1 .e))) (.t (.x2 (.x2 .e)))),
    .s (.x5 (.x0 .e)) (.asg (.t (.x3 (.x2 .e))))]))
  (.ops [.s (.x8 (.x1 .e)) (.mv (.t (.x6 (.x0 .e)))),
    .s (.x9 (.x1 .e)) (.bin .add (.t (.x8 (.x1 .e))) (.c (V.int .i64 1))),
    .s (.x6 (.x0 .e)) (.asg (.t (.x9 (.x1 .e))))])))
/-- function 40, loop 0: live [0, 3, 4] -/
def M40_0 : List Pth := [(.x0 (.x0 .e)), (.x3 (.x0 .e)), (.x4 (.x0 .e))]
def L40_0 : EC :=
  (.seq (.seq (.ops [.s (.x7 (.x0 .e)) (.mv (.t (.x0 (.x0 .e)))),
    .s (.x8 (.x0 .e)) (.len (.t (.x7 (.x0 .e)))),
    .s (.x9 (.x0 .e)) (.bin .gtr (.t (.x8 (.x0 .e))) (.c (V.int .i64 0))),
    .s (.xa (.x0 .e)) (.mv (.t (.x9 (.x0 .e)))),
    .g (.xa (.x0 .e)) true (.xb (.x0 .e)) (.mv (.t (.x4 (.x0 .e)))),
    .g (.xa (.x0 .e)) true (.xc (.x0 .e)) (.mv (.t (.x0 (.x0 .e)))),
    .g (.xa (.x0 .e)) true (.xd (.x0 .e)) (.ixs 1 (.t (.xc (.x0 .e))) (.c (V.int .i64 0))),
    .g (.xa (.x0 .e)) true (.xe (.x0 .e)) (.ld none (.t (.xd (.x0 .e)))),
    .g (.xa (.x0 .e)) true (.xf (.x0 .e)) (.len (.t (.xe (.x0 .e)))),
    .g (.xa (.x0 .e)) true (.x0 (.x1 .e)) (.bin .lss (.t (.xb (.x0 .e))) (.t (.xf (.x0 .e)))),
    .s (.x1 (.x1 .e)) (.pick (.t (.xa (.x0 .e))) (.t (.x0 (.x1 .e))) (.c (V.bool false)))])
  (.cond (.t (.x1 (.x1 .e)))
  .skip
  (.exit 0)))
  (.seq (.blk 1 [(.x0 (.x0 .e)), (.x3 (.x0 .e)), (.x4 (.x0 .e))]
  (.seq (.ops [.s (.x5 (.x0 .e)) (.asg (.c (V.nilslice)))])
  (.seq (.seq (.ops [.s (.x6 (.x0 .e)) (.asg (.c (V.int .i64 0)))])
  (.blk 2 [(.x0 (.x0 .e)), (.x3 (.x0 .e)), (.x4 (.x0 .e)), (.x5 (.x0 .e))]
  (.loop M40_1 L40_1)))
  (.ops [.s (.x4 (.x2 .e)) (.mv (.t (.x3 (.x0 .e)))),
    .s (.x5 (.x2 .e)) (.mv (.t (.x5 (.x0 .e)))),
    .s (.x6 (.x2 .e)) (.bslice 1 1 [V.nilslice] [(0, (.t (.x5 (.x2 .e))))]),
    .s (.x7 (.x2 .e)) (.app 1 24 (.t (.x4 (.x2 .e))) (.t (.x6 (.x2 .e)))),
    .s (.x3 (.x0 .e)) (.asg (.t (.x7 (.x2 .e))))]))))
  (.ops [.s (.x2 (.x1 .e)) (.mv (.t (.x4 (.x0 .e)))),
    .s (.x3 (.x1 .e)) (.bin .add (.t (.x2 (.x1 .e))) (.c (V.int .i64 1))),
    .s (.x4 (.x0 .e)) (.asg (.t (.x3 (.x1 .e))))])))
/-- forecourt/forecourtlaw09.turned -/
def b40 : EC :=
  (.seq (.ops [.s (.x2 (.x0 .e)) (.asg (.c (V.nilslice)))])
  (.seq (.ops [.s (.x3 (.x0 .e)) (.asg (.c (V.nilslice)))])
  (.seq (.seq (.ops [.s (.x4 (.x0 .e)) (.asg (.c (V.int .i64 0)))])
  (.blk 0 [(.x3 (.x0 .e))]
  (.loop M40_0 L40_0)))
  (.seq (.ops [.s (.x8 (.x2 .e)) (.mv (.t (.x3 (.x0 .e)))),
    .s (.x2 (.x0 .e)) (.asg (.t (.x8 (.x2 .e))))])
  .ret))))
def e40 : EF := { depth := 2, nargs := 1, results := [.t (.x2 (.x0 .e))], body := b40 }

/-- function 41, loop 0: live [0, 3, 4] -/
def M41_0 : List Pth := [(.x0 (.x0 .e)), (.x3 (.x0 .e)), (.x4 (.x0 .e))]
def L41_0 : EC :=
  (.seq (.seq (.ops [.s (.x5 (.x0 .e)) (.mv (.t (.x4 (.x0 .e)))),
    .s (.x6 (.x0 .e)) (.mv (.t (.x0 (.x0 .e)))),
    .s (.x7 (.x0 .e)) (.len (.t (.x6 (.x0 .e)))),
    .s (.x8 (.x0 .e)) (.bin .lss (.t (.x5 (.x0 .e))) (.t (.x7 (.x0 .e))))])
  (.cond (.t (.x8 (.x0 .e)))
  .skip
  (.exit 0)))
  (.seq (.blk 1 [(.x0 (.x0 .e)), (.x3 (.x0 .e)), (.x4 (.x0 .e))]
  (.ops [.s (.xb (.x0 .e)) (.mv (.t (.x3 (.x0 .e)))),
    .s (.xc (.x0 .e)) (.bslice 1 0 [V.int .i64 0] []),
    .s (.xd (.x0 .e)) (.mv (.t (.x0 (.x0 .e)))),
    .s (.xe (.x0 .e)) (.mv (.t (.x4 (.x0 .e)))),
    .s (.xf (.x0 .e)) (.ixs 1 (.t (.xd (.x0 .e))) (.t (.xe (.x0 .e)))),
    .s (.x0 (.x1 .e)) (.ld none (.t (.xf (.x0 .e)))),
    .s (.x1 (.x1 .e)) (.app 1 8 (.t (.xc (.x0 .e))) (.t (.x0 (.x1 .e)))),
    .s (.x2 (.x1 .e)) (.bslice 1 1 [V.nilslice] [(0, (.t (.x1 (.x1 .e))))]),
    .s (.x3 (.x1 .e)) (.app 1 24 (.t (.xb (.x0 .e))) (.t (.x2 (.x1 .e)))),
    .s (.x3 (.x0 .e)) (.asg (.t (.x3 (.x1 .e))))]))
  (.ops [.s (.x9 (.x0 .e)) (.mv (.t (.x4 (.x0 .e)))),
    .s (.xa (.x0 .e)) (.bin .add (.t (.x9 (.x0 .e))) (.c (V.int .i64 1))),
    .s (.x4 (.x0 .e)) (.asg (.t (.xa (.x0 .e))))])))
/-- forecourt/forecourtlaw09.copied -/
def b41 : EC :=
  (.seq (.ops [.s (.x2 (.x0 .e)) (.asg (.c (V.nilslice)))])
  (.seq (.ops [.s (.x3 (.x0 .e)) (.asg (.c (V.nilslice)))])
  (.seq (.seq (.ops [.s (.x4 (.x0 .e)) (.asg (.c (V.int .i64 0)))])
  (.blk 0 [(.x3 (.x0 .e))]
  (.loop M41_0 L41_0)))
  (.seq (.ops [.s (.x4 (.x1 .e)) (.mv (.t (.x3 (.x0 .e)))),
    .s (.x2 (.x0 .e)) (.asg (.t (.x4 (.x1 .e))))])
  .ret))))
def e41 : EF := { depth := 2, nargs := 1, results := [.t (.x2 (.x0 .e))], body := b41 }

/-- forecourt/forecourtlaw09.Sign -/
def b42 : EC :=
  (.seq (.ops [.s (.x0 .e) (.asg (.c (V.nilslice)))])
  (.seq (.ops [.s (.x1 .e) (.call 35 [(.c (V.int .i64 0)), (.c (V.int .i64 180))]),
    .s (.x2 .e) (.call 35 [(.c (V.int .i64 60)), (.c (V.int .i64 170))]),
    .s (.x3 .e) (.call 35 [(.c (V.int .i64 100)), (.c (V.int .i64 185))]),
    .s (.x4 .e) (.bslice 2 3 [V.int .i64 0, V.int .i64 0] [(0, (.t (.x1 .e))), (1, (.t (.x2 .e))), (2, (.t (.x3 .e)))]),
    .s (.x0 .e) (.asg (.t (.x4 .e)))])
  .ret))
def e42 : EF := { depth := 1, nargs := 0, results := [.t (.x0 .e)], body := b42 }

/-- forecourt/forecourtlaw09.Table -/
def b43 : EC :=
  (.seq (.ops [.s (.x0 .e) (.alloc [V.int .i64 0, V.nilslice])])
  (.seq (.ops [.s (.x1 .e) (.bslice 1 3 [V.int .i64 0] [(0, (.c (V.int .i64 1))), (1, (.c (V.int .i64 2))), (2, (.c (V.int .i64 1)))]),
    .s (.x2 .e) (.bslice 1 3 [V.int .i64 0] [(0, (.c (V.int .i64 3))), (1, (.c (V.int .i64 1))), (2, (.c (V.int .i64 0)))]),
    .s (.x3 .e) (.bslice 1 2 [V.nilslice] [(0, (.t (.x1 .e))), (1, (.t (.x2 .e)))]),
    .s (.x4 .e) (.build [V.int .i64 0, V.nilslice] [(0, 1, (.c (V.int .i64 4))), (1, 1, (.t (.x3 .e)))]),
    .u (.st (some 2) (.t (.x0 .e)) (.t (.x4 .e)))])
  .ret))
def e43 : EF := { depth := 1, nargs := 0, results := [.cell (.x0 .e) (some 2)], body := b43 }

/-- function 44, loop 1: live [1, 5, 6, 7, 8, 9, 10, 45, 46, 47] -/
def M44_1 : List Pth := [(.x1 (.x0 .e)), (.x5 (.x0 .e)), (.x6 (.x0 .e)), (.x7 (.x0 .e)), (.x8 (.x0 .e)), (.x9 (.x0 .e)), (.xa (.x0 .e)), (.xd (.x2 .e)), (.xe (.x2 .e)), (.xf (.x2 .e))]
def L44_1 : EC :=
  (.seq (.ops [.s (.x0 (.x3 .e)) (.bin .lss (.t (.xf (.x2 .e))) (.t (.xe (.x2 .e))))])
  (.seq (.cond (.t (.x0 (.x3 .e)))
  .skip
  (.exit 2))
  (.seq (.blk 3 [(.x1 (.x0 .e)), (.x5 (.x0 .e)), (.x6 (.x0 .e)), (.x7 (.x0 .e)), (.x8 (.x0 .e)), (.x9 (.x0 .e)), (.xa (.x0 .e)), (.xd (.x2 .e)), (.xe (.x2 .e)), (.xf (.x2 .e))]
  (.seq (.ops [.s (.x1 (.x3 .e)) (.mv (.t (.xf (.x2 .e)))),
    .s (.x2 (.x3 .e)) (.ixs 3 (.t (.xd (.x2 .e))) (.t (.xf (.x2 .e)))),
    .s (.x3 (.x3 .e)) (.ld (some 3) (.t (.x2 (.x3 .e)))),
    .s (.xc (.x0 .e)) (.alloc [V.int .i64 0, V.int .i64 0, V.int .i64 0]),
    .s (.xb (.x0 .e)) (.asg (.t (.x1 (.x3 .e)))),
    .u (.st (some 3) (.t (.xc (.x0 .e))) (.t (.x3 (.x3 .e))))])
  (.seq (.seq (.ops [.s (.x4 (.x3 .e)) (.fadr 2 (.t (.xc (.x0 .e)))),
    .s (.x5 (.x3 .e)) (.ld none (.t (.x4 (.x3 .e)))),
    .s (.x6 (.x3 .e)) (.fadr 0 (.t (.x1 (.x0 .e)))),
    .s (.x7 (.x3 .e)) (.ld none (.t (.x6 (.x3 .e)))),
    .s (.x8 (.x3 .e)) (.bin .rem (.t (.x5 (.x3 .e))) (.t (.x7 (.x3 .e)))),
    .s (.x9 (.x3 .e)) (.bin .eql (.t (.x8 (.x3 .e))) (.c (V.int .i64 0)))])
  (.cond (.t (.x9 (.x3 .e)))
  (.exit 3)
  .skip))
  (.seq (.ops [.s (.xa (.x3 .e)) (.fadr 2 (.t (.xc (.x0 .e)))),
    .s (.xb (.x3 .e)) (.ld none (.t (.xa (.x3 .e)))),
    .s (.xc (.x3 .e)) (.fadr 0 (.t (.x1 (.x0 .e)))),
    .s (.xd (.x3 .e)) (.ld none (.t (.xc (.x3 .e)))),
    .s (.xe (.x3 .e)) (.bin .quo (.t (.xb (.x3 .e))) (.t (.xd (.x3 .e)))),
    .s (.xd (.x0 .e)) (.asg (.t (.xe (.x3 .e))))])
  (.seq (.draw [0, 1, 2, 3, 4, 5, 6, 7, 8, 9, 10, 11, 12, 13] [0, 1, 3, 7, 0, 31, 63, 127, 0, 0, 512, 1792, 4095, 8191] [.s (.xf (.x3 .e)) (.mv (.t (.x9 (.x0 .e)))),
    .s (.x0 (.x4 .e)) (.nilck (.t (.xf (.x3 .e)))),
    .s (.x1 (.x4 .e)) (.fadr 2 (.t (.x0 (.x4 .e)))),
    .s (.x2 (.x4 .e)) (.ld none (.t (.x1 (.x4 .e)))),
    .s (.x3 (.x4 .e)) (.mv (.t (.xb (.x0 .e)))),
    .s (.x4 (.x4 .e)) (.ixs 3 (.t (.x2 (.x4 .e))) (.t (.x3 (.x4 .e)))),
    .s (.x5 (.x4 .e)) (.fadr 2 (.t (.x4 (.x4 .e)))),
    .s (.x6 (.x4 .e)) (.ld none (.t (.x5 (.x4 .e)))),
    .s (.x7 (.x4 .e)) (.mv (.t (.xd (.x0 .e)))),
    .s (.x8 (.x4 .e)) (.fadr 0 (.t (.x7 (.x0 .e)))),
    .s (.x9 (.x4 .e)) (.ld none (.t (.x8 (.x4 .e)))),
    .s (.xa (.x4 .e)) (.bin .mul (.t (.x7 (.x4 .e))) (.t (.x9 (.x4 .e)))),
    .s (.xb (.x4 .e)) (.bin .sub (.t (.x6 (.x4 .e))) (.t (.xa (.x4 .e)))),
    .s (.xe (.x0 .e)) (.asg (.t (.xb (.x4 .e))))])
  (.seq (.seq (.ops [.s (.xc (.x4 .e)) (.mv (.t (.xa (.x0 .e)))),
    .s (.xd (.x4 .e)) (.nilck (.t (.xc (.x4 .e)))),
    .s (.xe (.x4 .e)) (.fadr 2 (.t (.xd (.x4 .e)))),
    .s (.xf (.x4 .e)) (.ld none (.t (.xe (.x4 .e)))),
    .s (.x0 (.x5 .e)) (.mv (.t (.xb (.x0 .e)))),
    .s (.x1 (.x5 .e)) (.ixs 3 (.t (.xf (.x4 .e))) (.t (.x0 (.x5 .e)))),
    .s (.x2 (.x5 .e)) (.fadr 2 (.t (.x1 (.x5 .e)))),
    .s (.x3 (.x5 .e)) (.ld none (.t (.x2 (.x5 .e)))),
    .s (.x4 (.x5 .e)) (.mv (.t (.xd (.x0 .e)))),
    .s (.x5 (.x5 .e)) (.bin .eql (.t (.x3 (.x5 .e))) (.t (.x4 (.x5 .e))))])
  (.cond (.t (.x5 (.x5 .e)))
  (.ops [.s (.x6 (.x5 .e)) (.fadr 0 (.t (.x7 (.x0 .e)))),
    .s (.x7 (.x5 .e)) (.ld none (.t (.x6 (.x5 .e)))),
    .s (.x8 (.x5 .e)) (.mv (.t (.xe (.x0 .e)))),
    .s (.x9 (.x5 .e)) (.bin .sub (.t (.x7 (.x5 .e))) (.t (.x8 (.x5 .e)))),
    .s (.xe (.x0 .e)) (.asg (.t (.x9 (.x5 .e))))])
  .skip))
  (.ops [.s (.xa (.x5 .e)) (.fadr 0 (.t (.x8 (.x0 .e)))),
    .s (.xb (.x5 .e)) (.ld none (.t (.xa (.x5 .e)))),
    .s (.xc (.x5 .e)) (.mv (.t (.xe (.x0 .e)))),
    .s (.xd (.x5 .e)) (.min [(.t (.xb (.x5 .e))), (.t (.xc (.x5 .e)))]),
    .s (.xe (.x5 .e)) (.fadr 0 (.t (.x8 (.x0 .e)))),
    .u (.st none (.t (.xe (.x5 .e))) (.t (.xd (.x5 .e))))])))))))
  (.ops [.s (.xf (.x5 .e)) (.bin .add (.t (.xf (.x2 .e))) (.c (V.int .i64 1))),
    .s (.xf (.x2 .e)) (.mv (.t (.xf (.x5 .e))))]))))
/-- function 44, loop 0: live [1, 5, 6, 7] -/
def M44_0 : List Pth := [(.x1 (.x0 .e)), (.x5 (.x0 .e)), (.x6 (.x0 .e)), (.x7 (.x0 .e))]
def L44_0 : EC :=
  (.seq (.seq (.ops [.s (.xc (.x1 .e)) (.fadr 0 (.t (.x7 (.x0 .e)))),
    .s (.xd (.x1 .e)) (.ld none (.t (.xc (.x1 .e)))),
    .s (.xe (.x1 .e)) (.bin .gtr (.t (.xd (.x1 .e))) (.c (V.int .i64 0)))])
  (.cond (.t (.xe (.x1 .e)))
  .skip
  (.exit 0)))
  (.blk 1 [(.x1 (.x0 .e)), (.x5 (.x0 .e)), (.x6 (.x0 .e)), (.x7 (.x0 .e))]
  (.seq (.draw [0, 1, 2, 5, 3, 4, 6] [0, 1, 0, 0, 4, 23, 63] [.s (.xf (.x1 .e)) (.fadr 0 (.t (.x7 (.x0 .e)))),
    .s (.x0 (.x2 .e)) (.ld none (.t (.xf (.x1 .e)))),
    .s (.x1 (.x2 .e)) (.ld (some 2) (.t (.x7 (.x0 .e)))),
    .s (.x8 (.x0 .e)) (.alloc [V.int .i64 0, V.nilslice]),
    .s (.x2 (.x2 .e)) (.call 64 [(.t (.x1 (.x2 .e)))]),
    .s (.x3 (.x2 .e)) (.build [V.int .i64 0, V.nilslice] [(0, 1, (.t (.x0 (.x2 .e)))), (1, 1, (.t (.x2 (.x2 .e))))]),
    .u (.st (some 2) (.t (.x8 (.x0 .e))) (.t (.x3 (.x2 .e))))])
  (.seq (.draw [0, 2, 3, 4, 1, 5, 6, 7] [0, 0, 2, 6, 1, 31, 63, 127] [.s (.x4 (.x2 .e)) (.ld (some 2) (.t (.x7 (.x0 .e)))),
    .s (.x6 (.x2 .e)) (.fadr 1 (.t (.x8 (.x0 .e)))),
    .s (.x7 (.x2 .e)) (.ld none (.t (.x6 (.x2 .e)))),
    .s (.x8 (.x2 .e)) (.build [V.int .i64 0, V.nilslice] [(0, 1, (.c (V.int .i64 1))), (1, 1, (.t (.x7 (.x2 .e))))]),
    .s (.x5 (.x2 .e)) (.call 63 [(.t (.x4 (.x2 .e)))]),
    .s (.x9 (.x2 .e)) (.call 63 [(.t (.x8 (.x2 .e)))]),
    .s (.x9 (.x0 .e)) (.asg (.t (.x5 (.x2 .e)))),
    .s (.xa (.x0 .e)) (.asg (.t (.x9 (.x2 .e))))])
  (.seq (.seq (.ops [.s (.xa (.x2 .e)) (.mv (.t (.x6 (.x0 .e)))),
    .s (.xb (.x2 .e)) (.nilck (.t (.xa (.x2 .e)))),
    .s (.xc (.x2 .e)) (.fadr 2 (.t (.xb (.x2 .e)))),
    .s (.xd (.x2 .e)) (.ld none (.t (.xc (.x2 .e)))),
    .s (.xe (.x2 .e)) (.len (.t (.xd (.x2 .e)))),
    .s (.xf (.x2 .e)) (.mv (.c (V.int .i64 0)))])
  (.blk 2 [(.x1 (.x0 .e)), (.x5 (.x0 .e)), (.x6 (.x0 .e)), (.x7 (.x0 .e)), (.x8 (.x0 .e))]
  (.loop M44_1 L44_1)))
  (.seq (.ops [.s (.x0 (.x6 .e)) (.fadr 1 (.t (.x7 (.x0 .e)))),
    .s (.x1 (.x6 .e)) (.ld none (.t (.x0 (.x6 .e)))),
    .s (.x2 (.x6 .e)) (.ld (some 2) (.t (.x8 (.x0 .e)))),
    .s (.x3 (.x6 .e)) (.call 70 [(.t (.x1 (.x6 .e))), (.t (.x2 (.x6 .e)))])])
  (.seq (.ops [.s (.x4 (.x6 .e)) (.fadr 0 (.t (.x7 (.x0 .e)))),
    .s (.x5 (.x6 .e)) (.ld none (.t (.x4 (.x6 .e)))),
    .s (.x6 (.x6 .e)) (.fadr 0 (.t (.x8 (.x0 .e)))),
    .s (.x7 (.x6 .e)) (.ld none (.t (.x6 (.x6 .e)))),
    .s (.x8 (.x6 .e)) (.bin .sub (.t (.x5 (.x6 .e))) (.t (.x7 (.x6 .e)))),
    .s (.x9 (.x6 .e)) (.fadr 0 (.t (.x7 (.x0 .e)))),
    .u (.st none (.t (.x9 (.x6 .e))) (.t (.x8 (.x6 .e))))])
  (.ops [.s (.xa (.x6 .e)) (.mv (.t (.x5 (.x0 .e)))),
    .s (.xb (.x6 .e)) (.ld (some 2) (.t (.x8 (.x0 .e)))),
    .s (.xc (.x6 .e)) (.bslice 2 1 [V.int .i64 0, V.nilslice] [(0, (.t (.xb (.x6 .e))))]),
    .s (.xd (.x6 .e)) (.app 2 32 (.t (.xa (.x6 .e))) (.t (.xc (.x6 .e)))),
    .s (.x5 (.x0 .e)) (.asg (.t (.xd (.x6 .e))))]))))))))
/-- forecourt/pole.Mix -/
def b44 : EC :=
  (.seq (.ops [.s (.x1 (.x0 .e)) (.box (.t (.x0 (.x0 .e)))),
    .s (.x2 (.x0 .e)) (.asg (.c (V.nilslice))),
    .s (.x3 (.x0 .e)) (.asg (.c (V.int .i64 0)))])
  (.seq (.seq (.ops [.s (.xf (.x0 .e)) (.ld (some 2) (.t (.x1 (.x0 .e)))),
    .s (.x0 (.x1 .e)) (.call 25 [(.t (.xf (.x0 .e)))]),
    .s (.x4 (.x0 .e)) (.asg (.t (.x0 (.x1 .e))))])
  (.seq (.ops [.s (.x1 (.x1 .e)) (.mv (.t (.x4 (.x0 .e)))),
    .s (.x2 (.x1 .e)) (.bin .neq (.t (.x1 (.x1 .e))) (.c (V.int .i64 0)))])
  (.cond (.t (.x2 (.x1 .e)))
  (.seq (.ops [.s (.x3 (.x1 .e)) (.mv (.t (.x4 (.x0 .e)))),
    .s (.x2 (.x0 .e)) (.asg (.c (V.nilslice))),
    .s (.x3 (.x0 .e)) (.asg (.t (.x3 (.x1 .e))))])
  .ret)
  .skip)))
  (.seq (.ops [.s (.x5 (.x0 .e)) (.asg (.c (V.nilslice)))])
  (.seq (.ops [.s (.x4 (.x1 .e)) (.ld (some 2) (.t (.x1 (.x0 .e)))),
    .s (.x5 (.x1 .e)) (.call 63 [(.t (.x4 (.x1 .e)))]),
    .s (.x6 (.x0 .e)) (.asg (.t (.x5 (.x1 .e))))])
  (.seq (.draw [0, 1, 2, 3, 6, 4, 5, 7] [0, 1, 0, 4, 0, 12, 47, 127] [.s (.x6 (.x1 .e)) (.fadr 0 (.t (.x1 (.x0 .e)))),
    .s (.x7 (.x1 .e)) (.ld none (.t (.x6 (.x1 .e)))),
    .s (.x8 (.x1 .e)) (.fadr 1 (.t (.x1 (.x0 .e)))),
    .s (.x9 (.x1 .e)) (.ld none (.t (.x8 (.x1 .e)))),
    .s (.x7 (.x0 .e)) (.alloc [V.int .i64 0, V.nilslice]),
    .s (.xa (.x1 .e)) (.call 69 [(.t (.x9 (.x1 .e)))]),
    .s (.xb (.x1 .e)) (.build [V.int .i64 0, V.nilslice] [(0, 1, (.t (.x7 (.x1 .e)))), (1, 1, (.t (.xa (.x1 .e))))]),
    .u (.st (some 2) (.t (.x7 (.x0 .e))) (.t (.xb (.x1 .e))))])
  (.seq (.blk 0 [(.x5 (.x0 .e))]
  (.loop M44_0 L44_0))
  (.seq (.ops [.s (.xe (.x6 .e)) (.mv (.t (.x5 (.x0 .e)))),
    .s (.x2 (.x0 .e)) (.asg (.t (.xe (.x6 .e)))),
    .s (.x3 (.x0 .e)) (.asg (.c (V.int .i64 0)))])
  .ret)))))))
def e44 : EF := { depth := 2, nargs := 1, results := [.t (.x2 (.x0 .e)), .t (.x3 (.x0 .e))], body := b44 }


end Go.Proofs.Ytnmkbnejapdnnaa.Ev
