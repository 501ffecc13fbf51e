/-
  Poles: Works answers true, in whatever state: a closed run.
-/
import Derived.Test.YtnmkbnejapdnnaaEvEnv
import Derived.KernelRfl
set_option maxRecDepth 100000
namespace Go.Proofs.Ytnmkbnejapdnnaa.Ev
open Go
theorem run12_eq : callN E0 3000 (.fn 12) [] .empty (fun v _ => v = .bool true) = (V.bool true = V.bool true) := by kernel_rfl
end Go.Proofs.Ytnmkbnejapdnnaa.Ev
