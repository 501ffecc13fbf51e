-- PRINTED BY wip/tools/genok.py: each printed function is the loaded one's code (by the kernel).
import Derived.Test.YtnmkbnejapdnnaaEvCode
import Derived.Test.YtnmkbnejapdnnaaEvChk
import Derived.Test.YtnmkbnejapdnnaaProg
import Derived.KernelRfl
set_option maxRecDepth 100000
namespace Go.Proofs.Ytnmkbnejapdnnaa.Ev
open Go

theorem ok2 : fnOk Go.Proofs.Try.prog Go.Proofs.Try.f2 e2 = true := by kernel_rfl
theorem ok3 : fnOk Go.Proofs.Try.prog Go.Proofs.Try.f3 e3 = true := by kernel_rfl
theorem ok4 : fnOk Go.Proofs.Try.prog Go.Proofs.Try.f4 e4 = true := by kernel_rfl
theorem ok5 : fnOk Go.Proofs.Try.prog Go.Proofs.Try.f5 e5 = true := by kernel_rfl
theorem ok6 : fnOk Go.Proofs.Try.prog Go.Proofs.Try.f6 e6 = true := by kernel_rfl
theorem ok7 : fnOk Go.Proofs.Try.prog Go.Proofs.Try.f7 e7 = true := by kernel_rfl
theorem ok8 : fnOk Go.Proofs.Try.prog Go.Proofs.Try.f8 e8 = true := by kernel_rfl
theorem ok9 : fnOk Go.Proofs.Try.prog Go.Proofs.Try.f9 e9 = true := by kernel_rfl
theorem ok10 : fnOk Go.Proofs.Try.prog Go.Proofs.Try.f10 e10 = true := by kernel_rfl
theorem ok11 : fnOk Go.Proofs.Try.prog Go.Proofs.Try.f11 e11 = true := by kernel_rfl
theorem ok12 : fnOk Go.Proofs.Try.prog Go.Proofs.Try.f12 e12 = true := by kernel_rfl
theorem ok13 : fnOk Go.Proofs.Try.prog Go.Proofs.Try.f13 e13 = true := by kernel_rfl
theorem ok14 : fnOk Go.Proofs.Try.prog Go.Proofs.Try.f14 e14 = true := by kernel_rfl
theorem ok15 : fnOk Go.Proofs.Try.prog Go.Proofs.Try.f15 e15 = true := by kernel_rfl
theorem ok16 : fnOk Go.Proofs.Try.prog Go.Proofs.Try.f16 e16 = true := by kernel_rfl
theorem ok17 : fnOk Go.Proofs.Try.prog Go.Proofs.Try.f17 e17 = true := by kernel_rfl
theorem ok18 : fnOk Go.Proofs.Try.prog Go.Proofs.Try.f18 e18 = true := by kernel_rfl
theorem ok19 : fnOk Go.Proofs.Try.prog Go.Proofs.Try.f19 e19 = true := by kernel_rfl
theorem ok20 : fnOk Go.Proofs.Try.prog Go.Proofs.Try.f20 e20 = true := by kernel_rfl
theorem ok21 : fnOk Go.Proofs.Try.prog Go.Proofs.Try.f21 e21 = true := by kernel_rfl
theorem ok22 : fnOk Go.Proofs.Try.prog Go.Proofs.Try.f22 e22 = true := by kernel_rfl
theorem ok23 : fnOk Go.Proofs.Try.prog Go.Proofs.Try.f23 e23 = true := by kernel_rfl
theorem ok24 : fnOk Go.Proofs.Try.prog Go.Proofs.Try.f24 e24 = true := by kernel_rfl
theorem ok25 : fnOk Go.Proofs.Try.prog Go.Proofs.Try.f25 e25 = true := by kernel_rfl
theorem ok26 : fnOk Go.Proofs.Try.prog Go.Proofs.Try.f26 e26 = true := by kernel_rfl
theorem ok27 : fnOk Go.Proofs.Try.prog Go.Proofs.Try.f27 e27 = true := by kernel_rfl
theorem ok28 : fnOk Go.Proofs.Try.prog Go.Proofs.Try.f28 e28 = true := by kernel_rfl
theorem ok29 : fnOk Go.Proofs.Try.prog Go.Proofs.Try.f29 e29 = true := by kernel_rfl
theorem ok30 : fnOk Go.Proofs.Try.prog Go.Proofs.Try.f30 e30 = true := by kernel_rfl
theorem ok31 : fnOk Go.Proofs.Try.prog Go.Proofs.Try.f31 e31 = true := by kernel_rfl
theorem ok32 : fnOk Go.Proofs.Try.prog Go.Proofs.Try.f32 e32 = true := by kernel_rfl
theorem ok33 : fnOk Go.Proofs.Try.prog Go.Proofs.Try.f33 e33 = true := by kernel_rfl
theorem ok34 : fnOk Go.Proofs.Try.prog Go.Proofs.Try.f34 e34 = true := by kernel_rfl
theorem ok35 : fnOk Go.Proofs.Try.prog Go.Proofs.Try.f35 e35 = true := by kernel_rfl
theorem ok36 : fnOk Go.Proofs.Try.prog Go.Proofs.Try.f36 e36 = true := by kernel_rfl
theorem ok37 : fnOk Go.Proofs.Try.prog Go.Proofs.Try.f37 e37 = true := by kernel_rfl
theorem ok38 : fnOk Go.Proofs.Try.prog Go.Proofs.Try.f38 e38 = true := by kernel_rfl
theorem ok39 : fnOk Go.Proofs.Try.prog Go.Proofs.Try.f39 e39 = true := by kernel_rfl
theorem ok40 : fnOk Go.Proofs.Try.prog Go.Proofs.Try.f40 e40 = true := by kernel_rfl
theorem ok41 : fnOk Go.Proofs.Try.prog Go.Proofs.Try.f41 e41 = true := by kernel_rfl
theorem ok42 : fnOk Go.Proofs.Try.prog Go.Proofs.Try.f42 e42 = true := by kernel_rfl
theorem ok43 : fnOk Go.Proofs.Try.prog Go.Proofs.Try.f43 e43 = true := by kernel_rfl
theorem ok44 : fnOk Go.Proofs.Try.prog Go.Proofs.Try.f44 e44 = true := by kernel_rfl
theorem ok45 : fnOk Go.Proofs.Try.prog Go.Proofs.Try.f45 e45 = true := by kernel_rfl
theorem ok46 : fnOk Go.Proofs.Try.prog Go.Proofs.Try.f46 e46 = true := by kernel_rfl
theorem ok47 : fnOk Go.Proofs.Try.prog Go.Proofs.Try.f47 e47 = true := by kernel_rfl
theorem ok48 : fnOk Go.Proofs.Try.prog Go.Proofs.Try.f48 e48 = true := by kernel_rfl
theorem ok49 : fnOk Go.Proofs.Try.prog Go.Proofs.Try.f49 e49 = true := by kernel_rfl
theorem ok50 : fnOk Go.Proofs.Try.prog Go.Proofs.Try.f50 e50 = true := by kernel_rfl
theorem ok51 : fnOk Go.Proofs.Try.prog Go.Proofs.Try.f51 e51 = true := by kernel_rfl
theorem ok52 : fnOk Go.Proofs.Try.prog Go.Proofs.Try.f52 e52 = true := by kernel_rfl
theorem ok53 : fnOk Go.Proofs.Try.prog Go.Proofs.Try.f53 e53 = true := by kernel_rfl
theorem ok54 : fnOk Go.Proofs.Try.prog Go.Proofs.Try.f54 e54 = true := by kernel_rfl
theorem ok55 : fnOk Go.Proofs.Try.prog Go.Proofs.Try.f55 e55 = true := by kernel_rfl
theorem ok56 : fnOk Go.Proofs.Try.prog Go.Proofs.Try.f56 e56 = true := by kernel_rfl
theorem ok57 : fnOk Go.Proofs.Try.prog Go.Proofs.Try.f57 e57 = true := by kernel_rfl
theorem ok58 : fnOk Go.Proofs.Try.prog Go.Proofs.Try.f58 e58 = true := by kernel_rfl
theorem ok59 : fnOk Go.Proofs.Try.prog Go.Proofs.Try.f59 e59 = true := by kernel_rfl
theorem ok60 : fnOk Go.Proofs.Try.prog Go.Proofs.Try.f60 e60 = true := by kernel_rfl
theorem ok61 : fnOk Go.Proofs.Try.prog Go.Proofs.Try.f61 e61 = true := by kernel_rfl
theorem ok62 : fnOk Go.Proofs.Try.prog Go.Proofs.Try.f62 e62 = true := by kernel_rfl
theorem ok63 : fnOk Go.Proofs.Try.prog Go.Proofs.Try.f63 e63 = true := by kernel_rfl
theorem ok64 : fnOk Go.Proofs.Try.prog Go.Proofs.Try.f64 e64 = true := by kernel_rfl
theorem ok65 : fnOk Go.Proofs.Try.prog Go.Proofs.Try.f65 e65 = true := by kernel_rfl
theorem ok66 : fnOk Go.Proofs.Try.prog Go.Proofs.Try.f66 e66 = true := by kernel_rfl
theorem ok67 : fnOk Go.Proofs.Try.prog Go.Proofs.Try.f67 e67 = true := by kernel_rfl
theorem ok68 : fnOk Go.Proofs.Try.prog Go.Proofs.Try.f68 e68 = true := by kernel_rfl
theorem ok69 : fnOk Go.Proofs.Try.prog Go.Proofs.Try.f69 e69 = true := by kernel_rfl
theorem ok70 : fnOk Go.Proofs.Try.prog Go.Proofs.Try.f70 e70 = true := by kernel_rfl
theorem ok71 : fnOk Go.Proofs.Try.prog Go.Proofs.Try.f71 e71 = true := by kernel_rfl
theorem ok72 : fnOk Go.Proofs.Try.prog Go.Proofs.Try.f72 e72 = true := by kernel_rfl
theorem ok73 : fnOk Go.Proofs.Try.prog Go.Proofs.Try.f73 e73 = true := by kernel_rfl
theorem ok74 : fnOk Go.Proofs.Try.prog Go.Proofs.Try.f74 e74 = true := by kernel_rfl
theorem ok75 : fnOk Go.Proofs.Try.prog Go.Proofs.Try.f75 e75 = true := by kernel_rfl
theorem ok76 : fnOk Go.Proofs.Try.prog Go.Proofs.Try.f76 e76 = true := by kernel_rfl
theorem ok77 : fnOk Go.Proofs.Try.prog Go.Proofs.Try.f77 e77 = true := by kernel_rfl
theorem ok78 : fnOk Go.Proofs.Try.prog Go.Proofs.Try.f78 e78 = true := by kernel_rfl
theorem ok79 : fnOk Go.Proofs.Try.prog Go.Proofs.Try.f79 e79 = true := by kernel_rfl
theorem ok80 : fnOk Go.Proofs.Try.prog Go.Proofs.Try.f80 e80 = true := by kernel_rfl
theorem ok81 : fnOk Go.Proofs.Try.prog Go.Proofs.Try.f81 e81 = true := by kernel_rfl
theorem ok82 : fnOk Go.Proofs.Try.prog Go.Proofs.Try.f82 e82 = true := by kernel_rfl
theorem ok83 : fnOk Go.Proofs.Try.prog Go.Proofs.Try.f83 e83 = true := by kernel_rfl
theorem ok84 : fnOk Go.Proofs.Try.prog Go.Proofs.Try.f84 e84 = true := by kernel_rfl
theorem ok85 : fnOk Go.Proofs.Try.prog Go.Proofs.Try.f85 e85 = true := by kernel_rfl
theorem ok86 : fnOk Go.Proofs.Try.prog Go.Proofs.Try.f86 e86 = true := by kernel_rfl
theorem ok87 : fnOk Go.Proofs.Try.prog Go.Proofs.Try.f87 e87 = true := by kernel_rfl
theorem ok88 : fnOk Go.Proofs.Try.prog Go.Proofs.Try.f88 e88 = true := by kernel_rfl
theorem ok89 : fnOk Go.Proofs.Try.prog Go.Proofs.Try.f89 e89 = true := by kernel_rfl
theorem ok90 : fnOk Go.Proofs.Try.prog Go.Proofs.Try.f90 e90 = true := by kernel_rfl
theorem ok91 : fnOk Go.Proofs.Try.prog Go.Proofs.Try.f91 e91 = true := by kernel_rfl
theorem ok92 : fnOk Go.Proofs.Try.prog Go.Proofs.Try.f92 e92 = true := by kernel_rfl
theorem ok93 : fnOk Go.Proofs.Try.prog Go.Proofs.Try.f93 e93 = true := by kernel_rfl
theorem ok94 : fnOk Go.Proofs.Try.prog Go.Proofs.Try.f94 e94 = true := by kernel_rfl
theorem ok95 : fnOk Go.Proofs.Try.prog Go.Proofs.Try.f95 e95 = true := by kernel_rfl
theorem ok96 : fnOk Go.Proofs.Try.prog Go.Proofs.Try.f96 e96 = true := by kernel_rfl
theorem ok97 : fnOk Go.Proofs.Try.prog Go.Proofs.Try.f97 e97 = true := by kernel_rfl
theorem ok98 : fnOk Go.Proofs.Try.prog Go.Proofs.Try.f98 e98 = true := by kernel_rfl
theorem ok99 : fnOk Go.Proofs.Try.prog Go.Proofs.Try.f99 e99 = true := by kernel_rfl
theorem ok100 : fnOk Go.Proofs.Try.prog Go.Proofs.Try.f100 e100 = true := by kernel_rfl
theorem ok101 : fnOk Go.Proofs.Try.prog Go.Proofs.Try.f101 e101 = true := by kernel_rfl
theorem ok102 : fnOk Go.Proofs.Try.prog Go.Proofs.Try.f102 e102 = true := by kernel_rfl
theorem ok103 : fnOk Go.Proofs.Try.prog Go.Proofs.Try.f103 e103 = true := by kernel_rfl
theorem ok104 : fnOk Go.Proofs.Try.prog Go.Proofs.Try.f104 e104 = true := by kernel_rfl

end Go.Proofs.Ytnmkbnejapdnnaa.Ev
