-- PRINTED BY wip/tools/gent.py: loops' slots; calls by code.
import Derived.Test.YtnmkbnejapdnnaaEvEnv
import Derived.Test.YtnmkbnejapdnnaaEvSym
set_option linter.unusedVariables false
namespace Go.Proofs.Ytnmkbnejapdnnaa.Ev
open Go

def IsK (K : KT) : Prop := ∃ N0, K = Kt Try.prog N0
theorem isK (N0 : Nat) : IsK (Kt Try.prog N0) := ⟨N0, rfl⟩
section
variable {K : KT} {args : List V} {σ : St} {k k' : Cn}
theorem IsK.mono (hK : IsK K) {T : Tgt} (h : K T args σ k) (hk : ∀ v σ', k v σ' → k' v σ') : K T args σ k' := by obtain ⟨N0, rfl⟩ := hK; exact Kt.mono h hk
theorem IsK.yield (hK : IsK K) {l : Nat} (N : Nat) (h : callY N K l args σ k) : K (.yield l) args σ k := by obtain ⟨N0, rfl⟩ := hK; exact Kt.yield mixed N h
theorem k2 (hK : IsK K) (N : Nat) (h : callE N K 2 e2 args σ k) : K (.fn 2) args σ k := by obtain ⟨N0, rfl⟩ := hK; exact Kt.fn mixed Try.func2 ok2 N h
theorem k3 (hK : IsK K) (N : Nat) (h : callE N K 3 e3 args σ k) : K (.fn 3) args σ k := by obtain ⟨N0, rfl⟩ := hK; exact Kt.fn mixed Try.func3 ok3 N h
theorem k4 (hK : IsK K) (N : Nat) (h : callE N K 4 e4 args σ k) : K (.fn 4) args σ k := by obtain ⟨N0, rfl⟩ := hK; exact Kt.fn mixed Try.func4 ok4 N h
theorem k5 (hK : IsK K) (N : Nat) (h : callE N K 5 e5 args σ k) : K (.fn 5) args σ k := by obtain ⟨N0, rfl⟩ := hK; exact Kt.fn mixed Try.func5 ok5 N h
theorem k6 (hK : IsK K) (N : Nat) (h : callE N K 6 e6 args σ k) : K (.fn 6) args σ k := by obtain ⟨N0, rfl⟩ := hK; exact Kt.fn mixed Try.func6 ok6 N h
theorem k7 (hK : IsK K) (N : Nat) (h : callE N K 7 e7 args σ k) : K (.fn 7) args σ k := by obtain ⟨N0, rfl⟩ := hK; exact Kt.fn mixed Try.func7 ok7 N h
theorem k8 (hK : IsK K) (N : Nat) (h : callE N K 8 e8 args σ k) : K (.fn 8) args σ k := by obtain ⟨N0, rfl⟩ := hK; exact Kt.fn mixed Try.func8 ok8 N h
theorem k9 (hK : IsK K) (N : Nat) (h : callE N K 9 e9 args σ k) : K (.fn 9) args σ k := by obtain ⟨N0, rfl⟩ := hK; exact Kt.fn mixed Try.func9 ok9 N h
theorem k10 (hK : IsK K) (N : Nat) (h : callE N K 10 e10 args σ k) : K (.fn 10) args σ k := by obtain ⟨N0, rfl⟩ := hK; exact Kt.fn mixed Try.func10 ok10 N h
theorem k11 (hK : IsK K) (N : Nat) (h : callE N K 11 e11 args σ k) : K (.fn 11) args σ k := by obtain ⟨N0, rfl⟩ := hK; exact Kt.fn mixed Try.func11 ok11 N h
theorem k12 (hK : IsK K) (N : Nat) (h : callE N K 12 e12 args σ k) : K (.fn 12) args σ k := by obtain ⟨N0, rfl⟩ := hK; exact Kt.fn mixed Try.func12 ok12 N h
theorem k13 (hK : IsK K) (N : Nat) (h : callE N K 13 e13 args σ k) : K (.fn 13) args σ k := by obtain ⟨N0, rfl⟩ := hK; exact Kt.fn mixed Try.func13 ok13 N h
theorem k14 (hK : IsK K) (N : Nat) (h : callE N K 14 e14 args σ k) : K (.fn 14) args σ k := by obtain ⟨N0, rfl⟩ := hK; exact Kt.fn mixed Try.func14 ok14 N h
theorem k15 (hK : IsK K) (N : Nat) (h : callE N K 15 e15 args σ k) : K (.fn 15) args σ k := by obtain ⟨N0, rfl⟩ := hK; exact Kt.fn mixed Try.func15 ok15 N h
theorem k16 (hK : IsK K) (N : Nat) (h : callE N K 16 e16 args σ k) : K (.fn 16) args σ k := by obtain ⟨N0, rfl⟩ := hK; exact Kt.fn mixed Try.func16 ok16 N h
theorem k17 (hK : IsK K) (N : Nat) (h : callE N K 17 e17 args σ k) : K (.fn 17) args σ k := by obtain ⟨N0, rfl⟩ := hK; exact Kt.fn mixed Try.func17 ok17 N h
theorem k18 (hK : IsK K) (N : Nat) (h : callE N K 18 e18 args σ k) : K (.fn 18) args σ k := by obtain ⟨N0, rfl⟩ := hK; exact Kt.fn mixed Try.func18 ok18 N h
theorem k19 (hK : IsK K) (N : Nat) (h : callE N K 19 e19 args σ k) : K (.fn 19) args σ k := by obtain ⟨N0, rfl⟩ := hK; exact Kt.fn mixed Try.func19 ok19 N h
theorem k20 (hK : IsK K) (N : Nat) (h : callE N K 20 e20 args σ k) : K (.fn 20) args σ k := by obtain ⟨N0, rfl⟩ := hK; exact Kt.fn mixed Try.func20 ok20 N h
theorem k21 (hK : IsK K) (N : Nat) (h : callE N K 21 e21 args σ k) : K (.fn 21) args σ k := by obtain ⟨N0, rfl⟩ := hK; exact Kt.fn mixed Try.func21 ok21 N h
theorem k22 (hK : IsK K) (N : Nat) (h : callE N K 22 e22 args σ k) : K (.fn 22) args σ k := by obtain ⟨N0, rfl⟩ := hK; exact Kt.fn mixed Try.func22 ok22 N h
theorem k23 (hK : IsK K) (N : Nat) (h : callE N K 23 e23 args σ k) : K (.fn 23) args σ k := by obtain ⟨N0, rfl⟩ := hK; exact Kt.fn mixed Try.func23 ok23 N h
theorem k24 (hK : IsK K) (N : Nat) (h : callE N K 24 e24 args σ k) : K (.fn 24) args σ k := by obtain ⟨N0, rfl⟩ := hK; exact Kt.fn mixed Try.func24 ok24 N h
theorem k25 (hK : IsK K) (N : Nat) (h : callE N K 25 e25 args σ k) : K (.fn 25) args σ k := by obtain ⟨N0, rfl⟩ := hK; exact Kt.fn mixed Try.func25 ok25 N h
theorem k26 (hK : IsK K) (N : Nat) (h : callE N K 26 e26 args σ k) : K (.fn 26) args σ k := by obtain ⟨N0, rfl⟩ := hK; exact Kt.fn mixed Try.func26 ok26 N h
theorem k27 (hK : IsK K) (N : Nat) (h : callE N K 27 e27 args σ k) : K (.fn 27) args σ k := by obtain ⟨N0, rfl⟩ := hK; exact Kt.fn mixed Try.func27 ok27 N h
theorem k28 (hK : IsK K) (N : Nat) (h : callE N K 28 e28 args σ k) : K (.fn 28) args σ k := by obtain ⟨N0, rfl⟩ := hK; exact Kt.fn mixed Try.func28 ok28 N h
theorem k29 (hK : IsK K) (N : Nat) (h : callE N K 29 e29 args σ k) : K (.fn 29) args σ k := by obtain ⟨N0, rfl⟩ := hK; exact Kt.fn mixed Try.func29 ok29 N h
theorem k30 (hK : IsK K) (N : Nat) (h : callE N K 30 e30 args σ k) : K (.fn 30) args σ k := by obtain ⟨N0, rfl⟩ := hK; exact Kt.fn mixed Try.func30 ok30 N h
theorem k31 (hK : IsK K) (N : Nat) (h : callE N K 31 e31 args σ k) : K (.fn 31) args σ k := by obtain ⟨N0, rfl⟩ := hK; exact Kt.fn mixed Try.func31 ok31 N h
theorem k32 (hK : IsK K) (N : Nat) (h : callE N K 32 e32 args σ k) : K (.fn 32) args σ k := by obtain ⟨N0, rfl⟩ := hK; exact Kt.fn mixed Try.func32 ok32 N h
theorem k33 (hK : IsK K) (N : Nat) (h : callE N K 33 e33 args σ k) : K (.fn 33) args σ k := by obtain ⟨N0, rfl⟩ := hK; exact Kt.fn mixed Try.func33 ok33 N h
theorem k34 (hK : IsK K) (N : Nat) (h : callE N K 34 e34 args σ k) : K (.fn 34) args σ k := by obtain ⟨N0, rfl⟩ := hK; exact Kt.fn mixed Try.func34 ok34 N h
theorem k35 (hK : IsK K) (N : Nat) (h : callE N K 35 e35 args σ k) : K (.fn 35) args σ k := by obtain ⟨N0, rfl⟩ := hK; exact Kt.fn mixed Try.func35 ok35 N h
theorem k36 (hK : IsK K) (N : Nat) (h : callE N K 36 e36 args σ k) : K (.fn 36) args σ k := by obtain ⟨N0, rfl⟩ := hK; exact Kt.fn mixed Try.func36 ok36 N h
theorem k37 (hK : IsK K) (N : Nat) (h : callE N K 37 e37 args σ k) : K (.fn 37) args σ k := by obtain ⟨N0, rfl⟩ := hK; exact Kt.fn mixed Try.func37 ok37 N h
theorem k38 (hK : IsK K) (N : Nat) (h : callE N K 38 e38 args σ k) : K (.fn 38) args σ k := by obtain ⟨N0, rfl⟩ := hK; exact Kt.fn mixed Try.func38 ok38 N h
theorem k39 (hK : IsK K) (N : Nat) (h : callE N K 39 e39 args σ k) : K (.fn 39) args σ k := by obtain ⟨N0, rfl⟩ := hK; exact Kt.fn mixed Try.func39 ok39 N h
theorem k40 (hK : IsK K) (N : Nat) (h : callE N K 40 e40 args σ k) : K (.fn 40) args σ k := by obtain ⟨N0, rfl⟩ := hK; exact Kt.fn mixed Try.func40 ok40 N h
theorem k41 (hK : IsK K) (N : Nat) (h : callE N K 41 e41 args σ k) : K (.fn 41) args σ k := by obtain ⟨N0, rfl⟩ := hK; exact Kt.fn mixed Try.func41 ok41 N h
theorem k42 (hK : IsK K) (N : Nat) (h : callE N K 42 e42 args σ k) : K (.fn 42) args σ k := by obtain ⟨N0, rfl⟩ := hK; exact Kt.fn mixed Try.func42 ok42 N h
theorem k43 (hK : IsK K) (N : Nat) (h : callE N K 43 e43 args σ k) : K (.fn 43) args σ k := by obtain ⟨N0, rfl⟩ := hK; exact Kt.fn mixed Try.func43 ok43 N h
theorem k44 (hK : IsK K) (N : Nat) (h : callE N K 44 e44 args σ k) : K (.fn 44) args σ k := by obtain ⟨N0, rfl⟩ := hK; exact Kt.fn mixed Try.func44 ok44 N h
theorem k45 (hK : IsK K) (N : Nat) (h : callE N K 45 e45 args σ k) : K (.fn 45) args σ k := by obtain ⟨N0, rfl⟩ := hK; exact Kt.fn mixed Try.func45 ok45 N h
theorem k46 (hK : IsK K) (N : Nat) (h : callE N K 46 e46 args σ k) : K (.fn 46) args σ k := by obtain ⟨N0, rfl⟩ := hK; exact Kt.fn mixed Try.func46 ok46 N h
theorem k47 (hK : IsK K) (N : Nat) (h : callE N K 47 e47 args σ k) : K (.fn 47) args σ k := by obtain ⟨N0, rfl⟩ := hK; exact Kt.fn mixed Try.func47 ok47 N h
theorem k48 (hK : IsK K) (N : Nat) (h : callE N K 48 e48 args σ k) : K (.fn 48) args σ k := by obtain ⟨N0, rfl⟩ := hK; exact Kt.fn mixed Try.func48 ok48 N h
theorem k49 (hK : IsK K) (N : Nat) (h : callE N K 49 e49 args σ k) : K (.fn 49) args σ k := by obtain ⟨N0, rfl⟩ := hK; exact Kt.fn mixed Try.func49 ok49 N h
theorem k50 (hK : IsK K) (N : Nat) (h : callE N K 50 e50 args σ k) : K (.fn 50) args σ k := by obtain ⟨N0, rfl⟩ := hK; exact Kt.fn mixed Try.func50 ok50 N h
theorem k51 (hK : IsK K) (N : Nat) (h : callE N K 51 e51 args σ k) : K (.fn 51) args σ k := by obtain ⟨N0, rfl⟩ := hK; exact Kt.fn mixed Try.func51 ok51 N h
theorem k52 (hK : IsK K) (N : Nat) (h : callE N K 52 e52 args σ k) : K (.fn 52) args σ k := by obtain ⟨N0, rfl⟩ := hK; exact Kt.fn mixed Try.func52 ok52 N h
theorem k53 (hK : IsK K) (N : Nat) (h : callE N K 53 e53 args σ k) : K (.fn 53) args σ k := by obtain ⟨N0, rfl⟩ := hK; exact Kt.fn mixed Try.func53 ok53 N h
theorem k54 (hK : IsK K) (N : Nat) (h : callE N K 54 e54 args σ k) : K (.fn 54) args σ k := by obtain ⟨N0, rfl⟩ := hK; exact Kt.fn mixed Try.func54 ok54 N h
theorem k55 (hK : IsK K) (N : Nat) (h : callE N K 55 e55 args σ k) : K (.fn 55) args σ k := by obtain ⟨N0, rfl⟩ := hK; exact Kt.fn mixed Try.func55 ok55 N h
theorem k56 (hK : IsK K) (N : Nat) (h : callE N K 56 e56 args σ k) : K (.fn 56) args σ k := by obtain ⟨N0, rfl⟩ := hK; exact Kt.fn mixed Try.func56 ok56 N h
theorem k57 (hK : IsK K) (N : Nat) (h : callE N K 57 e57 args σ k) : K (.fn 57) args σ k := by obtain ⟨N0, rfl⟩ := hK; exact Kt.fn mixed Try.func57 ok57 N h
theorem k58 (hK : IsK K) (N : Nat) (h : callE N K 58 e58 args σ k) : K (.fn 58) args σ k := by obtain ⟨N0, rfl⟩ := hK; exact Kt.fn mixed Try.func58 ok58 N h
theorem k59 (hK : IsK K) (N : Nat) (h : callE N K 59 e59 args σ k) : K (.fn 59) args σ k := by obtain ⟨N0, rfl⟩ := hK; exact Kt.fn mixed Try.func59 ok59 N h
theorem k60 (hK : IsK K) (N : Nat) (h : callE N K 60 e60 args σ k) : K (.fn 60) args σ k := by obtain ⟨N0, rfl⟩ := hK; exact Kt.fn mixed Try.func60 ok60 N h
theorem k61 (hK : IsK K) (N : Nat) (h : callE N K 61 e61 args σ k) : K (.fn 61) args σ k := by obtain ⟨N0, rfl⟩ := hK; exact Kt.fn mixed Try.func61 ok61 N h
theorem k62 (hK : IsK K) (N : Nat) (h : callE N K 62 e62 args σ k) : K (.fn 62) args σ k := by obtain ⟨N0, rfl⟩ := hK; exact Kt.fn mixed Try.func62 ok62 N h
theorem k63 (hK : IsK K) (N : Nat) (h : callE N K 63 e63 args σ k) : K (.fn 63) args σ k := by obtain ⟨N0, rfl⟩ := hK; exact Kt.fn mixed Try.func63 ok63 N h
theorem k64 (hK : IsK K) (N : Nat) (h : callE N K 64 e64 args σ k) : K (.fn 64) args σ k := by obtain ⟨N0, rfl⟩ := hK; exact Kt.fn mixed Try.func64 ok64 N h
theorem k65 (hK : IsK K) (N : Nat) (h : callE N K 65 e65 args σ k) : K (.fn 65) args σ k := by obtain ⟨N0, rfl⟩ := hK; exact Kt.fn mixed Try.func65 ok65 N h
theorem k66 (hK : IsK K) (N : Nat) (h : callE N K 66 e66 args σ k) : K (.fn 66) args σ k := by obtain ⟨N0, rfl⟩ := hK; exact Kt.fn mixed Try.func66 ok66 N h
theorem k67 (hK : IsK K) (N : Nat) (h : callE N K 67 e67 args σ k) : K (.fn 67) args σ k := by obtain ⟨N0, rfl⟩ := hK; exact Kt.fn mixed Try.func67 ok67 N h
theorem k68 (hK : IsK K) (N : Nat) (h : callE N K 68 e68 args σ k) : K (.fn 68) args σ k := by obtain ⟨N0, rfl⟩ := hK; exact Kt.fn mixed Try.func68 ok68 N h
theorem k69 (hK : IsK K) (N : Nat) (h : callE N K 69 e69 args σ k) : K (.fn 69) args σ k := by obtain ⟨N0, rfl⟩ := hK; exact Kt.fn mixed Try.func69 ok69 N h
theorem k70 (hK : IsK K) (N : Nat) (h : callE N K 70 e70 args σ k) : K (.fn 70) args σ k := by obtain ⟨N0, rfl⟩ := hK; exact Kt.fn mixed Try.func70 ok70 N h
theorem k71 (hK : IsK K) (N : Nat) (h : callE N K 71 e71 args σ k) : K (.fn 71) args σ k := by obtain ⟨N0, rfl⟩ := hK; exact Kt.fn mixed Try.func71 ok71 N h
theorem k72 (hK : IsK K) (N : Nat) (h : callE N K 72 e72 args σ k) : K (.fn 72) args σ k := by obtain ⟨N0, rfl⟩ := hK; exact Kt.fn mixed Try.func72 ok72 N h
theorem k73 (hK : IsK K) (N : Nat) (h : callE N K 73 e73 args σ k) : K (.fn 73) args σ k := by obtain ⟨N0, rfl⟩ := hK; exact Kt.fn mixed Try.func73 ok73 N h
theorem k74 (hK : IsK K) (N : Nat) (h : callE N K 74 e74 args σ k) : K (.fn 74) args σ k := by obtain ⟨N0, rfl⟩ := hK; exact Kt.fn mixed Try.func74 ok74 N h
theorem k75 (hK : IsK K) (N : Nat) (h : callE N K 75 e75 args σ k) : K (.fn 75) args σ k := by obtain ⟨N0, rfl⟩ := hK; exact Kt.fn mixed Try.func75 ok75 N h
theorem k76 (hK : IsK K) (N : Nat) (h : callE N K 76 e76 args σ k) : K (.fn 76) args σ k := by obtain ⟨N0, rfl⟩ := hK; exact Kt.fn mixed Try.func76 ok76 N h
theorem k77 (hK : IsK K) (N : Nat) (h : callE N K 77 e77 args σ k) : K (.fn 77) args σ k := by obtain ⟨N0, rfl⟩ := hK; exact Kt.fn mixed Try.func77 ok77 N h
theorem k78 (hK : IsK K) (N : Nat) (h : callE N K 78 e78 args σ k) : K (.fn 78) args σ k := by obtain ⟨N0, rfl⟩ := hK; exact Kt.fn mixed Try.func78 ok78 N h
theorem k79 (hK : IsK K) (N : Nat) (h : callE N K 79 e79 args σ k) : K (.fn 79) args σ k := by obtain ⟨N0, rfl⟩ := hK; exact Kt.fn mixed Try.func79 ok79 N h
theorem k80 (hK : IsK K) (N : Nat) (h : callE N K 80 e80 args σ k) : K (.fn 80) args σ k := by obtain ⟨N0, rfl⟩ := hK; exact Kt.fn mixed Try.func80 ok80 N h
theorem k81 (hK : IsK K) (N : Nat) (h : callE N K 81 e81 args σ k) : K (.fn 81) args σ k := by obtain ⟨N0, rfl⟩ := hK; exact Kt.fn mixed Try.func81 ok81 N h
theorem k82 (hK : IsK K) (N : Nat) (h : callE N K 82 e82 args σ k) : K (.fn 82) args σ k := by obtain ⟨N0, rfl⟩ := hK; exact Kt.fn mixed Try.func82 ok82 N h
theorem k83 (hK : IsK K) (N : Nat) (h : callE N K 83 e83 args σ k) : K (.fn 83) args σ k := by obtain ⟨N0, rfl⟩ := hK; exact Kt.fn mixed Try.func83 ok83 N h
theorem k84 (hK : IsK K) (N : Nat) (h : callE N K 84 e84 args σ k) : K (.fn 84) args σ k := by obtain ⟨N0, rfl⟩ := hK; exact Kt.fn mixed Try.func84 ok84 N h
theorem k85 (hK : IsK K) (N : Nat) (h : callE N K 85 e85 args σ k) : K (.fn 85) args σ k := by obtain ⟨N0, rfl⟩ := hK; exact Kt.fn mixed Try.func85 ok85 N h
theorem k86 (hK : IsK K) (N : Nat) (h : callE N K 86 e86 args σ k) : K (.fn 86) args σ k := by obtain ⟨N0, rfl⟩ := hK; exact Kt.fn mixed Try.func86 ok86 N h
theorem k87 (hK : IsK K) (N : Nat) (h : callE N K 87 e87 args σ k) : K (.fn 87) args σ k := by obtain ⟨N0, rfl⟩ := hK; exact Kt.fn mixed Try.func87 ok87 N h
theorem k88 (hK : IsK K) (N : Nat) (h : callE N K 88 e88 args σ k) : K (.fn 88) args σ k := by obtain ⟨N0, rfl⟩ := hK; exact Kt.fn mixed Try.func88 ok88 N h
theorem k89 (hK : IsK K) (N : Nat) (h : callE N K 89 e89 args σ k) : K (.fn 89) args σ k := by obtain ⟨N0, rfl⟩ := hK; exact Kt.fn mixed Try.func89 ok89 N h
theorem k90 (hK : IsK K) (N : Nat) (h : callE N K 90 e90 args σ k) : K (.fn 90) args σ k := by obtain ⟨N0, rfl⟩ := hK; exact Kt.fn mixed Try.func90 ok90 N h
theorem k91 (hK : IsK K) (N : Nat) (h : callE N K 91 e91 args σ k) : K (.fn 91) args σ k := by obtain ⟨N0, rfl⟩ := hK; exact Kt.fn mixed Try.func91 ok91 N h
theorem k92 (hK : IsK K) (N : Nat) (h : callE N K 92 e92 args σ k) : K (.fn 92) args σ k := by obtain ⟨N0, rfl⟩ := hK; exact Kt.fn mixed Try.func92 ok92 N h
theorem k93 (hK : IsK K) (N : Nat) (h : callE N K 93 e93 args σ k) : K (.fn 93) args σ k := by obtain ⟨N0, rfl⟩ := hK; exact Kt.fn mixed Try.func93 ok93 N h
theorem k94 (hK : IsK K) (N : Nat) (h : callE N K 94 e94 args σ k) : K (.fn 94) args σ k := by obtain ⟨N0, rfl⟩ := hK; exact Kt.fn mixed Try.func94 ok94 N h
theorem k95 (hK : IsK K) (N : Nat) (h : callE N K 95 e95 args σ k) : K (.fn 95) args σ k := by obtain ⟨N0, rfl⟩ := hK; exact Kt.fn mixed Try.func95 ok95 N h
theorem k96 (hK : IsK K) (N : Nat) (h : callE N K 96 e96 args σ k) : K (.fn 96) args σ k := by obtain ⟨N0, rfl⟩ := hK; exact Kt.fn mixed Try.func96 ok96 N h
theorem k97 (hK : IsK K) (N : Nat) (h : callE N K 97 e97 args σ k) : K (.fn 97) args σ k := by obtain ⟨N0, rfl⟩ := hK; exact Kt.fn mixed Try.func97 ok97 N h
theorem k98 (hK : IsK K) (N : Nat) (h : callE N K 98 e98 args σ k) : K (.fn 98) args σ k := by obtain ⟨N0, rfl⟩ := hK; exact Kt.fn mixed Try.func98 ok98 N h
theorem k99 (hK : IsK K) (N : Nat) (h : callE N K 99 e99 args σ k) : K (.fn 99) args σ k := by obtain ⟨N0, rfl⟩ := hK; exact Kt.fn mixed Try.func99 ok99 N h
theorem k100 (hK : IsK K) (N : Nat) (h : callE N K 100 e100 args σ k) : K (.fn 100) args σ k := by obtain ⟨N0, rfl⟩ := hK; exact Kt.fn mixed Try.func100 ok100 N h
theorem k101 (hK : IsK K) (N : Nat) (h : callE N K 101 e101 args σ k) : K (.fn 101) args σ k := by obtain ⟨N0, rfl⟩ := hK; exact Kt.fn mixed Try.func101 ok101 N h
theorem k102 (hK : IsK K) (N : Nat) (h : callE N K 102 e102 args σ k) : K (.fn 102) args σ k := by obtain ⟨N0, rfl⟩ := hK; exact Kt.fn mixed Try.func102 ok102 N h
theorem k103 (hK : IsK K) (N : Nat) (h : callE N K 103 e103 args σ k) : K (.fn 103) args σ k := by obtain ⟨N0, rfl⟩ := hK; exact Kt.fn mixed Try.func103 ok103 N h
theorem k104 (hK : IsK K) (N : Nat) (h : callE N K 104 e104 args σ k) : K (.fn 104) args σ k := by obtain ⟨N0, rfl⟩ := hK; exact Kt.fn mixed Try.func104 ok104 N h
end

noncomputable def T7_0 (v0 v2 v6 v11 v13 v15 v19 v21 : V) : Tr := (stt (.x5 (.x1 .e)) (stt (.x3 (.x1 .e)) (stt (.xf (.x0 .e)) (stt (.xd (.x0 .e)) (stt (.xb (.x0 .e)) (stt (.x6 (.x0 .e)) (stt (.x2 (.x0 .e)) (stt (.x0 (.x0 .e)) .root v0) v2) v6) v11) v13) v15) v19) v21)
noncomputable def T8_0 (v0 v5 v7 v13 v15 v21 v22 v23 : V) : Tr := (stt (.x7 (.x1 .e)) (stt (.x6 (.x1 .e)) (stt (.x5 (.x1 .e)) (stt (.xf (.x0 .e)) (stt (.xd (.x0 .e)) (stt (.x7 (.x0 .e)) (stt (.x5 (.x0 .e)) (stt (.x0 (.x0 .e)) .root v0) v5) v7) v13) v15) v21) v22) v23)
noncomputable def T9_1 (v2 v7 v8 v9 v10 v11 : V) : Tr := (stt (.xb (.x0 .e)) (stt (.xa (.x0 .e)) (stt (.x9 (.x0 .e)) (stt (.x8 (.x0 .e)) (stt (.x7 (.x0 .e)) (stt (.x2 (.x0 .e)) .root v2) v7) v8) v9) v10) v11)
noncomputable def T9_0 (v2 v7 v8 : V) : Tr := (stt (.x8 (.x0 .e)) (stt (.x7 (.x0 .e)) (stt (.x2 (.x0 .e)) .root v2) v7) v8)
noncomputable def T11_0 (v3 v5 v11 v12 v13 v14 v17 v18 : V) : Tr := (stt (.x2 (.x1 .e)) (stt (.x1 (.x1 .e)) (stt (.xe (.x0 .e)) (stt (.xd (.x0 .e)) (stt (.xc (.x0 .e)) (stt (.xb (.x0 .e)) (stt (.x5 (.x0 .e)) (stt (.x3 (.x0 .e)) .root v3) v5) v11) v12) v13) v14) v17) v18)
noncomputable def T16_0 (v0 v2 v4 v8 v9 : V) : Tr := (stt (.x9 (.x0 .e)) (stt (.x8 (.x0 .e)) (stt (.x4 (.x0 .e)) (stt (.x2 (.x0 .e)) (stt (.x0 (.x0 .e)) .root v0) v2) v4) v8) v9)
noncomputable def T17_0 (v0 v3 v14 v15 v16 : V) : Tr := (stt (.x0 (.x1 .e)) (stt (.xf (.x0 .e)) (stt (.xe (.x0 .e)) (stt (.x3 (.x0 .e)) (stt (.x0 (.x0 .e)) .root v0) v3) v14) v15) v16)
noncomputable def T18_0 (v0 v3 : V) : Tr := (stt (.x3 (.x0 .e)) (stt (.x0 (.x0 .e)) .root v0) v3)
noncomputable def T18_1 (v0 v4 : V) : Tr := (stt (.x4 (.x0 .e)) (stt (.x0 (.x0 .e)) .root v0) v4)
noncomputable def T19_0 (v3 v4 v5 v11 v35 v36 v37 : V) : Tr := (stt (.x5 (.x2 .e)) (stt (.x4 (.x2 .e)) (stt (.x3 (.x2 .e)) (stt (.xb (.x0 .e)) (stt (.x5 (.x0 .e)) (stt (.x4 (.x0 .e)) (stt (.x3 (.x0 .e)) .root v3) v4) v5) v11) v35) v36) v37)
noncomputable def T20_0 (v1 v8 v9 : V) : Tr := (stt (.x9 (.x0 .e)) (stt (.x8 (.x0 .e)) (stt (.x1 (.x0 .e)) .root v1) v8) v9)
noncomputable def T21_0 (v0 v3 v7 v19 v20 v21 : V) : Tr := (stt (.x5 (.x1 .e)) (stt (.x4 (.x1 .e)) (stt (.x3 (.x1 .e)) (stt (.x7 (.x0 .e)) (stt (.x3 (.x0 .e)) (stt (.x0 (.x0 .e)) .root v0) v3) v7) v19) v20) v21)
noncomputable def T22_0 (v6 v7 v8 : V) : Tr := (stt (.x8 (.x0 .e)) (stt (.x7 (.x0 .e)) (stt (.x6 (.x0 .e)) .root v6) v7) v8)
noncomputable def T23_0 (v0 v1 v5 : V) : Tr := (stt (.x5 (.x0 .e)) (stt (.x1 (.x0 .e)) (stt (.x0 (.x0 .e)) .root v0) v1) v5)
noncomputable def T24_0 (v0 v3 : V) : Tr := (stt (.x3 (.x0 .e)) (stt (.x0 (.x0 .e)) .root v0) v3)
noncomputable def T26_0 (v1 v3 : V) : Tr := (stt (.x3 (.x0 .e)) (stt (.x1 (.x0 .e)) .root v1) v3)
noncomputable def T26_2 (v1 v4 v5 : V) : Tr := (stt (.x5 (.x0 .e)) (stt (.x4 (.x0 .e)) (stt (.x1 (.x0 .e)) .root v1) v4) v5)
noncomputable def T26_1 (v1 v4 : V) : Tr := (stt (.x4 (.x0 .e)) (stt (.x1 (.x0 .e)) .root v1) v4)
noncomputable def T27_1 (v1 v2 v6 v7 v33 v34 v35 v40 v41 v42 : V) : Tr := (stt (.xa (.x2 .e)) (stt (.x9 (.x2 .e)) (stt (.x8 (.x2 .e)) (stt (.x3 (.x2 .e)) (stt (.x2 (.x2 .e)) (stt (.x1 (.x2 .e)) (stt (.x7 (.x0 .e)) (stt (.x6 (.x0 .e)) (stt (.x2 (.x0 .e)) (stt (.x1 (.x0 .e)) .root v1) v2) v6) v7) v33) v34) v35) v40) v41) v42)
noncomputable def T27_0 (v1 v2 v6 v33 v34 v35 : V) : Tr := (stt (.x3 (.x2 .e)) (stt (.x2 (.x2 .e)) (stt (.x1 (.x2 .e)) (stt (.x6 (.x0 .e)) (stt (.x2 (.x0 .e)) (stt (.x1 (.x0 .e)) .root v1) v2) v6) v33) v34) v35)
noncomputable def T27_2 (v6 v12 v68 v69 v70 : V) : Tr := (stt (.x6 (.x4 .e)) (stt (.x5 (.x4 .e)) (stt (.x4 (.x4 .e)) (stt (.xc (.x0 .e)) (stt (.x6 (.x0 .e)) .root v6) v12) v68) v69) v70)
noncomputable def T28_1 (v1 v2 v5 v6 : V) : Tr := (stt (.x6 (.x0 .e)) (stt (.x5 (.x0 .e)) (stt (.x2 (.x0 .e)) (stt (.x1 (.x0 .e)) .root v1) v2) v5) v6)
noncomputable def T28_0 (v1 v2 v5 : V) : Tr := (stt (.x5 (.x0 .e)) (stt (.x2 (.x0 .e)) (stt (.x1 (.x0 .e)) .root v1) v2) v5)
noncomputable def T28_2 (v2 v7 v8 v9 : V) : Tr := (stt (.x9 (.x0 .e)) (stt (.x8 (.x0 .e)) (stt (.x7 (.x0 .e)) (stt (.x2 (.x0 .e)) .root v2) v7) v8) v9)
noncomputable def T30_0 (v3 v11 v12 : V) : Tr := (stt (.xc (.x0 .e)) (stt (.xb (.x0 .e)) (stt (.x3 (.x0 .e)) .root v3) v11) v12)
noncomputable def T33_0 (v0 v1 v5 v6 : V) : Tr := (stt (.x6 (.x0 .e)) (stt (.x5 (.x0 .e)) (stt (.x1 (.x0 .e)) (stt (.x0 (.x0 .e)) .root v0) v1) v5) v6)
noncomputable def T38_0 (v1 v2 v5 : V) : Tr := (stt (.x5 (.x0 .e)) (stt (.x2 (.x0 .e)) (stt (.x1 (.x0 .e)) .root v1) v2) v5)
noncomputable def T39_1 (v0 v3 v4 v5 v6 v7 v8 : V) : Tr := (stt (.x8 (.x0 .e)) (stt (.x7 (.x0 .e)) (stt (.x6 (.x0 .e)) (stt (.x5 (.x0 .e)) (stt (.x4 (.x0 .e)) (stt (.x3 (.x0 .e)) (stt (.x0 (.x0 .e)) .root v0) v3) v4) v5) v6) v7) v8)
noncomputable def T39_0 (v0 v3 v4 v5 v6 v7 : V) : Tr := (stt (.x7 (.x0 .e)) (stt (.x6 (.x0 .e)) (stt (.x5 (.x0 .e)) (stt (.x4 (.x0 .e)) (stt (.x3 (.x0 .e)) (stt (.x0 (.x0 .e)) .root v0) v3) v4) v5) v6) v7)
noncomputable def T40_1 (v0 v3 v4 v5 v6 : V) : Tr := (stt (.x6 (.x0 .e)) (stt (.x5 (.x0 .e)) (stt (.x4 (.x0 .e)) (stt (.x3 (.x0 .e)) (stt (.x0 (.x0 .e)) .root v0) v3) v4) v5) v6)
noncomputable def T40_0 (v0 v3 v4 : V) : Tr := (stt (.x4 (.x0 .e)) (stt (.x3 (.x0 .e)) (stt (.x0 (.x0 .e)) .root v0) v3) v4)
noncomputable def T41_0 (v0 v3 v4 : V) : Tr := (stt (.x4 (.x0 .e)) (stt (.x3 (.x0 .e)) (stt (.x0 (.x0 .e)) .root v0) v3) v4)
noncomputable def T44_1 (v1 v5 v6 v7 v8 v9 v10 v45 v46 v47 : V) : Tr := (stt (.xf (.x2 .e)) (stt (.xe (.x2 .e)) (stt (.xd (.x2 .e)) (stt (.xa (.x0 .e)) (stt (.x9 (.x0 .e)) (stt (.x8 (.x0 .e)) (stt (.x7 (.x0 .e)) (stt (.x6 (.x0 .e)) (stt (.x5 (.x0 .e)) (stt (.x1 (.x0 .e)) .root v1) v5) v6) v7) v8) v9) v10) v45) v46) v47)
noncomputable def T44_0 (v1 v5 v6 v7 : V) : Tr := (stt (.x7 (.x0 .e)) (stt (.x6 (.x0 .e)) (stt (.x5 (.x0 .e)) (stt (.x1 (.x0 .e)) .root v1) v5) v6) v7)
noncomputable def T45_1 (v0 v1 v5 v6 : V) : Tr := (stt (.x6 (.x0 .e)) (stt (.x5 (.x0 .e)) (stt (.x1 (.x0 .e)) (stt (.x0 (.x0 .e)) .root v0) v1) v5) v6)
noncomputable def T45_0 (v0 v1 v5 : V) : Tr := (stt (.x5 (.x0 .e)) (stt (.x1 (.x0 .e)) (stt (.x0 (.x0 .e)) .root v0) v1) v5)
noncomputable def T46_0 (v1 v2 v5 : V) : Tr := (stt (.x5 (.x0 .e)) (stt (.x2 (.x0 .e)) (stt (.x1 (.x0 .e)) .root v1) v2) v5)
noncomputable def T46_1 (v1 v2 v6 : V) : Tr := (stt (.x6 (.x0 .e)) (stt (.x2 (.x0 .e)) (stt (.x1 (.x0 .e)) .root v1) v2) v6)
noncomputable def T46_2 (v1 v2 v7 v8 : V) : Tr := (stt (.x8 (.x0 .e)) (stt (.x7 (.x0 .e)) (stt (.x2 (.x0 .e)) (stt (.x1 (.x0 .e)) .root v1) v2) v7) v8)
noncomputable def T46_5 (v1 v2 v9 v10 v11 v12 : V) : Tr := (stt (.xc (.x0 .e)) (stt (.xb (.x0 .e)) (stt (.xa (.x0 .e)) (stt (.x9 (.x0 .e)) (stt (.x2 (.x0 .e)) (stt (.x1 (.x0 .e)) .root v1) v2) v9) v10) v11) v12)
noncomputable def T46_4 (v1 v2 v9 v10 : V) : Tr := (stt (.xa (.x0 .e)) (stt (.x9 (.x0 .e)) (stt (.x2 (.x0 .e)) (stt (.x1 (.x0 .e)) .root v1) v2) v9) v10)
noncomputable def T46_3 (v1 v2 v9 : V) : Tr := (stt (.x9 (.x0 .e)) (stt (.x2 (.x0 .e)) (stt (.x1 (.x0 .e)) .root v1) v2) v9)
noncomputable def T48_0 (v0 v1 v5 : V) : Tr := (stt (.x5 (.x0 .e)) (stt (.x1 (.x0 .e)) (stt (.x0 (.x0 .e)) .root v0) v1) v5)
noncomputable def T53_1 (v3 v5 v12 v13 v14 v28 v29 v30 : V) : Tr := (stt (.xe (.x1 .e)) (stt (.xd (.x1 .e)) (stt (.xc (.x1 .e)) (stt (.xe (.x0 .e)) (stt (.xd (.x0 .e)) (stt (.xc (.x0 .e)) (stt (.x5 (.x0 .e)) (stt (.x3 (.x0 .e)) .root v3) v5) v12) v13) v14) v28) v29) v30)
noncomputable def T53_0 (v3 v5 v12 v13 v14 : V) : Tr := (stt (.xe (.x0 .e)) (stt (.xd (.x0 .e)) (stt (.xc (.x0 .e)) (stt (.x5 (.x0 .e)) (stt (.x3 (.x0 .e)) .root v3) v5) v12) v13) v14)
noncomputable def T56_0 (v0 v1 v7 v8 : V) : Tr := (stt (.x8 (.x0 .e)) (stt (.x7 (.x0 .e)) (stt (.x1 (.x0 .e)) (stt (.x0 (.x0 .e)) .root v0) v1) v7) v8)
noncomputable def T57_0 (v0 v3 v5 v6 : V) : Tr := (stt (.x6 (.x0 .e)) (stt (.x5 (.x0 .e)) (stt (.x3 (.x0 .e)) (stt (.x0 (.x0 .e)) .root v0) v3) v5) v6)
noncomputable def T57_2 (v3 v5 v7 v8 v9 v10 : V) : Tr := (stt (.xa (.x0 .e)) (stt (.x9 (.x0 .e)) (stt (.x8 (.x0 .e)) (stt (.x7 (.x0 .e)) (stt (.x5 (.x0 .e)) (stt (.x3 (.x0 .e)) .root v3) v5) v7) v8) v9) v10)
noncomputable def T57_1 (v3 v5 v7 v8 : V) : Tr := (stt (.x8 (.x0 .e)) (stt (.x7 (.x0 .e)) (stt (.x5 (.x0 .e)) (stt (.x3 (.x0 .e)) .root v3) v5) v7) v8)
noncomputable def T63_1 (v3 v4 v5 v6 v7 v8 v32 v33 v34 v39 v40 v41 : V) : Tr := (stt (.x9 (.x2 .e)) (stt (.x8 (.x2 .e)) (stt (.x7 (.x2 .e)) (stt (.x2 (.x2 .e)) (stt (.x1 (.x2 .e)) (stt (.x0 (.x2 .e)) (stt (.x8 (.x0 .e)) (stt (.x7 (.x0 .e)) (stt (.x6 (.x0 .e)) (stt (.x5 (.x0 .e)) (stt (.x4 (.x0 .e)) (stt (.x3 (.x0 .e)) .root v3) v4) v5) v6) v7) v8) v32) v33) v34) v39) v40) v41)
noncomputable def T63_0 (v3 v4 v5 v6 v7 v32 v33 v34 : V) : Tr := (stt (.x2 (.x2 .e)) (stt (.x1 (.x2 .e)) (stt (.x0 (.x2 .e)) (stt (.x7 (.x0 .e)) (stt (.x6 (.x0 .e)) (stt (.x5 (.x0 .e)) (stt (.x4 (.x0 .e)) (stt (.x3 (.x0 .e)) .root v3) v4) v5) v6) v7) v32) v33) v34)
noncomputable def T63_2 (v3 v4 v5 v6 v7 v12 v13 v81 v82 : V) : Tr := (stt (.x2 (.x5 .e)) (stt (.x1 (.x5 .e)) (stt (.xd (.x0 .e)) (stt (.xc (.x0 .e)) (stt (.x7 (.x0 .e)) (stt (.x6 (.x0 .e)) (stt (.x5 (.x0 .e)) (stt (.x4 (.x0 .e)) (stt (.x3 (.x0 .e)) .root v3) v4) v5) v6) v7) v12) v13) v81) v82)
noncomputable def T63_3 (v3 v4 v6 v7 v12 v13 v102 v103 : V) : Tr := (stt (.x7 (.x6 .e)) (stt (.x6 (.x6 .e)) (stt (.xd (.x0 .e)) (stt (.xc (.x0 .e)) (stt (.x7 (.x0 .e)) (stt (.x6 (.x0 .e)) (stt (.x4 (.x0 .e)) (stt (.x3 (.x0 .e)) .root v3) v4) v6) v7) v12) v13) v102) v103)
noncomputable def T66_0 (v3 v7 v9 v46 v47 v48 : V) : Tr := (stt (.x0 (.x3 .e)) (stt (.xf (.x2 .e)) (stt (.xe (.x2 .e)) (stt (.x9 (.x0 .e)) (stt (.x7 (.x0 .e)) (stt (.x3 (.x0 .e)) .root v3) v7) v9) v46) v47) v48)
noncomputable def T67_1 (v0 v2 v3 v9 v10 v11 : V) : Tr := (stt (.xb (.x0 .e)) (stt (.xa (.x0 .e)) (stt (.x9 (.x0 .e)) (stt (.x3 (.x0 .e)) (stt (.x2 (.x0 .e)) (stt (.x0 (.x0 .e)) .root v0) v2) v3) v9) v10) v11)
noncomputable def T67_0 (v0 : V) : Tr := (stt (.x0 (.x0 .e)) .root v0)
noncomputable def T68_1 (v0 v3 v4 v5 v6 v21 v22 v25 v26 : V) : Tr := (stt (.xa (.x1 .e)) (stt (.x9 (.x1 .e)) (stt (.x6 (.x1 .e)) (stt (.x5 (.x1 .e)) (stt (.x6 (.x0 .e)) (stt (.x5 (.x0 .e)) (stt (.x4 (.x0 .e)) (stt (.x3 (.x0 .e)) (stt (.x0 (.x0 .e)) .root v0) v3) v4) v5) v6) v21) v22) v25) v26)
noncomputable def T68_0 (v0 v3 v4 v21 v22 : V) : Tr := (stt (.x6 (.x1 .e)) (stt (.x5 (.x1 .e)) (stt (.x4 (.x0 .e)) (stt (.x3 (.x0 .e)) (stt (.x0 (.x0 .e)) .root v0) v3) v4) v21) v22)
noncomputable def T69_0 (v3 v7 v8 v9 : V) : Tr := (stt (.x9 (.x0 .e)) (stt (.x8 (.x0 .e)) (stt (.x7 (.x0 .e)) (stt (.x3 (.x0 .e)) .root v3) v7) v8) v9)
noncomputable def T70_1 (v0 v3 v4 v9 v10 v11 v16 v17 v18 : V) : Tr := (stt (.x2 (.x1 .e)) (stt (.x1 (.x1 .e)) (stt (.x0 (.x1 .e)) (stt (.xb (.x0 .e)) (stt (.xa (.x0 .e)) (stt (.x9 (.x0 .e)) (stt (.x4 (.x0 .e)) (stt (.x3 (.x0 .e)) (stt (.x0 (.x0 .e)) .root v0) v3) v4) v9) v10) v11) v16) v17) v18)
noncomputable def T70_0 (v0 v3 v9 v10 v11 : V) : Tr := (stt (.xb (.x0 .e)) (stt (.xa (.x0 .e)) (stt (.x9 (.x0 .e)) (stt (.x3 (.x0 .e)) (stt (.x0 (.x0 .e)) .root v0) v3) v9) v10) v11)
noncomputable def T73_0 (v1 v4 v5 v12 v13 v14 : V) : Tr := (stt (.xe (.x0 .e)) (stt (.xd (.x0 .e)) (stt (.xc (.x0 .e)) (stt (.x5 (.x0 .e)) (stt (.x4 (.x0 .e)) (stt (.x1 (.x0 .e)) .root v1) v4) v5) v12) v13) v14)
noncomputable def T75_0 (v0 v1 v7 v8 : V) : Tr := (stt (.x8 (.x0 .e)) (stt (.x7 (.x0 .e)) (stt (.x1 (.x0 .e)) (stt (.x0 (.x0 .e)) .root v0) v1) v7) v8)
noncomputable def T76_1 (v0 v3 v4 v5 : V) : Tr := (stt (.x5 (.x0 .e)) (stt (.x4 (.x0 .e)) (stt (.x3 (.x0 .e)) (stt (.x0 (.x0 .e)) .root v0) v3) v4) v5)
noncomputable def T76_0 (v0 v3 : V) : Tr := (stt (.x3 (.x0 .e)) (stt (.x0 (.x0 .e)) .root v0) v3)
noncomputable def T77_0 (v0 v1 v2 v3 v8 v9 : V) : Tr := (stt (.x9 (.x0 .e)) (stt (.x8 (.x0 .e)) (stt (.x3 (.x0 .e)) (stt (.x2 (.x0 .e)) (stt (.x1 (.x0 .e)) (stt (.x0 (.x0 .e)) .root v0) v1) v2) v3) v8) v9)
noncomputable def T79_0 (v0 v1 v7 v8 : V) : Tr := (stt (.x8 (.x0 .e)) (stt (.x7 (.x0 .e)) (stt (.x1 (.x0 .e)) (stt (.x0 (.x0 .e)) .root v0) v1) v7) v8)
noncomputable def T80_0 (v1 v2 v4 v5 v6 v7 v8 : V) : Tr := (stt (.x8 (.x0 .e)) (stt (.x7 (.x0 .e)) (stt (.x6 (.x0 .e)) (stt (.x5 (.x0 .e)) (stt (.x4 (.x0 .e)) (stt (.x2 (.x0 .e)) (stt (.x1 (.x0 .e)) .root v1) v2) v4) v5) v6) v7) v8)
noncomputable def T80_2 (v5 v7 v11 v12 : V) : Tr := (stt (.xc (.x0 .e)) (stt (.xb (.x0 .e)) (stt (.x7 (.x0 .e)) (stt (.x5 (.x0 .e)) .root v5) v7) v11) v12)
noncomputable def T82_0 (v1 v4 v5 v12 v13 v14 : V) : Tr := (stt (.xe (.x0 .e)) (stt (.xd (.x0 .e)) (stt (.xc (.x0 .e)) (stt (.x5 (.x0 .e)) (stt (.x4 (.x0 .e)) (stt (.x1 (.x0 .e)) .root v1) v4) v5) v12) v13) v14)
noncomputable def T85_1 (v0 v1 v2 v6 v7 : V) : Tr := (stt (.x7 (.x0 .e)) (stt (.x6 (.x0 .e)) (stt (.x2 (.x0 .e)) (stt (.x1 (.x0 .e)) (stt (.x0 (.x0 .e)) .root v0) v1) v2) v6) v7)
noncomputable def T85_0 (v0 v1 v2 v6 : V) : Tr := (stt (.x6 (.x0 .e)) (stt (.x2 (.x0 .e)) (stt (.x1 (.x0 .e)) (stt (.x0 (.x0 .e)) .root v0) v1) v2) v6)
noncomputable def T86_0 (v0 v6 v7 v8 v9 : V) : Tr := (stt (.x9 (.x0 .e)) (stt (.x8 (.x0 .e)) (stt (.x7 (.x0 .e)) (stt (.x6 (.x0 .e)) (stt (.x0 (.x0 .e)) .root v0) v6) v7) v8) v9)
noncomputable def T86_1 (v0 v6 v7 v10 : V) : Tr := (stt (.xa (.x0 .e)) (stt (.x7 (.x0 .e)) (stt (.x6 (.x0 .e)) (stt (.x0 (.x0 .e)) .root v0) v6) v7) v10)
noncomputable def T87_0 (v0 v1 v6 v7 v8 v9 : V) : Tr := (stt (.x9 (.x0 .e)) (stt (.x8 (.x0 .e)) (stt (.x7 (.x0 .e)) (stt (.x6 (.x0 .e)) (stt (.x1 (.x0 .e)) (stt (.x0 (.x0 .e)) .root v0) v1) v6) v7) v8) v9)
noncomputable def T89_0 (v0 v6 v7 : V) : Tr := (stt (.x7 (.x0 .e)) (stt (.x6 (.x0 .e)) (stt (.x0 (.x0 .e)) .root v0) v6) v7)
noncomputable def T90_1 (v0 v1 v2 v7 v8 : V) : Tr := (stt (.x8 (.x0 .e)) (stt (.x7 (.x0 .e)) (stt (.x2 (.x0 .e)) (stt (.x1 (.x0 .e)) (stt (.x0 (.x0 .e)) .root v0) v1) v2) v7) v8)
noncomputable def T90_2 (v0 v1 v2 v7 v8 v9 : V) : Tr := (stt (.x9 (.x0 .e)) (stt (.x8 (.x0 .e)) (stt (.x7 (.x0 .e)) (stt (.x2 (.x0 .e)) (stt (.x1 (.x0 .e)) (stt (.x0 (.x0 .e)) .root v0) v1) v2) v7) v8) v9)
noncomputable def T90_3 (v0 v1 v2 v7 v8 v10 : V) : Tr := (stt (.xa (.x0 .e)) (stt (.x8 (.x0 .e)) (stt (.x7 (.x0 .e)) (stt (.x2 (.x0 .e)) (stt (.x1 (.x0 .e)) (stt (.x0 (.x0 .e)) .root v0) v1) v2) v7) v8) v10)
noncomputable def T90_0 (v0 v1 v2 v7 v8 : V) : Tr := (stt (.x8 (.x0 .e)) (stt (.x7 (.x0 .e)) (stt (.x2 (.x0 .e)) (stt (.x1 (.x0 .e)) (stt (.x0 (.x0 .e)) .root v0) v1) v2) v7) v8)
noncomputable def T92_1 (v0 v1 v9 v10 : V) : Tr := (stt (.xa (.x0 .e)) (stt (.x9 (.x0 .e)) (stt (.x1 (.x0 .e)) (stt (.x0 (.x0 .e)) .root v0) v1) v9) v10)
noncomputable def T92_2 (v0 v1 v9 v10 : V) : Tr := (stt (.xa (.x0 .e)) (stt (.x9 (.x0 .e)) (stt (.x1 (.x0 .e)) (stt (.x0 (.x0 .e)) .root v0) v1) v9) v10)
noncomputable def T92_0 (v0 v1 v9 v10 : V) : Tr := (stt (.xa (.x0 .e)) (stt (.x9 (.x0 .e)) (stt (.x1 (.x0 .e)) (stt (.x0 (.x0 .e)) .root v0) v1) v9) v10)
noncomputable def T93_0 (v0 v1 v10 v11 : V) : Tr := (stt (.xb (.x0 .e)) (stt (.xa (.x0 .e)) (stt (.x1 (.x0 .e)) (stt (.x0 (.x0 .e)) .root v0) v1) v10) v11)
noncomputable def T93_1 (v0 v1 v10 v11 : V) : Tr := (stt (.xb (.x0 .e)) (stt (.xa (.x0 .e)) (stt (.x1 (.x0 .e)) (stt (.x0 (.x0 .e)) .root v0) v1) v10) v11)
noncomputable def T93_3 (v0 v1 v10 v11 : V) : Tr := (stt (.xb (.x0 .e)) (stt (.xa (.x0 .e)) (stt (.x1 (.x0 .e)) (stt (.x0 (.x0 .e)) .root v0) v1) v10) v11)
noncomputable def T93_4 (v0 v1 v10 v11 : V) : Tr := (stt (.xb (.x0 .e)) (stt (.xa (.x0 .e)) (stt (.x1 (.x0 .e)) (stt (.x0 (.x0 .e)) .root v0) v1) v10) v11)
noncomputable def T93_2 (v0 v1 v10 v11 : V) : Tr := (stt (.xb (.x0 .e)) (stt (.xa (.x0 .e)) (stt (.x1 (.x0 .e)) (stt (.x0 (.x0 .e)) .root v0) v1) v10) v11)
noncomputable def T97_0 (v0 v2 v3 v8 : V) : Tr := (stt (.x8 (.x0 .e)) (stt (.x3 (.x0 .e)) (stt (.x2 (.x0 .e)) (stt (.x0 (.x0 .e)) .root v0) v2) v3) v8)
noncomputable def T103_0 (v0 v2 v3 v4 v12 v13 v14 : V) : Tr := (stt (.xe (.x0 .e)) (stt (.xd (.x0 .e)) (stt (.xc (.x0 .e)) (stt (.x4 (.x0 .e)) (stt (.x3 (.x0 .e)) (stt (.x2 (.x0 .e)) (stt (.x0 (.x0 .e)) .root v0) v2) v3) v4) v12) v13) v14)

end Go.Proofs.Ytnmkbnejapdnnaa.Ev
