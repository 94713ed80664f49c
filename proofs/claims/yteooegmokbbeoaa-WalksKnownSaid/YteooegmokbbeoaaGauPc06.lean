/- The code is the program's. -/
import Derived.Test.YteooegmokbbeoaaGauP06
import Derived.Test.YteooegmokbbeoaaGauMain
import Derived.Test.YteooegmokbbeoaaChecked
import Derived.KernelRfl
set_option maxRecDepth 100000
namespace Go.AM
open Go Go.Proofs
def fmL : List Nat := [0, 0, 9, 10, 11, 17, 18, 19, 12, 20, 21, 26, 27, 22, 25, 14, 28, 29, 33, 34, 35, 13, 36, 40, 39, 38, 37, 15, 31, 30, 16, 41, 42, 43, 44, 23, 45, 46, 47, 48, 49, 50, 32, 54, 55, 56, 57, 58, 60, 59, 63, 64, 67, 68, 51, 53, 52, 69, 70, 71, 73, 72, 74, 61, 75, 76, 65, 66, 86, 87, 89, 91, 92, 80, 93, 83, 90, 94, 3, 4, 24, 5, 6, 7, 8, 62, 77, 78, 79, 81, 82, 84, 85, 88]
def fmS : Nat → Nat := fun n => fmL.getD n 0
def okF (P : Program) (fm : Nat → Nat) (a : AFun) (g : Func) : Bool := g.ntmps == a.nt && g.name != "runtime.NumGoroutine" && Zfz P a.res g.results.toList && (match g.body with | some c => chkC P fm a.body c | none => false)
theorem ok2 : okF Try.prog fmS c2 Try.f9 = true := by kernel_rfl
theorem ok3 : okF Try.prog fmS c3 Try.f10 = true := by kernel_rfl
theorem ok4 : okF Try.prog fmS c4 Try.f11 = true := by kernel_rfl
theorem ok5 : okF Try.prog fmS c5 Try.f17 = true := by kernel_rfl
theorem ok6 : okF Try.prog fmS c6 Try.f18 = true := by kernel_rfl
theorem ok7 : okF Try.prog fmS c7 Try.f19 = true := by kernel_rfl
theorem ok8 : okF Try.prog fmS c8 Try.f12 = true := by kernel_rfl
theorem ok9 : okF Try.prog fmS c9 Try.f20 = true := by kernel_rfl
theorem ok10 : okF Try.prog fmS c10 Try.f21 = true := by kernel_rfl
theorem ok11 : okF Try.prog fmS c11 Try.f26 = true := by kernel_rfl
theorem ok12 : okF Try.prog fmS c12 Try.f27 = true := by kernel_rfl
theorem ok13 : okF Try.prog fmS c13 Try.f22 = true := by kernel_rfl
theorem ok14 : okF Try.prog fmS c14 Try.f25 = true := by kernel_rfl
theorem ok15 : okF Try.prog fmS c15 Try.f14 = true := by kernel_rfl
theorem ok16 : okF Try.prog fmS c16 Try.f28 = true := by kernel_rfl
theorem ok17 : okF Try.prog fmS c17 Try.f29 = true := by kernel_rfl
theorem ok18 : okF Try.prog fmS c18 Try.f33 = true := by kernel_rfl
theorem ok19 : okF Try.prog fmS c19 Try.f34 = true := by kernel_rfl
theorem ok20 : okF Try.prog fmS c20 Try.f35 = true := by kernel_rfl
theorem ok21 : okF Try.prog fmS c21 Try.f13 = true := by kernel_rfl
theorem ok22 : okF Try.prog fmS c22 Try.f36 = true := by kernel_rfl
theorem ok23 : okF Try.prog fmS c23 Try.f40 = true := by kernel_rfl
theorem ok24 : okF Try.prog fmS c24 Try.f39 = true := by kernel_rfl
theorem ok25 : okF Try.prog fmS c25 Try.f38 = true := by kernel_rfl
theorem ok26 : okF Try.prog fmS c26 Try.f37 = true := by kernel_rfl
theorem ok27 : okF Try.prog fmS c27 Try.f15 = true := by kernel_rfl
theorem ok28 : okF Try.prog fmS c28 Try.f31 = true := by kernel_rfl
theorem ok29 : okF Try.prog fmS c29 Try.f30 = true := by kernel_rfl
theorem ok30 : okF Try.prog fmS c30 Try.f16 = true := by kernel_rfl
theorem ok31 : okF Try.prog fmS c31 Try.f41 = true := by kernel_rfl
theorem ok32 : okF Try.prog fmS c32 Try.f42 = true := by kernel_rfl
theorem ok33 : okF Try.prog fmS c33 Try.f43 = true := by kernel_rfl
theorem ok34 : okF Try.prog fmS c34 Try.f44 = true := by kernel_rfl
theorem ok35 : okF Try.prog fmS c35 Try.f23 = true := by kernel_rfl
theorem ok36 : okF Try.prog fmS c36 Try.f45 = true := by kernel_rfl
theorem ok37 : okF Try.prog fmS c37 Try.f46 = true := by kernel_rfl
theorem ok38 : okF Try.prog fmS c38 Try.f47 = true := by kernel_rfl
theorem ok39 : okF Try.prog fmS c39 Try.f48 = true := by kernel_rfl
theorem ok40 : okF Try.prog fmS c40 Try.f49 = true := by kernel_rfl
theorem ok41 : okF Try.prog fmS c41 Try.f50 = true := by kernel_rfl
theorem ok42 : okF Try.prog fmS c42 Try.f32 = true := by kernel_rfl
theorem ok43 : okF Try.prog fmS c43 Try.f54 = true := by kernel_rfl
theorem ok44 : okF Try.prog fmS c44 Try.f55 = true := by kernel_rfl
theorem ok45 : okF Try.prog fmS c45 Try.f56 = true := by kernel_rfl
theorem ok46 : okF Try.prog fmS c46 Try.f57 = true := by kernel_rfl
theorem ok47 : okF Try.prog fmS c47 Try.f58 = true := by kernel_rfl
theorem ok48 : okF Try.prog fmS c48 Try.f60 = true := by kernel_rfl
theorem ok49 : okF Try.prog fmS c49 Try.f59 = true := by kernel_rfl
theorem ok50 : okF Try.prog fmS c50 Try.f63 = true := by kernel_rfl
theorem ok51 : okF Try.prog fmS c51 Try.f64 = true := by kernel_rfl
theorem ok52 : okF Try.prog fmS c52 Try.f67 = true := by kernel_rfl
theorem ok53 : okF Try.prog fmS c53 Try.f68 = true := by kernel_rfl
theorem ok54 : okF Try.prog fmS c54 Try.f51 = true := by kernel_rfl
theorem ok55 : okF Try.prog fmS c55 Try.f53 = true := by kernel_rfl
theorem ok56 : okF Try.prog fmS c56 Try.f52 = true := by kernel_rfl
theorem ok57 : okF Try.prog fmS c57 Try.f69 = true := by kernel_rfl
theorem ok58 : okF Try.prog fmS c58 Try.f70 = true := by kernel_rfl
theorem ok59 : okF Try.prog fmS c59 Try.f71 = true := by kernel_rfl
theorem ok60 : okF Try.prog fmS c60 Try.f73 = true := by kernel_rfl
theorem ok61 : okF Try.prog fmS c61 Try.f72 = true := by kernel_rfl
theorem ok62 : okF Try.prog fmS c62 Try.f74 = true := by kernel_rfl
theorem ok63 : okF Try.prog fmS c63 Try.f61 = true := by kernel_rfl
theorem ok64 : okF Try.prog fmS c64 Try.f75 = true := by kernel_rfl
theorem ok65 : okF Try.prog fmS c65 Try.f76 = true := by kernel_rfl
theorem ok66 : okF Try.prog fmS c66 Try.f65 = true := by kernel_rfl
theorem ok67 : okF Try.prog fmS c67 Try.f66 = true := by kernel_rfl
theorem ok68 : okF Try.prog fmS c68 Try.f86 = true := by kernel_rfl
theorem ok69 : okF Try.prog fmS c69 Try.f87 = true := by kernel_rfl
theorem ok74 : okF Try.prog fmS c74 Try.f93 = true := by kernel_rfl
theorem ok75 : okF Try.prog fmS c75 Try.f83 = true := by kernel_rfl
theorem ok78 : okF Try.prog fmS c78 Try.f3 = true := by kernel_rfl
theorem ok79 : okF Try.prog fmS c79 Try.f4 = true := by kernel_rfl
theorem ok80 : okF Try.prog fmS c80 Try.f24 = true := by kernel_rfl
theorem ok81 : okF Try.prog fmS c81 Try.f5 = true := by kernel_rfl
theorem ok82 : okF Try.prog fmS c82 Try.f6 = true := by kernel_rfl
theorem ok83 : okF Try.prog fmS c83 Try.f7 = true := by kernel_rfl
theorem ok84 : okF Try.prog fmS c84 Try.f8 = true := by kernel_rfl
theorem ok85 : okF Try.prog fmS c85 Try.f62 = true := by kernel_rfl
theorem ok86 : okF Try.prog fmS c86 Try.f77 = true := by kernel_rfl
end Go.AM
