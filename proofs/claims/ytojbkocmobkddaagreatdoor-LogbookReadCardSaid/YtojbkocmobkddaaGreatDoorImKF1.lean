/- The ideal machine: the code of the functions stands for that of the program: reckoned by the kernel. -/
import Derived.Test.YtojbkocmobkddaaGreatDoorImKX
set_option linter.all false
set_option maxRecDepth 100000
namespace Go.Im
open Go.Proofs
theorem ok9 : BD XX.P XX.G XX.TA XX.TK c9 Tryz.f9 = true := by kernel_rfl
theorem ok11 : BD XX.P XX.G XX.TA XX.TK c11 Tryz.f11 = true := by kernel_rfl
theorem ok31 : BD XX.P XX.G XX.TA XX.TK c31 Tryz.f31 = true := by kernel_rfl
theorem ok32 : BD XX.P XX.G XX.TA XX.TK c32 Tryz.f32 = true := by kernel_rfl
theorem ok33 : BD XX.P XX.G XX.TA XX.TK c33 Tryz.f33 = true := by kernel_rfl
theorem ok36 : BD XX.P XX.G XX.TA XX.TK c36 Tryz.f36 = true := by kernel_rfl
theorem ok41 : BD XX.P XX.G XX.TA XX.TK c41 Tryz.f41 = true := by kernel_rfl
theorem ok43 : BD XX.P XX.G XX.TA XX.TK c43 Tryz.f43 = true := by kernel_rfl
theorem ok44 : BD XX.P XX.G XX.TA XX.TK c44 Tryz.f44 = true := by kernel_rfl
theorem ok46 : BD XX.P XX.G XX.TA XX.TK c46 Tryz.f46 = true := by kernel_rfl
theorem ok47 : BD XX.P XX.G XX.TA XX.TK c47 Tryz.f47 = true := by kernel_rfl
theorem ok68 : BD XX.P XX.G XX.TA XX.TK c68 Tryz.f68 = true := by kernel_rfl
theorem ok72 : BD XX.P XX.G XX.TA XX.TK c72 Tryz.f72 = true := by kernel_rfl
theorem ok76 : BD XX.P XX.G XX.TA XX.TK c76 Tryz.f76 = true := by kernel_rfl
theorem ok77 : BD XX.P XX.G XX.TA XX.TK c77 Tryz.f77 = true := by kernel_rfl
theorem ok106 : BD XX.P XX.G XX.TA XX.TK c106 Tryz.f106 = true := by kernel_rfl
end Go.Im
