/- The ideal machine: the code of the functions stands for that of the program: reckoned by the kernel. -/
import Derived.Test.YtojbkocmobkddaaGreatDoorImKX
set_option linter.all false
set_option maxRecDepth 100000
namespace Go.Im
open Go.Proofs
theorem ok6 : Am XX.P XX.G XX.TA XX.TK c6 Tryz.f6 = true := by kernel_rfl
theorem ok9 : Am XX.P XX.G XX.TA XX.TK c9 Tryz.f9 = true := by kernel_rfl
theorem ok31 : Am XX.P XX.G XX.TA XX.TK c31 Tryz.f31 = true := by kernel_rfl
theorem ok32 : Am XX.P XX.G XX.TA XX.TK c32 Tryz.f32 = true := by kernel_rfl
theorem ok33 : Am XX.P XX.G XX.TA XX.TK c33 Tryz.f33 = true := by kernel_rfl
theorem ok36 : Am XX.P XX.G XX.TA XX.TK c36 Tryz.f36 = true := by kernel_rfl
theorem ok41 : Am XX.P XX.G XX.TA XX.TK c41 Tryz.f41 = true := by kernel_rfl
theorem ok43 : Am XX.P XX.G XX.TA XX.TK c43 Tryz.f43 = true := by kernel_rfl
theorem ok44 : Am XX.P XX.G XX.TA XX.TK c44 Tryz.f44 = true := by kernel_rfl
theorem ok68 : Am XX.P XX.G XX.TA XX.TK c68 Tryz.f68 = true := by kernel_rfl
theorem ok72 : Am XX.P XX.G XX.TA XX.TK c72 Tryz.f72 = true := by kernel_rfl
end Go.Im
