/- The ideal machine: the code of the functions stands for that of the program: reckoned by the kernel. -/
import Derived.Test.YtojbkocmobkddaaGreatDoorImKX
set_option maxRecDepth 100000
namespace Go.Im
open Go.Proofs
theorem ok8 : okFunc XX.P XX.G XX.TA XX.TK c8 Tryz.f8 = true := by kernel_rfl
theorem ok33 : okFunc XX.P XX.G XX.TA XX.TK c33 Tryz.f33 = true := by kernel_rfl
theorem ok41 : okFunc XX.P XX.G XX.TA XX.TK c41 Tryz.f41 = true := by kernel_rfl
theorem ok72 : okFunc XX.P XX.G XX.TA XX.TK c72 Tryz.f72 = true := by kernel_rfl
end Go.Im
