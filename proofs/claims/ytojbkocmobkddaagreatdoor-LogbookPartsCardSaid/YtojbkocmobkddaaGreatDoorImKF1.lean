/- The ideal machine: the code of the functions stands for that of the program: reckoned by the kernel. -/
import Derived.Test.YtojbkocmobkddaaGreatDoorImKX
set_option linter.all false
set_option maxRecDepth 100000
namespace Go.Im
open Go.Proofs
theorem ok3 : BA XX.P XX.G XX.TA XX.TK c3 Tryz.f3 = true := by kernel_rfl
theorem ok15 : BA XX.P XX.G XX.TA XX.TK c15 Tryz.f15 = true := by kernel_rfl
theorem ok17 : BA XX.P XX.G XX.TA XX.TK c17 Tryz.f17 = true := by kernel_rfl
theorem ok19 : BA XX.P XX.G XX.TA XX.TK c19 Tryz.f19 = true := by kernel_rfl
theorem ok21 : BA XX.P XX.G XX.TA XX.TK c21 Tryz.f21 = true := by kernel_rfl
theorem ok23 : BA XX.P XX.G XX.TA XX.TK c23 Tryz.f23 = true := by kernel_rfl
theorem ok25 : BA XX.P XX.G XX.TA XX.TK c25 Tryz.f25 = true := by kernel_rfl
theorem ok27 : BA XX.P XX.G XX.TA XX.TK c27 Tryz.f27 = true := by kernel_rfl
theorem ok54 : BA XX.P XX.G XX.TA XX.TK c54 Tryz.f54 = true := by kernel_rfl
theorem ok55 : BA XX.P XX.G XX.TA XX.TK c55 Tryz.f55 = true := by kernel_rfl
theorem ok56 : BA XX.P XX.G XX.TA XX.TK c56 Tryz.f56 = true := by kernel_rfl
theorem ok58 : BA XX.P XX.G XX.TA XX.TK c58 Tryz.f58 = true := by kernel_rfl
theorem ok59 : BA XX.P XX.G XX.TA XX.TK c59 Tryz.f59 = true := by kernel_rfl
theorem ok61 : BA XX.P XX.G XX.TA XX.TK c61 Tryz.f61 = true := by kernel_rfl
theorem ok62 : BA XX.P XX.G XX.TA XX.TK c62 Tryz.f62 = true := by kernel_rfl
theorem ok80 : BA XX.P XX.G XX.TA XX.TK c80 Tryz.f80 = true := by kernel_rfl
theorem ok85 : BA XX.P XX.G XX.TA XX.TK c85 Tryz.f85 = true := by kernel_rfl
theorem ok86 : BA XX.P XX.G XX.TA XX.TK c86 Tryz.f86 = true := by kernel_rfl
theorem ok91 : BA XX.P XX.G XX.TA XX.TK c91 Tryz.f91 = true := by kernel_rfl
theorem ok92 : BA XX.P XX.G XX.TA XX.TK c92 Tryz.f92 = true := by kernel_rfl
theorem ok114 : BA XX.P XX.G XX.TA XX.TK c114 Tryz.f114 = true := by kernel_rfl
end Go.Im
