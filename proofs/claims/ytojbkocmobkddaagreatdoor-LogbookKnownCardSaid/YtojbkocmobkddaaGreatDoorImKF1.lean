/- The ideal machine: the code of the functions stands for that of the program: reckoned by the kernel. -/
import Derived.Test.YtojbkocmobkddaaGreatDoorImKX
set_option maxRecDepth 100000
namespace Go.Im
open Go.Proofs
theorem ok4 : okFunc XX.P XX.G XX.TA XX.TK c4 Tryz.f4 = true := by kernel_rfl
end Go.Im
