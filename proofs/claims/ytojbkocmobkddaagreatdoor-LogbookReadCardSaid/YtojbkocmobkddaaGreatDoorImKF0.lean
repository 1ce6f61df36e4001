/- The ideal machine: the code of the functions stands for that of the program: reckoned by the kernel. -/
import Derived.Test.YtojbkocmobkddaaGreatDoorImKX
set_option linter.all false
set_option maxRecDepth 100000
namespace Go.Im
open Go.Proofs
theorem ok13 : BD XX.P XX.G XX.TA XX.TK c13 Tryz.f13 = true := by kernel_rfl
theorem ok14 : BD XX.P XX.G XX.TA XX.TK c14 Tryz.f14 = true := by kernel_rfl
theorem ok16 : BD XX.P XX.G XX.TA XX.TK c16 Tryz.f16 = true := by kernel_rfl
theorem ok18 : BD XX.P XX.G XX.TA XX.TK c18 Tryz.f18 = true := by kernel_rfl
theorem ok20 : BD XX.P XX.G XX.TA XX.TK c20 Tryz.f20 = true := by kernel_rfl
theorem ok22 : BD XX.P XX.G XX.TA XX.TK c22 Tryz.f22 = true := by kernel_rfl
theorem ok24 : BD XX.P XX.G XX.TA XX.TK c24 Tryz.f24 = true := by kernel_rfl
theorem ok26 : BD XX.P XX.G XX.TA XX.TK c26 Tryz.f26 = true := by kernel_rfl
theorem ok28 : BD XX.P XX.G XX.TA XX.TK c28 Tryz.f28 = true := by kernel_rfl
theorem ok29 : BD XX.P XX.G XX.TA XX.TK c29 Tryz.f29 = true := by kernel_rfl
theorem ok30 : BD XX.P XX.G XX.TA XX.TK c30 Tryz.f30 = true := by kernel_rfl
theorem ok42 : BD XX.P XX.G XX.TA XX.TK c42 Tryz.f42 = true := by kernel_rfl
theorem ok51 : BD XX.P XX.G XX.TA XX.TK c51 Tryz.f51 = true := by kernel_rfl
theorem ok52 : BD XX.P XX.G XX.TA XX.TK c52 Tryz.f52 = true := by kernel_rfl
theorem ok53 : BD XX.P XX.G XX.TA XX.TK c53 Tryz.f53 = true := by kernel_rfl
theorem ok57 : BD XX.P XX.G XX.TA XX.TK c57 Tryz.f57 = true := by kernel_rfl
theorem ok60 : BD XX.P XX.G XX.TA XX.TK c60 Tryz.f60 = true := by kernel_rfl
theorem ok63 : BD XX.P XX.G XX.TA XX.TK c63 Tryz.f63 = true := by kernel_rfl
theorem ok64 : BD XX.P XX.G XX.TA XX.TK c64 Tryz.f64 = true := by kernel_rfl
theorem ok65 : BD XX.P XX.G XX.TA XX.TK c65 Tryz.f65 = true := by kernel_rfl
theorem ok66 : BD XX.P XX.G XX.TA XX.TK c66 Tryz.f66 = true := by kernel_rfl
theorem ok73 : BD XX.P XX.G XX.TA XX.TK c73 Tryz.f73 = true := by kernel_rfl
theorem ok74 : BD XX.P XX.G XX.TA XX.TK c74 Tryz.f74 = true := by kernel_rfl
theorem ok78 : BD XX.P XX.G XX.TA XX.TK c78 Tryz.f78 = true := by kernel_rfl
theorem ok79 : BD XX.P XX.G XX.TA XX.TK c79 Tryz.f79 = true := by kernel_rfl
theorem ok82 : BD XX.P XX.G XX.TA XX.TK c82 Tryz.f82 = true := by kernel_rfl
theorem ok83 : BD XX.P XX.G XX.TA XX.TK c83 Tryz.f83 = true := by kernel_rfl
theorem ok87 : BD XX.P XX.G XX.TA XX.TK c87 Tryz.f87 = true := by kernel_rfl
theorem ok88 : BD XX.P XX.G XX.TA XX.TK c88 Tryz.f88 = true := by kernel_rfl
theorem ok89 : BD XX.P XX.G XX.TA XX.TK c89 Tryz.f89 = true := by kernel_rfl
theorem ok90 : BD XX.P XX.G XX.TA XX.TK c90 Tryz.f90 = true := by kernel_rfl
theorem ok93 : BD XX.P XX.G XX.TA XX.TK c93 Tryz.f93 = true := by kernel_rfl
theorem ok94 : BD XX.P XX.G XX.TA XX.TK c94 Tryz.f94 = true := by kernel_rfl
theorem ok95 : BD XX.P XX.G XX.TA XX.TK c95 Tryz.f95 = true := by kernel_rfl
theorem ok96 : BD XX.P XX.G XX.TA XX.TK c96 Tryz.f96 = true := by kernel_rfl
theorem ok98 : BD XX.P XX.G XX.TA XX.TK c98 Tryz.f98 = true := by kernel_rfl
theorem ok99 : BD XX.P XX.G XX.TA XX.TK c99 Tryz.f99 = true := by kernel_rfl
theorem ok103 : BD XX.P XX.G XX.TA XX.TK WG Tryz.f103 = true := by kernel_rfl
theorem ok107 : BD XX.P XX.G XX.TA XX.TK c107 Tryz.f107 = true := by kernel_rfl
theorem ok108 : BD XX.P XX.G XX.TA XX.TK c108 Tryz.f108 = true := by kernel_rfl
theorem ok109 : BD XX.P XX.G XX.TA XX.TK c109 Tryz.f109 = true := by kernel_rfl
theorem ok110 : BD XX.P XX.G XX.TA XX.TK c110 Tryz.f110 = true := by kernel_rfl
theorem ok111 : BD XX.P XX.G XX.TA XX.TK c111 Tryz.f111 = true := by kernel_rfl
theorem ok115 : BD XX.P XX.G XX.TA XX.TK WH Tryz.f115 = true := by kernel_rfl
theorem ok116 : BD XX.P XX.G XX.TA XX.TK c116 Tryz.f116 = true := by kernel_rfl
theorem ok117 : BD XX.P XX.G XX.TA XX.TK c117 Tryz.f117 = true := by kernel_rfl
theorem ok118 : BD XX.P XX.G XX.TA XX.TK c118 Tryz.f118 = true := by kernel_rfl
theorem ok119 : BD XX.P XX.G XX.TA XX.TK c119 Tryz.f119 = true := by kernel_rfl
theorem ok120 : BD XX.P XX.G XX.TA XX.TK c120 Tryz.f120 = true := by kernel_rfl
theorem ok121 : BD XX.P XX.G XX.TA XX.TK c121 Tryz.f121 = true := by kernel_rfl
theorem ok122 : BD XX.P XX.G XX.TA XX.TK c122 Tryz.f122 = true := by kernel_rfl
theorem ok123 : BD XX.P XX.G XX.TA XX.TK OU Tryz.f123 = true := by kernel_rfl
theorem ok124 : BD XX.P XX.G XX.TA XX.TK c124 Tryz.f124 = true := by kernel_rfl
theorem ok133 : BD XX.P XX.G XX.TA XX.TK c133 Tryz.f133 = true := by kernel_rfl
theorem ok134 : BD XX.P XX.G XX.TA XX.TK c134 Tryz.f134 = true := by kernel_rfl
theorem ok135 : BD XX.P XX.G XX.TA XX.TK c135 Tryz.f135 = true := by kernel_rfl
theorem ok136 : BD XX.P XX.G XX.TA XX.TK OV Tryz.f136 = true := by kernel_rfl
theorem ok153 : BD XX.P XX.G XX.TA XX.TK OW Tryz.f153 = true := by kernel_rfl
theorem ok185 : BD XX.P XX.G XX.TA XX.TK c185 Tryz.f185 = true := by kernel_rfl
theorem ok186 : BD XX.P XX.G XX.TA XX.TK c186 Tryz.f186 = true := by kernel_rfl
theorem ok187 : BD XX.P XX.G XX.TA XX.TK c187 Tryz.f187 = true := by kernel_rfl
theorem ok188 : BD XX.P XX.G XX.TA XX.TK c188 Tryz.f188 = true := by kernel_rfl
theorem ok189 : BD XX.P XX.G XX.TA XX.TK c189 Tryz.f189 = true := by kernel_rfl
theorem ok191 : BD XX.P XX.G XX.TA XX.TK Td Tryz.f191 = true := by kernel_rfl
theorem ok192 : BD XX.P XX.G XX.TA XX.TK c192 Tryz.f192 = true := by kernel_rfl
theorem ok193 : BD XX.P XX.G XX.TA XX.TK c193 Tryz.f193 = true := by kernel_rfl
theorem ok194 : BD XX.P XX.G XX.TA XX.TK c194 Tryz.f194 = true := by kernel_rfl
theorem ok195 : BD XX.P XX.G XX.TA XX.TK WL Tryz.f195 = true := by kernel_rfl
theorem ok196 : BD XX.P XX.G XX.TA XX.TK c196 Tryz.f196 = true := by kernel_rfl
end Go.Im
