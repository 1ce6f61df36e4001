/- The ideal machine: how its equations are simplified: not under what follows. -/
import Derived.Test.YtojbkocmobkddaaGreatDoorImEL
set_option linter.all false
namespace Go.Im
section
variable {α β : Type}
@[congr] theorem bind_congr {x y : R α} {f : α → R β} (h : x = y) : R.bind x f = R.bind y f := by rw [h]
@[congr] theorem oZ {x y : R α} {f : α → R β} (h : x = y) : AL x f = AL y f := by rw [h]
@[congr] theorem obR_congr {n : Nat} {x y : Option α} {f : α → R β} (h : x = y) : obR n x f = obR n y f := by rw [h]
@[congr] theorem oh {x y : R α} {c d : Option Value} (h : c = d) : BI x y c = BI x y d := by rw [h]
@[congr] theorem oq {x y : R α} {c d : Bool} (h : c = d) : cond c x y = cond d x y := by rw [h]
end
end Go.Im
