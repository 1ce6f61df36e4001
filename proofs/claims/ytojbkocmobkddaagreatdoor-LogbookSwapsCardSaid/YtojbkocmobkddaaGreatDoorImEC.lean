/- The ideal machine: how its equations are simplified: not under what follows. -/
import Derived.Test.YtojbkocmobkddaaGreatDoorImEL
set_option linter.all false
namespace Go.Im
section
variable {α β : Type}
@[congr] theorem bind_congr {x y : R α} {f : α → R β} (h : x = y) : R.bind x f = R.bind y f := by rw [h]
@[congr] theorem kC {x y : R α} {f : α → R β} (h : x = y) : AL x f = AL y f := by rw [h]
@[congr] theorem obR_congr {n : Nat} {x y : Option α} {f : α → R β} (h : x = y) : obR n x f = obR n y f := by rw [h]
@[congr] theorem kS {x y : R α} {c d : Option Value} (h : c = d) : Bl x y c = Bl x y d := by rw [h]
@[congr] theorem kT {x y : R α} {c d : Bool} (h : c = d) : cond c x y = cond d x y := by rw [h]
theorem Du (a b : α) : cond true a b = a := (rfl)
theorem Dv (a b : α) : cond false a b = b := (rfl)
end
end Go.Im
