/- The ideal machine: how its equations are simplified: not under what follows. -/
import Derived.Test.YtojbkocmobkddaaGreatDoorImEL
set_option linter.all false
namespace Go.Im
section
variable {α β : Type}
@[congr] theorem bind_congr {x y : R α} {f : α → R β} (h : x = y) : R.bind x f = R.bind y f := by rw [h]
@[congr] theorem o7 {x y : R α} {f : α → R β} (h : x = y) : AO x f = AO y f := by rw [h]
@[congr] theorem obR_congr {n : Nat} {x y : Option α} {f : α → R β} (h : x = y) : obR n x f = obR n y f := by rw [h]
@[congr] theorem oZ {x y : R α} {c d : Option Value} (h : c = d) : Bf x y c = Bf x y d := by rw [h]
@[congr] theorem og {x y : R α} {c d : Bool} (h : c = d) : cond c x y = cond d x y := by rw [h]
theorem DV (a b : α) : cond true a b = a := (rfl)
theorem Dq (a b : α) : cond false a b = b := (rfl)
end
end Go.Im
