/- The ideal machine: the table of methods, and the mixed orders, of the program. -/
import Derived.Test.YtojbkocmobkddaaGreatDoorImA2
import Derived.Test.YtojbkocmobkddaaGreatDoorImS5
import Derived.KernelRfl
import Derived.Test.YtojbkocmobkddaaGreatDoorProg
set_option linter.all false
set_option maxRecDepth 100000
namespace Go.Im
open Go.Proofs
theorem mixed : Tryz.prog.follows .mixedOrders = true := by kernel_rfl
theorem VE : ∀ {T : MT} {t : Nat} {m : String} {f : Nat}, T.find t m = some f → (t, m, f) ∈ T
 | [], t, m, f, h => by simp [MT.find] at h
 | (u, n, g) :: l, t, m, f, h => by
  unfold MT.find at h
  cases hb : (Nat.beq u t && decide (n = m)) with
  | true =>
   rw [hb] at h
   simp only [Bool.and_eq_true, decide_eq_true_eq] at hb
   have h1 := Nat.eq_of_beq_eq_true hb.1
   have h2 := Option.some.inj h
   rw [← h1, ← hb.2, ← h2]
   exact List.mem_cons_self
  | false =>
   rw [hb] at h
   exact List.mem_cons_of_mem _ (VE h)
def MAll (P : Program) : MT → Prop
 | [] => True
 | (t, n, f) :: l => (∀ (a : Addr) (w : World), (method (P.types.size + Made.depth) t (.pointer (some a)) n).run P w = .ok (f, .pointer (some a)) w ∧ (nilAhead (P.types.size + Made.depth) t (.pointer (some a)) n).run P w = .ok (some false) w) ∧ MAll P l
theorem MAll.mem {P : Program} : ∀ {T : MT}, MAll P T → ∀ x ∈ T, ∀ (a : Addr) (w : World), (method (P.types.size + Made.depth) x.1 (.pointer (some a)) x.2.1).run P w = .ok (x.2.2, .pointer (some a)) w ∧ (nilAhead (P.types.size + Made.depth) x.1 (.pointer (some a)) x.2.1).run P w = .ok (some false) w
 | [], _, x, hx => by simp at hx
 | (t, n, f) :: l, h, x, hx => by
  rcases List.mem_cons.1 hx with rfl | hx
  · exact h.1
  · exact MAll.mem h.2 x hx
theorem VB.of {P : Program} {T : MT} (h : MAll P T) : VB P T := fun t n f hf a w => h.mem (t, n, f) (VE hf) a w
theorem gV : VB Tryz.prog AL := by
 refine VB.of ?_
 exact ⟨fun a w => ⟨by kernel_rfl, by kernel_rfl⟩, fun a w => ⟨by kernel_rfl, by kernel_rfl⟩, fun a w => ⟨by kernel_rfl, by kernel_rfl⟩, fun a w => ⟨by kernel_rfl, by kernel_rfl⟩, fun a w => ⟨by kernel_rfl, by kernel_rfl⟩, fun a w => ⟨by kernel_rfl, by kernel_rfl⟩, fun a w => ⟨by kernel_rfl, by kernel_rfl⟩, fun a w => ⟨by kernel_rfl, by kernel_rfl⟩, fun a w => ⟨by kernel_rfl, by kernel_rfl⟩, fun a w => ⟨by kernel_rfl, by kernel_rfl⟩, fun a w => ⟨by kernel_rfl, by kernel_rfl⟩, fun a w => ⟨by kernel_rfl, by kernel_rfl⟩, trivial⟩
end Go.Im
