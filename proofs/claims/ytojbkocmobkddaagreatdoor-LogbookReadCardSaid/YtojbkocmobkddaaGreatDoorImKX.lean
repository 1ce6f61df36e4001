/- The ideal machine: the set-up of the proofs for this program: its listed variables, its comparisons, the library's functions that are taken by their contracts. -/
import Derived.Test.YtojbkocmobkddaaGreatDoorImKM
import Derived.Test.YtojbkocmobkddaaGreatDoorImSH
import Derived.Test.YtojbkocmobkddaaGreatDoorImS20
import Derived.Test.YtojbkocmobkddaaGreatDoorImS21
import Derived.KernelRfl
set_option linter.all false
set_option maxRecDepth 100000
namespace Go.Im
open Go.Proofs
noncomputable def XX : Cx := ⟨Tryz.prog, [0], [33, 44], [], [(1, G8), (2, EN), (3, EN), (4, Jo)]⟩
theorem eq33 : Ji Tryz.prog 33 := Ji.array (i := (Tryz.prog.info? 3).get (by kernel_rfl)) Tryz.underlying33 (by kernel_rfl) (by kernel_rfl) (by kernel_rfl) (by kernel_rfl) (by kernel_rfl) (by kernel_rfl)
theorem eq44 : Ji Tryz.prog 44 := Ji.struct (by kernel_rfl) (by kernel_rfl) (by kernel_rfl) (by kernel_rfl) (by kernel_rfl)
theorem good : Good XX AL where
 ta := fun t ht => by
  rcases List.mem_cons.1 ht with rfl | ht
  · exact eq33
  · obtain rfl := List.mem_singleton.1 ht
    exact eq44
 mt := gV
 mixed := mixed
theorem at1 : Jm XX 1 G8 := ⟨(1, G8), by simp [XX], rfl, fun _ h => h⟩
theorem at2 : Jm XX 2 EN := ⟨(2, EN), by simp [XX], rfl, fun _ h => h⟩
theorem at3 : Jm XX 3 EN := ⟨(3, EN), by simp [XX], rfl, fun _ h => h⟩
theorem at4 : Jm XX 4 Jo := ⟨(4, Jo), by simp [XX], rfl, fun _ h => h⟩
theorem Rk : FN XX 45 .itoa := VZ (X := XX) Tryz.laysM171 ⟨Tryz.f45, _, Tryz.func45, rfl, by decide⟩ (g := 1) (by kernel_rfl) at1
theorem Rn : FN XX 84 (.atoi 209) := Va (X := XX) Tryz.laysC172 ⟨Tryz.f84, _, Tryz.func84, rfl, by decide⟩ at2 at3
theorem Pg : FN XX 105 (.split 9) := U6 (X := XX) Tryz.lays146 (by kernel_rfl) ⟨Tryz.f105, _, Tryz.func105, rfl, by decide⟩ at4
theorem Ro : FN XX 67 .join := Vb (X := XX) Tryz.lays156 Tryz.Builder_Extra_156 ⟨Tryz.f67, _, Tryz.func67, rfl, by decide⟩
theorem ZG : FN XX 97 .idxb := VY (X := XX) Tryz.lays137 ⟨Tryz.f97, _, Tryz.func97, rfl, by decide⟩
def MJ {α : Type} (P : Nat → α → Prop) : Tr α → (Nat → Nat) → Prop
 | .e, _ => True
 | .n l v r, g => (match v with | none => True | some x => P (g 0) x) ∧ MJ P l (fun j => g (2 * j + 1)) ∧ MJ P r (fun j => g (2 * j + 2))
theorem MJ.get {α : Type} {P : Nat → α → Prop} : ∀ {t : Tr α} {g : Nat → Nat}, MJ P t g → ∀ (k : Nat) (x : α), t.get k = some x → P (g k) x
 | .e, g, _, k, x, h => by simp at h
 | .n l v r, g, ⟨h0, hl, hr⟩, k, x, h => by
  cases k with
  | zero =>
   rw [Tr.get_n0] at h
   subst h
   exact h0
  | succ p =>
   rw [Tr.get_nS] at h
   split at h
   · next e =>
     have := MJ.get hl (p / 2) x h
     rw [show 2 * (p / 2) + 1 = p + 1 by omega] at this
     exact this
   · next e =>
     have := MJ.get hr (p / 2) x h
     rw [show 2 * (p / 2) + 2 = p + 1 by omega] at this
     exact this
def TEOk (X : Cx) (f : Nat) : TE → Prop
 | .code Fi => ∃ fn c, X.P.funcs[f]? = some fn ∧ fn.body = some c ∧ (fn.name == "runtime.NumGoroutine") = false ∧ BD X.P X.G X.TA X.TK Fi fn = true
 | .Jc p => FN X f p
theorem MI.of {X : Cx} {t : Tr TE} (h : MJ (TEOk X) t id) : MI X t.get :=
 ⟨fun f Fi hf => h.get f _ hf, fun f p hf => h.get f _ hf⟩
end Go.Im
