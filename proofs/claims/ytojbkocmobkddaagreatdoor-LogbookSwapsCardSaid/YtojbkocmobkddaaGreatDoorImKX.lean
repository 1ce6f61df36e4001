/- The ideal machine: the set-up of the proofs for this program: its listed variables, its comparisons, the library's functions that are taken by their contracts. -/
import Derived.Test.YtojbkocmobkddaaGreatDoorImKM
import Derived.Test.YtojbkocmobkddaaGreatDoorImSH
import Derived.Test.YtojbkocmobkddaaGreatDoorImS20
import Derived.Test.YtojbkocmobkddaaGreatDoorImS21
import Derived.KernelRfl
set_option linter.all false
set_option maxRecDepth 100000
namespace Go.Im
open Go.Proofs
noncomputable def XX : Cx := ⟨Tryz.prog, [0], [33, 44], [], [(1, FT), (2, E5), (3, E5), (4, JW)]⟩
theorem eq33 : JO Tryz.prog 33 := JO.array (i := (Tryz.prog.info? 3).get (by kernel_rfl)) Tryz.underlying33 (by kernel_rfl) (by kernel_rfl) (by kernel_rfl) (by kernel_rfl) (by kernel_rfl) (by kernel_rfl)
theorem eq44 : JO Tryz.prog 44 := JO.struct (by kernel_rfl) (by kernel_rfl) (by kernel_rfl) (by kernel_rfl) (by kernel_rfl)
theorem good : Good XX AB where
 ta := fun t ht => by
  rcases List.mem_cons.1 ht with rfl | ht
  · exact eq33
  · obtain rfl := List.mem_singleton.1 ht
    exact eq44
 mt := bJ
 mixed := mixed
theorem at1 : JV XX 1 FT := ⟨(1, FT), by simp [XX], rfl, fun _ h => h⟩
theorem at2 : JV XX 2 E5 := ⟨(2, E5), by simp [XX], rfl, fun _ h => h⟩
theorem at3 : JV XX 3 E5 := ⟨(3, E5), by simp [XX], rfl, fun _ h => h⟩
theorem at4 : JV XX 4 JW := ⟨(4, JW), by simp [XX], rfl, fun _ h => h⟩
theorem Qi : Es XX 45 .itoa := UQ (X := XX) Tryz.laysM171 ⟨Tryz.f45, _, Tryz.func45, rfl, by decide⟩ (g := 1) (by kernel_rfl) at1
theorem Qj : Es XX 84 (.atoi 209) := UR (X := XX) Tryz.laysC172 ⟨Tryz.f84, _, Tryz.func84, rfl, by decide⟩ at2 at3
theorem P8 : Es XX 105 (.split 9) := SK (X := XX) Tryz.lays146 (by kernel_rfl) ⟨Tryz.f105, _, Tryz.func105, rfl, by decide⟩ at4
theorem Qk : Es XX 67 .join := UU (X := XX) Tryz.lays156 Tryz.Builder_Extra_156 ⟨Tryz.f67, _, Tryz.func67, rfl, by decide⟩
theorem Y9 : Es XX 97 .idxb := UO (X := XX) Tryz.lays137 ⟨Tryz.f97, _, Tryz.func97, rfl, by decide⟩
def LQ {α : Type} (P : Nat → α → Prop) : Tr α → (Nat → Nat) → Prop
 | .e, _ => True
 | .n l v r, g => (match v with | none => True | some x => P (g 0) x) ∧ LQ P l (fun j => g (2 * j + 1)) ∧ LQ P r (fun j => g (2 * j + 2))
theorem LQ.get {α : Type} {P : Nat → α → Prop} : ∀ {t : Tr α} {g : Nat → Nat}, LQ P t g → ∀ (k : Nat) (x : α), t.get k = some x → P (g k) x
 | .e, g, _, k, x, h => by simp at h
 | .n l v r, g, ⟨h0, hl, hr⟩, k, x, h => by
  cases k with
  | zero =>
   rw [Tr.get_n0] at h
   subst h
   exact h0
  | succ p =>
   rw [Tr.get_nS] at h
   split at h
   · next e =>
     have := LQ.get hl (p / 2) x h
     rw [show 2 * (p / 2) + 1 = p + 1 by omega] at this
     exact this
   · next e =>
     have := LQ.get hr (p / 2) x h
     rw [show 2 * (p / 2) + 2 = p + 1 by omega] at this
     exact this
def TEOk (X : Cx) (f : Nat) : TE → Prop
 | .code Fi => ∃ fn c, X.P.funcs[f]? = some fn ∧ fn.body = some c ∧ (fn.name == "runtime.NumGoroutine") = false ∧ Am X.P X.G X.TA X.TK Fi fn = true
 | .JG p => Es X f p
theorem LP.of {X : Cx} {t : Tr TE} (h : LQ (TEOk X) t id) : LP X t.get :=
 ⟨fun f Fi hf => h.get f _ hf, fun f p hf => h.get f _ hf⟩
end Go.Im
