/- The ideal machine: the set-up of the proofs for this program: its listed variables, its comparisons, the library's functions that are taken by their contracts. -/
import Derived.Test.YtojbkocmobkddaaGreatDoorImKM
import Derived.Test.YtojbkocmobkddaaGreatDoorImSH
import Derived.Test.YtojbkocmobkddaaGreatDoorImS20
import Derived.Test.YtojbkocmobkddaaGreatDoorImS21
import Derived.KernelRfl
set_option linter.all false
set_option maxRecDepth 100000
namespace Go.Im
open Go.Proofs
noncomputable def XX : Cx := ⟨Tryz.prog, [0], [33, 44], [], [(1, G8), (2, Ea), (3, Ea), (4, JY)]⟩
theorem eq33 : JR Tryz.prog 33 := JR.array (i := (Tryz.prog.info? 3).get (by kernel_rfl)) Tryz.underlying33 (by kernel_rfl) (by kernel_rfl) (by kernel_rfl) (by kernel_rfl) (by kernel_rfl) (by kernel_rfl)
theorem eq44 : JR Tryz.prog 44 := JR.struct (by kernel_rfl) (by kernel_rfl) (by kernel_rfl) (by kernel_rfl) (by kernel_rfl)
theorem good : Good XX AB where
 ta := fun t ht => by
  rcases List.mem_cons.1 ht with rfl | ht
  · exact eq33
  · obtain rfl := List.mem_singleton.1 ht
    exact eq44
 mt := gV
 mixed := mixed
theorem at1 : JX XX 1 G8 := ⟨(1, G8), by simp [XX], rfl, fun _ h => h⟩
theorem at2 : JX XX 2 Ea := ⟨(2, Ea), by simp [XX], rfl, fun _ h => h⟩
theorem at3 : JX XX 3 Ea := ⟨(3, Ea), by simp [XX], rfl, fun _ h => h⟩
theorem at4 : JX XX 4 JY := ⟨(4, JY), by simp [XX], rfl, fun _ h => h⟩
theorem RG : FM XX 45 .itoa := VJ (X := XX) Tryz.laysM171 ⟨Tryz.f45, _, Tryz.func45, rfl, by decide⟩ (g := 1) (by kernel_rfl) at1
theorem RH : FM XX 84 (.atoi 209) := VK (X := XX) Tryz.laysC172 ⟨Tryz.f84, _, Tryz.func84, rfl, by decide⟩ at2 at3
theorem PN : FM XX 105 (.split 9) := Td (X := XX) Tryz.lays146 (by kernel_rfl) ⟨Tryz.f105, _, Tryz.func105, rfl, by decide⟩ at4
theorem Yx : FM XX 67 .join := VL (X := XX) Tryz.lays156 Tryz.Builder_Extra_156 ⟨Tryz.f67, _, Tryz.func67, rfl, by decide⟩
theorem Yy : FM XX 97 .idxb := VI (X := XX) Tryz.lays137 ⟨Tryz.f97, _, Tryz.func97, rfl, by decide⟩
def MG {α : Type} (P : Nat → α → Prop) : Tr α → (Nat → Nat) → Prop
 | .e, _ => True
 | .n l v r, g => (match v with | none => True | some x => P (g 0) x) ∧ MG P l (fun j => g (2 * j + 1)) ∧ MG P r (fun j => g (2 * j + 2))
theorem MG.get {α : Type} {P : Nat → α → Prop} : ∀ {t : Tr α} {g : Nat → Nat}, MG P t g → ∀ (k : Nat) (x : α), t.get k = some x → P (g k) x
 | .e, g, _, k, x, h => by simp at h
 | .n l v r, g, ⟨h0, hl, hr⟩, k, x, h => by
  cases k with
  | zero =>
   rw [Tr.get_n0] at h
   subst h
   exact h0
  | succ p =>
   rw [Tr.get_nS] at h
   split at h
   · next e =>
     have := MG.get hl (p / 2) x h
     rw [show 2 * (p / 2) + 1 = p + 1 by omega] at this
     exact this
   · next e =>
     have := MG.get hr (p / 2) x h
     rw [show 2 * (p / 2) + 2 = p + 1 by omega] at this
     exact this
def TEOk (X : Cx) (f : Nat) : TE → Prop
 | .code Fi => ∃ fn c, X.P.funcs[f]? = some fn ∧ fn.body = some c ∧ (fn.name == "runtime.NumGoroutine") = false ∧ BA X.P X.G X.TA X.TK Fi fn = true
 | .KE p => FM X f p
theorem MF.of {X : Cx} {t : Tr TE} (h : MG (TEOk X) t id) : MF X t.get :=
 ⟨fun f Fi hf => h.get f _ hf, fun f p hf => h.get f _ hf⟩
end Go.Im
