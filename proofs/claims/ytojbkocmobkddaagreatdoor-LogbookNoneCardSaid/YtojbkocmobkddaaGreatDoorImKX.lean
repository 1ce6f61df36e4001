/- The ideal machine: the set-up of the proofs for this program: its listed variables, its comparisons, the library's functions that are taken by their contracts. -/
import Derived.Test.YtojbkocmobkddaaGreatDoorImKM
import Derived.Test.YtojbkocmobkddaaGreatDoorImSH
import Derived.Test.YtojbkocmobkddaaGreatDoorImS20
import Derived.Test.YtojbkocmobkddaaGreatDoorImS21
import Derived.KernelRfl
set_option maxRecDepth 100000
namespace Go.Im
open Go.Proofs

noncomputable def XX : Cx := ⟨Tryz.prog, [0], [33, 44], [], [(1, isPow10), (2, isErr1), (3, isErr1), (4, isInt1)]⟩
theorem eq33 : EqAgg Tryz.prog 33 := EqAgg.array (i := (Tryz.prog.info? 3).get (by kernel_rfl)) Tryz.underlying33 (by kernel_rfl) (by kernel_rfl) (by kernel_rfl) (by kernel_rfl) (by kernel_rfl) (by kernel_rfl)
theorem eq44 : EqAgg Tryz.prog 44 := EqAgg.struct (by kernel_rfl) (by kernel_rfl) (by kernel_rfl) (by kernel_rfl) (by kernel_rfl)
theorem good : Good XX meths where
  ta := fun t ht => by
    rcases List.mem_cons.1 ht with rfl | ht
    · exact eq33
    · obtain rfl := List.mem_singleton.1 ht
      exact eq44
  mt := meths_ok
  mixed := mixed
theorem at1 : FixAt XX 1 isPow10 := ⟨(1, isPow10), by simp [XX], rfl, fun _ h => h⟩
theorem at2 : FixAt XX 2 isErr1 := ⟨(2, isErr1), by simp [XX], rfl, fun _ h => h⟩
theorem at3 : FixAt XX 3 isErr1 := ⟨(3, isErr1), by simp [XX], rfl, fun _ h => h⟩
theorem at4 : FixAt XX 4 isInt1 := ⟨(4, isInt1), by simp [XX], rfl, fun _ h => h⟩
theorem prim_itoa : PrimOk XX 45 .itoa := primOk_itoa (X := XX) Tryz.laysM171 ⟨Tryz.f45, _, Tryz.func45, rfl, by decide⟩ (g := 1) (by kernel_rfl) at1
theorem prim_atoi : PrimOk XX 84 (.atoi 209) := primOk_atoi (X := XX) Tryz.laysC172 ⟨Tryz.f84, _, Tryz.func84, rfl, by decide⟩ at2 at3
theorem prim_split : PrimOk XX 105 (.split 9) := primOk_split (X := XX) Tryz.lays146 (by kernel_rfl) ⟨Tryz.f105, _, Tryz.func105, rfl, by decide⟩ at4
theorem prim_join : PrimOk XX 67 .join := primOk_join (X := XX) Tryz.lays156 Tryz.Builder_Extra_156 ⟨Tryz.f67, _, Tryz.func67, rfl, by decide⟩
theorem prim_idxb : PrimOk XX 97 .idxb := primOk_idxb (X := XX) Tryz.lays137 ⟨Tryz.f97, _, Tryz.func97, rfl, by decide⟩

/-- Of all entries of a table. -/
def TrAll {α : Type} (P : Nat → α → Prop) : Tr α → (Nat → Nat) → Prop
  | .e, _ => True
  | .n l v r, g => (match v with | none => True | some x => P (g 0) x) ∧ TrAll P l (fun j => g (2 * j + 1)) ∧ TrAll P r (fun j => g (2 * j + 2))
theorem TrAll.get {α : Type} {P : Nat → α → Prop} : ∀ {t : Tr α} {g : Nat → Nat}, TrAll P t g → ∀ (k : Nat) (x : α), t.get k = some x → P (g k) x
  | .e, g, _, k, x, h => by simp at h
  | .n l v r, g, ⟨h0, hl, hr⟩, k, x, h => by
    cases k with
    | zero =>
      rw [Tr.get_n0] at h
      subst h
      exact h0
    | succ p =>
      rw [Tr.get_nS] at h
      split at h
      · next e =>
        have := TrAll.get hl (p / 2) x h
        rw [show 2 * (p / 2) + 1 = p + 1 by omega] at this
        exact this
      · next e =>
        have := TrAll.get hr (p / 2) x h
        rw [show 2 * (p / 2) + 2 = p + 1 by omega] at this
        exact this
def TEOk (X : Cx) (f : Nat) : TE → Prop
  | .code Fi => ∃ fn c, X.P.funcs[f]? = some fn ∧ fn.body = some c ∧ (fn.name == "runtime.NumGoroutine") = false ∧ okFunc X.P X.G X.TA X.TK Fi fn = true
  | .prim p => PrimOk X f p
theorem TabOk.of {X : Cx} {t : Tr TE} (h : TrAll (TEOk X) t id) : TabOk X t.get :=
  ⟨fun f Fi hf => h.get f _ hf, fun f p hf => h.get f _ hf⟩
end Go.Im
