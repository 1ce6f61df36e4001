/- The ideal machine: words of the equations of code. -/
import Derived.Test.YtojbkocmobkddaaGreatDoorImA1
import Derived.KernelRfl
set_option linter.all false
namespace Go.Im
noncomputable section
def gdo (w : Option Bool) (x : R (Value × AA)) (s : AA) : R (Value × AA) :=
 match w with
 | some true => x
 | some false => .ok (Bl, s)
 | none => .bad 24
def CW (s : AA) (x : Option Value) (rd : Option Value) (v : Value) : Bool :=
 cond (Iz s x) (match rd with
  | some v' => veq v v'
  | none => false) false
def chkG (w : Option Bool) (x : Bool) : Bool :=
 match w with
 | some true => x
 | some false => true
 | none => false
end
theorem AV {T : MT} {self : Self} {N : Nat} {F : BL} {args : List Value} {s : AA} (h : Nat.beq args.length F.np = true) : EL T self N F args s = exec T self N F.body (Ar args (nat_lit 0) .e) s (AQ F) := by
 unfold EL; rw [h]; rfl
theorem ZI {T : MT} {self : Self} {N : Nat} {c c' : AB} {env : Env} {s : AA} {K : Kt (Value × AA)} (h : c = c') : exec T self N c env s K = exec T self N c' env s K := by rw [h]
theorem xJ {T : MT} {self : Self} {N : Nat} {c c' : AB} {env : Env} {s : AA} {K : Kt (Value × AA)} {r : R (Value × AA)} (h : c = c') (k : exec T self N c' env s K = r) : exec T self N c env s K = r := (ZI h).trans k
theorem ZJ {T : MT} {self : Self} {N : Nat} {c c' : AB} {ks : List Nat} {n : Nat} {env : Env} {s : AA} {K : Kt (Value × AA)} (h : c = c') :
 Aw (exec T self N c) ks (n + 1) env s K = exec T self N c' env s (AX (fun env' s' => Aw (exec T self N c) ks n (Env.keep env' ks) s' K) K) := by rw [← h]; rfl
theorem xL {T : MT} {self : Self} {N : Nat} {c c' : AB} {ks : List Nat} {n : Nat} {env : Env} {s : AA} {K : Kt (Value × AA)} {r : R (Value × AA)} (h : c = c') (k : exec T self N c' env s (AX (fun env' s' => Aw (exec T self N c) ks n (Env.keep env' ks) s' K) K) = r) : Aw (exec T self N c) ks (n + 1) env s K = r := (ZJ h).trans k
end Go.Im
