/- The ideal machine: words of the equations of code. -/
import Derived.Test.YtojbkocmobkddaaGreatDoorImA1
import Derived.KernelRfl
set_option linter.all false
namespace Go.Im
noncomputable section
def gdo (w : Option Bool) (x : R (Value × A8)) (s : A8) : R (Value × A8) :=
 match w with
 | some true => x
 | some false => .ok (BX, s)
 | none => .bad 24
def Bz (s : A8) (x : Option Value) (rd : Option Value) (v : Value) : Bool :=
 cond (IU s x) (match rd with
  | some v' => veq v v'
  | none => false) false
def chkG (w : Option Bool) (x : Bool) : Bool :=
 match w with
 | some true => x
 | some false => true
 | none => false
end
theorem AV {T : MT} {self : Self} {N : Nat} {F : BH} {args : List Value} {s : A8} (h : Nat.beq args.length F.np = true) : EO T self N F args s = exec T self N F.body (Ap args (nat_lit 0) .e) s (AP F) := by
 unfold EO; rw [h]; rfl
theorem YB {T : MT} {self : Self} {N : Nat} {c c' : AA} {env : Env} {s : A8} {K : Kt (Value × A8)} (h : c = c') : exec T self N c env s K = exec T self N c' env s K := by rw [h]
theorem xJ {T : MT} {self : Self} {N : Nat} {c c' : AA} {env : Env} {s : A8} {K : Kt (Value × A8)} {r : R (Value × A8)} (h : c = c') (k : exec T self N c' env s K = r) : exec T self N c env s K = r := (YB h).trans k
theorem YC {T : MT} {self : Self} {N : Nat} {c c' : AA} {ks : List Nat} {n : Nat} {env : Env} {s : A8} {K : Kt (Value × A8)} (h : c = c') :
 Ai (exec T self N c) ks (n + 1) env s K = exec T self N c' env s (AQ (fun env' s' => Ai (exec T self N c) ks n (Env.keep env' ks) s' K) K) := by rw [← h]; rfl
theorem xL {T : MT} {self : Self} {N : Nat} {c c' : AA} {ks : List Nat} {n : Nat} {env : Env} {s : A8} {K : Kt (Value × A8)} {r : R (Value × A8)} (h : c = c') (k : exec T self N c' env s (AQ (fun env' s' => Ai (exec T self N c) ks n (Env.keep env' ks) s' K) K) = r) : Ai (exec T self N c) ks (n + 1) env s K = r := (YC h).trans k
end Go.Im
