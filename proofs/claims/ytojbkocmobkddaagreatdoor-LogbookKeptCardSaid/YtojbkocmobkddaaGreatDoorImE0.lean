/- The ideal machine: words of the equations of code. -/
import Derived.Test.YtojbkocmobkddaaGreatDoorImA1
import Derived.KernelRfl
set_option linter.all false
namespace Go.Im
noncomputable section
def gdo (w : Option Bool) (x : R (Value × AA)) (s : AA) : R (Value × AA) :=
 match w with
 | some true => x
 | some false => .ok (Bc, s)
 | none => .bad 24
def CJ (s : AA) (x : Option Value) (rd : Option Value) (v : Value) : Bool :=
 cond (IW s x) (match rd with
  | some v' => veq v v'
  | none => false) false
def chkG (w : Option Bool) (x : Bool) : Bool :=
 match w with
 | some true => x
 | some false => true
 | none => false
end
theorem AX {T : MT} {self : Self} {N : Nat} {F : BK} {args : List Value} {s : AA} (h : Nat.beq args.length F.np = true) : Dz T self N F args s = exec T self N F.body (Aq args (nat_lit 0) .e) s (AQ F) := by
 unfold Dz; rw [h]; rfl
theorem Xo {T : MT} {self : Self} {N : Nat} {c c' : AB} {env : Env} {s : AA} {K : Kt (Value × AA)} (h : c = c') : exec T self N c env s K = exec T self N c' env s K := by rw [h]
theorem xJ {T : MT} {self : Self} {N : Nat} {c c' : AB} {env : Env} {s : AA} {K : Kt (Value × AA)} {r : R (Value × AA)} (h : c = c') (k : exec T self N c' env s K = r) : exec T self N c env s K = r := (Xo h).trans k
theorem Xp {T : MT} {self : Self} {N : Nat} {c c' : AB} {ks : List Nat} {n : Nat} {env : Env} {s : AA} {K : Kt (Value × AA)} (h : c = c') :
 Am (exec T self N c) ks (n + 1) env s K = exec T self N c' env s (AU (fun env' s' => Am (exec T self N c) ks n (Env.keep env' ks) s' K) K) := by rw [← h]; rfl
theorem xL {T : MT} {self : Self} {N : Nat} {c c' : AB} {ks : List Nat} {n : Nat} {env : Env} {s : AA} {K : Kt (Value × AA)} {r : R (Value × AA)} (h : c = c') (k : exec T self N c' env s (AU (fun env' s' => Am (exec T self N c) ks n (Env.keep env' ks) s' K) K) = r) : Am (exec T self N c) ks (n + 1) env s K = r := (Xp h).trans k
end Go.Im
