/- A book that is invalid returns nothing: the run of LogbookNone on the ideal machine, for every line and all numbers. -/
import Derived.Test.YtojbkocmobkddaaGreatDoorImKT1
set_option maxRecDepth 100000
namespace Go.Im
open Go.Proofs
noncomputable section
/-- The code in which the operation that lays the slot d lays the bool b. -/
def patchO (d : Nat) (b : Bool) (o : IOper) : IOper := match o.dst with
  | some k => cond (Nat.beq k d) ⟨some k, .p (.mv (.const (.bool b))), o.guard⟩ o
  | none => o
def patchL (d : Nat) (b : Bool) : List IOper → List IOper
  | [] => []
  | o :: l => patchO d b o :: patchL d b l
def patch (d : Nat) (b : Bool) : ICode → ICode
  | .reg ops => .reg (patchL d b ops)
  | .seq x y => .seq (patch d b x) (patch d b y)
  | .seqK ks x y => .seqK ks (patch d b x) (patch d b y)
  | c => c
def patchF (d : Nat) (b : Bool) (F : IFunc) : IFunc := ⟨F.np, F.res, patch d b F.body⟩
end
def long (line : ByteArray) : Bool := ltF (.ofNat 20000) (.ofNat (toL line).length)
theorem none_patch (line : ByteArray) (serial after : Int) : callN meths tabA 100000 (.fn 8) [.string line, .int .i64 serial, .int .i64 after] init0 =
    callBody meths (callN meths tabA 99999) 99999 (patchF 25 (long line) c8) [.string line, .int .i64 serial, .int .i64 after] init0 := by kernel_rfl
theorem none_yes (line : ByteArray) (serial after : Int) (b : Bool) : isYes (callBody meths (callN meths tabA 99999) 99999 (patchF 25 b c8) [.string line, .int .i64 serial, .int .i64 after] init0) = true := by
  cases b with
  | true => kernel_rfl
  | false => kernel_rfl
theorem none_run (line : ByteArray) (serial after : Int) : isYes (callN meths tabA 100000 (.fn 8) [.string line, .int .i64 serial, .int .i64 after] init0) = true := by
  rw [none_patch]
  exact none_yes line serial after _
end Go.Im
