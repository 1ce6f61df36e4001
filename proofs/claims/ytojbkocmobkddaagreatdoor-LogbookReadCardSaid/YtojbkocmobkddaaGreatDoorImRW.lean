/- The rows: a world for the witness. -/
import Derived.Test.YtojbkocmobkddaaGreatDoorImWL
import Derived.Test.YtojbkocmobkddaaGreatDoorCards
import Derived.Test.YtojbkocmobkddaaGreatDoorTie
import Derived.WalkKit
import Derived.ProofKit
import Derived.OpenShut
import Derived.Deep.DeepHandedRow
import Derived.Deep.DeepWitnessRowRef
import Derived.SizedLaws
import Derived.LaidHandle
set_option linter.all false
set_option maxRecDepth 100000
namespace Go.Proofs.YtojbkocmobkddaaGreatDoor
open Go.ChangeShapes Go.WideShapes Go.ChangeAt Go.RowKit
theorem own : ownKnob Tryz.prog.godebug = none := by kernel_rfl
mutual
def Rq : DataW Unit → List Value
 | .lit (.int k n) => [.int k n]
 | .agg l => flatL l
 | _ => []
def flatL : List (DataW Unit) → List Value
 | [] => []
 | d :: l => Rq d ++ flatL l
end
def Vd (h : Array Obj) (g : Nat) (cs : List Value) : Array Obj := h.modify g fun
 | .cells _ t frozen => .cells ⟨cs⟩ t frozen
 | o => o
noncomputable def laidWorld (os : Os) : World :=
 let w0 := World.holding Tryz.prog os ⟨#[], #[], []⟩
 let n := w0.heap.size
 let h := Vd (Vd (Vd (Vd (Vd (Vd (Vd (Vd w0.heap 5 (Rq Rows.laid_math_bits_deBruijn32tab)) 6 (Rq Rows.laid_math_bits_deBruijn64tab)) 1 (Rq Rows.laid_internal_strconv_uint64pow10)) 8 (Rq Rows.laid_unicode_utf8_acceptRanges))
  7 (Rq Rows.laid_unicode_utf8_first)) 3 [.iface 236 (.pointer (some ⟨n + 1, 0, none⟩))]) 2 [.iface 236 (.pointer (some ⟨n + 2, 0, none⟩))]) 0 [.slice (some ⟨n, 0, none⟩) 4 4]
 { w0 with heap := ((h.push (.cells ⟨Im.kindsL⟩ 9)).push (.cells #[.string ⟨#[118, 97, 108, 117, 101, 32, 111, 117, 116, 32, 111, 102, 32, 114, 97, 110, 103, 101]⟩] 238)).push (.cells #[.string ⟨#[105, 110, 118, 97, 108, 105, 100, 32, 115, 121, 110, 116, 97, 120]⟩] 238) }
theorem laid_met (os : Os) (args : Array Value) : laidMet Tryz.prog Im.laidL ((laidWorld os).forCall (fun _ _ => 0) ⟨#[], args, []⟩).memory :=
 laidMet_of_run' 8 (by kernel_rfl) (by kernel_rfl)
theorem iR (os : Os) (args : Array Value) : ((laidWorld os).forCall (fun _ _ => 0) ⟨#[], args, []⟩).variablesRefB Tryz.prog = true := by kernel_rfl
theorem iT (os : Os) (args : Array Value) : (((laidWorld os).forCall (fun _ _ => 0) ⟨#[], args, []⟩).heap.toList.drop Tryz.prog.globals.size).take ((begin Tryz.prog (fun _ _ => 0) default).world.heap.size - Tryz.prog.globals.size) =
 (begin Tryz.prog (fun _ _ => 0) default).world.heap.toList.drop Tryz.prog.globals.size := by kernel_rfl
end Go.Proofs.YtojbkocmobkddaaGreatDoor
