/- The rows: a call that answers true and turns nothing that was there is all that a row asks. -/
import Derived.Test.YtojbkocmobkddaaGreatDoorImWL
import Derived.Carry
import Derived.WalkKit
import Derived.ProofKit
import Derived.OpenShut
set_option linter.all false
set_option maxRecDepth 100000
namespace Go.Proofs.YtojbkocmobkddaaGreatDoor
open Go.ChangeShapes Go.WideShapes Go.ChangeAt Go.RowKit
theorem laidOut : laidOutB Tryz.prog = true := by kernel_rfl
section
variable {H : Type} {enc : TypeId × Value → H}
theorem KW {W W' : World} (hb : Below W.heap.size W W') : ∀ {ts : List TypeId} {vs : List Value} {ds : List (DataW H)} {ps : List MemPlace}, (∀ t ∈ ts, Tryz.prog.readableRec t = true ∧ t < Tryz.prog.types.size) →
 DataW.TrodAll enc Tryz.prog W 0 (fun _ => true) true ts vs ds ps → (∀ x ∈ ps, x.block < W.heap.size) → DataW.TrodAll enc Tryz.prog W' 0 (fun b => decide (b < W.heap.size)) true ts vs ds ps
 | [], vs, ds, ps, _, h, _ => by
  obtain ⟨rfl, rfl, rfl⟩ := trodAll_nil h
  rfl
 | t :: ts, _, _, _, ht, h, hlt => by
  obtain ⟨v, vs, d, ds, p, q, rfl, rfl, rfl, h1, h2⟩ := trodAll_cons h
  exact ⟨p, q, Below.trod laidOut (ht t (by simp)).1 (ht t (by simp)).2 h1 hb (fun x hx => hlt x (by simp [hx])), KW hb (fun t h => ht t (by simp [h])) h2 (fun x hx => hlt x (by simp [hx])), rfl⟩
theorem Yz {f : Func} {s : ChangeSpec} {W W' : World} {args : Array Value} {ds : List (DataW H)} {before : List MemPlace} (hv : s.vars = []) (hr : f.resultTypes = #[4])
 (ht : ∀ t ∈ f.params.toList, Tryz.prog.readableRec t = true ∧ t < Tryz.prog.types.size) (hfn : s.fn H (ds ++ []) = { results := [.lit (.bool true)], args := ds })
 (hW : DataW.Whole enc Tryz.prog f.params.toList s.vars false W args.toList ds [] before) (hb : Below W.heap.size W W') : s.post enc Tryz.prog f false true false false W args (.bool true) W' := by
 obtain ⟨p, q, h1, h2, h3, h4, h5⟩ := hW
 have h2' := h2
 rw [hv] at h2'
 obtain ⟨_, rfl⟩ := trodVars_none h2'
 have hlt := DataW.Whole.lt (⟨p, [], h1, h2, h3, h4, h5⟩ : DataW.Whole enc Tryz.prog f.params.toList s.vars false W args.toList ds [] before)
 have hW' : DataW.Whole enc Tryz.prog f.params.toList s.vars false W args.toList ds [] before := ⟨p, [], h1, h2, h3, h4, h5⟩
 refine ⟨ds, [], before, [], p, [], hW', ?_, ?_, ?_, hb.frame _, fun h => by cases h⟩
 · rw [hfn, hr]
   exact trodAll_mk1 (shut_bool Tryz.underlying4 true)
 · rw [hfn]
   exact KW hb ht h1 (fun x hx => hlt x (by rw [h3]; simp [hx]))
 · rw [hfn, hv]
   rfl
end
end Go.Proofs.YtojbkocmobkddaaGreatDoor
