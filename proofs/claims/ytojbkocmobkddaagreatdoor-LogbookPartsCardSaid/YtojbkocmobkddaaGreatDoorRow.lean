/- The row of LogbookParts: holders, homes, parts and cards are as stated, for all lines, numbers and words: without a condition. -/
import Derived.Test.YtojbkocmobkddaaGreatDoorImRW
import Derived.Test.YtojbkocmobkddaaGreatDoorImRVL
import Derived.ChangeMaps5
set_option linter.all false
set_option maxRecDepth 100000
namespace Go.Im
open Go.Proofs
theorem parts_calls {W : World} (hL : laidMetH Tryz.prog laidL W) (hsh : W.ShapedOpen Tryz.prog) {H : Type} {enc : TypeId × Value → H} {fuel : Nat} {v : Value} {x : DataW H × List MemPlace} (h : DataW.trod enc Tryz.prog W 0 (fun _ => true) true fuel 22 [v] = some x) (serial after : Int) (word : ByteArray) :
 Calls Tryz.prog 3 #[v, .int .i64 serial, .int .i64 after, .string word] W fun e W' => e = .returned (.bool true) ∧ RowKit.Below W.heap.size W W' := by
 obtain ⟨bk, off, hF⟩ := facts hL hsh
 obtain ⟨m, hR⟩ := mV hF
 obtain ⟨m', s0, v0, L, a⟩ := lX hF hR h
 obtain ⟨s', d⟩ := f3_run 100000 (by decide) a.k a.rd serial after word
 exact callsIn_wide.1 (RD (n := 0) good oD a.rl a.still (.cons a.v (.cons (.int _ _) (.cons (.int _ _) (.cons (.string _) .nil)))) (by rw [d]; exact rfl))
end Go.Im
namespace Go.Proofs.YtojbkocmobkddaaGreatDoor
open Go.ChangeShapes Go.WideShapes Go.ChangeAt Go.RowKit
open Go.ChangeMaps (open_string)
theorem UR (os : Os) (started : os.Started) (H : Type) (enc : TypeId × Value → H) (F : Stop.Interp) :
 ReturnsInHanded {} Tryz.checked os 3 .any ((OpenSpec.ofChange Rows.logbookPartsSpec).preRow enc Tryz.prog Tryz.f3 Rows.logbookPartsRow.domain false Rows.logbookPartsRow.laid) (((OpenSpec.ofChange Rows.logbookPartsSpec).at F).post enc Tryz.prog Tryz.f3 false true false false) := by
 have hw : (DataW.whole enc Tryz.prog ((laidWorld os).forCall (fun _ _ => 0) ⟨#[], #[.slice none 0 0, .int .i64 0, .int .i64 0, .string ⟨#[]⟩], []⟩).memory Tryz.f3.params.toList Rows.logbookPartsSpec.vars false (#[.slice none 0 0, .int .i64 0, .int .i64 0, .string ⟨#[]⟩] : Array Value).toList 8).map (fun x => (x.1, x.2.1)) = some ([.nil, .lit (.int .i64 0), .lit (.int .i64 0), .lit (.string [])], []) := by kernel_rfl
 obtain ⟨⟨x1, x2, x3⟩, hx, hx1⟩ := Option.map_eq_some_iff.1 hw
 simp only [Prod.mk.injEq] at hx1
 obtain ⟨rfl, rfl⟩ := hx1
 refine returnsInHanded_of_row (C := Tryz.checked) (s := OpenSpec.ofChange Rows.logbookPartsSpec) own started (by kernel_rfl) Tryz.func3
  (witness_row_atRef (enc := enc) (C := Tryz.checked) false (laidWorld os) #[.slice none 0 0, .int .i64 0, .int .i64 0, .string ⟨#[]⟩] rfl (iQ os _) (iR os _) (by kernel_rfl)
   (OpenSpec.preRow_of_cond 8 hx (by kernel_rfl) (fun k hk => by cases hk) (by kernel_rfl) (laid_met os _))) ?_
 intro W base args ds gs before hval0 hW _ _ _ hL hsh _
 have hval : ∀ (j : Nat) t v, Tryz.f3.params[j]? = some t → args[j]? = some v → Value.okWide Tryz.prog W .any base t v := hval0
 have hW' := hW
 obtain ⟨p, q, hA0, hV, _, _, _⟩ := hW
 have hA : DataW.TrodAll enc Tryz.prog W 0 (fun _ => true) true Tryz.f3.params.toList args.toList ds p := hA0
 obtain ⟨rfl, rfl⟩ := trodVars_none hV
 have hds : ∃ v0 n1 n2 w d0 d1 d2 d3, args = #[v0, .int .i64 n1, .int .i64 n2, .string w] ∧ ds = [d0, d1, d2, d3] ∧ (∃ fuel x, DataW.trod enc Tryz.prog W 0 (fun _ => true) true fuel 22 [v0] = some x) := by
  rw [Tryz.params3] at hA hval
  obtain ⟨v0, vs, d0, ds, p0, q0, hargs, rfl, rfl, h0, hA⟩ := trodAll_cons hA
  obtain ⟨v1, vs, d1, ds, p1, q1, rfl, rfl, rfl, h1, hA⟩ := trodAll_cons hA
  obtain ⟨v2, vs, d2, ds, p2, q2, rfl, rfl, rfl, h2, hA⟩ := trodAll_cons hA
  obtain ⟨v3, vs, d3, ds, p3, q3, rfl, rfl, rfl, h3, hA⟩ := trodAll_cons hA
  obtain ⟨rfl, rfl, rfl⟩ := trodAll_nil hA
  obtain rfl : args = #[v0, v1, v2, v3] := by apply Array.ext'; exact hargs
  obtain ⟨n1, rfl, _, _, _⟩ := open_int Tryz.underlying3 (hval 1 3 v1 rfl rfl) h1
  obtain ⟨n2, rfl, _, _, _⟩ := open_int Tryz.underlying3 (hval 2 3 v2 rfl rfl) h2
  obtain ⟨w, rfl, _, _, _⟩ := open_string Tryz.underlying9 (hval 3 9 v3 rfl rfl) h3
  obtain ⟨a0, len, cap, rfl⟩ := okWide_slice Tryz.underlying22 (hval 0 22 v0 rfl rfl)
  obtain ⟨fuel, hf⟩ := h0
  exact ⟨_, _, _, _, _, _, _, _, rfl, rfl, fuel, _, hf⟩
 obtain ⟨v0, serial, after, word, d0, d1, d2, d3, rfl, rfl, fuel, x, hf⟩ := hds
 refine (Im.parts_calls hL hsh hf serial after word).mono fun e W' ⟨he, hb⟩ => ?_
 subst he
 refine ⟨_, rfl, Yz rfl rfl (fun t ht => ?_) rfl hW' hb⟩
 rw [Tryz.params3] at ht
 have ht : t = 22 ∨ t = 3 ∨ t = 9 := by simpa using ht
 rcases ht with rfl | rfl | rfl <;> exact ⟨by kernel_rfl, of_decide_eq_true (by kernel_rfl)⟩
theorem Xt : Rows.LogbookPartsSaid :=
 OpenClaim.holds_of_cond 3 Tryz.f3 rfl rfl rfl rfl rfl rfl rfl ⟨rfl, rfl, rfl, rfl, rfl⟩ rfl rfl rfl rfl rfl (by kernel_rfl) Tryz.func3 (by kernel_rfl)
  (of_decide_eq_true (by kernel_rfl)) (by unfold Func.isWrapper; first | (rw [if_pos (by decide +kernel)]; kernel_rfl) | (rw [if_neg (by decide +kernel)]; exact ⟨rfl, rfl⟩))
  (fun os started H enc _ F => by rw [OpenClaim.pre_eq_preRow]; exact UR os started H enc F)
theorem Vs (f : FuncId) (fn : Func) (hf : Tryz.pinned.checked.prog.funcNamed "agonic/agoniclaw14.LogbookParts" = some f) (hfn : Tryz.pinned.checked.prog.funcs[f]? = some fn) :
 true = Tryz.pinned.checked.prog.looks [] ∧ ∀ (j : Nat) t, fn.params[j]? = some t → Tryz.pinned.checked.prog.wantsStandIn t = false := by
 obtain rfl : f = 3 := Option.some.inj ((show Tryz.prog.funcNamed "agonic/agoniclaw14.LogbookParts" = some 3 by kernel_rfl).symm.trans hf) |>.symm
 obtain rfl : fn = Tryz.f3 := (Option.some.inj (Tryz.func3.symm.trans hfn)).symm
 refine ⟨by kernel_rfl, fun j t ht => ?_⟩
 rw [Tryz.params3] at ht
 have ht : t = 22 ∨ t = 3 ∨ t = 9 := by simpa using Array.mem_of_getElem? ht
 rcases ht with rfl | rfl | rfl
 · exact (show Tryz.prog.wantsStandIn 22 = false by kernel_rfl)
 · exact (show Tryz.prog.wantsStandIn 3 = false by kernel_rfl)
 · exact (show Tryz.prog.wantsStandIn 9 = false by kernel_rfl)
theorem parts_card : Rows.LogbookPartsCardSaid :=
 Claim7.holds_tied_plain_at .later [] _ _ _ _ Xt (fun _ h => by cases h) (by kernel_rfl) (fun _ h => by cases h) logbookParts_row_tie rfl ⟨rfl, rfl⟩ (by kernel_rfl) rfl Vs (by kernel_rfl)
end Go.Proofs.YtojbkocmobkddaaGreatDoor
