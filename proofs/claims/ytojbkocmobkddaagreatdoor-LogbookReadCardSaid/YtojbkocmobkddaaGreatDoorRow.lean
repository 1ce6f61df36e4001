/- The row of LogbookRead: the file of a book is read back byte for byte: for all shifts and bytes: without a condition. -/
import Derived.Test.YtojbkocmobkddaaGreatDoorImRW
import Derived.Test.YtojbkocmobkddaaGreatDoorImRVx
import Derived.Test.YtojbkocmobkddaaGreatDoorImQF
import Derived.ChangeMaps5
set_option linter.all false
set_option maxRecDepth 100000
namespace Go.Im
open Go.Proofs
theorem u16_in {z : Int} (h : (Lit.int IntKind.u16 z).wf = true) : 0 ≤ z ∧ z < 65536 := by
 have h : (decide (IntKind.u16.min ≤ z) && decide (z ≤ IntKind.u16.max)) = true := h
 rw [Bool.and_eq_true] at h
 have h1 : (0 : Int) ≤ z := of_decide_eq_true h.1
 have h2 : z ≤ 65535 := of_decide_eq_true h.2
 omega
theorem read_calls {W : World} (hL : laidMetH Tryz.prog laidL W) (hsh : W.ShapedOpen Tryz.prog) {H : Type} {enc : TypeId × Value → H} {fuel : Nat} {v : Value} {x : DataW H × List MemPlace} (h : DataW.trod enc Tryz.prog W 0 (fun _ => true) true fuel 52 [v] = some x) {a b : Int} (ha : 0 ≤ a ∧ a < 65536) :
 Calls Tryz.prog 11 #[v, .int .u16 a, .int .u8 b] W fun e W' => e = .returned (.bool true) ∧ RowKit.Below W.heap.size W W' := by
 obtain ⟨bk, off, hF⟩ := facts hL hsh
 obtain ⟨m, hR⟩ := lS hF
 obtain ⟨m', s0, v0, L, q⟩ := aX hF hR aF Hz h
 obtain ⟨k, rfl⟩ : ∃ k : Nat, a = (k : Int) := ⟨a.toNat, by omega⟩
 obtain ⟨s', d⟩ := oU 100000 (by decide) q.k q.rd (show k < 65536 by omega) b
 exact callsIn_wide.1 (Ri (n := 0) good nO q.rl q.still (.cons q.v (.cons (.int _ _) (.cons (.int _ _) .nil))) (by rw [d]; exact rfl))
end Go.Im
namespace Go.Proofs.YtojbkocmobkddaaGreatDoor
open Go.ChangeShapes Go.WideShapes Go.ChangeAt Go.RowKit
open Go.ChangeMaps (open_string)
theorem WA (os : Os) (started : os.Started) (H : Type) (enc : TypeId × Value → H) (F : Stop.Interp) :
 ReturnsInHanded {} Tryz.checked os 11 .any ((OpenSpec.ofChange Rows.logbookReadSpec).preRow enc Tryz.prog Tryz.f11 Rows.logbookReadRow.domain false Rows.logbookReadRow.laid) (((OpenSpec.ofChange Rows.logbookReadSpec).at F).post enc Tryz.prog Tryz.f11 false true false false) := by
 have hw : (DataW.whole enc Tryz.prog ((laidWorld os).forCall (fun _ _ => 0) ⟨#[], #[.slice none 0 0, .int .u16 0, .int .u8 0], []⟩).memory Tryz.f11.params.toList Rows.logbookReadSpec.vars false (#[.slice none 0 0, .int .u16 0, .int .u8 0] : Array Value).toList 8).map (fun x => (x.1, x.2.1)) = some ([.nil, .lit (.int .u16 0), .lit (.int .u8 0)], []) := by kernel_rfl
 obtain ⟨⟨x1, x2, x3⟩, hx, hx1⟩ := Option.map_eq_some_iff.1 hw
 simp only [Prod.mk.injEq] at hx1
 obtain ⟨rfl, rfl⟩ := hx1
 refine returnsInHanded_of_row (C := Tryz.checked) (s := OpenSpec.ofChange Rows.logbookReadSpec) own started (by kernel_rfl) Tryz.func11
  (witness_row_atRef (enc := enc) (C := Tryz.checked) false (laidWorld os) #[.slice none 0 0, .int .u16 0, .int .u8 0] rfl (iR os _) (iT os _) (by kernel_rfl)
   (OpenSpec.preRow_of_cond 8 hx (by kernel_rfl) (fun k hk => by cases hk) (by kernel_rfl) (laid_met os _))) ?_
 intro W base args ds gs before hval0 hW _ _ _ hL hsh _
 have hval : ∀ (j : Nat) t v, Tryz.f11.params[j]? = some t → args[j]? = some v → Value.okWide Tryz.prog W .any base t v := hval0
 have hW' := hW
 obtain ⟨p, q, hA0, hV, _, _, _⟩ := hW
 have hA : DataW.TrodAll enc Tryz.prog W 0 (fun _ => true) true Tryz.f11.params.toList args.toList ds p := hA0
 obtain ⟨rfl, rfl⟩ := trodVars_none hV
 have hds : ∃ v0 z1 z2 d0 d1 d2, args = #[v0, .int .u16 z1, .int .u8 z2] ∧ ds = [d0, d1, d2] ∧ (0 ≤ z1 ∧ z1 < 65536) ∧ (∃ fuel x, DataW.trod enc Tryz.prog W 0 (fun _ => true) true fuel 52 [v0] = some x) := by
  rw [Tryz.params11] at hA hval
  obtain ⟨v0, vs, d0, ds, p0, q0, hargs, rfl, rfl, h0, hA⟩ := trodAll_cons hA
  obtain ⟨v1, vs, d1, ds, p1, q1, rfl, rfl, rfl, h1, hA⟩ := trodAll_cons hA
  obtain ⟨v2, vs, d2, ds, p2, q2, rfl, rfl, rfl, h2, hA⟩ := trodAll_cons hA
  obtain ⟨rfl, rfl, rfl⟩ := trodAll_nil hA
  obtain rfl : args = #[v0, v1, v2] := by apply Array.ext'; exact hargs
  obtain ⟨a0, len, cap, rfl⟩ := okWide_slice Tryz.underlying52 (hval 0 52 v0 rfl rfl)
  obtain ⟨z1, rfl⟩ := okWide_int Tryz.underlying78 (hval 1 78 v1 rfl rfl)
  obtain ⟨z2, rfl⟩ := okWide_int Tryz.underlying5 (hval 2 5 v2 rfl rfl)
  obtain ⟨fuel, hf⟩ := h0
  obtain ⟨fuel1, hf1⟩ := h1
  have hf1 : DataW.trod enc Tryz.prog W 0 (fun _ => true) true fuel1 78 [.int .u16 z1] = some (d1, p1) := hf1
  obtain ⟨w1, e1, _, wf1⟩ := DataW.trod_int Tryz.underlying78 hf1
  injection e1 with e1 _
  injection e1 with _ e1
  subst e1
  exact ⟨_, _, _, _, _, _, rfl, rfl, Im.u16_in wf1, ⟨fuel, _, hf⟩⟩
 obtain ⟨v0, z1, z2, d0, d1, d2, rfl, rfl, hz, ⟨fuel, x, hf⟩⟩ := hds
 refine (Im.read_calls hL hsh hf hz).mono fun e W' ⟨he, hb⟩ => ?_
 subst he
 refine ⟨_, rfl, ZH rfl rfl (fun t ht => ?_) rfl hW' hb⟩
 rw [Tryz.params11] at ht
 have ht : t = 52 ∨ t = 78 ∨ t = 5 := by simpa using ht
 rcases ht with rfl | rfl | rfl
 · exact ⟨by kernel_rfl, of_decide_eq_true (by kernel_rfl)⟩
 · exact ⟨by kernel_rfl, of_decide_eq_true (by kernel_rfl)⟩
 · exact ⟨by kernel_rfl, of_decide_eq_true (by kernel_rfl)⟩
theorem ay : Rows.LogbookReadSaid :=
 OpenClaim.holds_of_cond 11 Tryz.f11 rfl rfl rfl rfl rfl rfl rfl ⟨rfl, rfl, rfl, rfl, rfl⟩ rfl rfl rfl rfl rfl (by kernel_rfl) Tryz.func11 (by kernel_rfl)
  (of_decide_eq_true (by kernel_rfl)) (by unfold Func.isWrapper; first | (rw [if_pos (by decide +kernel)]; kernel_rfl) | (rw [if_neg (by decide +kernel)]; exact ⟨rfl, rfl⟩))
  (fun os started H enc _ F => by rw [OpenClaim.pre_eq_preRow]; exact WA os started H enc F)
theorem Xz (f : FuncId) (fn : Func) (hf : Tryz.pinned.checked.prog.funcNamed "agonic/agoniclaw14.LogbookRead" = some f) (hfn : Tryz.pinned.checked.prog.funcs[f]? = some fn) :
 true = Tryz.pinned.checked.prog.looks [] ∧ ∀ (j : Nat) t, fn.params[j]? = some t → Tryz.pinned.checked.prog.wantsStandIn t = false := by
 obtain rfl : f = 11 := Option.some.inj ((show Tryz.prog.funcNamed "agonic/agoniclaw14.LogbookRead" = some 11 by kernel_rfl).symm.trans hf) |>.symm
 obtain rfl : fn = Tryz.f11 := (Option.some.inj (Tryz.func11.symm.trans hfn)).symm
 refine ⟨by kernel_rfl, fun j t ht => ?_⟩
 rw [Tryz.params11] at ht
 have ht : t = 52 ∨ t = 78 ∨ t = 5 := by simpa using Array.mem_of_getElem? ht
 rcases ht with rfl | rfl | rfl
 · exact (show Tryz.prog.wantsStandIn 52 = false by kernel_rfl)
 · exact (show Tryz.prog.wantsStandIn 78 = false by kernel_rfl)
 · exact (show Tryz.prog.wantsStandIn 5 = false by kernel_rfl)
theorem read_card : Rows.LogbookReadCardSaid :=
 Claim7.holds_tied_plain_at .later [] _ _ _ _ ay (fun _ h => by cases h) (by kernel_rfl) (fun _ h => by cases h) logbookRead_row_tie rfl ⟨rfl, rfl⟩ (by kernel_rfl) rfl Xz (by kernel_rfl)
end Go.Proofs.YtojbkocmobkddaaGreatDoor
