/- The row of LogbookSwaps: a swap changes the distance by 1; twice the same swap restores all parts; swaps that do not touch the same commute: for all shifts and choices: without a condition. -/
import Derived.Test.YtojbkocmobkddaaGreatDoorImRW
import Derived.Test.YtojbkocmobkddaaGreatDoorImRVx
import Derived.Test.YtojbkocmobkddaaGreatDoorImQX
import Derived.ChangeMaps5
set_option linter.all false
set_option maxRecDepth 100000
namespace Go.Im
open Go.Proofs
theorem u8_in {z : Int} (h : (Lit.int IntKind.u8 z).wf = true) : 0 ≤ z ∧ z < 256 := by
 have h : (decide (IntKind.u8.min ≤ z) && decide (z ≤ IntKind.u8.max)) = true := h
 rw [Bool.and_eq_true] at h
 have h1 : (0 : Int) ≤ z := of_decide_eq_true h.1
 have h2 : z ≤ 255 := of_decide_eq_true h.2
 omega
theorem arg3 {W : World} {base fuel : Nat} {v : Value} {H : Type} {enc : TypeId × Value → H} {x : DataW H × List MemPlace} (hv : Value.okWide Tryz.prog W .any base 60 v) (h : DataW.trod enc Tryz.prog W 0 (fun _ => true) true fuel 60 v.cells.toList = some x) :
 ∃ a b c : Nat, a < 256 ∧ b < 256 ∧ c < 256 ∧ v = .agg ⟨[qV a, qV b, qV c]⟩ := by
 unfold Value.okWide at hv
 rw [Tryz.underlying60] at hv
 obtain ⟨cs, rfl, hsz, _⟩ := hv
 have c3 : Tryz.prog.cellsOf 60 = 3 := by kernel_rfl
 rw [c3] at hsz
 obtain ⟨l⟩ := cs
 match l, hsz with
 | [c0, c1, c2], _ =>
  have h : DataW.trod enc Tryz.prog W 0 (fun _ => true) true fuel 60 [c0, c1, c2] = some x := h
  obtain ⟨y0, y1, y2, n, _, t0, t1, t2⟩ := ChangeShapes.trod_array3 Tryz.underlying60 (by kernel_rfl) h
  obtain ⟨z0, e0, _, w0⟩ := DataW.trod_int Tryz.underlying5 t0
  obtain ⟨z1, e1, _, w1⟩ := DataW.trod_int Tryz.underlying5 t1
  obtain ⟨z2, e2, _, w2⟩ := DataW.trod_int Tryz.underlying5 t2
  injection e0 with e0 _
  injection e1 with e1 _
  injection e2 with e2 _
  subst e0 e1 e2
  have bd : ∀ z : Int, (Lit.int IntKind.u8 z).wf = true → 0 ≤ z ∧ z < 256 := fun z hz => u8_in hz
  have b0 := bd z0 w0
  have b1 := bd z1 w1
  have b2 := bd z2 w2
  have k0 : (z0.toNat : Int) = z0 := by omega
  have k1 : (z1.toNat : Int) = z1 := by omega
  have k2 : (z2.toNat : Int) = z2 := by omega
  exact ⟨z0.toNat, z1.toNat, z2.toNat, by omega, by omega, by omega, by unfold qV; rw [k0, k1, k2]⟩
theorem rel3 (m : Map) (a b c : Nat) : Aj m (.agg ⟨[qV a, qV b, qV c]⟩) (.agg ⟨[qV a, qV b, qV c]⟩) := .agg (.cons (.int _ _) (.cons (.int _ _) (.cons (.int _ _) .nil)))
theorem swaps_calls {W : World} (hL : laidMetH Tryz.prog laidL W) (hsh : W.ShapedOpen Tryz.prog) {H : Type} {enc : TypeId × Value → H} {fuel : Nat} {v : Value} {x : DataW H × List MemPlace} (h : DataW.trod enc Tryz.prog W 0 (fun _ => true) true fuel 52 [v] = some x) {a0 a1 a2 b0 b1 b2 : Nat} (ha : a0 < 256 ∧ a1 < 256 ∧ a2 < 256) (hb : b0 < 256 ∧ b1 < 256 ∧ b2 < 256) :
 Calls Tryz.prog 6 #[v, .agg ⟨[qV a0, qV a1, qV a2]⟩, .agg ⟨[qV b0, qV b1, qV b2]⟩] W fun e W' => e = .returned (.bool true) ∧ RowKit.Below W.heap.size W W' := by
 obtain ⟨bk, off, hF⟩ := facts hL hsh
 obtain ⟨m, hR⟩ := iq hF
 obtain ⟨m', s0, v0, L, a⟩ := Yv hF hR Yg H6 h
 obtain ⟨s', d⟩ := f6_run 100000 (by decide) a.k a.rd (v1 := .agg ⟨[qV a0, qV a1, qV a2]⟩) (v2 := .agg ⟨[qV b0, qV b1, qV b2]⟩) rfl rfl ha hb
 exact callsIn_wide.1 (Qg (n := 0) good jg a.rl a.still (.cons a.v (.cons (rel3 _ _ _ _) (.cons (rel3 _ _ _ _) .nil))) (by rw [d]; exact rfl))
end Go.Im
namespace Go.Proofs.YtojbkocmobkddaaGreatDoor
open Go.ChangeShapes Go.WideShapes Go.ChangeAt Go.RowKit
open Go.ChangeMaps (open_string)
theorem TW (os : Os) (started : os.Started) (H : Type) (enc : TypeId × Value → H) (F : Stop.Interp) :
 ReturnsInHanded {} Tryz.checked os 6 .any ((OpenSpec.ofChange Rows.logbookSwapsSpec).preRow enc Tryz.prog Tryz.f6 Rows.logbookSwapsRow.domain false Rows.logbookSwapsRow.laid) (((OpenSpec.ofChange Rows.logbookSwapsSpec).at F).post enc Tryz.prog Tryz.f6 false true false false) := by
 have hw : (DataW.whole enc Tryz.prog ((laidWorld os).forCall (fun _ _ => 0) ⟨#[], #[.slice none 0 0, .agg #[.int .u8 0, .int .u8 0, .int .u8 0], .agg #[.int .u8 0, .int .u8 0, .int .u8 0]], []⟩).memory Tryz.f6.params.toList Rows.logbookSwapsSpec.vars false (#[.slice none 0 0, .agg #[.int .u8 0, .int .u8 0, .int .u8 0], .agg #[.int .u8 0, .int .u8 0, .int .u8 0]] : Array Value).toList 8).map (fun x => (x.1, x.2.1)) = some ([.nil, .agg [.lit (.int .u8 0), .lit (.int .u8 0), .lit (.int .u8 0)], .agg [.lit (.int .u8 0), .lit (.int .u8 0), .lit (.int .u8 0)]], []) := by kernel_rfl
 obtain ⟨⟨x1, x2, x3⟩, hx, hx1⟩ := Option.map_eq_some_iff.1 hw
 simp only [Prod.mk.injEq] at hx1
 obtain ⟨rfl, rfl⟩ := hx1
 refine returnsInHanded_of_row (C := Tryz.checked) (s := OpenSpec.ofChange Rows.logbookSwapsSpec) own started (by kernel_rfl) Tryz.func6
  (witness_row_atRef (enc := enc) (C := Tryz.checked) false (laidWorld os) #[.slice none 0 0, .agg #[.int .u8 0, .int .u8 0, .int .u8 0], .agg #[.int .u8 0, .int .u8 0, .int .u8 0]] rfl (dF os _) (dG os _) (by kernel_rfl)
   (OpenSpec.preRow_of_cond 8 hx (by kernel_rfl) (fun k hk => by cases hk) (by kernel_rfl) (laid_met os _))) ?_
 intro W base args ds gs before hval0 hW _ _ _ hL hsh _
 have hval : ∀ (j : Nat) t v, Tryz.f6.params[j]? = some t → args[j]? = some v → Value.okWide Tryz.prog W .any base t v := hval0
 have hW' := hW
 obtain ⟨p, q, hA0, hV, _, _, _⟩ := hW
 have hA : DataW.TrodAll enc Tryz.prog W 0 (fun _ => true) true Tryz.f6.params.toList args.toList ds p := hA0
 obtain ⟨rfl, rfl⟩ := trodVars_none hV
 have hds : ∃ v0 v1 v2 d0 d1 d2, args = #[v0, v1, v2] ∧ ds = [d0, d1, d2] ∧ (∃ fuel x, DataW.trod enc Tryz.prog W 0 (fun _ => true) true fuel 52 [v0] = some x) ∧ (∃ a b c : Nat, a < 256 ∧ b < 256 ∧ c < 256 ∧ v1 = .agg ⟨[Im.qV a, Im.qV b, Im.qV c]⟩) ∧ (∃ a b c : Nat, a < 256 ∧ b < 256 ∧ c < 256 ∧ v2 = .agg ⟨[Im.qV a, Im.qV b, Im.qV c]⟩) := by
  rw [Tryz.params6] at hA hval
  obtain ⟨v0, vs, d0, ds, p0, q0, hargs, rfl, rfl, h0, hA⟩ := trodAll_cons hA
  obtain ⟨v1, vs, d1, ds, p1, q1, rfl, rfl, rfl, h1, hA⟩ := trodAll_cons hA
  obtain ⟨v2, vs, d2, ds, p2, q2, rfl, rfl, rfl, h2, hA⟩ := trodAll_cons hA
  obtain ⟨rfl, rfl, rfl⟩ := trodAll_nil hA
  obtain rfl : args = #[v0, v1, v2] := by apply Array.ext'; exact hargs
  obtain ⟨a0, len, cap, rfl⟩ := okWide_slice Tryz.underlying52 (hval 0 52 v0 rfl rfl)
  obtain ⟨fuel, hf⟩ := h0
  obtain ⟨fuel1, hf1⟩ := h1
  obtain ⟨fuel2, hf2⟩ := h2
  exact ⟨_, _, _, _, _, _, rfl, rfl, ⟨fuel, _, hf⟩, Im.arg3 (hval 1 60 v1 rfl rfl) hf1, Im.arg3 (hval 2 60 v2 rfl rfl) hf2⟩
 obtain ⟨v0, v1, v2, d0, d1, d2, rfl, rfl, ⟨fuel, x, hf⟩, ⟨a0, a1, a2, ha0, ha1, ha2, rfl⟩, ⟨b0, b1, b2, hb0, hb1, hb2, rfl⟩⟩ := hds
 refine (Im.swaps_calls hL hsh hf ⟨ha0, ha1, ha2⟩ ⟨hb0, hb1, hb2⟩).mono fun e W' ⟨he, hb⟩ => ?_
 subst he
 refine ⟨_, rfl, YA rfl rfl (fun t ht => ?_) rfl hW' hb⟩
 rw [Tryz.params6] at ht
 have ht : t = 52 ∨ t = 60 ∨ t = 60 := by simpa using ht
 rcases ht with rfl | rfl | rfl
 · exact ⟨by kernel_rfl, of_decide_eq_true (by kernel_rfl)⟩
 · exact ⟨by kernel_rfl, of_decide_eq_true (by kernel_rfl)⟩
 · exact ⟨by kernel_rfl, of_decide_eq_true (by kernel_rfl)⟩
theorem Ws : Rows.LogbookSwapsSaid :=
 OpenClaim.holds_of_cond 6 Tryz.f6 rfl rfl rfl rfl rfl rfl rfl ⟨rfl, rfl, rfl, rfl, rfl⟩ rfl rfl rfl rfl rfl (by kernel_rfl) Tryz.func6 (by kernel_rfl)
  (of_decide_eq_true (by kernel_rfl)) (by unfold Func.isWrapper; first | (rw [if_pos (by decide +kernel)]; kernel_rfl) | (rw [if_neg (by decide +kernel)]; exact ⟨rfl, rfl⟩))
  (fun os started H enc _ F => by rw [OpenClaim.pre_eq_preRow]; exact TW os started H enc F)
theorem V7 (f : FuncId) (fn : Func) (hf : Tryz.pinned.checked.prog.funcNamed "agonic/agoniclaw14.LogbookSwaps" = some f) (hfn : Tryz.pinned.checked.prog.funcs[f]? = some fn) :
 true = Tryz.pinned.checked.prog.looks [] ∧ ∀ (j : Nat) t, fn.params[j]? = some t → Tryz.pinned.checked.prog.wantsStandIn t = false := by
 obtain rfl : f = 6 := Option.some.inj ((show Tryz.prog.funcNamed "agonic/agoniclaw14.LogbookSwaps" = some 6 by kernel_rfl).symm.trans hf) |>.symm
 obtain rfl : fn = Tryz.f6 := (Option.some.inj (Tryz.func6.symm.trans hfn)).symm
 refine ⟨by kernel_rfl, fun j t ht => ?_⟩
 rw [Tryz.params6] at ht
 have ht : t = 52 ∨ t = 60 ∨ t = 60 := by simpa using Array.mem_of_getElem? ht
 rcases ht with rfl | rfl | rfl
 · exact (show Tryz.prog.wantsStandIn 52 = false by kernel_rfl)
 · exact (show Tryz.prog.wantsStandIn 60 = false by kernel_rfl)
 · exact (show Tryz.prog.wantsStandIn 60 = false by kernel_rfl)
theorem swaps_card : Rows.LogbookSwapsCardSaid :=
 Claim7.holds_tied_plain_at .later [] _ _ _ _ Ws (fun _ h => by cases h) (by kernel_rfl) (fun _ h => by cases h) logbookSwaps_row_tie rfl ⟨rfl, rfl⟩ (by kernel_rfl) rfl V7 (by kernel_rfl)
end Go.Proofs.YtojbkocmobkddaaGreatDoor
