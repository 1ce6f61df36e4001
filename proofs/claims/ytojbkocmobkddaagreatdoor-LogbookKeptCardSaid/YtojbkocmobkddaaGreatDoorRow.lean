/- The row of LogbookKept: a new book that is told the kept lines is the same, to this day and for all lines that follow; what was undone leaves no trace: for all shifts: without a condition. -/
import Derived.Test.YtojbkocmobkddaaGreatDoorImRW
import Derived.Test.YtojbkocmobkddaaGreatDoorImRVx
import Derived.Test.YtojbkocmobkddaaGreatDoorImQT
import Derived.ChangeMaps5
set_option linter.all false
set_option maxRecDepth 100000
namespace Go.Im
open Go.Proofs
theorem kept_calls {W : World} (hL : laidMetH Tryz.prog laidL W) (hsh : W.ShapedOpen Tryz.prog) {H : Type} {enc : TypeId × Value → H} {fuel fuel1 : Nat} {v v1 : Value} {x x1 : DataW H × List MemPlace} (h : DataW.trod enc Tryz.prog W 0 (fun _ => true) true fuel 52 [v] = some x) (h1 : DataW.trod enc Tryz.prog W 0 (fun _ => true) true fuel1 52 [v1] = some x1) :
 Calls Tryz.prog 9 #[v, v1] W fun e W' => e = .returned (.bool true) ∧ RowKit.Below W.heap.size W W' := by
 obtain ⟨bk, off, hF⟩ := facts hL hsh
 obtain ⟨m, hR⟩ := iJ hF
 obtain ⟨m', s0, v0, L, a⟩ := RU hF hR YX Gx h
 obtain ⟨m'', s1, v2, L1, a1⟩ := RU hF a.rl a.k a.still h1
 obtain ⟨s', d⟩ := f9_run 100000 (by decide) a1.k (a.rd.ext a1.x) a1.rd
 exact callsIn_wide.1 (QU (n := 0) good jR a1.rl a1.still (.cons (a.v.mono a1.le) (.cons a1.v .nil)) (by rw [d]; exact rfl))
end Go.Im
namespace Go.Proofs.YtojbkocmobkddaaGreatDoor
open Go.ChangeShapes Go.WideShapes Go.ChangeAt Go.RowKit
open Go.ChangeMaps (open_string)
theorem Uu (os : Os) (started : os.Started) (H : Type) (enc : TypeId × Value → H) (F : Stop.Interp) :
 ReturnsInHanded {} Tryz.checked os 9 .any ((OpenSpec.ofChange Rows.logbookKeptSpec).preRow enc Tryz.prog Tryz.f9 Rows.logbookKeptRow.domain false Rows.logbookKeptRow.laid) (((OpenSpec.ofChange Rows.logbookKeptSpec).at F).post enc Tryz.prog Tryz.f9 false true false false) := by
 have hw : (DataW.whole enc Tryz.prog ((laidWorld os).forCall (fun _ _ => 0) ⟨#[], #[.slice none 0 0, .slice none 0 0], []⟩).memory Tryz.f9.params.toList Rows.logbookKeptSpec.vars false (#[.slice none 0 0, .slice none 0 0] : Array Value).toList 8).map (fun x => (x.1, x.2.1)) = some ([.nil, .nil], []) := by kernel_rfl
 obtain ⟨⟨x1, x2, x3⟩, hx, hx1⟩ := Option.map_eq_some_iff.1 hw
 simp only [Prod.mk.injEq] at hx1
 obtain ⟨rfl, rfl⟩ := hx1
 refine returnsInHanded_of_row (C := Tryz.checked) (s := OpenSpec.ofChange Rows.logbookKeptSpec) own started (by kernel_rfl) Tryz.func9
  (witness_row_atRef (enc := enc) (C := Tryz.checked) false (laidWorld os) #[.slice none 0 0, .slice none 0 0] rfl (bQ os _) (bT os _) (by kernel_rfl)
   (OpenSpec.preRow_of_cond 8 hx (by kernel_rfl) (fun k hk => by cases hk) (by kernel_rfl) (laid_met os _))) ?_
 intro W base args ds gs before hval0 hW _ _ _ hL hsh _
 have hval : ∀ (j : Nat) t v, Tryz.f9.params[j]? = some t → args[j]? = some v → Value.okWide Tryz.prog W .any base t v := hval0
 have hW' := hW
 obtain ⟨p, q, hA0, hV, _, _, _⟩ := hW
 have hA : DataW.TrodAll enc Tryz.prog W 0 (fun _ => true) true Tryz.f9.params.toList args.toList ds p := hA0
 obtain ⟨rfl, rfl⟩ := trodVars_none hV
 have hds : ∃ v0 v1 d0 d1, args = #[v0, v1] ∧ ds = [d0, d1] ∧ (∃ fuel x, DataW.trod enc Tryz.prog W 0 (fun _ => true) true fuel 52 [v0] = some x) ∧ (∃ fuel x, DataW.trod enc Tryz.prog W 0 (fun _ => true) true fuel 52 [v1] = some x) := by
  rw [Tryz.params9] at hA hval
  obtain ⟨v0, vs, d0, ds, p0, q0, hargs, rfl, rfl, h0, hA⟩ := trodAll_cons hA
  obtain ⟨v1, vs, d1, ds, p1, q1, rfl, rfl, rfl, h1, hA⟩ := trodAll_cons hA
  obtain ⟨rfl, rfl, rfl⟩ := trodAll_nil hA
  obtain rfl : args = #[v0, v1] := by apply Array.ext'; exact hargs
  obtain ⟨a0, len, cap, rfl⟩ := okWide_slice Tryz.underlying52 (hval 0 52 v0 rfl rfl)
  obtain ⟨a1, len1, cap1, rfl⟩ := okWide_slice Tryz.underlying52 (hval 1 52 v1 rfl rfl)
  obtain ⟨fuel, hf⟩ := h0
  obtain ⟨fuel1, hf1⟩ := h1
  exact ⟨_, _, _, _, rfl, rfl, ⟨fuel, _, hf⟩, ⟨fuel1, _, hf1⟩⟩
 obtain ⟨v0, v1, d0, d1, rfl, rfl, ⟨fuel, x, hf⟩, ⟨fuel1, x1, hf1⟩⟩ := hds
 refine (Im.kept_calls hL hsh hf hf1).mono fun e W' ⟨he, hb⟩ => ?_
 subst he
 refine ⟨_, rfl, Xn rfl rfl (fun t ht => ?_) rfl hW' hb⟩
 rw [Tryz.params9] at ht
 have ht : t = 52 := by simpa using ht
 subst ht
 exact ⟨by kernel_rfl, of_decide_eq_true (by kernel_rfl)⟩
theorem Yt : Rows.LogbookKeptSaid :=
 OpenClaim.holds_of_cond 9 Tryz.f9 rfl rfl rfl rfl rfl rfl rfl ⟨rfl, rfl, rfl, rfl, rfl⟩ rfl rfl rfl rfl rfl (by kernel_rfl) Tryz.func9 (by kernel_rfl)
  (of_decide_eq_true (by kernel_rfl)) (by unfold Func.isWrapper; first | (rw [if_pos (by decide +kernel)]; kernel_rfl) | (rw [if_neg (by decide +kernel)]; exact ⟨rfl, rfl⟩))
  (fun os started H enc _ F => by rw [OpenClaim.pre_eq_preRow]; exact Uu os started H enc F)
theorem WT (f : FuncId) (fn : Func) (hf : Tryz.pinned.checked.prog.funcNamed "agonic/agoniclaw14.LogbookKept" = some f) (hfn : Tryz.pinned.checked.prog.funcs[f]? = some fn) :
 true = Tryz.pinned.checked.prog.looks [] ∧ ∀ (j : Nat) t, fn.params[j]? = some t → Tryz.pinned.checked.prog.wantsStandIn t = false := by
 obtain rfl : f = 9 := Option.some.inj ((show Tryz.prog.funcNamed "agonic/agoniclaw14.LogbookKept" = some 9 by kernel_rfl).symm.trans hf) |>.symm
 obtain rfl : fn = Tryz.f9 := (Option.some.inj (Tryz.func9.symm.trans hfn)).symm
 refine ⟨by kernel_rfl, fun j t ht => ?_⟩
 rw [Tryz.params9] at ht
 have ht : t = 52 := by simpa using Array.mem_of_getElem? ht
 subst ht
 exact (show Tryz.prog.wantsStandIn 52 = false by kernel_rfl)
theorem kept_card : Rows.LogbookKeptCardSaid :=
 Claim7.holds_tied_plain_at .later [] _ _ _ _ Yt (fun _ h => by cases h) (by kernel_rfl) (fun _ h => by cases h) logbookKept_row_tie rfl ⟨rfl, rfl⟩ (by kernel_rfl) rfl WT (by kernel_rfl)
end Go.Proofs.YtojbkocmobkddaaGreatDoor
