/- The rows: a call that answers true and turns nothing that was there is all that a row asks. -/
import Derived.Test.YtojbkocmobkddaaGreatDoorImWL
import Derived.Carry
import Derived.WalkKit
import Derived.ProofKit
import Derived.OpenShut
import Derived.Test.YtojbkocmobkddaaGreatDoorImPC
import Derived.Test.YtojbkocmobkddaaGreatDoorImQT
import Derived.Deep.Slices
import Derived.Laws.IdiomArrays
set_option linter.all false
set_option maxRecDepth 100000
namespace Go.Proofs.YtojbkocmobkddaaGreatDoor
open Go.ChangeShapes Go.WideShapes Go.ChangeAt Go.RowKit
theorem laidOut : laidOutB Tryz.prog = true := by kernel_rfl
section
variable {H : Type} {enc : TypeId × Value → H}
theorem Kq {W W' : World} (hb : Below W.heap.size W W') : ∀ {ts : List TypeId} {vs : List Value} {ds : List (DataW H)} {ps : List MemPlace}, (∀ t ∈ ts, Tryz.prog.readableRec t = true ∧ t < Tryz.prog.types.size) →
 DataW.TrodAll enc Tryz.prog W 0 (fun _ => true) true ts vs ds ps → (∀ x ∈ ps, x.block < W.heap.size) → DataW.TrodAll enc Tryz.prog W' 0 (fun b => decide (b < W.heap.size)) true ts vs ds ps
 | [], vs, ds, ps, _, h, _ => by
  obtain ⟨rfl, rfl, rfl⟩ := trodAll_nil h
  rfl
 | t :: ts, _, _, _, ht, h, hlt => by
  obtain ⟨v, vs, d, ds, p, q, rfl, rfl, rfl, h1, h2⟩ := trodAll_cons h
  exact ⟨p, q, Below.trod laidOut (ht t (by simp)).1 (ht t (by simp)).2 h1 hb (fun x hx => hlt x (by simp [hx])), Kq hb (fun t h => ht t (by simp [h])) h2 (fun x hx => hlt x (by simp [hx])), rfl⟩
theorem ZH {f : Func} {s : ChangeSpec} {W W' : World} {args : Array Value} {ds : List (DataW H)} {before : List MemPlace} (hv : s.vars = []) (hr : f.resultTypes = #[4])
 (ht : ∀ t ∈ f.params.toList, Tryz.prog.readableRec t = true ∧ t < Tryz.prog.types.size) (hfn : s.fn H (ds ++ []) = { results := [.lit (.bool true)], args := ds })
 (hW : DataW.Whole enc Tryz.prog f.params.toList s.vars false W args.toList ds [] before) (hb : Below W.heap.size W W') : s.post enc Tryz.prog f false true false false W args (.bool true) W' := by
 obtain ⟨p, q, h1, h2, h3, h4, h5⟩ := hW
 have h2' := h2
 rw [hv] at h2'
 obtain ⟨_, rfl⟩ := trodVars_none h2'
 have hlt := DataW.Whole.lt (⟨p, [], h1, h2, h3, h4, h5⟩ : DataW.Whole enc Tryz.prog f.params.toList s.vars false W args.toList ds [] before)
 have hW' : DataW.Whole enc Tryz.prog f.params.toList s.vars false W args.toList ds [] before := ⟨p, [], h1, h2, h3, h4, h5⟩
 refine ⟨ds, [], before, [], p, [], hW', ?_, ?_, ?_, hb.frame _, fun h => by cases h⟩
 · rw [hfn, hr]
   exact trodAll_mk1 (shut_bool Tryz.underlying4 true)
 · rw [hfn]
   exact Kq hb ht h1 (fun x hx => hlt x (by rw [h3]; simp [hx]))
 · rw [hfn, hv]
   rfl
end
end Go.Proofs.YtojbkocmobkddaaGreatDoor
set_option maxRecDepth 100000
namespace Go.Im
open Go.Proofs
theorem aF : KOk OD := ⟨by rw [Il, if_pos rfl], by rw [Il, if_neg (by decide), if_pos rfl], Nat.le_refl _⟩
theorem aG {W : World} {a : Addr} {v : Value} (h : W.cell? (a.add 0) = some v) : a.spot = none := by
 unfold World.cell? at h
 split at h
 · have h0 : (a.add 0).spot = a.spot := rfl
   rw [h0] at h
   cases hs : a.spot with
   | none => rfl
   | some x => rw [hs] at h; simp at h
 · cases h
end Go.Im
set_option maxRecDepth 100000
namespace Go.Im
open Go.Proofs
theorem Facts.u8_apart {W : World} {bk off : Nat} (h : Facts W bk off) {b o : Nat} {z : Int} (hc : W.cell? ⟨b, o, none⟩ = some (.int .u8 z)) : ∀ x ∈ XX.FX, x.1 ≠ b := by
 obtain ⟨c, t, fr, e1, e2⟩ := Fh hc
 have key : ∀ {g : Nat} {c' : Array Value} {t' : Nat} {fr' : Nat × Nat}, W.heap[g]? = some (.cells c' t' fr') → (∀ v ∈ c'.toList, ∀ z, v ≠ .int .u8 z) → g ≠ b := by
  intro g c' t' fr' hg hn e
  subst e
  rw [e1] at hg
  obtain ⟨rfl, _, _⟩ := Obj.cells.inj (Option.some.inj hg)
  exact hn _ (Array.mem_toList_iff.2 (Array.mem_of_getElem? e2)) _ rfl
 intro x hx
 have hx' : x = (1, G8) ∨ x = (2, EN) ∨ x = (3, EN) ∨ x = (4, Jo) := by simpa [XX] using hx
 rcases hx' with rfl | rfl | rfl | rfl
 · obtain ⟨c1, t1, fr1, g1, g2⟩ := h.pow10
   refine key g1 ?_
   rw [show c1 = _ from g2]
   intro v hv s
   simp only [List.mem_map] at hv
   obtain ⟨z, _, rfl⟩ := hv
   simp
 · obtain ⟨u, v, t1, fr1, g1⟩ := h.err2
   exact key g1 (by simp)
 · obtain ⟨u, v, t1, fr1, g1⟩ := h.err3
   exact key g1 (by simp)
 · obtain ⟨n, t1, fr1, g1⟩ := h.maxl
   exact key g1 (by simp)
structure ArgQ (m : Map) (s : AA) (W : World) (v : Value) (m' : Map) (s0 : AA) (v0 : Value) (L : List Ja) : Prop where
 rl : Rl XX m' s0 W
 v : BH m' v0 v
 rd : RdQ s0 v0 L
 k : KOk s0
 still : ∀ b o, s0.get b = some o → o.turns = false
 le : m.le m'
 x : Ext s s0
theorem aX {W : World} {bk off : Nat} (hF : Facts W bk off) {m : Map} {s : AA} (hR : Rl XX m s W) (hk : KOk s) (hs : ∀ b o, s.get b = some o → o.turns = false) {H : Type} {enc : TypeId × Value → H} {fuel : Nat} {v : Value} {x : DataW H × List MemPlace} (h : DataW.trod enc Tryz.prog W 0 (fun _ => true) true fuel 52 [v] = some x) :
 ∃ m' s0 v0 L, ArgQ m s W v m' s0 v0 L := by
 rcases Deep.open_slice Tryz.underlying52 h with ⟨hcs, _⟩ | ⟨a, len, cap, mm, n, D, Pl, hcs, _, hl, hm, hmm, hx, hcell⟩
 · injection hcs with hcs _
   subst hcs
   exact ⟨m, s, .slice none 0 0, [], hR, .sl0, ⟨rfl, fun i x hx => by simp at hx⟩, hk, hs, m.le_refl, .refl s⟩
 · injection hcs with hcs _
   subst hcs
   have hmm : mm = cap := hmm
   by_cases h0 : len = 0
   · subst h0
     exact ⟨m, s, .slice (some ⟨0, 0, none⟩) 0 UNE, [], hR, .slE a cap, ⟨rfl, fun i x hx => by simp at hx⟩, hk, hs, m.le_refl, .refl s⟩
   · have c4 : Tryz.prog.cellsOf 143 = 4 := by kernel_rfl
     rw [c4] at hcell
     have each0 : ∀ i, i < len → ∃ q : Ja, q.ok ∧ ∀ j, j < 4 → W.cell? ((a.add (i * 4)).add j) = (EW q)[j]? := fun i hi => by
      obtain ⟨cs', h1, h2⟩ := hcell i (by omega)
      obtain ⟨_, hlen, hat⟩ := World.cells?_some h1
      match cs', hlen with
      | [c0, c1, c2, c3], _ =>
       obtain ⟨y0, y1, y2, y3, n', _, t0, t1, t2, t3⟩ := ChangeShapes.trod_array4 Tryz.underlying143 (by kernel_rfl) h2
       obtain ⟨z0, e0, _, w0⟩ := DataW.trod_int Tryz.underlying5 t0
       obtain ⟨z1, e1, _, w1⟩ := DataW.trod_int Tryz.underlying5 t1
       obtain ⟨z2, e2, _, w2⟩ := DataW.trod_int Tryz.underlying5 t2
       obtain ⟨z3, e3, _, w3⟩ := DataW.trod_int Tryz.underlying5 t3
       injection e0 with e0 _
       injection e1 with e1 _
       injection e2 with e2 _
       injection e3 with e3 _
       subst e0 e1 e2 e3
       have bd : ∀ z : Int, (Lit.int IntKind.u8 z).wf = true → 0 ≤ z ∧ z < 256 := fun z hz => u8_bd hz
       have b0 := bd z0 w0
       have b1 := bd z1 w1
       have b2 := bd z2 w2
       have b3 := bd z3 w3
       refine ⟨(z0.toNat, z1.toNat, z2.toNat, z3.toNat), ⟨by show z0.toNat < 256; omega, by show z1.toNat < 256; omega, by show z2.toNat < 256; omega, by show z3.toNat < 256; omega⟩, fun j hj => ?_⟩
       rw [hat j hj]
       have k0 : (z0.toNat : Int) = z0 := by omega
       have k1 : (z1.toNat : Int) = z1 := by omega
       have k2 : (z2.toNat : Int) = z2 := by omega
       have k3 : (z3.toNat : Int) = z3 := by omega
       unfold EW qV
       simp only [k0, k1, k2, k3]
     have hsp : a.spot = none := by
      obtain ⟨q, _, hq⟩ := each0 0 (by omega)
      have := hq 0 (by decide)
      exact aG (a := a.add (0 * 4)) this
     obtain ⟨b, o, sp⟩ := a
     have hsp : sp = none := hsp
     subst hsp
     have each : ∀ i, i < len → ∃ q : Ja, q.ok ∧ ∀ j, j < 4 → W.cell? ⟨b, o + (i * 4 + j), none⟩ = (EW q)[j]? := fun i hi => by
      obtain ⟨q, h1, h2⟩ := each0 i hi
      refine ⟨q, h1, fun j hj => ?_⟩
      have := h2 j hj
      rw [Dj, Dj] at this
      rw [← this, Nat.add_assoc]
     obtain ⟨fq, hfq⟩ : ∃ fq : Nat → Ja, ∀ i, i < len → (fq i).ok ∧ ∀ j, j < 4 → W.cell? ⟨b, o + (i * 4 + j), none⟩ = (EW (fq i))[j]? :=
      ⟨fun i => if hi : i < len then Classical.choose (each i hi) else (0, 0, 0, 0), fun i hi => by simp only [hi, dif_pos]; exact Classical.choose_spec (each i hi)⟩
     have hc0 : W.cell? ⟨b, o + (0 * 4 + 0), none⟩ = some (qV (fq 0).1) := (hfq 0 (by omega)).2 0 (by decide)
     obtain ⟨c', t, fr, e1, e2⟩ := Fh hc0
     have hat : ∀ i, i < len → ∀ j, j < 4 → c'[o + (i * 4 + j)]? = (EW (fq i))[j]? := fun i hi j hj => by
      have h1 := (hfq i hi).2 j hj
      obtain ⟨y, hy⟩ : ∃ y, (EW (fq i))[j]? = some y := Bv (by show j < 4; exact hj)
      rw [hy] at h1
      obtain ⟨c'', t', fr', g1, g2⟩ := Fh h1
      rw [e1] at g1
      obtain ⟨rfl, _, _⟩ := Obj.cells.inj (Option.some.inj g1)
      rw [g2, hy]
     have hsz : o + ((len - 1) * 4 + 3) < c'.size := by
      have h1 := hat (len - 1) (by omega) 3 (by decide)
      have h2 : (EW (fq (len - 1)))[3]? = some (qV (fq (len - 1)).2.2.2) := rfl
      rw [h2, Array.getElem?_eq_some_iff] at h1
      exact h1.1
     have hap := hF.u8_apart hc0
     obtain ⟨L, hL⟩ : ∃ L : List Ja, L = (List.range len).map fq := ⟨_, rfl⟩
     have hLl : L.length = len := by rw [hL]; simp
     have hLg : ∀ i, i < len → L[i]? = some (fq i) := fun i hi => by rw [hL, List.getElem?_map, List.getElem?_range hi]; rfl
     have fl : (L.flatMap EW).length = len * 4 := by rw [flat_length EW 4 L (fun _ _ => rfl), hLl]
     have rl := hR.view (off := o) (el := 143) (esz := 4) (c := L.flatMap EW) e1 (by kernel_rfl) (by omega) (by rw [fl]; omega) (fun i v hi => by
      have hil := BK hi
      rw [fl] at hil
      have hd : i / 4 < len := by omega
      have hm4 : i % 4 < 4 := Nat.mod_lt _ (by decide)
      have hdm : i / 4 * 4 + i % 4 = i := by omega
      have g := flat_get EW 4 L (i / 4) (i % 4) (fq (i / 4)) (fun _ _ => rfl) (hLg _ hd) hm4
      rw [hdm, hi] at g
      have g2 := hat (i / 4) hd (i % 4) hm4
      rw [hdm, ← g] at g2
      refine ⟨v, g2, ?_⟩
      have hv : ∃ z, v = qV z := by
       match i % 4, hm4, g with
       | 0, _, g => exact ⟨(fq (i / 4)).1, Option.some.inj (show some v = some (qV (fq (i / 4)).1) from g)⟩
       | 1, _, g => exact ⟨(fq (i / 4)).2.1, Option.some.inj (show some v = some (qV (fq (i / 4)).2.1) from g)⟩
       | 2, _, g => exact ⟨(fq (i / 4)).2.2.1, Option.some.inj (show some v = some (qV (fq (i / 4)).2.2.1) from g)⟩
       | 3, _, g => exact ⟨(fq (i / 4)).2.2.2, Option.some.inj (show some v = some (qV (fq (i / 4)).2.2.2) from g)⟩
      obtain ⟨z, rfl⟩ := hv
      exact .int _ _) hap hs
     refine ⟨_, _, .slice (some ⟨s.nx, 0, none⟩) len cap, L, rl, ?_, ⟨by rw [hLl]; rfl, fun i q hq => ?_⟩, hk.ext ((Ext.refl s).new _), ?_, hR.Ew _, (Ext.refl s).new _⟩
     · have hk : cap < UNK := Nat.lt_of_le_of_lt hm (by decide)
       have hmap : (m.add s.nx ⟨b, o, c'.size - o, 4⟩) s.nx = some ⟨b, o, c'.size - o, 4⟩ := Map.add_same ..
       exact .slK (o := 0) hmap hk
     · have hil := BK hq
       rw [hLl] at hil
       have eq : q = fq i := by rw [hLg i hil] at hq; exact (Option.some.inj hq).symm
       subst eq
       refine ⟨(hfq i hil).1, s.nx, by simp, ?_, ?_⟩
       · rw [Gh _ _ _ _ _ _ _ hil, Nat.zero_add]
       · rw [ED (by rw [AA.Ak, if_pos rfl]) (by rw [fl]; omega), ER EW 4 L i (fq i) (fun _ _ => rfl) (hLg i hil)]
     · intro b' o' h'
       rw [AA.Ak] at h'
       split at h'
       · obtain rfl := Option.some.inj h'; rfl
       · exact hs b' o' h'
where
 u8_bd {z : Int} (h : (Lit.int IntKind.u8 z).wf = true) : 0 ≤ z ∧ z < 256 := by
  have h : (decide (IntKind.u8.min ≤ z) && decide (z ≤ IntKind.u8.max)) = true := h
  rw [Bool.and_eq_true] at h
  have h1 : (0 : Int) ≤ z := of_decide_eq_true h.1
  have h2 : z ≤ 255 := of_decide_eq_true h.2
  omega
end Go.Im
