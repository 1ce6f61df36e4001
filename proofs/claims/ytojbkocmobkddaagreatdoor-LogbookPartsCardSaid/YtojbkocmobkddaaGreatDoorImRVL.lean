/- The rows: an argument that is a list of strings, as the ideal machine sees it. -/
import Derived.Test.YtojbkocmobkddaaGreatDoorImRV
import Derived.Test.YtojbkocmobkddaaGreatDoorImQL
import Derived.Deep.Strs
set_option linter.all false
set_option maxRecDepth 100000
namespace Go.Im
open Go.Proofs
theorem NW : KOk GN := ⟨by rw [IQ, if_pos rfl], by rw [IQ, if_neg (by decide), if_pos rfl], Nat.le_refl _⟩
theorem Facts.str_apart {W : World} {bk off : Nat} (h : Facts W bk off) {b o : Nat} {s : ByteArray} (hc : W.cell? ⟨b, o, none⟩ = some (.string s)) : ∀ x ∈ XX.FX, x.1 ≠ b := by
 obtain ⟨c, t, fr, e1, e2⟩ := Fe hc
 have key : ∀ {g : Nat} {c' : Array Value} {t' : Nat} {fr' : Nat × Nat}, W.heap[g]? = some (.cells c' t' fr') → (∀ v ∈ c'.toList, ∀ s, v ≠ .string s) → g ≠ b := by
  intro g c' t' fr' hg hn e
  subst e
  rw [e1] at hg
  obtain ⟨rfl, _, _⟩ := Obj.cells.inj (Option.some.inj hg)
  exact hn _ (Array.mem_toList_iff.2 (Array.mem_of_getElem? e2)) _ rfl
 intro x hx
 have hx' : x = (1, G8) ∨ x = (2, Ea) ∨ x = (3, Ea) ∨ x = (4, JY) := by simpa [XX] using hx
 rcases hx' with rfl | rfl | rfl | rfl
 · obtain ⟨c1, t1, fr1, g1, g2⟩ := h.pow10
   refine key g1 ?_
   rw [show c1 = _ from g2]
   intro v hv s
   simp only [List.mem_map] at hv
   obtain ⟨z, _, rfl⟩ := hv
   simp
 · obtain ⟨u, v, t1, fr1, g1⟩ := h.err2
   exact key g1 (by simp)
 · obtain ⟨u, v, t1, fr1, g1⟩ := h.err3
   exact key g1 (by simp)
 · obtain ⟨n, t1, fr1, g1⟩ := h.maxl
   exact key g1 (by simp)
theorem ak {W : World} {a : Addr} {v : Value} (h : W.cell? (a.add 0) = some v) : a.spot = none := by
 unfold World.cell? at h
 split at h
 · have h0 : (a.add 0).spot = a.spot := rfl
   rw [h0] at h
   cases hs : a.spot with
   | none => rfl
   | some x => rw [hs] at h; simp at h
 · cases h
structure ArgS (m : Map) (W : World) (v : Value) (m' : Map) (s0 : A8) (v0 : Value) (L : List (List UInt8)) : Prop where
 rl : Rl XX m' s0 W
 v : BH m' v0 v
 rd : RdL s0 v0 L
 k : KOk s0
 still : ∀ b o, s0.get b = some o → o.turns = false
 le : m.le m'
theorem lX {W : World} {bk off : Nat} (hF : Facts W bk off) {m : Map} (hR : Rl XX m GN W) {H : Type} {enc : TypeId × Value → H} {fuel : Nat} {v : Value} {x : DataW H × List MemPlace} (h : DataW.trod enc Tryz.prog W 0 (fun _ => true) true fuel 22 [v] = some x) :
 ∃ m' s0 v0 L, ArgS m W v m' s0 v0 L := by
 rcases Deep.open_strs Tryz.underlying22 Tryz.underlying9 (by kernel_rfl) h with ⟨hcs, _⟩ | ⟨a, len, cap, mm, Sx, hcs, _, hl, hm, hmm, hx, hcell⟩
 · injection hcs with hcs _
   subst hcs
   exact ⟨m, GN, .slice none 0 0, [], hR, .sl0, ⟨rfl, fun i x hx => by simp at hx⟩, NW, Eb, m.le_refl⟩
 · injection hcs with hcs _
   subst hcs
   have hmm : mm = cap := hmm
   by_cases h0 : len = 0
   · subst h0
     exact ⟨m, GN, .slice (some ⟨0, 0, none⟩) 0 UNE, [], hR, .slE a cap, ⟨rfl, fun i x hx => by simp at hx⟩, NW, Eb, m.le_refl⟩
   · have hsp := ak (hcell 0 (by omega)).1
     obtain ⟨b, o, sp⟩ := a
     have hsp : sp = none := hsp
     subst hsp
     have hc : ∀ i, i < len → W.cell? ⟨b, o + i, none⟩ = some (.string (Sx i)) := fun i hi => by
      have := (hcell i (by omega)).1
      rwa [Dp] at this
     obtain ⟨c', t, fr, e1, e2⟩ := Fe (hc 0 (by omega))
     have hat : ∀ i, i < len → c'[o + i]? = some (.string (Sx i)) := fun i hi => by
      obtain ⟨c'', t', fr', g1, g2⟩ := Fe (hc i hi)
      rw [e1] at g1
      obtain ⟨rfl, _, _⟩ := Obj.cells.inj (Option.some.inj g1)
      exact g2
     have hsz : o + (len - 1) < c'.size := by
      have := hat (len - 1) (by omega)
      rw [Array.getElem?_eq_some_iff] at this
      exact this.1
     have hap := hF.str_apart (hc 0 (by omega))
     obtain ⟨L, hL⟩ : ∃ L : List (List UInt8), L = (List.range len).map fun i => toL (Sx i) := ⟨_, rfl⟩
     have hLl : L.length = len := by rw [hL]; simp
     have hLg : ∀ i, i < len → L[i]? = some (toL (Sx i)) := fun i hi => by rw [hL, List.getElem?_map, List.getElem?_range hi]; rfl
     have rl := hR.view (off := o) (el := 9) (esz := 1) (c := L.map strOf) e1 (by kernel_rfl) (by omega) (by rw [List.length_map, hLl]; omega) (fun i v hi => by
      have hil := BL hi
      rw [List.length_map, hLl] at hil
      rw [List.getElem?_map, hLg i hil] at hi
      obtain rfl := Option.some.inj hi
      refine ⟨_, hat i hil, ?_⟩
      have : strOf (toL (Sx i)) = .string (Sx i) := by unfold strOf; rw [Hf]
      rw [this]; exact .string _) hap Eb
     have hn : GN.nx = 10 := rfl
     refine ⟨_, _, .slice (some ⟨GN.nx, 0, none⟩) len cap, L, rl, ?_, ⟨by rw [hLl]; rfl, fun i y hy => ?_⟩, NW.ext ((Ext.refl GN).new _), ?_, hR.F8 _⟩
     · have hk : cap < UNK := Nat.lt_of_le_of_lt hm (by decide)
       have hmap : (m.add GN.nx ⟨b, o, c'.size - o, 1⟩) GN.nx = some ⟨b, o, c'.size - o, 1⟩ := Map.add_same ..
       exact .slK (o := 0) hmap hk
     · have hil := BL hy
       rw [hLl] at hil
       refine ⟨GN.nx, by simp, ?_, ?_⟩
       · rw [YT _ _ _ _ _ _ _ hil, Nat.mul_one, Nat.zero_add]
       · rw [Ah (by rw [A8.Aq, if_pos rfl]), List.getElem?_map, hy]; rfl
     · intro b' o' h'
       rw [A8.Aq] at h'
       split at h'
       · obtain rfl := Option.some.inj h'; rfl
       · exact Eb b' o' h'
end Go.Im
