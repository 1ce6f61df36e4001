/- The ideal machine: the worlds that the rows speak of: what the listed variables hold, and the ideal memory that stands for it. -/
import Derived.Test.YtojbkocmobkddaaGreatDoorImKX
import Derived.SliceStrings
import Derived.Lib.LaidTab
import Derived.LaidLaws
import Derived.Test.YtojbkocmobkddaaGreatDoorRows
set_option linter.all false
set_option maxRecDepth 100000
namespace Go.Im
open Go.Proofs Go.Proofs.YtojbkocmobkddaaGreatDoor
theorem Gg {P : Program} {w : World} {n : String} {d : DataW Unit} : ∀ {l : List (String × DataW Unit)} {ps : List MemPlace}, DataW.LaidVars P w l ps → (n, d) ∈ l →
 ∃ g t cs fuel p, P.globalNamed n = some g ∧ (P.globals[g]?).map (·.type) = some t ∧ w.var? P n = some cs ∧ DataW.trod (fun _ => ()) P w 0 (fun _ => true) false fuel t cs.toList = some (d, p)
 | [], _, _, h => by cases h
 | (n', d') :: r, ps, ⟨g, t, cs, fuel, p, q, h1, h2, h3, h4, h5, _⟩, h => by
  rcases List.mem_cons.1 h with e | h
  · obtain ⟨rfl, rfl⟩ := Prod.mk.inj e
    exact ⟨g, t, cs, fuel, p, h1, h2, h3, h4⟩
  · exact Gg h5 h
theorem Ph {P : Program} {w : World} {n : String} {g : Nat} {cs : Array Value} (hg : P.globalNamed n = some g) (h : w.var? P n = some cs) : ∃ t fr, w.heap[g]? = some (.cells cs t fr) := by
 unfold World.var? at h
 rw [hg] at h
 simp only [Option.bind_some] at h
 split at h
 · next c t fr e =>
   obtain rfl := Option.some.inj h
   exact ⟨t, fr, e⟩
 · cases h
noncomputable def laidL : List (String × DataW Unit) := Rows.logbookKnownRow.laid
structure Facts (W : World) (bk off : Nat) : Prop where
 kinds : ∃ t fr, W.heap[0]? = some (.cells #[.slice (some ⟨bk, off, none⟩) 4 4] t fr)
 strs : ∀ (i : Nat) (v : Value), kindsL[i]? = some v → W.cell? ⟨bk, off + i, none⟩ = some v
 pow10 : ∃ c t fr, W.heap[1]? = some (.cells c t fr) ∧ G8 c
 err2 : ∃ u v t fr, W.heap[2]? = some (.cells #[.iface u v] t fr)
 err3 : ∃ u v t fr, W.heap[3]? = some (.cells #[.iface u v] t fr)
 maxl : ∃ n t fr, W.heap[4]? = some (.cells #[.int .i64 n] t fr)
theorem Ko {α : Type} {a : Array α} {x : α} (h : a.toList = [x]) : a = #[x] := by
 apply Array.ext'; exact h
theorem iQ {W : World} {n : String} {g : Nat} {nm : String} {d : DataW Unit} {ps : List MemPlace} (hv : DataW.LaidVars Tryz.prog W laidL ps) (hm : (n, DataW.iface nm d) ∈ laidL) (hg : Tryz.prog.globalNamed n = some g)
 {ti : Nat} {ms : Array (String × TypeId)} (ht : (Tryz.prog.globals[g]?).map (·.type) = some ti) (hi : Tryz.prog.underlying ti = some (.interface ms)) : ∃ u v t fr, W.heap[g]? = some (.cells #[.iface u v] t fr) := by
 obtain ⟨g', t', cs, fuel, p, h1, h2, h3, h4⟩ := Gg hv hm
 obtain rfl := Option.some.inj (hg.symm.trans h1)
 obtain rfl := Option.some.inj (ht.symm.trans h2)
 obtain ⟨_, u, v, e, _, _⟩ := iface_of_trod hi h4
 obtain ⟨t, fr, h5⟩ := Ph hg h3
 rw [Ko e] at h5
 exact ⟨u, v, t, fr, h5⟩
theorem facts {W : World} (hL : laidMetH Tryz.prog laidL W) (hsh : W.ShapedOpen Tryz.prog) : ∃ bk off, Facts W bk off := by
 have hL' : laidMet Tryz.prog laidL W := hL
 obtain ⟨ps, hv, _, _⟩ := hL'
 have hk : ("agonic/logbook.kinds", DataW.slice [.lit (.string [98, 111, 119, 108]), .lit (.string [99, 97, 112]), .lit (.string [110, 101, 101, 100, 108, 101]), .lit (.string [112, 105, 118, 111, 116])] []) ∈ laidL := by
  show _ ∈ [_, _, _, _, _, _, _, _]
  simp only [List.mem_cons]
  exact .inr (.inr (.inr (.inr (.inr (.inr (.inl rfl))))))
 have hp : ("internal/strconv.uint64pow10", Lib.tabData .u64 Lib.pow10Tab) ∈ laidL := by
  show _ ∈ [_, _, _, _, _, _, _, _]
  simp only [List.mem_cons]
  exact .inr (.inr (.inl (by rfl)))
 have he3 : ("strconv.ErrRange", Rows.laid_strconv_ErrRange) ∈ laidL := by
  show _ ∈ [_, _, _, _, _, _, _, _]
  simp only [List.mem_cons]
  first | exact .inr (.inr (.inr (.inr (.inl rfl)))) | exact .inr (.inr (.inr (.inr (.inl trivial))))
 have he2 : ("strconv.ErrSyntax", Rows.laid_strconv_ErrSyntax) ∈ laidL := by
  show _ ∈ [_, _, _, _, _, _, _, _]
  simp only [List.mem_cons]
  first | exact .inr (.inr (.inr (.inr (.inr (.inl rfl))))) | exact .inr (.inr (.inr (.inr (.inr (.inl trivial)))))
 have f2 := iQ hv he2 (g := 2) (by kernel_rfl) (ti := 159) (by kernel_rfl) Tryz.underlying159
 have f3 := iQ hv he3 (g := 3) (by kernel_rfl) (ti := 159) (by kernel_rfl) Tryz.underlying159
 have f1 : ∃ c t fr, W.heap[1]? = some (.cells c t fr) ∧ G8 c := by
  obtain ⟨g', t', cs, fuel, p, h1, h2, h3, h4⟩ := Gg hv hp
  obtain rfl := Option.some.inj ((show Tryz.prog.globalNamed "internal/strconv.uint64pow10" = some 1 by kernel_rfl).symm.trans h1)
  obtain rfl := Option.some.inj ((show (Tryz.prog.globals[1]?).map (·.type) = some 217 by kernel_rfl).symm.trans h2)
  obtain ⟨t, fr, h5⟩ := Ph h1 h3
  refine ⟨cs, t, fr, h5, ?_⟩
  have := Lib.cells_of_tab Tryz.underlying217 Tryz.underlying198 (by kernel_rfl) (by kernel_rfl) h4
  apply Array.ext'
  rw [this]
 have f4 : ∃ n t fr, W.heap[4]? = some (.cells #[.int .i64 n] t fr) := by
  obtain ⟨cs, h1, h2, h3⟩ := hsh.1 4 #[.int .i64 0] 3 (of_decide_eq_true (by kernel_rfl)) (by kernel_rfl)
  obtain ⟨ts, ht, _, hall⟩ := h3 (by kernel_rfl)
  have hts : ts = [3] := Option.some.inj (ht.symm.trans (show Tryz.prog.cellTypes Tryz.prog.depth 3 = some [3] by kernel_rfl))
  subst hts
  have h2 : cs.size = 1 := h2
  obtain ⟨v, hv⟩ : ∃ v, cs = #[v] := by
   obtain ⟨l⟩ := cs
   match l, h2 with
   | [v], _ => exact ⟨v, rfl⟩
  subst hv
  obtain ⟨u, hu, hok⟩ := hall 0 v rfl
  have : u = 3 := by simpa using hu.symm
  subst this
  unfold Cell.ok at hok
  rw [Tryz.underlying3] at hok
  cases v with
  | int k n =>
   have : k = .i64 := by
    simp at hok
    exact hok.1
   subst this
   exact ⟨n, _, _, h1⟩
  | _ => simp at hok
 obtain ⟨g', t', cs, fuel, p, h1, h2, h3, h4⟩ := Gg hv hk
 obtain rfl := Option.some.inj ((show Tryz.prog.globalNamed "agonic/logbook.kinds" = some 0 by kernel_rfl).symm.trans h1)
 obtain rfl := Option.some.inj ((show (Tryz.prog.globals[0]?).map (·.type) = some 22 by kernel_rfl).symm.trans h2)
 obtain ⟨t, fr, h5⟩ := Ph h1 h3
 rcases ChangeShapes.open_strings Tryz.underlying22 Tryz.underlying9 (by kernel_rfl) h4 with ⟨_, hx⟩ | ⟨a, len, cap, ss, hcs, _, hle, _, hz, hx, hcell, _⟩
 · cases hx
 · have hz : ss.length = cap := hz
   have hx1 := congrArg Prod.fst hx
   have hx1 : DataW.slice [.lit (.string [98, 111, 119, 108]), .lit (.string [99, 97, 112]), .lit (.string [110, 101, 101, 100, 108, 101]), .lit (.string [112, 105, 118, 111, 116])] [] = DataW.slice (ChangeShapes.strs (ss.take len)) (ChangeShapes.strs (ss.drop len)) := hx1
   obtain ⟨e1, e2⟩ := DataW.slice.inj hx1
   have l1 := congrArg List.length e1
   have l2 := congrArg List.length e2
   simp [ChangeShapes.strs] at l1 l2
   have hlen : len = 4 := by omega
   have hcap : cap = 4 := by omega
   subst hlen; subst hcap
   rw [List.take_of_length_le (by omega)] at e1
   have hsp : a.spot = none := by
    have := hcell 0 (by omega)
    unfold World.cell? at this
    split at this
    · have h0 : (a.add 0).spot = a.spot := rfl
      rw [h0] at this
      cases hs : a.spot with
      | none => rfl
      | some x => rw [hs] at this; simp at this
    · cases this
   obtain ⟨bk, off, sp⟩ := a
   have hsp : sp = none := hsp
   subst hsp
   refine ⟨bk, off, ⟨⟨t, fr, by rw [Ko hcs] at h5; exact h5⟩, fun i v hi => ?_, f1, f2, f3, f4⟩⟩
   have hi4 : i < 4 := (List.getElem?_eq_some_iff.1 hi).1
   have hc := hcell i (by omega)
   rw [Dj] at hc
   rw [hc]
   obtain ⟨s0, s1, s2, s3, rfl⟩ : ∃ s0 s1 s2 s3, ss = [s0, s1, s2, s3] := by
    match ss, hz with
    | [s0, s1, s2, s3], _ => exact ⟨s0, s1, s2, s3, rfl⟩
   simp only [ChangeShapes.strs, List.map_cons, List.map_nil, List.cons.injEq, DataW.lit.injEq, Lit.string.injEq, and_true] at e1
   obtain ⟨g0, g1, g2, g3⟩ := e1
   have mk : ∀ (s : ByteArray) (l : List UInt8), l = s.data.toList → Value.string s = strOf l := fun s l e => by
    subst e
    show _ = Value.string (ofL (toL s))
    rw [JB]
   match i, hi4 with
   | 0, _ => obtain rfl := Option.some.inj hi; exact congrArg some (mk s0 _ g0)
   | 1, _ => obtain rfl := Option.some.inj hi; exact congrArg some (mk s1 _ g1)
   | 2, _ => obtain rfl := Option.some.inj hi; exact congrArg some (mk s2 _ g2)
   | 3, _ => obtain rfl := Option.some.inj hi; exact congrArg some (mk s3 _ g3)
theorem Rl.view {X : Cx} {m : Map} {s : AA} {w : World} (hR : Rl X m s w) {blk off el esz t : Nat} {fr : Nat × Nat} {c : List Value} {c' : Array Value} (hb : w.heap[blk]? = some (.cells c' t fr)) (he : isz X.P el = some esz)
 (hoff : off ≤ c'.size) (hlen : off + c.length ≤ c'.size) (hc : ∀ (i : Nat) (v : Value), c[i]? = some v → ∃ v', c'[off + i]? = some v' ∧ BH m v v') (hx : ∀ x ∈ X.FX, x.1 ≠ blk) (hnt : ∀ b o, s.get b = some o → o.turns = false) :
 Rl X (m.add s.nx ⟨blk, off, c'.size - off, esz⟩) (s.new (.cells c el false)) w where
 obj := by
  intro b q u h1 h2
  rw [AA.Ak] at h2
  by_cases e : b = s.nx
  · subst e
    rw [if_pos rfl] at h2
    obtain rfl := Option.some.inj h2
    rw [Map.add_same] at h1
    obtain rfl := Option.some.inj h1
    refine ⟨_, hb, .cells he (by simp only; omega) (by simp only; omega) (fun i v hi => ?_) (fun h => by cases h)⟩
    obtain ⟨v', g1, g2⟩ := hc i v hi
    exact ⟨v', g1, g2.mono (hR.Ew _)⟩
  · rw [if_neg e] at h2
    rw [Map.add_ne m _ e] at h1
    obtain ⟨u', h3, h4⟩ := hR.obj b q u h1 h2
    exact ⟨u', h3, h4.mono (hR.Ew _)⟩
 rng := by
  intro b q h1
  by_cases e : b = s.nx
  · subst e
    rw [Map.add_same] at h1
    obtain rfl := Option.some.inj h1
    exact ⟨FM hb, by simp⟩
  · rw [Map.add_ne m _ e] at h1
    have := hR.rng b q h1
    exact ⟨this.1, by simp; omega⟩
 inj := by
  intro b b' q q' u u' h1 h1' h2 h2' hn hn' he
  rw [AA.Ak] at h2 h2'
  by_cases e : b = s.nx
  · rw [if_pos e] at h2
    obtain rfl := Option.some.inj h2
    cases hn
  · rw [if_neg e] at h2
    rw [hnt b u h2] at hn
    cases hn
 glob := fun g hg => by
  obtain ⟨q, h1, h2⟩ := hR.glob g hg
  exact ⟨q, hR.Ew _ g q h1, h2⟩
 fix := fun x hx' => by
  obtain ⟨h1, h2⟩ := hR.fix x hx'
  refine ⟨h1, fun b q hb' => ?_⟩
  by_cases e : b = s.nx
  · subst e
    rw [Map.add_same] at hb'
    obtain rfl := Option.some.inj hb'
    exact fun e => hx x hx' e.symm
  · rw [Map.add_ne m _ e] at hb'
    exact h2 b q hb'
end Go.Im
namespace Go.Im
open Go.Proofs
theorem Fh {w : World} {b o : Nat} {v : Value} (h : w.cell? ⟨b, o, none⟩ = some v) : ∃ c t fr, w.heap[b]? = some (.cells c t fr) ∧ c[o]? = some v := by
 unfold World.cell? at h
 split at h
 · next c t fr e => exact ⟨c, t, fr, e, h⟩
 · cases h
theorem Facts.apart {W : World} {bk off : Nat} (h : Facts W bk off) : bk ≠ 0 ∧ ∀ x ∈ XX.FX, x.1 ≠ bk := by
 have h0 := h.strs 0 _ rfl
 obtain ⟨c, t, fr, e1, e2⟩ := Fh h0
 have key : ∀ {g : Nat} {c' : Array Value} {t' : Nat} {fr' : Nat × Nat}, W.heap[g]? = some (.cells c' t' fr') → (∀ v ∈ c'.toList, ∀ s, v ≠ .string s) → g ≠ bk := by
  intro g c' t' fr' hg hn e
  subst e
  rw [e1] at hg
  obtain ⟨rfl, _, _⟩ := Obj.cells.inj (Option.some.inj hg)
  exact hn _ (Array.mem_toList_iff.2 (Array.mem_of_getElem? e2)) _ rfl
 refine ⟨?_, fun x hx => ?_⟩
 · obtain ⟨t0, fr0, g⟩ := h.kinds
   exact (key g (by simp)).symm
 · have hx' : x = (1, G8) ∨ x = (2, EN) ∨ x = (3, EN) ∨ x = (4, Jo) := by simpa [XX] using hx
   rcases hx' with rfl | rfl | rfl | rfl
   · obtain ⟨c1, t1, fr1, g1, g2⟩ := h.pow10
     refine key g1 ?_
     rw [show c1 = _ from g2]
     intro v hv s
     simp only [List.mem_map] at hv
     obtain ⟨z, _, rfl⟩ := hv
     simp
   · obtain ⟨u, v, t1, fr1, g1⟩ := h.err2
     exact key g1 (by simp)
   · obtain ⟨u, v, t1, fr1, g1⟩ := h.err3
     exact key g1 (by simp)
   · obtain ⟨n, t1, fr1, g1⟩ := h.maxl
     exact key g1 (by simp)
theorem lS {W : World} {bk off : Nat} (hF : Facts W bk off) : ∃ m, Rl XX m OD W := by
 obtain ⟨hb0, hbx⟩ := hF.apart
 obtain ⟨c, t, fr, e1, e2⟩ := Fh (hF.strs 0 _ rfl)
 obtain ⟨t0, fr0, k0⟩ := hF.kinds
 have hat : ∀ (i : Nat) (v : Value), kindsL[i]? = some v → c[off + i]? = some v := fun i v hi => by
  obtain ⟨c', t', fr', g1, g2⟩ := Fh (hF.strs i v hi)
  rw [e1] at g1
  obtain ⟨rfl, _, _⟩ := Obj.cells.inj (Option.some.inj g1)
  exact g2
 have hsz : off + 4 ≤ c.size := by
  have := (Array.getElem?_eq_some_iff.1 (hat 3 _ rfl)).1
  omega
 have hw0 : ∀ (b : Nat) (p : Place), (fun b => if b = 0 then some ⟨0, 0, 1, 1⟩ else if b = 9 then some ⟨bk, off, c.size - off, 1⟩ else none : Map) b = some p → (b = 0 ∧ p = ⟨0, 0, 1, 1⟩) ∨ (b = 9 ∧ p = ⟨bk, off, c.size - off, 1⟩) := by
  intro b p hb
  simp only at hb
  split at hb
  · next e => exact .inl ⟨e, (Option.some.inj hb).symm⟩
  · split at hb
    · next e => exact .inr ⟨e, (Option.some.inj hb).symm⟩
    · cases hb
 refine ⟨fun b => if b = 0 then some ⟨0, 0, 1, 1⟩ else if b = 9 then some ⟨bk, off, c.size - off, 1⟩ else none, ?_, ?_, ?_, ?_, ?_⟩
 · intro b p o hb ho
   rw [Il] at ho
   rcases hw0 b p hb with ⟨rfl, rfl⟩ | ⟨rfl, rfl⟩
   · obtain rfl := Option.some.inj ho
     refine ⟨_, k0, .cells (by kernel_rfl) rfl (Nat.le_refl _) (fun i v hi => ?_) (fun h => by cases h)⟩
     cases i with
     | zero =>
      obtain rfl := Option.some.inj hi
      have := BH.slK (m := (fun b => if b = 0 then some ⟨0, 0, 1, 1⟩ else if b = 9 then some ⟨bk, off, c.size - off, 1⟩ else none)) (b := 9) (o := 0) (n := 4) (c := 4) (p := ⟨bk, off, c.size - off, 1⟩) rfl (by decide)
      exact ⟨_, rfl, this⟩
     | succ i => simp at hi
   · obtain rfl := Option.some.inj ho
     refine ⟨_, e1, .cells (by kernel_rfl) (by simp only; omega) (by show 4 ≤ c.size - off; omega) (fun i v hi => ?_) (fun h => by cases h)⟩
     refine ⟨v, hat i v hi, ?_⟩
     have hv := List.mem_of_getElem? hi
     simp only [kindsL, List.mem_cons, List.not_mem_nil, or_false] at hv
     rcases hv with rfl | rfl | rfl | rfl <;> exact .string _
 · intro b p hb
   rcases hw0 b p hb with ⟨rfl, rfl⟩ | ⟨rfl, rfl⟩
   · exact ⟨FM k0, by decide⟩
   · exact ⟨FM e1, by decide⟩
 · intro b b' p p' o o' _ _ ho _ ht
   rw [Hz b o ho] at ht
   cases ht
 · intro g hg
   obtain rfl : g = 0 := by simpa [XX] using hg
   exact ⟨_, rfl, rfl, rfl⟩
 · intro x hx
   refine ⟨?_, fun b p hb => ?_⟩
   · have hx' : x = (1, G8) ∨ x = (2, EN) ∨ x = (3, EN) ∨ x = (4, Jo) := by simpa [XX] using hx
     rcases hx' with rfl | rfl | rfl | rfl
     · exact hF.pow10
     · obtain ⟨u, v, t1, fr1, g1⟩ := hF.err2
       exact ⟨_, _, _, g1, _, rfl, .inr ⟨u, v, rfl⟩⟩
     · obtain ⟨u, v, t1, fr1, g1⟩ := hF.err3
       exact ⟨_, _, _, g1, _, rfl, .inr ⟨u, v, rfl⟩⟩
     · obtain ⟨n, t1, fr1, g1⟩ := hF.maxl
       exact ⟨_, _, _, g1, n, rfl⟩
   · rcases hw0 b p hb with ⟨rfl, rfl⟩ | ⟨rfl, rfl⟩
     · intro e
       have hx' : x = (1, G8) ∨ x = (2, EN) ∨ x = (3, EN) ∨ x = (4, Jo) := by simpa [XX] using hx
       rcases hx' with rfl | rfl | rfl | rfl <;> cases e
     · exact fun e => hbx x hx e.symm
end Go.Im
