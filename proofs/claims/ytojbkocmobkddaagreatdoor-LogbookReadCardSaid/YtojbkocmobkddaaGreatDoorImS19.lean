/- The ideal machine: functions of Go's library that are taken by their contracts. -/
import Derived.Test.YtojbkocmobkddaaGreatDoorImS18
import Derived.Test.YtojbkocmobkddaaGreatDoorImPL1
import Derived.Shelf.Strings.Split
import Derived.Shelf.Strings.OnBuilder
import Derived.Shelf.Strconv.Itoa3
import Derived.Shelf.Strconv.AtoiAll
import Derived.Shelf.Small.Strs
import Derived.Lib.AtoiErrMem
import Derived.Lib.AppendIntMem
set_option linter.all false
namespace Go.Im
open Go.Proofs Go.Shelf Go.RowKit
section
variable {X : Cx} {ρ : Ren} {m : Map} {s : AA} {w : World}
theorem Rl.below (hR : Rl X m s w) {w' : World} (hb : Below w.heap.size w w') : Rl X m s w' where
 obj := fun b p o h1 h2 => by
  obtain ⟨o', h3, h4⟩ := hR.obj b p o h1 h2
  exact ⟨o', by rw [hb.block _ (hR.rng b p h1).1]; exact h3, h4⟩
 rng := fun b p h => ⟨Nat.lt_of_lt_of_le (hR.rng b p h).1 hb.size, (hR.rng b p h).2⟩
 inj := hR.inj
 glob := hR.glob
 fix := hR.fix.frame (fun x hx => hb.block _ (hR.fix.lt hx)) fun b q h => .inl ⟨b, q, h, rfl⟩
theorem Step.below (m : Map) (s : AA) {w w' : World} (hb : Below w.heap.size w w') : Step m s w m s w' :=
 ⟨m.le_refl, Nat.le_refl _, fun _ _ h _ => h, hb.size, hb.os, hb.tape, hb.output, fun k hk _ => hb.block k hk, fun _ _ h => h, fun b p h _ => ⟨b, p, h, rfl⟩⟩
theorem KE (hR : Rl X m s w) {w' : World} (hb : Below w.heap.size w w') {v v' : Value} (hv : BH m v v') : Did X m s w v s v' w' :=
 ⟨⟨m, hR.below hb, Step.below m s hb, hv⟩⟩
theorem Rl.below_new (hR : Rl X m s w) {w' : World} (hb : Below w.heap.size w w') {o : CX} {o' : Obj} {p : Place} (hp : w.heap.size ≤ p.blk) (hat : w'.heap[p.blk]? = some o') (ho : Gt X (m.add s.nx p) p o o') :
 Rl X (m.add s.nx p) (s.new o) w' where
 obj := by
  intro b q u h1 h2
  rw [AA.Ak] at h2
  by_cases e : b = s.nx
  · subst e
    rw [if_pos rfl] at h2
    obtain rfl := Option.some.inj h2
    rw [Map.add_same] at h1
    obtain rfl := Option.some.inj h1
    exact ⟨o', hat, ho⟩
  · rw [if_neg e] at h2
    rw [Map.add_ne m p e] at h1
    obtain ⟨u', h3, h4⟩ := hR.obj b q u h1 h2
    exact ⟨u', by rw [hb.block _ (hR.rng b q h1).1]; exact h3, h4.mono (hR.Ew p)⟩
 rng := by
  intro b q h1
  by_cases e : b = s.nx
  · subst e
    rw [Map.add_same] at h1
    obtain rfl := Option.some.inj h1
    exact ⟨FM hat, by simp⟩
  · rw [Map.add_ne m p e] at h1
    have := hR.rng b q h1
    exact ⟨Nat.lt_of_lt_of_le this.1 hb.size, by simp; omega⟩
 inj := by
  intro b b' q q' u u' h1 h1' h2 h2' hn hn' he
  rw [AA.Ak] at h2 h2'
  by_cases e : b = s.nx
  · by_cases e' : b' = s.nx
    · omega
    · subst e
      rw [Map.add_same] at h1
      obtain rfl := Option.some.inj h1
      rw [Map.add_ne m p e'] at h1'
      have := (hR.rng b' q' h1').1
      omega
  · rw [Map.add_ne m p e] at h1
    rw [if_neg e] at h2
    by_cases e' : b' = s.nx
    · subst e'
      rw [Map.add_same] at h1'
      obtain rfl := Option.some.inj h1'
      have := (hR.rng b q h1).1
      omega
    · rw [Map.add_ne m p e'] at h1'
      rw [if_neg e'] at h2'
      exact hR.inj b b' q q' u u' h1 h1' h2 h2' hn hn' he
 glob := fun g hg => by
  obtain ⟨q, h1, h2⟩ := hR.glob g hg
  exact ⟨q, hR.Ew p g q h1, h2⟩
 fix := hR.fix.frame (fun x hx => hb.block _ (hR.fix.lt hx)) fun b q h1 => by
  by_cases e : b = s.nx
  · subst e
    rw [Map.add_same] at h1
    obtain rfl := Option.some.inj h1
    exact .inr hp
  · rw [Map.add_ne m p e] at h1
    exact .inl ⟨b, q, h1, rfl⟩
theorem Step.below_new (hR : Rl X m s w) {w' : World} (hb : Below w.heap.size w w') (o : CX) {p : Place} (hp : w.heap.size ≤ p.blk) : Step m s w (m.add s.nx p) (s.new o) w' where
 le := hR.Ew p
 nx := by simp
 KP := fun b q h1 hlt => by rw [Map.add_ne m p (by omega)] at h1; exact h1
 size := hb.size
 os := hb.os
 tape := hb.tape
 output := hb.output
 frame := fun k hk _ => hb.block k hk
 turned := by
  rintro k hk ⟨b, q, u, h1, h2, ht, rfl⟩
  rw [AA.Ak] at h2
  by_cases e : b = s.nx
  · subst e
    rw [Map.add_same] at h1
    obtain rfl := Option.some.inj h1
    omega
  · rw [if_neg e] at h2
    rw [Map.add_ne m p e] at h1
    exact ⟨b, q, u, h1, h2, ht, rfl⟩
 J8 := by
  intro b q h1 hlt
  by_cases e : b = s.nx
  · subst e
    rw [Map.add_same] at h1
    obtain rfl := Option.some.inj h1
    omega
  · rw [Map.add_ne m p e] at h1
    exact ⟨b, q, h1, rfl⟩
theorem IV (hR : Rl X m s w) {w' : World} (hb : Below w.heap.size w w') {o : CX} {o' : Obj} {p : Place} (hp : w.heap.size ≤ p.blk) (hat : w'.heap[p.blk]? = some o') (ho : Gt X (m.add s.nx p) p o o')
 {v v' : Value} (hv : BH (m.add s.nx p) v v') : Did X m s w v (s.new o) v' w' :=
 ⟨⟨m.add s.nx p, hR.below_new hb hp hat ho, Step.below_new hR hb o hp, hv⟩⟩
theorem CJ.one {m : Map} {a : Value} {l : List Value} (h : CJ m [a] l) : ∃ a', l = [a'] ∧ BH m a a' := by
 cases h with
 | cons h t => cases t with
  | nil => exact ⟨_, rfl, h⟩
theorem CJ.two {m : Map} {a b : Value} {l : List Value} (h : CJ m [a, b] l) : ∃ a' b', l = [a', b'] ∧ BH m a a' ∧ BH m b b' := by
 cases h with
 | cons h t =>
  obtain ⟨b', rfl, h2⟩ := t.one
  exact ⟨_, b', rfl, h, h2⟩
def Enters (X : Cx) (f : Nat) : Prop := ∃ fn c, X.P.funcs[f]? = some fn ∧ fn.body = some c ∧ (fn.name == "runtime.NumGoroutine") = false
structure Jm (X : Cx) (g : Nat) (p : Array Value → Prop) : Prop where
 ex : ∃ x ∈ X.FX, x.1 = g ∧ ∀ c, x.2 c → p c
theorem Jm.cells {g : Nat} {p : Array Value → Prop} (h : Jm X g p) (hR : Rl X m s w) : ∃ c t fr, w.heap[g]? = some (.cells c t fr) ∧ p c := by
 obtain ⟨x, hx, rfl, hp⟩ := h.ex
 obtain ⟨⟨c, t, fr, h1, h2⟩, _⟩ := hR.fix x hx
 exact ⟨c, t, fr, h1, hp c h2⟩
def Jo (c : Array Value) : Prop := ∃ n : Int, c[0]? = some (.int .i64 n)
def EN (c : Array Value) : Prop := ∃ v, c[0]? = some v ∧ (v = .nilIface ∨ ∃ t p, v = .iface t p)
def G8 (c : Array Value) : Prop := c = (Lib.pow10Tab.map fun z => Value.int .u64 z).toArray
theorem VY (L : Lays.n137 X.P ρ) (he : Enters X (ρ.f 137)) : FN X (ρ.f 137) .idxb := by
 refine ⟨he, fun args s r h m w args' n hR ha => ?_⟩
 unfold Ii at h
 split at h <;> try contradiction
 next x c _ =>
  obtain ⟨hc, h⟩ := Dn h
  obtain rfl := Option.some.inj h
  have hc := Lj hc
  obtain ⟨_, _, rfl, h1, h2⟩ := ha.two
  cases h1; cases h2
  refine callsIn_wide.2 ((Any.strings_IndexByte L x (c : Int) w).mono ?_)
  rintro e w' ⟨rfl, rfl⟩
  refine ⟨_, rfl, ?_⟩
  have e1 : G6 (toL x) c 0 = Lib.indexByte x.data.toList ((c : Int).toNat.toUInt8) := by rw [U5 c hc]; rfl
  show Did X m s _ (.int .i64 (G6 (toL x) c 0)) s _ _
  rw [e1]
  exact Did.same hR (.int _ _)
theorem VZ (L : LaysM.n171 X.P ρ) (he : Enters X (ρ.f 171)) {g : Nat} (hg : X.P.globalNamed "internal/strconv.uint64pow10" = some g) (hf : Jm X g G8) : FN X (ρ.f 171) .itoa := by
 refine ⟨he, fun args s r h m w args' n hR ha => ?_⟩
 unfold Ii at h
 split at h <;> try contradiction
 next z _ =>
  obtain ⟨hc, h⟩ := Dn h
  obtain rfl := Option.some.inj h
  obtain ⟨_, rfl, h1⟩ := ha.one
  cases h1
  have hz : -9223372036854775808 ≤ z ∧ z ≤ 9223372036854775807 := by
   cases z with
   | ofNat k =>
    have : Nat.blt k 9223372036854775808 = true := hc
    have := Lj this
    constructor
    · exact Int.le_trans (by decide) (Int.natCast_nonneg k)
    · show (k : Int) ≤ _; omega
   | negSucc k =>
    have : Nat.blt k 9223372036854775808 = true := hc
    have := Lj this
    constructor <;> omega
  have htab : Lib.TabIs X.P w "internal/strconv.uint64pow10" .u64 Lib.pow10Tab := by
   obtain ⟨c, t, fr, h1, h2⟩ := hf.cells hR
   show w.var? X.P _ = _
   unfold World.var?
   rw [hg]
   simp only [Option.bind_some, h1]
   rw [h2]
  refine callsIn_wide.2 ((Any.strconv_Itoa L z hz.1 hz.2 w htab).mono ?_)
  rintro e w' ⟨rfl, k, os, rfl⟩
  refine ⟨_, rfl, ?_⟩
  show Did X m s w (.string (ofL (BO z))) s _ _
  rw [iO z hz.1 hz.2]
  exact KE hR (Lib.below_grow _ w (Nat.le_refl _) k os) (.string _)
theorem Va (L : LaysC.n172 X.P ρ) (he : Enters X (ρ.f 172)) (h15 : Jm X (ρ.g 15) EN) (h16 : Jm X (ρ.g 16) EN) : FN X (ρ.f 172) (.atoi (ρ.t 168)) := by
 refine ⟨he, fun args s r h m w args' n hR ha => ?_⟩
 have errAt : ∀ {g : Nat}, Jm X g EN → ∃ ev, w.cell? ⟨g, 0, none⟩ = some ev ∧ (ev = .nilIface ∨ ∃ te pe, ev = .iface te pe) := by
  intro g hg
  obtain ⟨c, t, fr, h1, v, h2, h3⟩ := hg.cells hR
  exact ⟨v, by rw [Lu h1]; exact h2, h3⟩
 unfold Ii at h
 split at h <;> try contradiction
 next t x hp =>
  obtain rfl : ρ.t 168 = t := by cases hp; rfl
  obtain ⟨hc, h⟩ := Dn h
  have hl : x.size ≤ 281474976710656 := Ae.1 hc
  obtain ⟨_, rfl, h1⟩ := ha.one
  cases h1
  have e1 : x.data.toList = toL x := rfl
  unfold Ec at h
  cases hat : Lib.atoiAll (toL x) with
  | ok z =>
   rw [hat] at h
   obtain rfl := Option.some.inj h
   refine callsIn_wide.2 ((Any.strconv_Atoi_ok L x (by omega) z (e1 ▸ hat) w).mono ?_)
   rintro e w' ⟨rfl, hw⟩
   refine ⟨_, rfl, ?_⟩
   have hv : BH m (.tuple ⟨[.int .i64 z, .nilIface]⟩) (.tuple #[.int .i64 z, .nilIface]) := .tuple (.cons (.int _ _) (.cons .Tf .nil))
   rcases hw with rfl | ⟨t, rfl⟩
   · exact Did.same hR hv
   · exact KE hR (Lib.bytesWorld_below w _ t) hv
  | range =>
   rw [hat] at h
   obtain rfl := Option.some.inj h
   obtain ⟨ev, g1, g2⟩ := errAt h16
   refine callsIn_wide.2 ((Any.strconv_Atoi_range L x hl (e1 ▸ hat) ev w g1 g2).mono ?_)
   rintro e w' ⟨N, rfl, hN, hat', hb⟩
   refine ⟨_, rfl, ?_⟩
   refine IV (p := ⟨N, 0, 0, 0⟩) hR hb hN hat' (.dead _) ?_
   have := BH.ptr (m := m.add s.nx ⟨N, 0, 0, 0⟩) (b := s.nx) (o := 0) (Map.add_same _ _ _)
   exact .tuple (.cons (.int _ _) (.cons (.iface _ this) .nil))
  | _ =>
   rw [hat] at h
   obtain rfl := Option.some.inj h
   obtain ⟨ev, g1, g2⟩ := errAt h15
   refine callsIn_wide.2 ((Any.strconv_Atoi_syntax L x hl (e1 ▸ hat) ev w g1 g2).mono ?_)
   rintro e w' ⟨N, rfl, hN, hat', hb⟩
   refine ⟨_, rfl, ?_⟩
   refine IV (p := ⟨N, 0, 0, 0⟩) hR hb hN hat' (.dead _) ?_
   have := BH.ptr (m := m.add s.nx ⟨N, 0, 0, 0⟩) (b := s.nx) (o := 0) (Map.add_same _ _ _)
   exact .tuple (.cons (.int _ _) (.cons (.iface _ this) .nil))
theorem ZB (l : List ByteArray) : (l.map (·.data.toList)).map strOf = l.map Value.string := by
 rw [List.map_map]
 apply List.map_congr_left
 intro b _
 show Value.string (ofL (toL b)) = _
 rw [JB]
theorem OB (m : Map) : ∀ l : List ByteArray, CJ m (l.map Value.string) (l.map Value.string)
 | [] => .nil
 | b :: l => .cons (.string b) (OB m l)
theorem U6 (L : Lays.n146 X.P ρ) (hi9 : (X.P.info? (ρ.t 9)).map (fun i => (i.zero, i.size, i.bytes)) = some (some (.string ByteArray.empty), 1, 16)) (he : Enters X (ρ.f 146)) (h1 : Jm X (ρ.g 1) Jo) :
 FN X (ρ.f 146) (.split (ρ.t 9)) := by
 refine ⟨he, fun args s r h m w args' n hR ha => ?_⟩
 unfold Ii at h
 split at h <;> try contradiction
 next el x c hp =>
  obtain rfl : ρ.t 9 = el := by cases hp; rfl
  obtain ⟨hc, h⟩ := Dn h
  obtain rfl := Option.some.inj h
  have hl : x.size < 4294967281 := Lj hc
  obtain ⟨_, _, rfl, h1, h2⟩ := ha.two
  cases h1; cases h2
  obtain ⟨cm, t, fr, g1, k, g2⟩ := h1.cells hR
  have hk : w.cell? ⟨ρ.g 1, 0, none⟩ = some (.int .i64 k) := by rw [Lu g1]; exact g2
  have h1s : 1 ≤ (ByteArray.mk #[c]).size := by show 1 ≤ 1; omega
  have hlen := Lib.splitB_all ⟨#[c]⟩ h1s 0 _ x rfl
  have hdata : (Lib.splitB ⟨#[c]⟩ 0 (Lib.countB x ⟨#[c]⟩) x).map (·.data.toList) = BJ c (toL x) := by
   rw [Lib.splitB_data]
   exact PZ c (toL x)
  refine callsIn_wide.2 ((Any.strings_Split L hi9 x ⟨#[c]⟩ k w hl hk h1s).mono ?_)
  rintro e w' ⟨rfl, rfl⟩
  refine ⟨_, rfl, ?_⟩
  have hsl : (BJ c (toL x)).length = Lib.countB x ⟨#[c]⟩ + 1 := by rw [← hdata, List.length_map, hlen]
  have hsz : isz X.P (ρ.t 9) = some 1 := by
   cases hi : X.P.info? (ρ.t 9) with
   | none => rw [hi] at hi9; simp at hi9
   | some i => rw [hi] at hi9; simp at hi9; simp [isz, hi, hi9]
  have hcells : (BJ c (toL x)).map strOf = (Lib.splitB ⟨#[c]⟩ 0 (Lib.countB x ⟨#[c]⟩) x).map Value.string := by rw [← hdata, ZB]
  have hcap : Lib.countB x ⟨#[c]⟩ + 1 < UNK := by
   have := Lib.countB_le ⟨#[c]⟩ h1s x.size x (Nat.le_refl _)
   show _ < 9223372036854775808
   omega
  show Did X m s w (Bo (BJ c (toL x)).length (BJ c (toL x)).length s.nx) (s.new (.cells ((BJ c (toL x)).map strOf) (ρ.t 9) true)) _ _
  rw [hsl, hcells]
  obtain ⟨ca, hca⟩ : ∃ ca, ca = ((Lib.splitB ⟨#[c]⟩ 0 (Lib.countB x ⟨#[c]⟩) x).map Value.string).toArray := ⟨_, rfl⟩
  rw [← hca]
  refine IV (p := ⟨w.heap.size, 0, ca.size, 1⟩) (o' := .cells ca (ρ.t 9) (0, 0)) hR ((Below.refl _ _).alloc (Nat.le_refl _) _) (Nat.le_refl _) (by show (w.heap.push _)[w.heap.size]? = _; simp) ?_ ?_
  · exact Gt.new hsz (by rw [hca]; simpa using OB _ _)
  · exact PE _ rfl hcap
theorem OC : ∀ {l l' : List Value} {ts : List (List UInt8)}, textsOf l = some ts → CJ m l l' → ∃ xs : List ByteArray, l' = xs.map Value.string ∧ xs.map (·.data.toList) = ts
 | [], _, ts, h, .nil => by
  obtain rfl := Option.some.inj h
  exact ⟨[], rfl, rfl⟩
 | v :: l, _, ts, h, .cons hv t => by
  cases hv <;> try (simp [textsOf] at h; done)
  case string b =>
   simp only [textsOf, Ag] at h
   obtain ⟨ts', h1, h2⟩ := h
   obtain rfl := Option.some.inj h2
   obtain ⟨xs, rfl, rfl⟩ := OC h1 t
   exact ⟨b :: xs, rfl, rfl⟩
theorem Vb (L : Lays.n156 X.P ρ) (E : Builder.Extra X.P ρ) (he : Enters X (ρ.f 156)) : FN X (ρ.f 156) .join := by
 refine ⟨he, fun args s r h m w args' n hR ha => ?_⟩
 unfold Ii at h
 split at h <;> try contradiction
 next base len cap sep _ =>
  obtain ⟨_, _, rfl, h1, h2⟩ := ha.two
  cases h2
  cases base with
  | none =>
   obtain rfl := Option.some.inj h
   cases h1
   refine callsIn_wide.2 ((Any.strings_Join_none L E none 0 sep w).mono ?_)
   rintro e w' ⟨rfl, rfl⟩
   exact ⟨_, rfl, Did.same hR (.string _)⟩
  | some a =>
   obtain ⟨hlc, h⟩ := Dn h
   have hlc := Ae.1 hlc
   simp only [Ag] at h
   obtain ⟨l, g1, ts, g2, h⟩ := h
   obtain ⟨hsum, h⟩ := Dn h
   obtain rfl := Option.some.inj h
   have hsum : Dp ts + len * (toL sep).length < 1000000000 := Lj hsum
   have main : ∀ {p : Place} {b o c : Nat}, a = ⟨b, o, none⟩ → m b = some p → len ≤ c → CallsIn Fence.wide n X.P (ρ.f 156) ⟨[.slice (some ⟨p.blk, p.sh + o, none⟩) len c, .string sep]⟩ w fun e w' => ∃ v', e = .returned v' ∧ Did X m s w (strOf (C9 (toL sep) ts)) s v' w' := by
    rintro p b o c rfl hm hle
    obtain ⟨l', r1, r2, r3⟩ := L6 hR hm g1
    obtain ⟨xs, rfl, rfl⟩ := OC g2 r1
    have hlx : xs.length = len := by have := r1.length; simp at this; omega
    have hlenj := join_length (toL sep) (xs.map (·.data.toList))
    rw [List.length_map, hlx] at hlenj
    have hsl := KZ (xs.map (·.data.toList))
    rw [List.length_map] at hsl
    subst hlx
    refine callsIn_wide.2 ((Any.strings_Join L E p.blk (p.sh + o) c xs sep w (fun j x hx => ?_) (hR.rng b p hm).1 (by omega) hle ?_).mono ?_)
    · have := r3 j _ (show (xs.map Value.string)[j]? = some (.string x) by simp [hx])
      rw [Dj] at this
      exact this
    · rw [← NM]
      have : sep.data.toList = toL sep := rfl
      rw [this]; omega
    · rintro e w' ⟨rfl, hb⟩
      refine ⟨_, rfl, ?_⟩
      rw [NM]
      exact KE hR hb (.string _)
   cases h1 with
   | slK hm hc => exact main rfl hm hlc
   | slU hm hc hz hn => exact main rfl hm hn
   | slE a c =>
    obtain rfl : l = [] := by
     unfold AA.rd Iy at g1
     split at g1
     · unfold sub at g1
       have := (Dn g1).2
       simpa using (Option.some.inj this).symm
     · cases g1
    obtain rfl := Option.some.inj g2
    refine callsIn_wide.2 ((Any.strings_Join_none L E (some a) c sep w).mono ?_)
    rintro e w' ⟨rfl, rfl⟩
    exact ⟨_, rfl, Did.same hR (.string _)⟩
end
end Go.Im
