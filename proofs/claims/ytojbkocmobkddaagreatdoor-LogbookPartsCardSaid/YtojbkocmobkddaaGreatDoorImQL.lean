/- Questions to both books: the home of a part (program). -/
import Derived.Test.YtojbkocmobkddaaGreatDoorImPB
import Derived.Test.YtojbkocmobkddaaGreatDoorImEC
import Derived.Test.YtojbkocmobkddaaGreatDoorImQR
set_option linter.all false
set_option maxRecDepth 100000
set_option maxHeartbeats 4000000
namespace Go.Im
section
variable {s : A8} {b o : Nat} {H : Hist} {F : Nat → Prop} {tag : Nat → Nat} {cb pb lb eb : Option Nat} {E : List Nat} {lv ev : Value}
theorem k20_J1 (self : Self) (N : Nat) (i : Int) (h : DK s b H F tag o cb pb lb eb E lv ev) (c : 1 ≤ i ∧ i ≤ ((run H).parts.length : Int)) : Wy B20 self N (.pointer (some ⟨b, 0, none⟩)) (.int .i64 i) s = .ok (GI (run H) i, s) := by
 have r0 : s.rd1 b 0 = some (.pointer (some ⟨o, 0, none⟩)) := by rw [Ah h.hb]; rfl
 obtain ⟨cv, pv, q0, q1, hC, hP⟩ := h.off.slices
 have inv := h.ok.inv
 have hpl := inv.QG
 have hlen := h.len
 obtain ⟨k, hk⟩ : ∃ k, k = (i - 1).toNat := ⟨_, rfl⟩
 have hi : BK .i64 (i - 1) = (k : Int) := by rw [wrap64 (by omega)]; omega
 have hkl : k < (run H).parts.length := by omega
 obtain ⟨p, hp⟩ := BX hkl
 obtain ⟨j, hj1, hj2⟩ := inv.inv.home p (List.mem_of_getElem? hp)
 obtain ⟨cc, hcc⟩ := BX hj2
 have hho : Dt (run H).parts k = (j : Int) := by unfold Dt; rw [hp]; exact hj1
 obtain ⟨b1, hb1, icj⟩ := hC.iad j hj2 .i64
 obtain ⟨b1', hb1', g1⟩ := h.off.XJ hcc (i := 0) (x := strOf cc.name) (by decide) rfl
 obtain rfl : b1 = b1' := Option.some.inj (hb1.symm.trans hb1')
 have g1 : s.rd1 b1 (j * 21) = some (strOf cc.name) := g1
 obtain ⟨b2, hb2, ipk⟩ := hP.iad k hkl .i64
 obtain ⟨b2', hb2', g2⟩ := h.off.kQ hp (i := 1) (x := .int .i64 p.2) (by decide) rfl
 obtain rfl : b2 = b2' := Option.some.inj (hb2.symm.trans hb2')
 rw [hj1] at g2
 have hnm : nameAt (run H).comps ((j : Int)).toNat = cc.name := by unfold nameAt; rw [show ((j : Int)).toNat = j from rfl, hcc]
 have ans : GI (run H) i = .tuple ⟨[strOf cc.name, .int .i64 0]⟩ := by unfold GI; rw [if_pos c, ← hk, hho, hnm]
 rw [ans, ZJ B20 rfl]
 simp only [cond_true, CB, AP, AY, bind_ok, Am, Nat.zero_add, BN, r0, CO, Bc, q0, q1, Qb, hi, ipk, g2, icj, Nat.add_zero, g1]
theorem k20 (n : Nat) (hn : 100 ≤ n) (i : Int) (h : DK s b H F tag o cb pb lb eb E lv ev) : AV AB Ak n (.fn 20) [.pointer (some ⟨b, 0, none⟩), .int .i64 i] s = .ok (GI (run H) i, s) := by
 obtain ⟨m, rfl, _⟩ := Af (show 1 ≤ n by omega)
 have d51 := k51 m (by omega) h
 have r0 : s.rd1 b 0 = some (.pointer (some ⟨o, 0, none⟩)) := by rw [Ah h.hb]; rfl
 obtain ⟨cv, pv, q0, q1, hC, hP⟩ := h.off.slices
 have lenP := hP.len_eq
 have tf : (true == false) = false := rfl
 have no : ¬ (1 ≤ i ∧ i ≤ ((run H).parts.length : Int)) → GI (run H) i = .tuple ⟨[.string ⟨#[]⟩, .int .i64 6]⟩ := fun c => by unfold GI; rw [if_neg c]; rfl
 rw [Ap 20 c20 rfl, f20_eq]
 by_cases c1 : i < 1
 · rw [no (by omega)]
   simp only [d51, bind_ok, AO, cond_false, BQ, decide_eq_true c1, tf, GR, D6, AP, AY, cond_true]
 · by_cases c2 : ((run H).parts.length : Int) < i
   · rw [no (by omega)]
     simp only [d51, bind_ok, AO, cond_false, BQ, decide_eq_false c1, beq_self_eq_true, DZ, CB, AP, AY, Am, Nat.zero_add, BN, r0, q1, lenP, Dh, decide_eq_true c2, CZ, cond_true]
   · have d := k20_J1 (AV AB Ak m) m i h ⟨by omega, by omega⟩
     simp only [d51, bind_ok, AO, cond_false, BQ, decide_eq_false c1, beq_self_eq_true, DZ, CB, AP, AY, Am, Nat.zero_add, BN, r0, q1, lenP, Dh, decide_eq_false c2, CZ, d]
end
end Go.Im
set_option maxRecDepth 100000
set_option maxHeartbeats 4000000
namespace Go.Im
theorem k13 (n : Nat) (hn : 1 ≤ n) (s : A8) (h : KOk s) : AV AB Ak n (.fn 13) [] s = .ok (.bool true, s) := by
 obtain ⟨m, rfl, _⟩ := Af hn
 rw [Jw 13 .works rfl]
 show BD _ (cond (LY s) (some (Value.bool true, s)) none) = _
 have e : LY s = true := by
  show (TD (s.get 0) && TF (s.get 9)) = true
  rw [h.k0, h.k9]
  decide +kernel
 rw [e]; rfl
theorem strNe (x : List UInt8) : BJ .neq (strOf x) (strOf x) = some (.bool false) := by
 have : BJ .neq (strOf x) (strOf x) = some (.bool (!decide (x = x))) := by unfold strOf; rw [iU]; rfl
 rw [this]; simp
theorem eqA4 (a b c d : Int) : IG (.a 4) true (.agg ⟨[iV a, iV b, iV c, iV d]⟩) (.agg ⟨[iV a, iV b, iV c, iV d]⟩) = some (.bool false) := by
 have q : ∀ z : Int, FD (iV z) (iV z) = some true := fun z => by
  show cond (Hy .i64 .i64) (some (eqF z z)) none = _
  rw [DU, FN, decide_eq_true rfl]; rfl
 show ob (ob (FD (iV a) (iV a)) fun r => cond r (ob (FD (iV b) (iV b)) fun r => cond r (ob (FD (iV c) (iV c)) fun r => cond r (ob (FD (iV d) (iV d)) fun r => cond r (some true) (some false)) (some false)) (some false)) (some false)) (fun r => some (Value.bool (cond true (!r) r))) = _
 rw [q, q, q, q]; rfl
theorem eqA2 (a b : Int) : IG (.a 2) true (.agg ⟨[iV a, iV b]⟩) (.agg ⟨[iV a, iV b]⟩) = some (.bool false) := by
 have q : ∀ z : Int, FD (iV z) (iV z) = some true := fun z => by
  show cond (Hy .i64 .i64) (some (eqF z z)) none = _
  rw [DU, FN, decide_eq_true rfl]; rfl
 show ob (ob (FD (iV a) (iV a)) fun r => cond r (ob (FD (iV b) (iV b)) fun r => cond r (some true) (some false)) (some false)) (fun r => some (Value.bool (cond true (!r) r))) = _
 rw [q, q]; rfl
theorem Qh (H : Hist) (x : List UInt8) : ∃ a b c d e, Ib H x = .tuple ⟨[.agg ⟨[iV a, iV b, iV c, iV d]⟩, .int .i64 e]⟩ := by
 unfold Ib
 split
 · exact ⟨_, _, _, _, _, rfl⟩
 · split
   · exact ⟨_, _, _, _, _, rfl⟩
   · exact ⟨_, _, _, _, _, rfl⟩
theorem UO (O : Off) (i : Int) : ∃ t e, GI O i = .tuple ⟨[strOf t, .int .i64 e]⟩ := by
 unfold GI; split <;> exact ⟨_, _, rfl⟩
theorem UQ (H : Hist) (x : List UInt8) : ∃ t e, KC H x = .tuple ⟨[strOf t, .int .i64 e]⟩ := by
 unfold KC; split <;> exact ⟨_, _, rfl⟩
theorem QX (H : Hist) (i j : Int) : ∃ t e, Fj H i j = .tuple ⟨[strOf t, .int .i64 e]⟩ := by
 unfold Fj E5
 split
 · exact ⟨_, _, rfl⟩
 · split
   · split
     · split <;> exact ⟨_, _, rfl⟩
     · exact ⟨_, _, rfl⟩
   · exact ⟨_, _, rfl⟩
theorem aY (m N : Nat) (hm : 1 ≤ m) {s : A8} (hk : KOk s) {L : List (Int × Int)} {b1 b2 : Option Nat} {v1 v2 : Value} (h1 : Ba s b1 45 2 (L.flatMap Dj) L.length v1) (h2 : Ba s b2 44 2 (L.flatMap Dj) L.length v2) (hl : L.length ≤ 8) : ∀ (d i f : Nat), i + d = L.length → d < f →
 YK B3 (AV AB Ak m) N f v1 v2 (.int .i64 (i : Int)) s = .ok (.bool true, s) := by
 intro d
 induction d with
 | zero =>
  intro i f hi hf
  obtain ⟨f, rfl, _⟩ := Af hf
  obtain rfl : i = L.length := by omega
  have : ¬ (L.length : Int) < (L.length : Int) := by omega
  rw [VW B3 rfl]
  simp only [h1.len_eq, AP, AY, bind_ok, BP, decide_eq_false this, AO, cond_false, k13 m hm s hk]
 | succ d ih =>
  intro i f hi hf
  obtain ⟨f, rfl, _⟩ := Af hf
  have hil : i < L.length := by omega
  obtain ⟨p, hp⟩ := BX hil
  have hlt : (i : Int) < (L.length : Int) := by omega
  have hw : BK .i64 ((i : Int) + 1) = ((i + 1 : Nat) : Int) := by rw [wrap64 (by omega)]; omega
  obtain ⟨b, rfl, ia⟩ := h1.iad i hil .i64
  obtain ⟨b', rfl, ia'⟩ := h2.iad i hil .i64
  have r1 : CQ s 2 (.pointer (some ⟨b, i * 2, none⟩)) = some (.agg ⟨Dj p⟩) := Dw (by rw [h1.rd (by omega), Fg Dj 2 L i p (fun _ _ => rfl) hp])
  have r2 : CQ s 2 (.pointer (some ⟨b', i * 2, none⟩)) = some (.agg ⟨Dj p⟩) := Dw (by rw [h2.rd (by omega), Fg Dj 2 L i p (fun _ _ => rfl) hp])
  have q : IG (.a 2) true (.agg ⟨Dj p⟩) (.agg ⟨Dj p⟩) = some (.bool false) := eqA2 p.1 p.2
  have e := ih (i + 1) f (by omega) (by omega)
  rw [VW B3 rfl]
  simp only [h1.len_eq, AP, AY, bind_ok, BP, decide_eq_true hlt, AO, cond_true, cond_false, jB B3 rfl, Bc, CO, ia, ia', r1, r2, q, EJ, hw, e]
theorem aZ (m N : Nat) (hm : 2500 ≤ m) (hN : 20 ≤ N) {s : A8} (hk : KOk s) {b rb : Nat} {H : Hist} {F G : Nat → Prop} (hB : Cb s b H F) (hR : Fz s rb H G) (i1 i2 : Int) (x : List UInt8) :
 ∃ s', iW B3 (AV AB Ak m) N (.int .i64 i1) (.int .i64 i2) (.string (ofL x)) (.pointer (some ⟨b, 0, none⟩)) (.pointer (some ⟨rb, 0, none⟩)) s = .ok (.bool true, s') := by
 obtain ⟨tag, o, cb, pb, lb, eb, E, lv, ev, hb⟩ := hB
 obtain ⟨lb', lv', hr⟩ := hR
 obtain ⟨t1, e1, a1⟩ := QX H i1 i2
 obtain ⟨t2, e2, a2⟩ := UO (run H) i1
 obtain ⟨p0, p1, p2, p3, e3, a3⟩ := Qh H x
 obtain ⟨t4, e4, a4⟩ := UQ H x
 obtain ⟨s1, d18, x1⟩ := k18 m (by omega) i1 i2 hb
 obtain ⟨s2, d19, x2⟩ := k19 m (by omega) i1 i2 (hr.ext x1)
 have x02 := x1.trans x2
 have d20 := k20 m (by omega) i1 (hb.ext x02)
 obtain ⟨s3, d21, x3⟩ := k21 m (by omega) i1 (hr.ext x02)
 have x03 := x02.trans x3
 obtain ⟨s4, d22, x4⟩ := k22 m (by omega) x (hb.ext x03)
 have x04 := x03.trans x4
 obtain ⟨s5, hs5⟩ : ∃ s5, s5 = s4.new (.cells EC 33 true) := ⟨_, rfl⟩
 have y5 : Ext s4 s5 := by rw [hs5]; exact (Ext.refl s4).new _
 have n5 : s5.nx = s4.nx + 1 := by rw [hs5]; rfl
 obtain ⟨s6, w6, l6, g6, n6, f6⟩ := w4 (s := s5) (q := s4.nx) (c := EC) (by rw [hs5, A8.Aq, if_pos rfl]) rfl (vs := [iV p0, iV p1, iV p2, iV p3]) rfl rfl
 have x6 : Ext s4 s6 := ⟨by omega, fun i hi => by rw [f6 i (by omega)]; exact y5.get i hi⟩
 have x06 := x04.trans x6
 obtain ⟨s7, d23, x7⟩ := k23 m (by omega) x (hr.ext x06)
 have x07 := x06.trans x7
 obtain ⟨s8, hs8⟩ : ∃ s8, s8 = s7.new (.cells EC 33 true) := ⟨_, rfl⟩
 have y8 : Ext s7 s8 := by rw [hs8]; exact (Ext.refl s7).new _
 have n8 : s8.nx = s7.nx + 1 := by rw [hs8]; rfl
 obtain ⟨s9, w9, l9, g9, n9, f9⟩ := w4 (s := s8) (q := s7.nx) (c := EC) (by rw [hs8, A8.Aq, if_pos rfl]) rfl (vs := [iV p0, iV p1, iV p2, iV p3]) rfl rfl
 have x9 : Ext s7 s9 := ⟨by omega, fun i hi => by rw [f9 i (by omega)]; exact y8.get i hi⟩
 have x09 := x07.trans x9
 obtain ⟨s10, d24, x10⟩ := k24 m (by omega) x (hb.ext x09)
 have x010 := x09.trans x10
 obtain ⟨s11, d25, x11⟩ := k25 m (by omega) x (hr.ext x010)
 have x011 := x010.trans x11
 obtain ⟨v26, s12, d26, x12, base1, sv1, rfl, hA1, _⟩ := k26 m (by omega) x (hb.ext x011)
 have x012 := x011.trans x12
 obtain ⟨v27, s13, d27, x13, base2, sv2, rfl, hA2, _⟩ := k27 m (by omega) x (hr.ext x012)
 have hin := NV hb.ok x
 have hA1 := hA1.frame x13.nx fun b e => x13.get b (hA1.lt e)
 have xa : Ext s6 s13 := (((((x7.trans x9).trans x10).trans x11).trans x12).trans x13)
 have xb : Ext s9 s13 := (((x10.trans x11).trans x12).trans x13)
 have ge6 : s13.get s4.nx = some (.cells [iV p0, iV p1, iV p2, iV p3] 33 true) := (xa.get _ (by omega)).trans g6
 have ge9 : s13.get s7.nx = some (.cells [iV p0, iV p1, iV p2, iV p3] 33 true) := (xb.get _ (by omega)).trans g9
 have ld6 : CQ s13 4 (.pointer (some ⟨s4.nx, 0, none⟩)) = some (.agg ⟨[iV p0, iV p1, iV p2, iV p3]⟩) := Dw (by rw [EH ge6 (by simp)]; rfl)
 have ld9 : CQ s13 4 (.pointer (some ⟨s7.nx, 0, none⟩)) = some (.agg ⟨[iV p0, iV p1, iV p2, iV p3]⟩) := Dw (by rw [EH ge9 (by simp)]; rfl)
 have hk13 : KOk s13 := hk.ext (x012.trans x13)
 have last := aY m N (by omega) hk13 hA1 hA2 hin.1 (Ef H x).length 0 N (by omega) (by omega)
 have last : iY B3 (AV AB Ak m) N sv1 sv2 s13 = .ok (.bool true, s13) := by rw [jA B3 rfl]; exact last
 refine ⟨s13, ?_⟩
 rw [a1] at d18 d19
 rw [a2] at d20 d21
 rw [a3] at d22 d23
 rw [a4] at d24 d25
 have es5 : s4.new (.cells [.int .i64 0, .int .i64 0, .int .i64 0, .int .i64 0] 33 true) = s5 := hs5.symm
 have es8 : s7.new (.cells [.int .i64 0, .int .i64 0, .int .i64 0, .int .i64 0] 33 true) = s8 := hs8.symm
 have ep4 : ptrTo s4.nx = .pointer (some ⟨s4.nx, 0, none⟩) := rfl
 have ep7 : ptrTo s7.nx = .pointer (some ⟨s7.nx, 0, none⟩) := rfl
 have eqq := eqA4 p0 p1 p2 p3
 rw [iy B3 rfl]
 simp only [d18, d19, d20, d21, d22, d23, d24, d25, d26, d27, bind_ok, Bg, List.getElem?_cons_zero, List.getElem?_cons_succ, AP, AY, es5, es8, ep4, ep7, w6, w9, Ae, strNe, DF, decide_true, Bool.not_true, BU, beq_self_eq_true, DZ, CZ, ld6, ld9, eqq, hA1.len_eq, hA2.len_eq, AO, cond_false, last]
end Go.Im
set_option maxRecDepth 100000
set_option maxHeartbeats 4000000
namespace Go.Im
theorem Fz.hi {s : A8} {rb : Nat} {H : Hist} {G : Nat → Prop} (h : Fz s rb H G) : ∀ i, G i → i < s.nx := by
 obtain ⟨lb, lv, h⟩ := h
 exact h.hi
theorem lW (x : List UInt8) : veq (strOf x) (strOf x) = true := by
 show eqL (toL (ofL x)) (toL (ofL x)) = true
 rw [G9]; simp
theorem Fr.ext {s0 s s' : A8} {F : Nat → Prop} (f : Fr s s' F) (x : Ext s0 s) (hF : ∀ i, F i → s0.nx ≤ i) : Ext s0 s' := ⟨Nat.le_trans x.nx f.nx, fun i hi => by
 rw [f.get i (Nat.lt_of_lt_of_le hi x.nx) (fun h => by have := hF i h; omega)]; exact x.get i hi⟩
structure Both (s0 s : A8) (b rb : Nat) (H : Hist) (F G : Nat → Prop) : Prop where
 k : KOk s
 x : Ext s0 s
 hb : Cb s b H F
 hr : Fz s rb H G
 ap : ∀ i, F i → ¬ G i
 fo : ∀ i, F i → s0.nx ≤ i
 go : ∀ i, G i → s0.nx ≤ i
theorem Both.start {s0 : A8} (hk : KOk s0) (n : Nat) (hn : 1 ≤ n) : ∃ s1 s2, AV AB Ak n (.fn 14) [] s0 = .ok (.pointer (some ⟨s0.nx + 1, 0, none⟩), s1) ∧ AV AB Ak n (.fn 15) [] s1 = .ok (.pointer (some ⟨s1.nx, 0, none⟩), s2) ∧
 Both s0 s2 (s0.nx + 1) s1.nx [] (grow (fun _ => False) s0 s1) (grow (fun _ => False) s1 s2) := by
 obtain ⟨s1, d14, b14, x14⟩ := k14 n hn s0 hk
 have hk1 := hk.ext x14
 obtain ⟨s2, d15, r15, x15⟩ := k15 n hn s1 hk1
 have n14 := x14.nx
 refine ⟨s1, s2, d14, d15, hk1.ext x15, x14.trans x15, b14.frame (Fr.of_ext x15 (fun _ => False)) (fun _ _ h => h), r15, ?_, ?_, ?_⟩
 · intro i hi hj
   have h1 := hi.2
   rcases hj.1 with h2 | h2
   · exact h2
   · omega
 · intro i hi
   rcases hi.1 with h2 | h2
   · exact h2.elim
   · exact h2
 · intro i hi
   rcases hi.1 with h2 | h2
   · exact h2.elim
   · omega
theorem Both.step {s0 s : A8} {b rb : Nat} {H : Hist} {F G : Nat → Prop} (h : Both s0 s b rb H F G) (n : Nat) (hn : 2200 ≤ n) (x : List UInt8) (hx : x.length < 1000000) :
 ∃ s1 s2 F' G', AV AB Ak n (.fn 16) [.pointer (some ⟨b, 0, none⟩), .string (ofL x)] s = .ok (.int .i64 (Ht H x), s1) ∧ AV AB Ak n (.fn 17) [.pointer (some ⟨rb, 0, none⟩), .string (ofL x)] s1 = .ok (.int .i64 (Ht H x), s2) ∧
  Ext s0 s1 ∧ s.nx ≤ s1.nx ∧ s1.nx ≤ s2.nx ∧ Both s0 s2 b rb (doH H x) F' G' := by
 obtain ⟨s1, d16, b1, f1, k1⟩ := k16 n (by omega) x h.k h.hb
 have hlo : ∀ i, G i → 10 ≤ i := fun i hi => by have := h.go i hi; have := h.k.nx; obtain ⟨lb, lv, hh⟩ := h.hr; exact hh.lo i hi
 have r1 := h.hr.frame f1 (fun i hi hF => h.ap i hF hi)
 have hk := h.k.nx
 obtain ⟨s2, d17, r2, f2⟩ := k17 n hn x hx k1.nx r1
 have n1 := f1.nx
 have n2 := f2.nx
 have xn := h.x.nx
 have e1 := f1.ext h.x h.fo
 have e2 := f2.ext e1 h.go
 refine ⟨s1, s2, _, _, d16, d17, e1, n1, n2, Fr.kok k1 f2 hlo, e2, b1.frame f2 ?_, r2, ?_, ?_, ?_⟩
 · intro i hi hG
   rcases hi.1 with h1 | h1
   · exact h.ap i h1 hG
   · have := h.hr.hi i hG; omega
 · intro i hi hj
   rcases hj.1 with h2 | h2
   · rcases hi.1 with h1 | h1
     · exact h.ap i h1 h2
     · have := h.hr.hi i h2; omega
   · have := hi.2; omega
 · intro i hi
   rcases hi.1 with h1 | h1
   · exact h.fo i h1
   · omega
 · intro i hi
   rcases hi.1 with h1 | h1
   · exact h.go i h1
   · omega
theorem aj (m N : Nat) (hm : 2500 ≤ m) (hN : 20 ≤ N) {s0 : A8} {v0 : Value} {L : List (List UInt8)} (hL : RdL s0 v0 L) (hl : L.length ≤ 100) (i1 i2 : Int) (x : List UInt8) {b rb : Nat} : ∀ (d i f : Nat) (s : A8) (H : Hist) (F G : Nat → Prop), i + d = L.length → d < f → Both s0 s b rb H F G →
 ∃ s', VT B3 (AV AB Ak m) N f v0 (.int .i64 i1) (.int .i64 i2) (.string (ofL x)) (.pointer (some ⟨b, 0, none⟩)) (.pointer (some ⟨rb, 0, none⟩)) (.int .i64 (i : Int)) s = .ok (.bool true, s') := by
 intro d
 induction d with
 | zero =>
  intro i f s H F G hi hf h
  obtain ⟨f, rfl, _⟩ := Af hf
  obtain rfl : i = L.length := by omega
  have : ¬ (L.length : Int) < (L.length : Int) := by omega
  obtain ⟨s', d5⟩ := aZ m N hm hN h.k h.hb h.hr i1 i2 x
  refine ⟨s', ?_⟩
  rw [PU B3 rfl]
  simp only [hL.len, AP, AY, bind_ok, BP, decide_eq_false this, AO, cond_false, d5]
 | succ d ih =>
  intro i f s H F G hi hf h
  obtain ⟨f, rfl, _⟩ := Af hf
  have hil : i < L.length := by omega
  obtain ⟨y, hy⟩ := BX hil
  have hlt : (i : Int) < (L.length : Int) := by omega
  have hw : BK .i64 ((i : Int) + 1) = ((i + 1 : Nat) : Int) := by rw [wrap64 (by omega)]; omega
  obtain ⟨lb, hlb, ia, rd⟩ := (hL.ext h.x).at_ i y hy
  by_cases c : 100 < (y.length : Int)
  · refine ⟨s, ?_⟩
    rw [PU B3 rfl]
    simp only [hL.len, AP, AY, bind_ok, BP, decide_eq_true hlt, AO, cond_true, VU B3 rfl, ia, BN, rd, strOf, Ja, CJ, Dh, decide_eq_true c, k13 m (by omega) s h.k]
  · obtain ⟨s1, s2, F', G', d16, d17, e1, n1, n2, h2⟩ := h.step m (by omega) y (by omega)
    obtain ⟨lb', hlb', ia', rd'⟩ := (hL.ext e1).at_ i y hy
    obtain rfl : lb = lb' := by rw [ia] at ia'; injection ia' with q; injection q with q; injection q with q; injection q with q
    obtain ⟨s', dd⟩ := ih (i + 1) f s2 _ F' G' (by omega) (by omega) h2
    refine ⟨s', ?_⟩
    have ck1 := CV (s := s) (b := lb) (o := i) (v := strOf y) hlb (lW y)
    have ck2 := CV (s := s1) (b := lb) (o := i) (v := strOf y) hlb' (lW y)
    have b1 : Nat.ble s.nx s1.nx = true := Ag.2 n1
    have b2 : Nat.ble s1.nx s2.nx = true := Ag.2 n2
    rw [PU B3 rfl]
    unfold strOf at rd rd' ck1 ck2
    simp only [hL.len, AP, AY, bind_ok, BP, decide_eq_true hlt, AO, cond_true, cond_false, VU B3 rfl, ia, BN, rd, Ja, CJ, Dh, decide_eq_false c, iw B3 rfl, CO, Bc, d16, b1, rd', d17, b2, DF, decide_true, Bool.not_true, ck1, ck2, Bool.and_true, EJ, hw, dd]
theorem f3_run (n : Nat) (hn : 2600 ≤ n) {s0 : A8} (hk : KOk s0) {v0 : Value} {L : List (List UInt8)} (hL : RdL s0 v0 L) (i1 i2 : Int) (x : ByteArray) :
 ∃ s', AV AB Ak n (.fn 3) [v0, .int .i64 i1, .int .i64 i2, .string x] s0 = .ok (.bool true, s') := by
 obtain ⟨m, rfl, _⟩ := Af (show 1 ≤ n by omega)
 rw [← iT x]
 by_cases c : 100 < (L.length : Int)
 · refine ⟨s0, ?_⟩
   rw [Ap 3 c3 rfl, f3_eq]
   simp only [hL.len, AP, AY, bind_ok, Dh, decide_eq_true c, AO, cond_true, k13 m (by omega) s0 hk]
 · obtain ⟨s1, s2, d14, d15, h⟩ := Both.start hk m (by omega)
   obtain ⟨s', dd⟩ := aj m m (by omega) (by omega) hL (by omega) i1 i2 (toL x) L.length 0 m s2 _ _ _ (by omega) (by omega) h
   refine ⟨s', ?_⟩
   have dd : VT B3 (AV AB Ak m) m m v0 (.int .i64 i1) (.int .i64 i2) (.string (ofL (toL x))) (.pointer (some ⟨s0.nx + 1, 0, none⟩)) (.pointer (some ⟨s1.nx, 0, none⟩)) (.int .i64 0) s2 = .ok (.bool true, s') := dd
   rw [Ap 3 c3 rfl, f3_eq]
   simp only [hL.len, AP, AY, bind_ok, Dh, decide_eq_false c, AO, cond_false, iZ B3 rfl, d14, d15, dd]
end Go.Im
