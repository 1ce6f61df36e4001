/- The swaps that bring all parts home, on the ideal machine: what yields them. -/
import Derived.Test.YtojbkocmobkddaaGreatDoorImQP
import Derived.Test.YtojbkocmobkddaaGreatDoorImHM
import Derived.Test.YtojbkocmobkddaaGreatDoorImEQR
set_option linter.all false
set_option maxRecDepth 100000
set_option maxHeartbeats 4000000
namespace Go.Im
abbrev Tr3 := Nat × Nat × Nat
structure Body (sf : Self) (v0 : Value) (s0 : A8) (n : Nat) where
 Inv : List Tr3 → (Nat → Prop) → A8 → Prop
 lt : ∀ {d Y s}, Inv d Y s → ∀ i, Y i → i < s.nx
 frame : ∀ {d Y s s'}, Inv d Y s → s.nx ≤ s'.nx → (∀ i, (Y i ∨ i < s0.nx) → s'.get i = s.get i) → Inv d Y s'
 step : ∀ {d Y s}, Inv d Y s → s0.nx ≤ s.nx → d.length < 1000 → ∀ k c e : Nat, k < 4 → c < n → e < n → ∃ s' Y', Dj sf [.int .i64 (k : Int), .agg ⟨[iV (c : Int), iV (e : Int)]⟩] s v0 = .ok (.bool true, s') ∧ Inv (d ++ [(k, c, e)]) Y' s' ∧ s.nx ≤ s'.nx ∧ (∀ i, i < s.nx → ¬ Y i → s'.get i = s.get i) ∧ (∀ i, Y' i → Y i ∨ s.nx ≤ i)
def hv (p : List Nat) : List Value := p.map fun x : Nat => iV (x : Int)
section
variable {sf : Self} {v0 : Value} {s0 : A8} {n : Nat} (B : Body sf v0 s0 n) (Y0 : Nat → Prop)
structure SW (d : List Tr3) (Y : Nat → Prop) (s : A8) : Prop where
 nx : s0.nx ≤ s.nx
 get : ∀ i, i < s0.nx → ¬ Y0 i → s.get i = s0.get i
 sub : ∀ i, Y i → Y0 i ∨ s0.nx ≤ i
 inv : B.Inv d Y s
variable {B Y0}
theorem WT {p : List Nat} {i : Nat} (h : i < p.length) : (hv p)[i]? = some (iV (atD p i : Int)) := by
 unfold hv atD
 rw [List.getElem?_map, List.getD_eq_getElem?_getD, List.getElem?_eq_getElem h]; rfl
theorem gB (p : List Nat) (i v : Nat) : (hv p).set i (iV (v : Int)) = hv (p.set i v) := by unfold hv; rw [List.map_set]
theorem SW.put {d : List Tr3} {Y : Nat → Prop} {s : A8} (h : SW B Y0 d Y s) {b : Nat} (hb : s0.nx ≤ b) (hY : ¬ Y b) (o : CQ) : SW B Y0 d Y (s.put b o) :=
 ⟨h.nx, fun i hi h0 => by rw [A8.get_put, if_neg (by omega)]; exact h.get i hi h0, h.sub, B.frame h.inv (Nat.le_refl _) fun i hi => by
  rw [A8.get_put, if_neg]
  intro e
  rcases hi with hi | hi
  · exact hY (by rw [← e]; exact hi)
  · omega⟩
theorem gG (N n1 n6 : Nat) (v1 v4 : Value) (k c hb : Nat) (hk : k < 4) (i9 i37 i38 : Int) (hn : n ≤ 8) : ∀ (f fu : Nat) (p : List Nat) (d : List Tr3) (Y : Nat → Prop) (s : A8), f < fu → p.length = n → c < n → Perm p → atD (D6 f p c).2 c = c → d.length + (D6 f p c).1.length < 900 →
 SW B Y0 d Y s → Bc s (some hb) 3 1 (hv p) n v4 → s0.nx ≤ hb → ¬ Y hb →
 ∃ s' Y', PN B99 sf N n1 n6 fu v0 v1 (.int .i64 (k : Int)) v4 (.int .i64 (c : Int)) (.int .i64 i9) (.int .i64 i37) (.int .i64 i38) s = Mc B99 sf N n1 n6 v0 v1 (.int .i64 (k : Int)) v4 (.int .i64 i9) (.int .i64 i37) (.int .i64 (BL .i64 (i38 + 1))) s' ∧
  SW B Y0 (d ++ (D6 f p c).1.map fun x => (k, x.1, x.2)) Y' s' ∧ Bc s' (some hb) 3 1 (hv (D6 f p c).2) n v4 ∧ ¬ Y' hb ∧ s.nx ≤ s'.nx
 | f, fu, p, d, Y, s, hf, hp, hc, hP, hd, hl, hS, hA, h0, hY => by
  obtain ⟨fu, rfl, _⟩ := Ae (show 1 ≤ fu by omega)
  obtain ⟨b1, hb1, ia⟩ := hA.iad c hc .i64
  obtain rfl : hb = b1 := Option.some.inj hb1
  obtain ⟨b2, hb2, g⟩ := hA.get (i := c) (x := iV (atD p c : Int)) (WT (by omega))
  obtain rfl : hb = b2 := Option.some.inj hb2
  rw [Nat.mul_one] at ia
  have g : s.rd1 hb c = some (.int .i64 (atD p c : Int)) := g
  by_cases e : atD p c = c
  · have er : D6 f p c = ([], p) := by cases f with | zero => rfl | succ f => rw [D6, if_pos e]
    rw [er]
    refine ⟨s, Y, ?_, by simpa using hS, hA, hY, Nat.le_refl _⟩
    have ei : (atD p c : Int) = (c : Int) := by omega
    rw [RI B99 rfl]
    simp only [ia, Ad, BD, bind_ok, CS, g, E9, decide_eq_true ei, Bool.not_true, Ar, cond_false, GN]
  · match f, hf with
    | 0, _ => exact absurd hd (by show ¬ atD p c = c; exact e)
    | f + 1, hf =>
     have er : D6 (f + 1) p c = ((c, atD p c) :: (D6 f (Fh p c (atD p c)) c).1, (D6 f (Fh p c (atD p c)) c).2) := by rw [D6, if_neg e]
     rw [er] at hd hl ⊢
     have hdl : atD p c < n := by have := hP.lt c (by omega); omega
     obtain ⟨x, hx⟩ : ∃ x, x = atD p c := ⟨_, rfl⟩
     rw [← hx] at hd hl hdl g e ⊢
     obtain ⟨s1, Y1, call, i1, n1', g1, y1⟩ := B.step hS.inv hS.nx (by simp at hl; omega) k c x hk hc hdl
     have hbs := hA.lt rfl
     have S1 : SW B Y0 (d ++ [(k, c, x)]) Y1 s1 := ⟨by have := hS.nx; omega, fun i hi h0' => by
      rw [g1 i (by have := hS.nx; omega) (fun hh => by rcases hS.sub i hh with h | h; exact h0' h; omega)]; exact hS.get i hi h0', fun i hi => by
      rcases y1 i hi with h | h
      · exact hS.sub i h
      · exact .inr (by have := hS.nx; omega), i1⟩
     have hY1 : ¬ Y1 hb := fun h => by rcases y1 hb h with h | h; exact hY h; omega
     have A1 := hA.frame n1' fun b' e' => by obtain rfl := Option.some.inj e'; exact g1 hb hbs hY
     obtain ⟨b3, hb3, iax⟩ := A1.iad x hdl .i64
     obtain rfl : hb = b3 := Option.some.inj hb3
     rw [Nat.mul_one] at iax
     obtain ⟨b4, hb4, gx⟩ := A1.get (i := x) (x := iV (atD p x : Int)) (WT (by omega))
     obtain rfl : hb = b4 := Option.some.inj hb4
     obtain ⟨b5, hb5, gc⟩ := A1.get (i := c) (x := iV (x : Int)) (by rw [WT (by omega), hx])
     obtain rfl : hb = b5 := Option.some.inj hb5
     obtain ⟨b6, fl6, hb6, _, w2, A2⟩ := A1.set (i := c) (by omega) (x := iV (atD p x : Int)) rfl
     obtain rfl : hb = b6 := Option.some.inj hb6
     obtain ⟨s2, hs2⟩ : ∃ s2, s2 = s1.put hb (.cells (fl6.set c (iV (atD p x : Int))) 3 true) := ⟨_, rfl⟩
     rw [← hs2] at w2 A2
     have S2 : SW B Y0 (d ++ [(k, c, x)]) Y1 s2 := by rw [hs2]; exact S1.put h0 hY1 _
     rw [gB] at A2
     obtain ⟨b7, fl7, hb7, _, w3, A3⟩ := A2.set (i := x) (by omega) (x := iV (x : Int)) rfl
     obtain rfl : hb = b7 := Option.some.inj hb7
     obtain ⟨s3, hs3⟩ : ∃ s3, s3 = s2.put hb (.cells (fl7.set x (iV (x : Int))) 3 true) := ⟨_, rfl⟩
     rw [← hs3] at w3 A3
     have S3 : SW B Y0 (d ++ [(k, c, x)]) Y1 s3 := by rw [hs3]; exact S2.put h0 hY1 _
     rw [gB] at A3
     have esw : (p.set c (atD p x)).set x x = Fh p c x := by unfold Fh; rw [← hx]
     rw [esw] at A3
     have n2 : s2.nx = s1.nx := by rw [hs2]; rfl
     have n3 : s3.nx = s2.nx := by rw [hs3]; rfl
     have hl' : (d ++ [(k, c, x)]).length + (D6 f (Fh p c x) c).1.length < 900 := by simp at hl ⊢; omega
     obtain ⟨s', Y', e', S', A', Yh, n'⟩ := gG N n1 n6 v1 v4 k c hb hk i9 i37 i38 hn f fu (Fh p c x) (d ++ [(k, c, x)]) Y1 s3 (by omega) (by rw [Fj]; exact hp) hc (hP.sw (by omega) (by omega)) hd hl' S3 A3 h0 hY1
     refine ⟨s', Y', ?_, ?_, A', Yh, by omega⟩
     · have ei : ¬ (x : Int) = (c : Int) := by omega
       have gx : s1.rd1 hb x = some (.int .i64 (atD p x : Int)) := gx
       have gc : s1.rd1 hb c = some (.int .i64 (x : Int)) := gc
       have w2 : wSt s1 1 (.int .i64 (atD p x : Int)) (.pointer (some ⟨hb, c, none⟩)) = some (BX, s2) := w2
       have w3 : wSt s2 1 (.int .i64 (x : Int)) (.pointer (some ⟨hb, x, none⟩)) = some (BX, s3) := w3
       have nb2 : Nat.ble s1.nx s2.nx = true := Aa.2 (by omega)
       have nb3 : Nat.ble s2.nx s3.nx = true := Aa.2 (by omega)
       have ef : ob (fill [.int .i64 0, .int .i64 0] [(0, 1, (.int .i64 (c : Int))), (1, 1, (.int .i64 (x : Int)))]) (fun c => some (Value.agg ⟨c⟩)) = some (.agg ⟨[iV (c : Int), iV (x : Int)]⟩) := rfl
       have e10 : Sr B99 sf N n1 n6 fu v0 v1 (.int .i64 (k : Int)) v4 (.int .i64 (c : Int)) (.int .i64 (x : Int)) (.int .i64 i9) (.int .i64 i37) (.int .i64 i38) s1 = PN B99 sf N n1 n6 fu v0 v1 (.int .i64 (k : Int)) v4 (.int .i64 (c : Int)) (.int .i64 i9) (.int .i64 i37) (.int .i64 i38) s3 := by
        rw [Vu B99 rfl]
        simp only [C9, cond_true, iax, ia, Ad, BD, D8, CS, gx, gc, w2, w3, Aq, nb2, nb3]
       rw [RI B99 rfl]
       simp only [ia, Ad, BD, bind_ok, CS, g, E9, decide_eq_false ei, Bool.not_false, Ar, cond_true, Yb B99 rfl, ef, call, Jh, Bool.not_true, cond_false, e10]
       exact e'
     · rw [List.map_cons, List.append_cons]; exact S'
end
end Go.Im
set_option maxRecDepth 100000
set_option maxHeartbeats 4000000
namespace Go.Im
section
variable {sf : Self} {v0 : Value} {s0 : A8} {n : Nat} {B : Body sf v0 s0 n} {Y0 : Nat → Prop}
theorem SW.ext {d : List Tr3} {Y : Nat → Prop} {s s' : A8} (h : SW B Y0 d Y s) (x : Ext s s') : SW B Y0 d Y s' :=
 ⟨Nat.le_trans h.nx x.nx, fun i hi h0 => (x.get i (Nat.lt_of_lt_of_le hi h.nx)).trans (h.get i hi h0), h.sub, B.frame h.inv x.nx fun i hi => x.get i (by
  rcases hi with hi | hi
  · exact B.lt h.inv i hi
  · exact Nat.lt_of_lt_of_le hi h.nx)⟩
theorem k99_L6 (N n1 : Nat) (v1 v4 : Value) (k : Nat) (hk : k < 4) (i9 : Int) (hn : n ≤ 8) (hN : 20 ≤ N) : ∀ (rem c fu : Nat) (p : List Nat) (d : List Tr3) (Y : Nat → Prop) (s : A8) (base : Option Nat), c + rem = n → rem < fu → p.length = n → Perm p → d.length + rem * 8 < 800 →
 SW B Y0 d Y s → Bc s base 3 1 (hv p) n v4 → (∀ hb, base = some hb → s0.nx ≤ hb ∧ ¬ Y hb) →
 ∃ s' Y', Mc B99 sf N n1 fu v0 v1 (.int .i64 (k : Int)) v4 (.int .i64 i9) (.int .i64 (n : Int)) (.int .i64 (c : Int)) s = JX B99 sf N n1 v0 v1 (.int .i64 (BL .i64 (i9 + 1))) s' ∧
  SW B Y0 (d ++ (TN n (List.range' c rem) p).1.map fun x => (k, x.1, x.2)) Y' s' ∧ s.nx ≤ s'.nx := by
 intro rem
 induction rem with
 | zero =>
  intro c fu p d Y s base hc hf hp hP hl hS hA hb
  obtain ⟨fu, rfl, _⟩ := Ae hf
  refine ⟨s, Y, ?_, by simpa [TN] using hS, Nat.le_refl _⟩
  have : ¬ (c : Int) < (n : Int) := by omega
  rw [RH B99 rfl]
  simp only [Bq, decide_eq_false this, Dv, GN]
 | succ rem ih =>
  intro c fu p d Y s base hc hf hp hP hl hS hA hb
  obtain ⟨fu, rfl, _⟩ := Ae hf
  have hcn : c < n := by omega
  cases base with
  | none => obtain ⟨_, h2, _⟩ := hA; omega
  | some hb' =>
   obtain ⟨h0, hY⟩ := hb hb' rfl
   obtain ⟨pp, pl, pc⟩ := Kq n p c hP (by omega)
   have dn := Yu hP (c := c) (by omega)
   rw [hp] at dn
   obtain ⟨s1, Y1, e1, S1, A1, Yh, n1'⟩ := gG N n1 fu v1 v4 k c hb' hk i9 (n : Int) (c : Int) hn n N p d Y s (by omega) hp hcn hP dn (by omega) hS hA h0 hY
   have hw : BL .i64 ((c : Int) + 1) = ((c + 1 : Nat) : Int) := by rw [wrap64 (by omega)]; omega
   obtain ⟨s2, Y2, e2, S2, n2⟩ := ih (c + 1) fu (D6 n p c).2 (d ++ (D6 n p c).1.map fun x => (k, x.1, x.2)) Y1 s1 (some hb') (by omega) (by omega) (pl.trans hp) pp (by simp; omega) S1 A1 (fun hb'' e => by obtain rfl := Option.some.inj e; exact ⟨h0, Yh⟩)
   refine ⟨s2, Y2, ?_, ?_, by omega⟩
   · have hlt : (c : Int) < (n : Int) := by omega
     rw [hw] at e1
     rw [RH B99 rfl]
     simp only [Bq, decide_eq_true hlt, Du, Ya B99 rfl]
     exact e1.trans e2
   · rw [List.range'_succ]
     show SW B Y0 (d ++ ((D6 n p c).1 ++ (TN n (List.range' (c + 1) rem) (D6 n p c).2).1).map fun x => (k, x.1, x.2)) Y2 s2
     rw [List.map_append, ← List.append_assoc]
     exact S2
theorem Uo {c : Bj} (h : c.ok) {k : Nat} (hk : k < 4) : (BR c)[1 + k]? = some (iV ((c.parts.getD k 0 : Nat) : Int)) := by
 obtain ⟨h1, h2, h3⟩ := h
 unfold BR
 rw [Nat.add_comm 1 k, List.getElem?_cons_succ, List.getElem?_append_left (by simp [h1, hk]), List.getElem?_map, List.getD_eq_getElem?_getD, List.getElem?_eq_getElem (by omega)]
 rfl
theorem k99_L3 (N n1 : Nat) {O : Off} {K : List Nat} (hI : Dx O K) (hcl : O.comps.length ≤ 8) {o qb : Nat} {cb pb : Option Nat} {t0 : A8} (hO : AY t0 o cb pb O) (hq : t0.get qb = some (.cells [.pointer (some ⟨o, 0, none⟩)] 65 true)) (hql : qb < t0.nx) {cv : Value} (hcv : Bc t0 cb 120 21 (O.comps.flatMap BR) O.comps.length cv) (v0 : Value) (k : Nat) (hk : k < 4) : ∀ (d i f : Nat) (t : A8) (base : Option Nat) (v4 : Value), i + d = O.comps.length → d < f → Ext t0 t →
 Bc t base 3 1 (hv ((homesOf O k).take i)) i v4 → (∀ b, base = some b → t0.nx ≤ b) →
 ∃ t' base' v4', PL B99 sf N n1 f v0 (.pointer (some ⟨qb, 0, none⟩)) (.int .i64 (k : Int)) v4 (.int .i64 (k : Int)) cv (.int .i64 (O.comps.length : Int)) (.int .i64 (i : Int)) t = Sm B99 sf N n1 v0 (.pointer (some ⟨qb, 0, none⟩)) (.int .i64 (k : Int)) v4' (.int .i64 (k : Int)) t' ∧ Ext t0 t' ∧
  Bc t' base' 3 1 (hv (homesOf O k)) O.comps.length v4' ∧ (∀ b, base' = some b → t0.nx ≤ b) := by
 intro d
 induction d with
 | zero =>
  intro i f t base v4 hi hf x hA hb
  obtain ⟨f, rfl, _⟩ := Ae hf
  obtain rfl : i = O.comps.length := by omega
  have : ¬ (O.comps.length : Int) < (O.comps.length : Int) := by omega
  refine ⟨t, base, v4, ?_, x, ?_, hb⟩
  · rw [RG B99 rfl]
    simp only [Bq, decide_eq_false this, Dv]
  · rwa [List.take_of_length_le (by rw [BZ]; exact Nat.le_refl _)] at hA
 | succ d ih =>
  intro i f t base v4 hi hf x hA hb
  obtain ⟨f, rfl, _⟩ := Ae hf
  have hil : i < O.comps.length := by omega
  obtain ⟨c, hc⟩ := BU hil
  have hok := hO.ok c (List.mem_of_getElem? hc)
  have hlt : (i : Int) < (O.comps.length : Int) := by omega
  have hw : BL .i64 ((i : Int) + 1) = ((i + 1 : Nat) : Int) := by rw [wrap64 (by omega)]; omega
  have hC2 := hcv.frame x.nx fun b e => x.get b (hcv.lt e)
  obtain ⟨b, hcb, ia⟩ := hC2.iad i hil .i64
  subst hcb
  have hrd : DT t 21 (.pointer (some ⟨b, i * 21, none⟩)) = some (.agg ⟨BR c⟩) := Fz (by rw [hC2.rd (by have : (i + 1) * 21 ≤ O.comps.length * 21 := Nat.mul_le_mul_right _ hil; omega), FC BR 21 _ i c (fun a ha => DW (hO.ok a ha)) hc])
  obtain ⟨s3, hs3⟩ : ∃ s3, s3 = t.new (.cells zero21 120 true) := ⟨_, rfl⟩
  have x3 : Ext t s3 := by rw [hs3]; exact (Ext.refl t).new _
  have n3 : s3.nx = t.nx + 1 := by rw [hs3]; rfl
  obtain ⟨s4, w4', q4, n4, g4⟩ := w21g (s := s3) (q := t.nx) (c := zero21) (by rw [hs3, A8.Af, if_pos rfl]) rfl (vs := BR c) (DW hok) (GU c)
  have x4 : Ext t s4 := ⟨by omega, fun j hj => by rw [g4 j (by omega)]; exact x3.get j hj⟩
  have x04 := x.trans x4
  have hO4 := hO.ext x04
  obtain ⟨cv', pv, _, q1, _, hP⟩ := hO4.slices
  have rq : s4.rd1 qb 0 = some (.pointer (some ⟨o, 0, none⟩)) := by rw [Ag ((x04.get qb hql).trans hq)]; rfl
  have hpa : partAt O.comps i k = c.parts.getD k 0 := by unfold partAt; rw [hc]
  have rp : s4.rd1 t.nx (1 + k) = some (.int .i64 (partAt O.comps i k : Int)) := by rw [Ag q4, hpa]; exact Uo hok hk
  obtain ⟨pt, p1, p2, p3⟩ := hI.at_ i k hil hk
  have hpl := BA p1
  obtain ⟨b2, hb2, ia2⟩ := hP.iad _ hpl .i64
  obtain ⟨b2', hb2', g2⟩ := hO4.rdPrt p1 (i := 1) (x := .int .i64 pt.2) (by decide) rfl
  obtain rfl : b2 = b2' := Option.some.inj (hb2.symm.trans hb2')
  obtain ⟨j, j1, j2⟩ := hI.home pt (List.mem_of_getElem? p1)
  have hho : CB O.parts (partAt O.comps i k) = (j : Int) := by unfold CB; rw [p1]; exact j1
  rw [j1] at g2
  have hge : (homesOf O k)[i]? = some j := by rw [EH, if_pos hil, hho]; rfl
  have hA4 := hA.frame x4.nx fun b' e => x4.get b' (hA.lt e)
  obtain ⟨v', s5, b5, w5, hA5, hb5, x5, n5, _, _⟩ := OH (by_ := 8) (news := [iV (j : Int)]) x04 hA4 hb (by decide) (by omega) (by show _ < 9223372036854775808; omega) rfl rfl
  have et : hv ((homesOf O k).take i) ++ [iV (j : Int)] = hv ((homesOf O k).take (i + 1)) := by
   rw [List.take_add_one, hge]; unfold hv; rw [List.map_append]; rfl
  rw [et] at hA5
  obtain ⟨t', base', v4', e, r⟩ := ih (i + 1) f s5 b5 v' (by omega) (by omega) x5 hA5 hb5
  refine ⟨t', base', v4', ?_, r⟩
  have es3 : t.new (.cells [.string ⟨#[]⟩, .int .i64 0, .int .i64 0, .int .i64 0, .int .i64 0, .int .i64 0, .int .i64 0, .int .i64 0, .int .i64 0, .int .i64 0, .int .i64 0, .int .i64 0, .int .i64 0, .bool false, .bool false, .bool false, .bool false, .bool false, .bool false, .bool false, .bool false] 120 true) = s3 := hs3.symm
  have ep : ptrTo t.nx = .pointer (some ⟨t.nx, 0, none⟩) := rfl
  have ia4 : Bo 4 1 (.pointer (some ⟨t.nx, 1, none⟩)) (.int .i64 (k : Int)) = some (.pointer (some ⟨t.nx, 1 + k, none⟩)) := by rw [FU _ _ _ _ _ _ hk, Nat.mul_one]
  have ef : ob (fill (zeros [.int .i64 0] 1) [(0, 1, (.int .i64 (j : Int)))]) (fun c => some (CQ.cells c 3 true, Bv 1 1)) = some (.cells [iV (j : Int)] 3 true, Bv 1 1) := rfl
  have nb : Nat.ble s4.nx (s4.new (.cells [iV (j : Int)] 3 true)).nx = true := Aa.2 (by show s4.nx ≤ s4.nx + 1; omega)
  have nb5 : Nat.ble (s4.new (.cells [iV (j : Int)] 3 true)).nx s5.nx = true := Aa.2 (by show s4.nx + 1 ≤ s5.nx; omega)
  rw [RG B99 rfl]
  simp only [Bq, decide_eq_true hlt, Du, YX B99 rfl, ia, Ad, BD, bind_ok, hrd, es3, ep, w4', Aq, D8, C9, CS, rq, H8, EC, Nat.zero_add, q1, ia4, rp, ia2, g2, ef, nb, w5, nb5, GN, hw]
  exact e
theorem Ls (N n1 : Nat) (hN : 20 ≤ N) {O : Off} {K : List Nat} (hI : Dx O K) (hn : O.comps.length = n) (hn8 : n ≤ 8) (hP : ∀ k, k < 4 → Perm (homesOf O k)) {o qb : Nat} {cb pb : Option Nat} (hO : AY s0 o cb pb O) (hq : s0.get qb = some (.cells [.pointer (some ⟨o, 0, none⟩)] 65 true)) (hql : qb < s0.nx) (hqY : ¬ Y0 qb) (hoY : ∀ i, Di o cb pb i → ¬ Y0 i) (k : Nat) (hk : k < 4) {d : List Tr3} {Y : Nat → Prop} {s : A8} (hd : d.length < 300) (hS : SW B Y0 d Y s) :
 ∃ s' Y', JX B99 sf N (n1 + 1) v0 (.pointer (some ⟨qb, 0, none⟩)) (.int .i64 (k : Int)) s = JX B99 sf N n1 v0 (.pointer (some ⟨qb, 0, none⟩)) (.int .i64 ((k + 1 : Nat) : Int)) s' ∧ SW B Y0 (d ++ swk O k) Y' s' ∧ s.nx ≤ s'.nx := by
 have hOs : AY s o cb pb O := hO.frame hS.nx fun b hb => hS.get b (hO.sub hb) (hoY b hb)
 have hqs : s.get qb = some (.cells [.pointer (some ⟨o, 0, none⟩)] 65 true) := (hS.get qb hql hqY).trans hq
 obtain ⟨cv, pv, q0, q1, hC, _⟩ := hOs.slices
 have rq : s.rd1 qb 0 = some (.pointer (some ⟨o, 0, none⟩)) := by rw [Ag hqs]; rfl
 obtain ⟨t, base, v4, e3, xt, hA, hb⟩ := k99_L3 (sf := sf) N n1 hI (by omega) hOs hqs (Nat.lt_of_lt_of_le hql hS.nx) hC v0 k hk O.comps.length 0 N s none (.slice none 0 0) (by omega) (by omega) (.refl s) ⟨rfl, rfl, rfl⟩ (by simp)
 have St := hS.ext xt
 have snx := hS.nx
 rw [hn] at hA
 obtain ⟨s', Y', e6, S6, n6⟩ := k99_L6 (B := B) (Y0 := Y0) N n1 (.pointer (some ⟨qb, 0, none⟩)) v4 k hk (k : Int) hn8 hN n 0 N (homesOf O k) d Y t base (by omega) (by omega) (by rw [BZ, hn]) (hP k hk) (by omega) St hA (fun hb' e => ⟨by have := hb hb' e; omega, fun hh => by have := B.lt hS.inv hb' hh; have := hb hb' e; omega⟩)
 refine ⟨s', Y', ?_, ?_, by have := xt.nx; omega⟩
 · have hlt : (k : Int) < 4 := by omega
   have hw : BL .i64 ((k : Int) + 1) = ((k + 1 : Nat) : Int) := by rw [wrap64 (by omega)]; omega
   rw [hw] at e6
   have e6 : Mc B99 sf N n1 N v0 (.pointer (some ⟨qb, 0, none⟩)) (.int .i64 (k : Int)) v4 (.int .i64 (k : Int)) (.int .i64 (n : Int)) (.int .i64 0) t = JX B99 sf N n1 v0 (.pointer (some ⟨qb, 0, none⟩)) (.int .i64 ((k + 1 : Nat) : Int)) s' := e6
   have e3 : PL B99 sf N n1 N v0 (.pointer (some ⟨qb, 0, none⟩)) (.int .i64 (k : Int)) (.slice none 0 0) (.int .i64 (k : Int)) cv (.int .i64 (O.comps.length : Int)) (.int .i64 0) s = Sm B99 sf N n1 v0 (.pointer (some ⟨qb, 0, none⟩)) (.int .i64 (k : Int)) v4 (.int .i64 (k : Int)) t := e3
   rw [RF B99 rfl]
   simp only [Bq, decide_eq_true hlt, Du, YW B99 rfl, CS, rq, Ad, BD, bind_ok, H8, EC, Nat.zero_add, q0, hC.len_eq, e3, YZ B99 rfl, hA.len_eq, e6]
 · have : swk O k = (TN n (List.range' 0 n) (homesOf O k)).1.map fun x => (k, x.1, x.2) := by
    unfold swk FM
    rw [BZ, hn, List.range_eq_range']
   rw [this]; exact S6
theorem kD (N : Nat) (hN : 20 ≤ N) {O : Off} {K : List Nat} (hI : Dx O K) (hn : O.comps.length = n) (hn8 : n ≤ 8) (hP : ∀ k, k < 4 → Perm (homesOf O k)) {o qb : Nat} {cb pb : Option Nat} (hO : AY s0 o cb pb O) (hq : s0.get qb = some (.cells [.pointer (some ⟨o, 0, none⟩)] 65 true)) (hql : qb < s0.nx) (hqY : ¬ Y0 qb) (hoY : ∀ i, Di o cb pb i → ¬ Y0 i) (hi : B.Inv [] Y0 s0) :
 ∃ s' Y', EO AB sf N c99 [v0, .pointer (some ⟨qb, 0, none⟩)] s0 = .ok (.tuple ⟨[]⟩, s') ∧ SW B Y0 (D7 O) Y' s' := by
 have len : ∀ k, k < 4 → (swk O k).length ≤ 64 := fun k hk => by
  unfold swk FM
  rw [List.length_map]
  have := QA (homesOf O k).length (List.range (homesOf O k).length) (homesOf O k) (hP k hk) rfl (by simp)
  rw [List.length_range, BZ, hn] at this
  have h8 : n * n ≤ 8 * 8 := Nat.mul_le_mul hn8 hn8
  rw [BZ, hn]; omega
 obtain ⟨N', rfl⟩ : ∃ f, N = f + 5 := ⟨N - 5, by omega⟩
 have S0 : SW B Y0 [] Y0 s0 := ⟨Nat.le_refl _, fun _ _ _ => rfl, fun i h => .inl h, hi⟩
 obtain ⟨s1, Y1, e1, S1, _⟩ := Ls (N' + 5) (N' + 4) (by omega) hI hn hn8 hP hO hq hql hqY hoY 0 (by decide) (by decide) S0
 obtain ⟨s2, Y2, e2, S2, _⟩ := Ls (N' + 5) (N' + 3) (by omega) hI hn hn8 hP hO hq hql hqY hoY 1 (by decide) (by have := len 0 (by decide); simp; omega) S1
 obtain ⟨s3, Y3, e3, S3, _⟩ := Ls (N' + 5) (N' + 2) (by omega) hI hn hn8 hP hO hq hql hqY hoY 2 (by decide) (by have := len 0 (by decide); have := len 1 (by decide); simp; omega) S2
 obtain ⟨s4, Y4, e4, S4, _⟩ := Ls (N' + 5) (N' + 1) (by omega) hI hn hn8 hP hO hq hql hqY hoY 3 (by decide) (by have := len 0 (by decide); have := len 1 (by decide); have := len 2 (by decide); simp; omega) S3
 refine ⟨s4, Y4, ?_, by simpa [D7] using S4⟩
 have last : JX B99 sf (N' + 5) (N' + 1) v0 (.pointer (some ⟨qb, 0, none⟩)) (.int .i64 ((3 + 1 : Nat) : Int)) s4 = .ok (.tuple ⟨[]⟩, s4) := by
  rw [RF B99 rfl]; rfl
 rw [f99_eq]
 exact e1.trans (e2.trans (e3.trans (e4.trans last)))
end
end Go.Im
set_option maxRecDepth 100000
set_option maxHeartbeats 4000000
namespace Go.Im
theorem Us {T : MT} {sf : Self} {N l : Nat} {X3 : AA} {JC : Env} {s : A8} {p : Option TY} {env : Env} {ps : List Nat} {asg body : AA} (h : s.get l = some (.loop .ready p env ps asg body)) :
 Gg T sf N l X3 JC s (s.get l) = exec T sf N X3 JC (s.put l (.loop .busy p env ps asg body)) fun e _ s3 => endRound l e s3 (s3.get l) := by rw [h]; rfl
theorem Ut {l : Nat} {s : A8} {p : Option TY} {env : Env} {ps : List Nat} {asg body : AA} (h : s.get l = some (.loop .busy p env ps asg body)) :
 endRound l .normal s (s.get l) = .ok (.bool true, s.put l (.loop .ready none env ps asg body)) := by rw [h]; rfl
theorem TR {T : MT} {sf : Self} {N l : Nat} {av : List Value} {s : A8} {p : Option TY} {env : Env} {ps : List Nat} {asg body : AA} (h : s.get l = some (.loop .ready p env ps asg body)) :
 GX T sf N l av s = obR 38 (IW env ps av) fun Nu => exec T sf N asg Nu s (AQ (fun JC s2 => Gg T sf N l body JC s2 (s2.get l)) (fun _ _ _ => .bad 39)) := by
 show OV T sf N l av s (s.get l) = _
 rw [h]; rfl
theorem WU {K : Kt (Value × A8)} {env env' : Env} {s : A8} {l : Nat} {ps : List Nat} {asg body : AA} (h : s.get l = some (.loop .ready none env' ps asg body)) :
 endLoop K env s l (s.get l) = K .normal env (s.put l (.loop .exhausted none env' ps asg body)) := by rw [h]; rfl
noncomputable def Uu (a0 a2 a3 a4 a5 a6 a7 a8 a9 a10 a11 : Value) : CQ := .loop .ready none (EW a0 a2 a3 a4 a5 a6 a7 a8 a9 a10 a11) Iw GV EI
theorem kG (sf : Self) (N l c : Nat) (a0 a2 a4 a5 a6 a7 a8 a9 a10 a11 b12 b13 : Value) {s : A8} (hl : s.get l = some (Uu a0 a2 (.pointer (some ⟨c, 0, none⟩)) a4 a5 a6 a7 a8 a9 a10 a11)) {z : Nat} (hz : z < 1000000) (hc : s.get c = some (.cells [iV (z : Int)] 3 true)) (hlc : c ≠ l) :
 ∃ s', GX AB sf N l [b12, b13] s = .ok (.bool true, s') ∧ s'.get l = s.get l ∧ s'.get c = some (.cells [iV ((z + 1 : Nat) : Int)] 3 true) ∧ s'.nx = s.nx ∧ (∀ i, i ≠ l → i ≠ c → s'.get i = s.get i) := by
 have hl' : s.get l = some (.loop .ready none (EW a0 a2 (.pointer (some ⟨c, 0, none⟩)) a4 a5 a6 a7 a8 a9 a10 a11) Iw GV EI) := hl
 obtain ⟨s1, hs1⟩ : ∃ s1, s1 = s.put l (.loop .busy none (EW a0 a2 (.pointer (some ⟨c, 0, none⟩)) a4 a5 a6 a7 a8 a9 a10 a11) Iw GV EI) := ⟨_, rfl⟩
 have g1 : s1.get c = some (.cells [iV (z : Int)] 3 true) := by rw [hs1, A8.get_put, if_neg hlc]; exact hc
 have r1 : s1.rd1 c 0 = some (.int .i64 (z : Int)) := by rw [Ag g1]; rfl
 have hw : BL .i64 ((z : Int) + 1) = ((z + 1 : Nat) : Int) := by rw [wrap64 (by omega)]; omega
 have w := Me (s := s1) (b := c) g1 (o := 0) (v := iV ((z + 1 : Nat) : Int)) rfl (by simp)
 obtain ⟨s2, hs2⟩ : ∃ s2, s2 = s1.put c (.cells [iV ((z + 1 : Nat) : Int)] 3 true) := ⟨_, rfl⟩
 have w : wSt s1 1 (.int .i64 ((z + 1 : Nat) : Int)) (.pointer (some ⟨c, 0, none⟩)) = some (BX, s2) := by rw [hs2]; exact w
 have g2 : s2.get l = some (.loop .busy none (EW a0 a2 (.pointer (some ⟨c, 0, none⟩)) a4 a5 a6 a7 a8 a9 a10 a11) Iw GV EI) := by rw [hs2, A8.get_put, if_neg (Ne.symm hlc), hs1, A8.get_put, if_pos rfl]
 refine ⟨s2.put l (Uu a0 a2 (.pointer (some ⟨c, 0, none⟩)) a4 a5 a6 a7 a8 a9 a10 a11), ?_, by rw [A8.get_put, if_pos rfl, hl], by rw [A8.get_put, if_neg hlc, hs2, A8.get_put, if_pos rfl], by show s2.nx = _; rw [hs2]; show s1.nx = _; rw [hs1]; rfl, fun i h1 h2 => by rw [A8.get_put, if_neg h1, hs2, A8.get_put, if_neg h2, hs1, A8.get_put, if_neg h1]⟩
 rw [TR hl', gQ, Us hl', ← hs1, gU]
 simp only [CS, r1, Ad, BD, bind_ok, Fa, hw, w, Aq]
 exact Ut g2
noncomputable def body30 (m l c : Nat) (hlc : c ≠ l) (a0 a2 a4 a5 a6 a7 a8 a9 a10 a11 : Value) (s0 : A8) (n : Nat) : Body (AU AB Ah (m + 1)) (.func (.yield l) ⟨[]⟩ ⟨[]⟩) s0 n where
 Inv d Y s := s.get l = some (Uu a0 a2 (.pointer (some ⟨c, 0, none⟩)) a4 a5 a6 a7 a8 a9 a10 a11) ∧ s.get c = some (.cells [iV (d.length : Int)] 3 true) ∧ l < s.nx ∧ c < s.nx ∧ (∀ i, Y i ↔ i = l ∨ i = c)
 lt := fun h i hi => by
  rcases (h.2.2.2.2 i).1 hi with rfl | rfl
  · exact h.2.2.1
  · exact h.2.2.2.1
 frame := fun h hn hg => ⟨(hg l (.inl ((h.2.2.2.2 l).2 (.inl rfl)))).trans h.1, (hg c (.inl ((h.2.2.2.2 c).2 (.inr rfl)))).trans h.2.1, Nat.lt_of_lt_of_le h.2.2.1 hn, Nat.lt_of_lt_of_le h.2.2.2.1 hn, h.2.2.2.2⟩
 step := fun {d Y s} h _ hd k x e _ _ _ => by
  obtain ⟨s', r, g1, g2, n', g3⟩ := kG (AU AB Ah m) m l c a0 a2 a4 a5 a6 a7 a8 a9 a10 a11 (.int .i64 (k : Int)) (.agg ⟨[iV (x : Int), iV (e : Int)]⟩) h.1 (z := d.length) (by omega) h.2.1 hlc
  refine ⟨s', Y, r, ⟨g1.trans h.1, by rw [g2, List.length_append]; rfl, by rw [n']; exact h.2.2.1, by rw [n']; exact h.2.2.2.1, h.2.2.2.2⟩, by omega, fun i _ hY => g3 i (fun e => hY ((h.2.2.2.2 i).2 (.inl e))) (fun e => hY ((h.2.2.2.2 i).2 (.inr e))), fun i hi => .inl hi⟩
section
variable {s : A8} {b o : Nat} {H : Hist} {F : Nat → Prop} {tag : Nat → Nat} {cb pb lb eb : Option Nat} {E : List Nat} {lv ev : Value}
theorem k66 (n : Nat) (hn : 1 ≤ n) (s : A8) (o : Nat) : AU AB Ah n (.fn 66) [.pointer (some ⟨o, 0, none⟩)] s = .ok (.func (.func 99) ⟨[]⟩ ⟨[.pointer (some ⟨s.nx, 0, none⟩)]⟩, s.new (.cells [.pointer (some ⟨o, 0, none⟩)] 65 true)) := by
 obtain ⟨m, rfl, _⟩ := Ae hn
 rw [Au 66 c66 rfl, f66_eq]; rfl
theorem k30 (n : Nat) (hn : 100 ≤ n) (h : D5 s b H F tag o cb pb lb eb E lv ev) : Gives (AU AB Ah n (.fn 30) [.pointer (some ⟨b, 0, none⟩)] s) s (.int .i64 ((D7 (run H)).length : Int)) := by
 obtain ⟨m2, rfl, hm2⟩ := Ae (show 1 ≤ n by omega)
 obtain ⟨m1, rfl, hm1⟩ := Ae (show 1 ≤ m2 by omega)
 obtain ⟨m, rfl, hm⟩ := Ae (show 1 ≤ m1 by omega)
 obtain ⟨s1, hs1⟩ : ∃ s1, s1 = s.new (.cells [.int .i64 0] 3 true) := ⟨_, rfl⟩
 have x1 : Ext s s1 := by rw [hs1]; exact (Ext.refl s).new _
 have n1 : s1.nx = s.nx + 1 := by rw [hs1]; rfl
 have g1 : s1.get s.nx = some (.cells [.int .i64 0] 3 true) := by rw [hs1, A8.Af, if_pos rfl]
 have w := Me (s := s1) (b := s.nx) g1 (o := 0) (v := .int .i64 0) rfl (by decide)
 obtain ⟨s2, hs2⟩ : ∃ s2, s2 = s1.put s.nx (.cells [.int .i64 0] 3 true) := ⟨_, rfl⟩
 have w : wSt s1 1 (.int .i64 0) (.pointer (some ⟨s.nx, 0, none⟩)) = some (BX, s2) := by rw [hs2]; exact w
 have n2 : s2.nx = s1.nx := by rw [hs2]; rfl
 have x2 : Ext s s2 := ⟨by omega, fun i hi => by rw [hs2, A8.get_put, if_neg (by omega)]; exact x1.get i hi⟩
 have g2 : s2.get s.nx = some (.cells [.int .i64 0] 3 true) := by rw [hs2, A8.get_put, if_pos rfl]
 have h2 := h.ext x2
 have d51 := k51 (m + 1 + 1) (by omega) h2
 have r0 : s2.rd1 b 0 = some (.pointer (some ⟨o, 0, none⟩)) := by rw [Ag h2.hb]; rfl
 have d66 := k66 (m + 1 + 1) (by omega) s2 o
 obtain ⟨s3, hs3⟩ : ∃ s3, s3 = s2.new (.cells [.pointer (some ⟨o, 0, none⟩)] 65 true) := ⟨_, rfl⟩
 rw [← hs3] at d66
 have x3 : Ext s2 s3 := by rw [hs3]; exact (Ext.refl s2).new _
 have n3 : s3.nx = s2.nx + 1 := by rw [hs3]; rfl
 obtain ⟨s4, hs4⟩ : ∃ s4, s4 = s3.new (Uu (.pointer (some ⟨b, 0, none⟩)) (.int .i64 0) (.pointer (some ⟨s.nx, 0, none⟩)) (.pointer (some ⟨b, 0, none⟩)) (.bool false) (.bool true) (.pointer (some ⟨b, 0, none⟩)) (.pointer (some ⟨b, 0, none⟩)) (.pointer (some ⟨b, 0, none⟩)) (.pointer (some ⟨o, 0, none⟩)) (.func (.func 99) ⟨[]⟩ ⟨[.pointer (some ⟨s2.nx, 0, none⟩)]⟩)) := ⟨_, rfl⟩
 have x4 : Ext s3 s4 := by rw [hs4]; exact (Ext.refl s3).new _
 have n4 : s4.nx = s3.nx + 1 := by rw [hs4]; rfl
 have x24 := x3.trans x4
 have h4 := h2.ext x24
 have gl : s4.get s3.nx = some (Uu (.pointer (some ⟨b, 0, none⟩)) (.int .i64 0) (.pointer (some ⟨s.nx, 0, none⟩)) (.pointer (some ⟨b, 0, none⟩)) (.bool false) (.bool true) (.pointer (some ⟨b, 0, none⟩)) (.pointer (some ⟨b, 0, none⟩)) (.pointer (some ⟨b, 0, none⟩)) (.pointer (some ⟨o, 0, none⟩)) (.func (.func 99) ⟨[]⟩ ⟨[.pointer (some ⟨s2.nx, 0, none⟩)]⟩)) := by rw [hs4, A8.Af, if_pos rfl]
 have gc : s4.get s.nx = some (.cells [.int .i64 0] 3 true) := (x24.get _ (by omega)).trans g2
 have gq : s4.get s2.nx = some (.cells [.pointer (some ⟨o, 0, none⟩)] 65 true) := by rw [x4.get _ (by omega), hs3, A8.Af, if_pos rfl]
 have hlc : s.nx ≠ s3.nx := by omega
 have inv := h.ok.inv
 obtain ⟨s5, Y5, e5, S5⟩ := kD (B := body30 m s3.nx s.nx hlc (.pointer (some ⟨b, 0, none⟩)) (.int .i64 0) (.pointer (some ⟨b, 0, none⟩)) (.bool false) (.bool true) (.pointer (some ⟨b, 0, none⟩)) (.pointer (some ⟨b, 0, none⟩)) (.pointer (some ⟨b, 0, none⟩)) (.pointer (some ⟨o, 0, none⟩)) (.func (.func 99) ⟨[]⟩ ⟨[.pointer (some ⟨s2.nx, 0, none⟩)]⟩) s4 (run H).comps.length) (Y0 := fun i => i = s3.nx ∨ i = s.nx)
  (m + 1) (by omega) inv.inv rfl inv.Pv (fun k hk => h.ok.homes hk) h4.off gq (by omega) (by rintro (e | e) <;> omega) (fun i hi e => by
   have := h.hi i (h.fo i hi)
   rcases e with e | e <;> omega) ⟨gl, gc, by omega, by omega, fun i => Iff.rfl⟩
 obtain ⟨gl5, gc5, _, _, _⟩ := S5.inv
 have gl5' : s5.get s3.nx = some (.loop .ready none (EW (.pointer (some ⟨b, 0, none⟩)) (.int .i64 0) (.pointer (some ⟨s.nx, 0, none⟩)) (.pointer (some ⟨b, 0, none⟩)) (.bool false) (.bool true) (.pointer (some ⟨b, 0, none⟩)) (.pointer (some ⟨b, 0, none⟩)) (.pointer (some ⟨b, 0, none⟩)) (.pointer (some ⟨o, 0, none⟩)) (.func (.func 99) ⟨[]⟩ ⟨[.pointer (some ⟨s2.nx, 0, none⟩)]⟩)) Iw GV EI) := gl5
 obtain ⟨s6, hs6⟩ : ∃ s6, s6 = s5.put s3.nx (.loop .exhausted none (EW (.pointer (some ⟨b, 0, none⟩)) (.int .i64 0) (.pointer (some ⟨s.nx, 0, none⟩)) (.pointer (some ⟨b, 0, none⟩)) (.bool false) (.bool true) (.pointer (some ⟨b, 0, none⟩)) (.pointer (some ⟨b, 0, none⟩)) (.pointer (some ⟨b, 0, none⟩)) (.pointer (some ⟨o, 0, none⟩)) (.func (.func 99) ⟨[]⟩ ⟨[.pointer (some ⟨s2.nx, 0, none⟩)]⟩)) Iw GV EI) := ⟨_, rfl⟩
 have gc6 : s6.rd1 s.nx 0 = some (.int .i64 ((D7 (run H)).length : Int)) := by rw [Ag (by rw [hs6, A8.get_put, if_neg hlc]; exact gc5)]; rfl
 have n6 : s6.nx = s5.nx := by rw [hs6]; rfl
 have s5n := S5.nx
 refine ⟨s6, ?_, ⟨by omega, fun i hi => ?_⟩⟩
 · have e5' : X0 (AU AB Ah (m + 1 + 1)) [.func (.yield s3.nx) ⟨[]⟩ ⟨[]⟩] s4 (.func (.func 99) ⟨[]⟩ ⟨[.pointer (some ⟨s2.nx, 0, none⟩)]⟩) = .ok (.tuple ⟨[]⟩, s5) := by
    show AU AB Ah (m + 1 + 1) (.fn 99) ([] ++ ([.func (.yield s3.nx) ⟨[]⟩ ⟨[]⟩] ++ [.pointer (some ⟨s2.nx, 0, none⟩)])) s4 = _
    rw [Au 99 c99 rfl]
    exact e5
   have fin := gK (AU AB Ah (m + 1 + 1)) (m + 1 + 1) (.pointer (some ⟨b, 0, none⟩)) (.int .i64 0) (.pointer (some ⟨s.nx, 0, none⟩)) (.pointer (some ⟨b, 0, none⟩)) (.bool false) (.bool true) (.pointer (some ⟨b, 0, none⟩)) (.pointer (some ⟨b, 0, none⟩)) (.pointer (some ⟨b, 0, none⟩)) (.pointer (some ⟨o, 0, none⟩)) (.func (.func 99) ⟨[]⟩ ⟨[.pointer (some ⟨s2.nx, 0, none⟩)]⟩) s6
   simp only [CS, gc6, Ad, BD, bind_ok] at fin
   have ep : ptrTo s.nx = .pointer (some ⟨s.nx, 0, none⟩) := rfl
   have es4 : s3.new (.loop .ready none (EW (.pointer (some ⟨b, 0, none⟩)) (.int .i64 0) (.pointer (some ⟨s.nx, 0, none⟩)) (.pointer (some ⟨b, 0, none⟩)) (.bool false) (.bool true) (.pointer (some ⟨b, 0, none⟩)) (.pointer (some ⟨b, 0, none⟩)) (.pointer (some ⟨b, 0, none⟩)) (.pointer (some ⟨o, 0, none⟩)) (.func (.func 99) ⟨[]⟩ ⟨[.pointer (some ⟨s2.nx, 0, none⟩)]⟩)) Iw GV EI) = s4 := hs4.symm
   have el := WU (K := gJ (AU AB Ah (m + 1 + 1)) (m + 1 + 1)) (env := EW (.pointer (some ⟨b, 0, none⟩)) (.int .i64 0) (.pointer (some ⟨s.nx, 0, none⟩)) (.pointer (some ⟨b, 0, none⟩)) (.bool false) (.bool true) (.pointer (some ⟨b, 0, none⟩)) (.pointer (some ⟨b, 0, none⟩)) (.pointer (some ⟨b, 0, none⟩)) (.pointer (some ⟨o, 0, none⟩)) (.func (.func 99) ⟨[]⟩ ⟨[.pointer (some ⟨s2.nx, 0, none⟩)]⟩)) gl5'
   rw [← hs6, fin] at el
   rw [Au 30 c30 rfl, f30_eq, ← hs1]
   simp only [ep, w, Aq, bind_ok, d51, Jh, Bool.not_false, Ad, BD, Ar, Du, H8, EC, Nat.zero_add, CS, r0, d66, es4, e5', el]
 · rw [hs6, A8.get_put, if_neg (by omega), S5.get i (by omega) (by rintro (e | e) <;> omega), x24.get i (by omega)]
   exact x2.get i hi
end
end Go.Im
set_option maxRecDepth 100000
set_option maxHeartbeats 4000000
namespace Go.Im
def Eh (k : Nat) : List UInt8 := [QK, QL, needle, pivot].getD k []
def gV (C : List Bj) (x : Tr3) : List UInt8 := Gh [32] [Dp, nameAt C x.2.1, nameAt C x.2.2, Eh x.1]
theorem Jq (k : Nat) : (Eh k).length ≤ 6 := by
 unfold Eh
 match k with
 | 0 => decide
 | 1 => decide
 | 2 => decide
 | 3 => decide
 | n + 4 => simp
noncomputable def obj29 (q1 out : Nat) (a2 a10 a11 a12 a13 a14 : Value) : CQ := .loop .ready none (kF (.pointer (some ⟨q1, 0, none⟩)) a2 (.pointer (some ⟨out, 0, none⟩)) a10 a11 a12 a13 a14) f29_ps kE gI
section
variable {b o : Nat} {H : Hist} {F : Nat → Prop} {tag : Nat → Nat} {cb pb lb eb : Option Nat} {E : List Nat} {lv ev : Value}
end
end Go.Im
set_option maxRecDepth 100000
set_option maxHeartbeats 4000000
namespace Go.Im
def gW (H : Hist) (d : List Tr3) : List (List UInt8) := d.map (gV (run H).comps)
section
variable {b o : Nat} {H : Hist} {F : Nat → Prop} {tag : Nat → Nat} {cb pb lb eb : Option Nat} {E : List Nat} {lv ev : Value}
structure I29 (m l q1 out z : Nat) (a2 a10 a11 a12 a13 a14 : Value) (H : Hist) (b o : Nat) (F : Nat → Prop) (tag : Nat → Nat) (cb pb lb eb : Option Nat) (E : List Nat) (lv ev : Value) (d : List Tr3) (Y : Nat → Prop) (s : A8) : Prop where
 hl : s.get l = some (obj29 q1 out a2 a10 a11 a12 a13 a14)
 hq : s.get q1 = some (.cells [.pointer (some ⟨b, 0, none⟩)] 24 true)
 hB : D5 s b H F tag o cb pb lb eb E lv ev
 hK : KOk s
 ex : ∃ ov base, s.get out = some (.cells [ov] 22 true) ∧ Bc s base 9 1 ((gW H d).map strOf) (gW H d).length ov ∧ base ≠ some out ∧ base ≠ some l ∧ (∀ i, base = some i → z ≤ i) ∧ (∀ i, Y i ↔ i = l ∨ i = out ∨ base = some i)
 ll : l < s.nx
 ol : out < s.nx
end
end Go.Im
