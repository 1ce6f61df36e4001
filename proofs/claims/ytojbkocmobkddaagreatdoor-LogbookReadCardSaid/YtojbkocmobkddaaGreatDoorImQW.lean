/- The swaps that bring all parts home, on the ideal machine: what yields them. -/
import Derived.Test.YtojbkocmobkddaaGreatDoorImQP
import Derived.Test.YtojbkocmobkddaaGreatDoorImHM
import Derived.Test.YtojbkocmobkddaaGreatDoorImEQR
set_option linter.all false
set_option maxRecDepth 100000
set_option maxHeartbeats 4000000
namespace Go.Im
abbrev Tr3 := Nat × Nat × Nat
structure Body (sf : Self) (v0 : Value) (s0 : AA) (n : Nat) where
 Inv : List Tr3 → (Nat → Prop) → AA → Prop
 lt : ∀ {d Y s}, Inv d Y s → ∀ i, Y i → i < s.nx
 frame : ∀ {d Y s s'}, Inv d Y s → s.nx ≤ s'.nx → (∀ i, (Y i ∨ i < s0.nx) → s'.get i = s.get i) → Inv d Y s'
 step : ∀ {d Y s}, Inv d Y s → s0.nx ≤ s.nx → d.length < 1000 → ∀ k c e : Nat, k < 4 → c < n → e < n → ∃ s' Y', E8 sf [.int .i64 (k : Int), .agg ⟨[iV (c : Int), iV (e : Int)]⟩] s v0 = .ok (.bool true, s') ∧ Inv (d ++ [(k, c, e)]) Y' s' ∧ s.nx ≤ s'.nx ∧ (∀ i, i < s.nx → ¬ Y i → s'.get i = s.get i) ∧ (∀ i, Y' i → Y i ∨ s.nx ≤ i)
def hv (p : List Nat) : List Value := p.map fun x : Nat => iV (x : Int)
section
variable {sf : Self} {v0 : Value} {s0 : AA} {n : Nat} (B : Body sf v0 s0 n) (Y0 : Nat → Prop)
structure SW (d : List Tr3) (Y : Nat → Prop) (s : AA) : Prop where
 nx : s0.nx ≤ s.nx
 get : ∀ i, i < s0.nx → ¬ Y0 i → s.get i = s0.get i
 sub : ∀ i, Y i → Y0 i ∨ s0.nx ≤ i
 inv : B.Inv d Y s
variable {B Y0}
theorem Xg {p : List Nat} {i : Nat} (h : i < p.length) : (hv p)[i]? = some (iV (atD p i : Int)) := by
 unfold hv atD
 rw [List.getElem?_map, List.getD_eq_getElem?_getD, List.getElem?_eq_getElem h]; rfl
theorem kM (p : List Nat) (i v : Nat) : (hv p).set i (iV (v : Int)) = hv (p.set i v) := by unfold hv; rw [List.map_set]
theorem SW.put {d : List Tr3} {Y : Nat → Prop} {s : AA} (h : SW B Y0 d Y s) {b : Nat} (hb : s0.nx ≤ b) (hY : ¬ Y b) (o : CX) : SW B Y0 d Y (s.put b o) :=
 ⟨h.nx, fun i hi h0 => by rw [AA.get_put, if_neg (by omega)]; exact h.get i hi h0, h.sub, B.frame h.inv (Nat.le_refl _) fun i hi => by
  rw [AA.get_put, if_neg]
  intro e
  rcases hi with hi | hi
  · exact hY (by rw [← e]; exact hi)
  · omega⟩
theorem kN (N n1 n6 : Nat) (v1 v4 : Value) (k c hb : Nat) (hk : k < 4) (i9 i37 i38 : Int) (hn : n ≤ 8) : ∀ (f fu : Nat) (p : List Nat) (d : List Tr3) (Y : Nat → Prop) (s : AA), f < fu → p.length = n → c < n → Perm p → atD (DU f p c).2 c = c → d.length + (DU f p c).1.length < 900 →
 SW B Y0 d Y s → BX s (some hb) 3 1 (hv p) n v4 → s0.nx ≤ hb → ¬ Y hb →
 ∃ s' Y', QA B99 sf N n1 n6 fu v0 v1 (.int .i64 (k : Int)) v4 (.int .i64 (c : Int)) (.int .i64 i9) (.int .i64 i37) (.int .i64 i38) s = Nc B99 sf N n1 n6 v0 v1 (.int .i64 (k : Int)) v4 (.int .i64 i9) (.int .i64 i37) (.int .i64 (Az .i64 (i38 + 1))) s' ∧
  SW B Y0 (d ++ (DU f p c).1.map fun x => (k, x.1, x.2)) Y' s' ∧ BX s' (some hb) 3 1 (hv (DU f p c).2) n v4 ∧ ¬ Y' hb ∧ s.nx ≤ s'.nx
 | f, fu, p, d, Y, s, hf, hp, hc, hP, hd, hl, hS, hA, h0, hY => by
  obtain ⟨fu, rfl, _⟩ := Ac (show 1 ≤ fu by omega)
  obtain ⟨b1, hb1, ia⟩ := hA.iad c hc .i64
  obtain rfl : hb = b1 := Option.some.inj hb1
  obtain ⟨b2, hb2, g⟩ := hA.get (i := c) (x := iV (atD p c : Int)) (Xg (by omega))
  obtain rfl : hb = b2 := Option.some.inj hb2
  rw [Nat.mul_one] at ia
  have g : s.rd1 hb c = some (.int .i64 (atD p c : Int)) := g
  by_cases e : atD p c = c
  · have er : DU f p c = ([], p) := by cases f with | zero => rfl | succ f => rw [DU, if_pos e]
    rw [er]
    refine ⟨s, Y, ?_, by simpa using hS, hA, hY, Nat.le_refl _⟩
    have ei : (atD p c : Int) = (c : Int) := by omega
    rw [Sv B99 rfl]
    simp only [ia, AY, Aq, bind_ok, CO, g, DF, decide_eq_true ei, Bool.not_true, Af, cond_false, Eb]
  · match f, hf with
    | 0, _ => exact absurd hd (by show ¬ atD p c = c; exact e)
    | f + 1, hf =>
     have er : DU (f + 1) p c = ((c, atD p c) :: (DU f (Ia p c (atD p c)) c).1, (DU f (Ia p c (atD p c)) c).2) := by rw [DU, if_neg e]
     rw [er] at hd hl ⊢
     have hdl : atD p c < n := by have := hP.lt c (by omega); omega
     obtain ⟨x, hx⟩ : ∃ x, x = atD p c := ⟨_, rfl⟩
     rw [← hx] at hd hl hdl g e ⊢
     obtain ⟨s1, Y1, call, i1, n1', g1, y1⟩ := B.step hS.inv hS.nx (by simp at hl; omega) k c x hk hc hdl
     have hbs := hA.lt rfl
     have S1 : SW B Y0 (d ++ [(k, c, x)]) Y1 s1 := ⟨by have := hS.nx; omega, fun i hi h0' => by
      rw [g1 i (by have := hS.nx; omega) (fun hh => by rcases hS.sub i hh with h | h; exact h0' h; omega)]; exact hS.get i hi h0', fun i hi => by
      rcases y1 i hi with h | h
      · exact hS.sub i h
      · exact .inr (by have := hS.nx; omega), i1⟩
     have hY1 : ¬ Y1 hb := fun h => by rcases y1 hb h with h | h; exact hY h; omega
     have A1 := hA.frame n1' fun b' e' => by obtain rfl := Option.some.inj e'; exact g1 hb hbs hY
     obtain ⟨b3, hb3, iax⟩ := A1.iad x hdl .i64
     obtain rfl : hb = b3 := Option.some.inj hb3
     rw [Nat.mul_one] at iax
     obtain ⟨b4, hb4, gx⟩ := A1.get (i := x) (x := iV (atD p x : Int)) (Xg (by omega))
     obtain rfl : hb = b4 := Option.some.inj hb4
     obtain ⟨b5, hb5, gc⟩ := A1.get (i := c) (x := iV (x : Int)) (by rw [Xg (by omega), hx])
     obtain rfl : hb = b5 := Option.some.inj hb5
     obtain ⟨b6, fl6, hb6, _, w2, A2⟩ := A1.set (i := c) (by omega) (x := iV (atD p x : Int)) rfl
     obtain rfl : hb = b6 := Option.some.inj hb6
     obtain ⟨s2, hs2⟩ : ∃ s2, s2 = s1.put hb (.cells (fl6.set c (iV (atD p x : Int))) 3 true) := ⟨_, rfl⟩
     rw [← hs2] at w2 A2
     have S2 : SW B Y0 (d ++ [(k, c, x)]) Y1 s2 := by rw [hs2]; exact S1.put h0 hY1 _
     rw [kM] at A2
     obtain ⟨b7, fl7, hb7, _, w3, A3⟩ := A2.set (i := x) (by omega) (x := iV (x : Int)) rfl
     obtain rfl : hb = b7 := Option.some.inj hb7
     obtain ⟨s3, hs3⟩ : ∃ s3, s3 = s2.put hb (.cells (fl7.set x (iV (x : Int))) 3 true) := ⟨_, rfl⟩
     rw [← hs3] at w3 A3
     have S3 : SW B Y0 (d ++ [(k, c, x)]) Y1 s3 := by rw [hs3]; exact S2.put h0 hY1 _
     rw [kM] at A3
     have esw : (p.set c (atD p x)).set x x = Ia p c x := by unfold Ia; rw [← hx]
     rw [esw] at A3
     have n2 : s2.nx = s1.nx := by rw [hs2]; rfl
     have n3 : s3.nx = s2.nx := by rw [hs3]; rfl
     have hl' : (d ++ [(k, c, x)]).length + (DU f (Ia p c x) c).1.length < 900 := by simp at hl ⊢; omega
     obtain ⟨s', Y', e', S', A', Yh, n'⟩ := kN N n1 n6 v1 v4 k c hb hk i9 i37 i38 hn f fu (Ia p c x) (d ++ [(k, c, x)]) Y1 s3 (by omega) (by rw [GL]; exact hp) hc (hP.sw (by omega) (by omega)) hd hl' S3 A3 h0 hY1
     refine ⟨s', Y', ?_, ?_, A', Yh, by omega⟩
     · have ei : ¬ (x : Int) = (c : Int) := by omega
       have gx : s1.rd1 hb x = some (.int .i64 (atD p x : Int)) := gx
       have gc : s1.rd1 hb c = some (.int .i64 (x : Int)) := gc
       have w2 : wSt s1 1 (.int .i64 (atD p x : Int)) (.pointer (some ⟨hb, c, none⟩)) = some (Bl, s2) := w2
       have w3 : wSt s2 1 (.int .i64 (x : Int)) (.pointer (some ⟨hb, x, none⟩)) = some (Bl, s3) := w3
       have nb2 : Nat.ble s1.nx s2.nx = true := Ae.2 (by omega)
       have nb3 : Nat.ble s2.nx s3.nx = true := Ae.2 (by omega)
       have ef : ob (fill [.int .i64 0, .int .i64 0] [(0, 1, (.int .i64 (c : Int))), (1, 1, (.int .i64 (x : Int)))]) (fun c => some (Value.agg ⟨c⟩)) = some (.agg ⟨[iV (c : Int), iV (x : Int)]⟩) := rfl
       have e10 : UO B99 sf N n1 n6 fu v0 v1 (.int .i64 (k : Int)) v4 (.int .i64 (c : Int)) (.int .i64 (x : Int)) (.int .i64 i9) (.int .i64 i37) (.int .i64 i38) s1 = QA B99 sf N n1 n6 fu v0 v1 (.int .i64 (k : Int)) v4 (.int .i64 (c : Int)) (.int .i64 i9) (.int .i64 i37) (.int .i64 i38) s3 := by
        rw [XB B99 rfl]
        simp only [CQ, cond_true, iax, ia, AY, Aq, DJ, CO, gx, gc, w2, w3, BF, nb2, nb3]
       rw [Sv B99 rfl]
       simp only [ia, AY, Aq, bind_ok, CO, g, DF, decide_eq_false ei, Bool.not_false, Af, cond_true, Zy B99 rfl, ef, call, Dx, Bool.not_true, cond_false, e10]
       exact e'
     · rw [List.map_cons, List.append_cons]; exact S'
end
end Go.Im
set_option maxRecDepth 100000
set_option maxHeartbeats 4000000
namespace Go.Im
section
variable {sf : Self} {v0 : Value} {s0 : AA} {n : Nat} {B : Body sf v0 s0 n} {Y0 : Nat → Prop}
theorem SW.ext {d : List Tr3} {Y : Nat → Prop} {s s' : AA} (h : SW B Y0 d Y s) (x : Ext s s') : SW B Y0 d Y s' :=
 ⟨Nat.le_trans h.nx x.nx, fun i hi h0 => (x.get i (Nat.lt_of_lt_of_le hi h.nx)).trans (h.get i hi h0), h.sub, B.frame h.inv x.nx fun i hi => x.get i (by
  rcases hi with hi | hi
  · exact B.lt h.inv i hi
  · exact Nat.lt_of_lt_of_le hi h.nx)⟩
theorem k99_L6 (N n1 : Nat) (v1 v4 : Value) (k : Nat) (hk : k < 4) (i9 : Int) (hn : n ≤ 8) (hN : 20 ≤ N) : ∀ (rem c fu : Nat) (p : List Nat) (d : List Tr3) (Y : Nat → Prop) (s : AA) (base : Option Nat), c + rem = n → rem < fu → p.length = n → Perm p → d.length + rem * 8 < 800 →
 SW B Y0 d Y s → BX s base 3 1 (hv p) n v4 → (∀ hb, base = some hb → s0.nx ≤ hb ∧ ¬ Y hb) →
 ∃ s' Y', Nc B99 sf N n1 fu v0 v1 (.int .i64 (k : Int)) v4 (.int .i64 i9) (.int .i64 (n : Int)) (.int .i64 (c : Int)) s = Jr B99 sf N n1 v0 v1 (.int .i64 (Az .i64 (i9 + 1))) s' ∧
  SW B Y0 (d ++ (Uh n (List.range' c rem) p).1.map fun x => (k, x.1, x.2)) Y' s' ∧ s.nx ≤ s'.nx := by
 intro rem
 induction rem with
 | zero =>
  intro c fu p d Y s base hc hf hp hP hl hS hA hb
  obtain ⟨fu, rfl, _⟩ := Ac hf
  refine ⟨s, Y, ?_, by simpa [Uh] using hS, Nat.le_refl _⟩
  have : ¬ (c : Int) < (n : Int) := by omega
  rw [Sr B99 rfl]
  simp only [BP, decide_eq_false this, Dq, Eb]
 | succ rem ih =>
  intro c fu p d Y s base hc hf hp hP hl hS hA hb
  obtain ⟨fu, rfl, _⟩ := Ac hf
  have hcn : c < n := by omega
  cases base with
  | none => obtain ⟨_, h2, _⟩ := hA; omega
  | some hb' =>
   obtain ⟨h0, hY⟩ := hb hb' rfl
   obtain ⟨pp, pl, pc⟩ := LV n p c hP (by omega)
   have dn := aV hP (c := c) (by omega)
   rw [hp] at dn
   obtain ⟨s1, Y1, e1, S1, A1, Yh, n1'⟩ := kN N n1 fu v1 v4 k c hb' hk i9 (n : Int) (c : Int) hn n N p d Y s (by omega) hp hcn hP dn (by omega) hS hA h0 hY
   have hw : Az .i64 ((c : Int) + 1) = ((c + 1 : Nat) : Int) := by rw [wrap64 (by omega)]; omega
   obtain ⟨s2, Y2, e2, S2, n2⟩ := ih (c + 1) fu (DU n p c).2 (d ++ (DU n p c).1.map fun x => (k, x.1, x.2)) Y1 s1 (some hb') (by omega) (by omega) (pl.trans hp) pp (by simp; omega) S1 A1 (fun hb'' e => by obtain rfl := Option.some.inj e; exact ⟨h0, Yh⟩)
   refine ⟨s2, Y2, ?_, ?_, by omega⟩
   · have hlt : (c : Int) < (n : Int) := by omega
     rw [hw] at e1
     rw [Sr B99 rfl]
     simp only [BP, decide_eq_true hlt, DV, Zx B99 rfl]
     exact e1.trans e2
   · rw [List.range'_succ]
     show SW B Y0 (d ++ ((DU n p c).1 ++ (Uh n (List.range' (c + 1) rem) (DU n p c).2).1).map fun x => (k, x.1, x.2)) Y2 s2
     rw [List.map_append, ← List.append_assoc]
     exact S2
theorem Vr {c : CG} (h : c.ok) {k : Nat} (hk : k < 4) : (BQ c)[1 + k]? = some (iV ((c.parts.getD k 0 : Nat) : Int)) := by
 obtain ⟨h1, h2, h3⟩ := h
 unfold BQ
 rw [Nat.add_comm 1 k, List.getElem?_cons_succ, List.getElem?_append_left (by simp [h1, hk]), List.getElem?_map, List.getD_eq_getElem?_getD, List.getElem?_eq_getElem (by omega)]
 rfl
theorem k99_L3 (N n1 : Nat) {O : Off} {K : List Nat} (hI : Ei O K) (hcl : O.comps.length ≤ 8) {o qb : Nat} {cb pb : Option Nat} {t0 : AA} (hO : Ah t0 o cb pb O) (hq : t0.get qb = some (.cells [.pointer (some ⟨o, 0, none⟩)] 65 true)) (hql : qb < t0.nx) {cv : Value} (hcv : BX t0 cb 120 21 (O.comps.flatMap BQ) O.comps.length cv) (v0 : Value) (k : Nat) (hk : k < 4) : ∀ (d i f : Nat) (t : AA) (base : Option Nat) (v4 : Value), i + d = O.comps.length → d < f → Ext t0 t →
 BX t base 3 1 (hv ((homesOf O k).take i)) i v4 → (∀ b, base = some b → t0.nx ≤ b) →
 ∃ t' base' v4', Q9 B99 sf N n1 f v0 (.pointer (some ⟨qb, 0, none⟩)) (.int .i64 (k : Int)) v4 (.int .i64 (k : Int)) cv (.int .i64 (O.comps.length : Int)) (.int .i64 (i : Int)) t = UN B99 sf N n1 v0 (.pointer (some ⟨qb, 0, none⟩)) (.int .i64 (k : Int)) v4' (.int .i64 (k : Int)) t' ∧ Ext t0 t' ∧
  BX t' base' 3 1 (hv (homesOf O k)) O.comps.length v4' ∧ (∀ b, base' = some b → t0.nx ≤ b) := by
 intro d
 induction d with
 | zero =>
  intro i f t base v4 hi hf x hA hb
  obtain ⟨f, rfl, _⟩ := Ac hf
  obtain rfl : i = O.comps.length := by omega
  have : ¬ (O.comps.length : Int) < (O.comps.length : Int) := by omega
  refine ⟨t, base, v4, ?_, x, ?_, hb⟩
  · rw [Sm B99 rfl]
    simp only [BP, decide_eq_false this, Dq]
  · rwa [List.take_of_length_le (by rw [CP]; exact Nat.le_refl _)] at hA
 | succ d ih =>
  intro i f t base v4 hi hf x hA hb
  obtain ⟨f, rfl, _⟩ := Ac hf
  have hil : i < O.comps.length := by omega
  obtain ⟨c, hc⟩ := Bv hil
  have hok := hO.ok c (List.mem_of_getElem? hc)
  have hlt : (i : Int) < (O.comps.length : Int) := by omega
  have hw : Az .i64 ((i : Int) + 1) = ((i + 1 : Nat) : Int) := by rw [wrap64 (by omega)]; omega
  have hC2 := hcv.frame x.nx fun b e => x.get b (hcv.lt e)
  obtain ⟨b, hcb, ia⟩ := hC2.iad i hil .i64
  subst hcb
  have hrd : DY t 21 (.pointer (some ⟨b, i * 21, none⟩)) = some (.agg ⟨BQ c⟩) := Eh (by rw [hC2.rd (by have : (i + 1) * 21 ≤ O.comps.length * 21 := Nat.mul_le_mul_right _ hil; omega), ER BQ 21 _ i c (fun a ha => D8 (hO.ok a ha)) hc])
  obtain ⟨s3, hs3⟩ : ∃ s3, s3 = t.new (.cells zero21 120 true) := ⟨_, rfl⟩
  have x3 : Ext t s3 := by rw [hs3]; exact (Ext.refl t).new _
  have n3 : s3.nx = t.nx + 1 := by rw [hs3]; rfl
  obtain ⟨s4, w4', q4, n4, g4⟩ := w21g (s := s3) (q := t.nx) (c := zero21) (by rw [hs3, AA.Ak, if_pos rfl]) rfl (vs := BQ c) (D8 hok) (E9 c)
  have x4 : Ext t s4 := ⟨by omega, fun j hj => by rw [g4 j (by omega)]; exact x3.get j hj⟩
  have x04 := x.trans x4
  have hO4 := hO.ext x04
  obtain ⟨cv', pv, _, q1, _, hP⟩ := hO4.slices
  have rq : s4.rd1 qb 0 = some (.pointer (some ⟨o, 0, none⟩)) := by rw [Ai ((x04.get qb hql).trans hq)]; rfl
  have hpa : partAt O.comps i k = c.parts.getD k 0 := by unfold partAt; rw [hc]
  have rp : s4.rd1 t.nx (1 + k) = some (.int .i64 (partAt O.comps i k : Int)) := by rw [Ai q4, hpa]; exact Vr hok hk
  obtain ⟨pt, p1, p2, p3⟩ := hI.at_ i k hil hk
  have hpl := BK p1
  obtain ⟨b2, hb2, ia2⟩ := hP.iad _ hpl .i64
  obtain ⟨b2', hb2', g2⟩ := hO4.rdPrt p1 (i := 1) (x := .int .i64 pt.2) (by decide) rfl
  obtain rfl : b2 = b2' := Option.some.inj (hb2.symm.trans hb2')
  obtain ⟨j, j1, j2⟩ := hI.home pt (List.mem_of_getElem? p1)
  have hho : D7 O.parts (partAt O.comps i k) = (j : Int) := by unfold D7; rw [p1]; exact j1
  rw [j1] at g2
  have hge : (homesOf O k)[i]? = some j := by rw [ET, if_pos hil, hho]; rfl
  have hA4 := hA.frame x4.nx fun b' e => x4.get b' (hA.lt e)
  obtain ⟨v', s5, b5, w5, hA5, hb5, x5, n5, _, _⟩ := MZ (by_ := 8) (news := [iV (j : Int)]) x04 hA4 hb (by decide) (by omega) (by show _ < 9223372036854775808; omega) rfl rfl
  have et : hv ((homesOf O k).take i) ++ [iV (j : Int)] = hv ((homesOf O k).take (i + 1)) := by
   rw [List.take_add_one, hge]; unfold hv; rw [List.map_append]; rfl
  rw [et] at hA5
  obtain ⟨t', base', v4', e, r⟩ := ih (i + 1) f s5 b5 v' (by omega) (by omega) x5 hA5 hb5
  refine ⟨t', base', v4', ?_, r⟩
  have es3 : t.new (.cells [.string ⟨#[]⟩, .int .i64 0, .int .i64 0, .int .i64 0, .int .i64 0, .int .i64 0, .int .i64 0, .int .i64 0, .int .i64 0, .int .i64 0, .int .i64 0, .int .i64 0, .int .i64 0, .bool false, .bool false, .bool false, .bool false, .bool false, .bool false, .bool false, .bool false] 120 true) = s3 := hs3.symm
  have ep : ptrTo t.nx = .pointer (some ⟨t.nx, 0, none⟩) := rfl
  have ia4 : CY 4 1 (.pointer (some ⟨t.nx, 1, none⟩)) (.int .i64 (k : Int)) = some (.pointer (some ⟨t.nx, 1 + k, none⟩)) := by rw [FP _ _ _ _ _ _ hk, Nat.mul_one]
  have ef : ob (fill (zeros [.int .i64 0] 1) [(0, 1, (.int .i64 (j : Int)))]) (fun c => some (CX.cells c 3 true, Bo 1 1)) = some (.cells [iV (j : Int)] 3 true, Bo 1 1) := rfl
  have nb : Nat.ble s4.nx (s4.new (.cells [iV (j : Int)] 3 true)).nx = true := Ae.2 (by show s4.nx ≤ s4.nx + 1; omega)
  have nb5 : Nat.ble (s4.new (.cells [iV (j : Int)] 3 true)).nx s5.nx = true := Ae.2 (by show s4.nx + 1 ≤ s5.nx; omega)
  rw [Sm B99 rfl]
  simp only [BP, decide_eq_true hlt, DV, Zv B99 rfl, ia, AY, Aq, bind_ok, hrd, es3, ep, w4', BF, DJ, CQ, CO, rq, Es, DN, Nat.zero_add, q1, ia4, rp, ia2, g2, ef, nb, w5, nb5, Eb, hw]
  exact e
theorem Me (N n1 : Nat) (hN : 20 ≤ N) {O : Off} {K : List Nat} (hI : Ei O K) (hn : O.comps.length = n) (hn8 : n ≤ 8) (hP : ∀ k, k < 4 → Perm (homesOf O k)) {o qb : Nat} {cb pb : Option Nat} (hO : Ah s0 o cb pb O) (hq : s0.get qb = some (.cells [.pointer (some ⟨o, 0, none⟩)] 65 true)) (hql : qb < s0.nx) (hqY : ¬ Y0 qb) (hoY : ∀ i, E5 o cb pb i → ¬ Y0 i) (k : Nat) (hk : k < 4) {d : List Tr3} {Y : Nat → Prop} {s : AA} (hd : d.length < 300) (hS : SW B Y0 d Y s) :
 ∃ s' Y', Jr B99 sf N (n1 + 1) v0 (.pointer (some ⟨qb, 0, none⟩)) (.int .i64 (k : Int)) s = Jr B99 sf N n1 v0 (.pointer (some ⟨qb, 0, none⟩)) (.int .i64 ((k + 1 : Nat) : Int)) s' ∧ SW B Y0 (d ++ swk O k) Y' s' ∧ s.nx ≤ s'.nx := by
 have hOs : Ah s o cb pb O := hO.frame hS.nx fun b hb => hS.get b (hO.sub hb) (hoY b hb)
 have hqs : s.get qb = some (.cells [.pointer (some ⟨o, 0, none⟩)] 65 true) := (hS.get qb hql hqY).trans hq
 obtain ⟨cv, pv, q0, q1, hC, _⟩ := hOs.slices
 have rq : s.rd1 qb 0 = some (.pointer (some ⟨o, 0, none⟩)) := by rw [Ai hqs]; rfl
 obtain ⟨t, base, v4, e3, xt, hA, hb⟩ := k99_L3 (sf := sf) N n1 hI (by omega) hOs hqs (Nat.lt_of_lt_of_le hql hS.nx) hC v0 k hk O.comps.length 0 N s none (.slice none 0 0) (by omega) (by omega) (.refl s) ⟨rfl, rfl, rfl⟩ (by simp)
 have St := hS.ext xt
 have snx := hS.nx
 rw [hn] at hA
 obtain ⟨s', Y', e6, S6, n6⟩ := k99_L6 (B := B) (Y0 := Y0) N n1 (.pointer (some ⟨qb, 0, none⟩)) v4 k hk (k : Int) hn8 hN n 0 N (homesOf O k) d Y t base (by omega) (by omega) (by rw [CP, hn]) (hP k hk) (by omega) St hA (fun hb' e => ⟨by have := hb hb' e; omega, fun hh => by have := B.lt hS.inv hb' hh; have := hb hb' e; omega⟩)
 refine ⟨s', Y', ?_, ?_, by have := xt.nx; omega⟩
 · have hlt : (k : Int) < 4 := by omega
   have hw : Az .i64 ((k : Int) + 1) = ((k + 1 : Nat) : Int) := by rw [wrap64 (by omega)]; omega
   rw [hw] at e6
   have e6 : Nc B99 sf N n1 N v0 (.pointer (some ⟨qb, 0, none⟩)) (.int .i64 (k : Int)) v4 (.int .i64 (k : Int)) (.int .i64 (n : Int)) (.int .i64 0) t = Jr B99 sf N n1 v0 (.pointer (some ⟨qb, 0, none⟩)) (.int .i64 ((k + 1 : Nat) : Int)) s' := e6
   have e3 : Q9 B99 sf N n1 N v0 (.pointer (some ⟨qb, 0, none⟩)) (.int .i64 (k : Int)) (.slice none 0 0) (.int .i64 (k : Int)) cv (.int .i64 (O.comps.length : Int)) (.int .i64 0) s = UN B99 sf N n1 v0 (.pointer (some ⟨qb, 0, none⟩)) (.int .i64 (k : Int)) v4 (.int .i64 (k : Int)) t := e3
   rw [Sl B99 rfl]
   simp only [BP, decide_eq_true hlt, DV, Zu B99 rfl, CO, rq, AY, Aq, bind_ok, Es, DN, Nat.zero_add, q0, hC.len_eq, e3, Zw B99 rfl, hA.len_eq, e6]
 · have : swk O k = (Uh n (List.range' 0 n) (homesOf O k)).1.map fun x => (k, x.1, x.2) := by
    unfold swk Uj
    rw [CP, hn, List.range_eq_range']
   rw [this]; exact S6
theorem Ym (N : Nat) (hN : 20 ≤ N) {O : Off} {K : List Nat} (hI : Ei O K) (hn : O.comps.length = n) (hn8 : n ≤ 8) (hP : ∀ k, k < 4 → Perm (homesOf O k)) {o qb : Nat} {cb pb : Option Nat} (hO : Ah s0 o cb pb O) (hq : s0.get qb = some (.cells [.pointer (some ⟨o, 0, none⟩)] 65 true)) (hql : qb < s0.nx) (hqY : ¬ Y0 qb) (hoY : ∀ i, E5 o cb pb i → ¬ Y0 i) (hi : B.Inv [] Y0 s0) :
 ∃ s' Y', EL AL sf N c99 [v0, .pointer (some ⟨qb, 0, none⟩)] s0 = .ok (.tuple ⟨[]⟩, s') ∧ SW B Y0 (H8 O) Y' s' := by
 have len : ∀ k, k < 4 → (swk O k).length ≤ 64 := fun k hk => by
  unfold swk Uj
  rw [List.length_map]
  have := QY (homesOf O k).length (List.range (homesOf O k).length) (homesOf O k) (hP k hk) rfl (by simp)
  rw [List.length_range, CP, hn] at this
  have h8 : n * n ≤ 8 * 8 := Nat.mul_le_mul hn8 hn8
  rw [CP, hn]; omega
 obtain ⟨N', rfl⟩ : ∃ f, N = f + 5 := ⟨N - 5, by omega⟩
 have S0 : SW B Y0 [] Y0 s0 := ⟨Nat.le_refl _, fun _ _ _ => rfl, fun i h => .inl h, hi⟩
 obtain ⟨s1, Y1, e1, S1, _⟩ := Me (N' + 5) (N' + 4) (by omega) hI hn hn8 hP hO hq hql hqY hoY 0 (by decide) (by decide) S0
 obtain ⟨s2, Y2, e2, S2, _⟩ := Me (N' + 5) (N' + 3) (by omega) hI hn hn8 hP hO hq hql hqY hoY 1 (by decide) (by have := len 0 (by decide); simp; omega) S1
 obtain ⟨s3, Y3, e3, S3, _⟩ := Me (N' + 5) (N' + 2) (by omega) hI hn hn8 hP hO hq hql hqY hoY 2 (by decide) (by have := len 0 (by decide); have := len 1 (by decide); simp; omega) S2
 obtain ⟨s4, Y4, e4, S4, _⟩ := Me (N' + 5) (N' + 1) (by omega) hI hn hn8 hP hO hq hql hqY hoY 3 (by decide) (by have := len 0 (by decide); have := len 1 (by decide); have := len 2 (by decide); simp; omega) S3
 refine ⟨s4, Y4, ?_, by simpa [H8] using S4⟩
 have last : Jr B99 sf (N' + 5) (N' + 1) v0 (.pointer (some ⟨qb, 0, none⟩)) (.int .i64 ((3 + 1 : Nat) : Int)) s4 = .ok (.tuple ⟨[]⟩, s4) := by
  rw [Sl B99 rfl]; rfl
 rw [f99_eq]
 exact e1.trans (e2.trans (e3.trans (e4.trans last)))
end
end Go.Im
set_option maxRecDepth 100000
set_option maxHeartbeats 4000000
namespace Go.Im
theorem OJ {T : MT} {sf : Self} {N l : Nat} {Ux : AB} {IQ : Env} {s : AA} {p : Option Un} {env : Env} {ps : List Nat} {asg body : AB} (h : s.get l = some (.loop .ready p env ps asg body)) :
 FH T sf N l Ux IQ s (s.get l) = exec T sf N Ux IQ (s.put l (.loop .busy p env ps asg body)) fun e _ s3 => endRound l e s3 (s3.get l) := by rw [h]; rfl
theorem OL {l : Nat} {s : AA} {p : Option Un} {env : Env} {ps : List Nat} {asg body : AB} (h : s.get l = some (.loop .busy p env ps asg body)) :
 endRound l .normal s (s.get l) = .ok (.bool true, s.put l (.loop .ready none env ps asg body)) := by rw [h]; rfl
theorem N7 {T : MT} {sf : Self} {N l : Nat} {av : List Value} {s : AA} {p : Option Un} {env : Env} {ps : List Nat} {asg body : AB} (h : s.get l = some (.loop .ready p env ps asg body)) :
 Fe T sf N l av s = obR 38 (IL env ps av) fun LZ => exec T sf N asg LZ s (AX (fun IQ s2 => FH T sf N l body IQ s2 (s2.get l)) (fun _ _ _ => .bad 39)) := by
 show Ot T sf N l av s (s.get l) = _
 rw [h]; rfl
theorem Qa {K : Kt (Value × AA)} {env env' : Env} {s : AA} {l : Nat} {ps : List Nat} {asg body : AB} (h : s.get l = some (.loop .ready none env' ps asg body)) :
 endLoop K env s l (s.get l) = K .normal env (s.put l (.loop .exhausted none env' ps asg body)) := by rw [h]; rfl
noncomputable def Vt (a0 a2 a3 a4 a5 a6 a7 a8 a9 a10 a11 : Value) : CX := .loop .ready none (Et a0 a2 a3 a4 a5 a6 a7 a8 a9 a10 a11) JK Gj EU
theorem oC (sf : Self) (N l c : Nat) (a0 a2 a4 a5 a6 a7 a8 a9 a10 a11 b12 b13 : Value) {s : AA} (hl : s.get l = some (Vt a0 a2 (.pointer (some ⟨c, 0, none⟩)) a4 a5 a6 a7 a8 a9 a10 a11)) {z : Nat} (hz : z < 1000000) (hc : s.get c = some (.cells [iV (z : Int)] 3 true)) (hlc : c ≠ l) :
 ∃ s', Fe AL sf N l [b12, b13] s = .ok (.bool true, s') ∧ s'.get l = s.get l ∧ s'.get c = some (.cells [iV ((z + 1 : Nat) : Int)] 3 true) ∧ s'.nx = s.nx ∧ (∀ i, i ≠ l → i ≠ c → s'.get i = s.get i) := by
 have hl' : s.get l = some (.loop .ready none (Et a0 a2 (.pointer (some ⟨c, 0, none⟩)) a4 a5 a6 a7 a8 a9 a10 a11) JK Gj EU) := hl
 obtain ⟨s1, hs1⟩ : ∃ s1, s1 = s.put l (.loop .busy none (Et a0 a2 (.pointer (some ⟨c, 0, none⟩)) a4 a5 a6 a7 a8 a9 a10 a11) JK Gj EU) := ⟨_, rfl⟩
 have g1 : s1.get c = some (.cells [iV (z : Int)] 3 true) := by rw [hs1, AA.get_put, if_neg hlc]; exact hc
 have r1 : s1.rd1 c 0 = some (.int .i64 (z : Int)) := by rw [Ai g1]; rfl
 have hw : Az .i64 ((z : Int) + 1) = ((z + 1 : Nat) : Int) := by rw [wrap64 (by omega)]; omega
 have w := MP (s := s1) (b := c) g1 (o := 0) (v := iV ((z + 1 : Nat) : Int)) rfl (by simp)
 obtain ⟨s2, hs2⟩ : ∃ s2, s2 = s1.put c (.cells [iV ((z + 1 : Nat) : Int)] 3 true) := ⟨_, rfl⟩
 have w : wSt s1 1 (.int .i64 ((z + 1 : Nat) : Int)) (.pointer (some ⟨c, 0, none⟩)) = some (Bl, s2) := by rw [hs2]; exact w
 have g2 : s2.get l = some (.loop .busy none (Et a0 a2 (.pointer (some ⟨c, 0, none⟩)) a4 a5 a6 a7 a8 a9 a10 a11) JK Gj EU) := by rw [hs2, AA.get_put, if_neg (Ne.symm hlc), hs1, AA.get_put, if_pos rfl]
 refine ⟨s2.put l (Vt a0 a2 (.pointer (some ⟨c, 0, none⟩)) a4 a5 a6 a7 a8 a9 a10 a11), ?_, by rw [AA.get_put, if_pos rfl, hl], by rw [AA.get_put, if_neg hlc, hs2, AA.get_put, if_pos rfl], by show s2.nx = _; rw [hs2]; show s1.nx = _; rw [hs1]; rfl, fun i h1 h2 => by rw [AA.get_put, if_neg h1, hs2, AA.get_put, if_neg h2, hs1, AA.get_put, if_neg h1]⟩
 rw [N7 hl', kV, OJ hl', ← hs1, kW]
 simp only [CO, r1, AY, Aq, bind_ok, Io, hw, w, BF]
 exact OL g2
noncomputable def body30 (m l c : Nat) (hlc : c ≠ l) (a0 a2 a4 a5 a6 a7 a8 a9 a10 a11 : Value) (s0 : AA) (n : Nat) : Body (AU AL Aj (m + 1)) (.func (.yield l) ⟨[]⟩ ⟨[]⟩) s0 n where
 Inv d Y s := s.get l = some (Vt a0 a2 (.pointer (some ⟨c, 0, none⟩)) a4 a5 a6 a7 a8 a9 a10 a11) ∧ s.get c = some (.cells [iV (d.length : Int)] 3 true) ∧ l < s.nx ∧ c < s.nx ∧ (∀ i, Y i ↔ i = l ∨ i = c)
 lt := fun h i hi => by
  rcases (h.2.2.2.2 i).1 hi with rfl | rfl
  · exact h.2.2.1
  · exact h.2.2.2.1
 frame := fun h hn hg => ⟨(hg l (.inl ((h.2.2.2.2 l).2 (.inl rfl)))).trans h.1, (hg c (.inl ((h.2.2.2.2 c).2 (.inr rfl)))).trans h.2.1, Nat.lt_of_lt_of_le h.2.2.1 hn, Nat.lt_of_lt_of_le h.2.2.2.1 hn, h.2.2.2.2⟩
 step := fun {d Y s} h _ hd k x e _ _ _ => by
  obtain ⟨s', r, g1, g2, n', g3⟩ := oC (AU AL Aj m) m l c a0 a2 a4 a5 a6 a7 a8 a9 a10 a11 (.int .i64 (k : Int)) (.agg ⟨[iV (x : Int), iV (e : Int)]⟩) h.1 (z := d.length) (by omega) h.2.1 hlc
  refine ⟨s', Y, r, ⟨g1.trans h.1, by rw [g2, List.length_append]; rfl, by rw [n']; exact h.2.2.1, by rw [n']; exact h.2.2.2.1, h.2.2.2.2⟩, by omega, fun i _ hY => g3 i (fun e => hY ((h.2.2.2.2 i).2 (.inl e))) (fun e => hY ((h.2.2.2.2 i).2 (.inr e))), fun i hi => .inl hi⟩
section
variable {s : AA} {b o : Nat} {H : Hist} {F : Nat → Prop} {tag : Nat → Nat} {cb pb lb eb : Option Nat} {E : List Nat} {lv ev : Value}
theorem k66 (n : Nat) (hn : 1 ≤ n) (s : AA) (o : Nat) : AU AL Aj n (.fn 66) [.pointer (some ⟨o, 0, none⟩)] s = .ok (.func (.func 99) ⟨[]⟩ ⟨[.pointer (some ⟨s.nx, 0, none⟩)]⟩, s.new (.cells [.pointer (some ⟨o, 0, none⟩)] 65 true)) := by
 obtain ⟨m, rfl, _⟩ := Ac hn
 rw [Ap 66 c66 rfl, f66_eq]; rfl
theorem k30 (n : Nat) (hn : 100 ≤ n) (h : CV s b H F tag o cb pb lb eb E lv ev) : Gives (AU AL Aj n (.fn 30) [.pointer (some ⟨b, 0, none⟩)] s) s (.int .i64 ((H8 (run H)).length : Int)) := by
 obtain ⟨m2, rfl, hm2⟩ := Ac (show 1 ≤ n by omega)
 obtain ⟨m1, rfl, hm1⟩ := Ac (show 1 ≤ m2 by omega)
 obtain ⟨m, rfl, hm⟩ := Ac (show 1 ≤ m1 by omega)
 obtain ⟨s1, hs1⟩ : ∃ s1, s1 = s.new (.cells [.int .i64 0] 3 true) := ⟨_, rfl⟩
 have x1 : Ext s s1 := by rw [hs1]; exact (Ext.refl s).new _
 have n1 : s1.nx = s.nx + 1 := by rw [hs1]; rfl
 have g1 : s1.get s.nx = some (.cells [.int .i64 0] 3 true) := by rw [hs1, AA.Ak, if_pos rfl]
 have w := MP (s := s1) (b := s.nx) g1 (o := 0) (v := .int .i64 0) rfl (by decide)
 obtain ⟨s2, hs2⟩ : ∃ s2, s2 = s1.put s.nx (.cells [.int .i64 0] 3 true) := ⟨_, rfl⟩
 have w : wSt s1 1 (.int .i64 0) (.pointer (some ⟨s.nx, 0, none⟩)) = some (Bl, s2) := by rw [hs2]; exact w
 have n2 : s2.nx = s1.nx := by rw [hs2]; rfl
 have x2 : Ext s s2 := ⟨by omega, fun i hi => by rw [hs2, AA.get_put, if_neg (by omega)]; exact x1.get i hi⟩
 have g2 : s2.get s.nx = some (.cells [.int .i64 0] 3 true) := by rw [hs2, AA.get_put, if_pos rfl]
 have h2 := h.ext x2
 have d51 := k51 (m + 1 + 1) (by omega) h2
 have r0 : s2.rd1 b 0 = some (.pointer (some ⟨o, 0, none⟩)) := by rw [Ai h2.hb]; rfl
 have d66 := k66 (m + 1 + 1) (by omega) s2 o
 obtain ⟨s3, hs3⟩ : ∃ s3, s3 = s2.new (.cells [.pointer (some ⟨o, 0, none⟩)] 65 true) := ⟨_, rfl⟩
 rw [← hs3] at d66
 have x3 : Ext s2 s3 := by rw [hs3]; exact (Ext.refl s2).new _
 have n3 : s3.nx = s2.nx + 1 := by rw [hs3]; rfl
 obtain ⟨s4, hs4⟩ : ∃ s4, s4 = s3.new (Vt (.pointer (some ⟨b, 0, none⟩)) (.int .i64 0) (.pointer (some ⟨s.nx, 0, none⟩)) (.pointer (some ⟨b, 0, none⟩)) (.bool false) (.bool true) (.pointer (some ⟨b, 0, none⟩)) (.pointer (some ⟨b, 0, none⟩)) (.pointer (some ⟨b, 0, none⟩)) (.pointer (some ⟨o, 0, none⟩)) (.func (.func 99) ⟨[]⟩ ⟨[.pointer (some ⟨s2.nx, 0, none⟩)]⟩)) := ⟨_, rfl⟩
 have x4 : Ext s3 s4 := by rw [hs4]; exact (Ext.refl s3).new _
 have n4 : s4.nx = s3.nx + 1 := by rw [hs4]; rfl
 have x24 := x3.trans x4
 have h4 := h2.ext x24
 have gl : s4.get s3.nx = some (Vt (.pointer (some ⟨b, 0, none⟩)) (.int .i64 0) (.pointer (some ⟨s.nx, 0, none⟩)) (.pointer (some ⟨b, 0, none⟩)) (.bool false) (.bool true) (.pointer (some ⟨b, 0, none⟩)) (.pointer (some ⟨b, 0, none⟩)) (.pointer (some ⟨b, 0, none⟩)) (.pointer (some ⟨o, 0, none⟩)) (.func (.func 99) ⟨[]⟩ ⟨[.pointer (some ⟨s2.nx, 0, none⟩)]⟩)) := by rw [hs4, AA.Ak, if_pos rfl]
 have gc : s4.get s.nx = some (.cells [.int .i64 0] 3 true) := (x24.get _ (by omega)).trans g2
 have gq : s4.get s2.nx = some (.cells [.pointer (some ⟨o, 0, none⟩)] 65 true) := by rw [x4.get _ (by omega), hs3, AA.Ak, if_pos rfl]
 have hlc : s.nx ≠ s3.nx := by omega
 have inv := h.ok.inv
 obtain ⟨s5, Y5, e5, S5⟩ := Ym (B := body30 m s3.nx s.nx hlc (.pointer (some ⟨b, 0, none⟩)) (.int .i64 0) (.pointer (some ⟨b, 0, none⟩)) (.bool false) (.bool true) (.pointer (some ⟨b, 0, none⟩)) (.pointer (some ⟨b, 0, none⟩)) (.pointer (some ⟨b, 0, none⟩)) (.pointer (some ⟨o, 0, none⟩)) (.func (.func 99) ⟨[]⟩ ⟨[.pointer (some ⟨s2.nx, 0, none⟩)]⟩) s4 (run H).comps.length) (Y0 := fun i => i = s3.nx ∨ i = s.nx)
  (m + 1) (by omega) inv.inv rfl inv.Nk (fun k hk => h.ok.homes hk) h4.off gq (by omega) (by rintro (e | e) <;> omega) (fun i hi e => by
   have := h.hi i (h.fo i hi)
   rcases e with e | e <;> omega) ⟨gl, gc, by omega, by omega, fun i => Iff.rfl⟩
 obtain ⟨gl5, gc5, _, _, _⟩ := S5.inv
 have gl5' : s5.get s3.nx = some (.loop .ready none (Et (.pointer (some ⟨b, 0, none⟩)) (.int .i64 0) (.pointer (some ⟨s.nx, 0, none⟩)) (.pointer (some ⟨b, 0, none⟩)) (.bool false) (.bool true) (.pointer (some ⟨b, 0, none⟩)) (.pointer (some ⟨b, 0, none⟩)) (.pointer (some ⟨b, 0, none⟩)) (.pointer (some ⟨o, 0, none⟩)) (.func (.func 99) ⟨[]⟩ ⟨[.pointer (some ⟨s2.nx, 0, none⟩)]⟩)) JK Gj EU) := gl5
 obtain ⟨s6, hs6⟩ : ∃ s6, s6 = s5.put s3.nx (.loop .exhausted none (Et (.pointer (some ⟨b, 0, none⟩)) (.int .i64 0) (.pointer (some ⟨s.nx, 0, none⟩)) (.pointer (some ⟨b, 0, none⟩)) (.bool false) (.bool true) (.pointer (some ⟨b, 0, none⟩)) (.pointer (some ⟨b, 0, none⟩)) (.pointer (some ⟨b, 0, none⟩)) (.pointer (some ⟨o, 0, none⟩)) (.func (.func 99) ⟨[]⟩ ⟨[.pointer (some ⟨s2.nx, 0, none⟩)]⟩)) JK Gj EU) := ⟨_, rfl⟩
 have gc6 : s6.rd1 s.nx 0 = some (.int .i64 ((H8 (run H)).length : Int)) := by rw [Ai (by rw [hs6, AA.get_put, if_neg hlc]; exact gc5)]; rfl
 have n6 : s6.nx = s5.nx := by rw [hs6]; rfl
 have s5n := S5.nx
 refine ⟨s6, ?_, ⟨by omega, fun i hi => ?_⟩⟩
 · have e5' : RJ (AU AL Aj (m + 1 + 1)) [.func (.yield s3.nx) ⟨[]⟩ ⟨[]⟩] s4 (.func (.func 99) ⟨[]⟩ ⟨[.pointer (some ⟨s2.nx, 0, none⟩)]⟩) = .ok (.tuple ⟨[]⟩, s5) := by
    show AU AL Aj (m + 1 + 1) (.fn 99) ([] ++ ([.func (.yield s3.nx) ⟨[]⟩ ⟨[]⟩] ++ [.pointer (some ⟨s2.nx, 0, none⟩)])) s4 = _
    rw [Ap 99 c99 rfl]
    exact e5
   have fin := kU (AU AL Aj (m + 1 + 1)) (m + 1 + 1) (.pointer (some ⟨b, 0, none⟩)) (.int .i64 0) (.pointer (some ⟨s.nx, 0, none⟩)) (.pointer (some ⟨b, 0, none⟩)) (.bool false) (.bool true) (.pointer (some ⟨b, 0, none⟩)) (.pointer (some ⟨b, 0, none⟩)) (.pointer (some ⟨b, 0, none⟩)) (.pointer (some ⟨o, 0, none⟩)) (.func (.func 99) ⟨[]⟩ ⟨[.pointer (some ⟨s2.nx, 0, none⟩)]⟩) s6
   simp only [CO, gc6, AY, Aq, bind_ok] at fin
   have ep : ptrTo s.nx = .pointer (some ⟨s.nx, 0, none⟩) := rfl
   have es4 : s3.new (.loop .ready none (Et (.pointer (some ⟨b, 0, none⟩)) (.int .i64 0) (.pointer (some ⟨s.nx, 0, none⟩)) (.pointer (some ⟨b, 0, none⟩)) (.bool false) (.bool true) (.pointer (some ⟨b, 0, none⟩)) (.pointer (some ⟨b, 0, none⟩)) (.pointer (some ⟨b, 0, none⟩)) (.pointer (some ⟨o, 0, none⟩)) (.func (.func 99) ⟨[]⟩ ⟨[.pointer (some ⟨s2.nx, 0, none⟩)]⟩)) JK Gj EU) = s4 := hs4.symm
   have el := Qa (K := kT (AU AL Aj (m + 1 + 1)) (m + 1 + 1)) (env := Et (.pointer (some ⟨b, 0, none⟩)) (.int .i64 0) (.pointer (some ⟨s.nx, 0, none⟩)) (.pointer (some ⟨b, 0, none⟩)) (.bool false) (.bool true) (.pointer (some ⟨b, 0, none⟩)) (.pointer (some ⟨b, 0, none⟩)) (.pointer (some ⟨b, 0, none⟩)) (.pointer (some ⟨o, 0, none⟩)) (.func (.func 99) ⟨[]⟩ ⟨[.pointer (some ⟨s2.nx, 0, none⟩)]⟩)) gl5'
   rw [← hs6, fin] at el
   rw [Ap 30 c30 rfl, f30_eq, ← hs1]
   simp only [ep, w, BF, bind_ok, d51, Dx, Bool.not_false, AY, Aq, Af, DV, Es, DN, Nat.zero_add, CO, r0, d66, es4, e5', el]
 · rw [hs6, AA.get_put, if_neg (by omega), S5.get i (by omega) (by rintro (e | e) <;> omega), x24.get i (by omega)]
   exact x2.get i hi
end
end Go.Im
set_option maxRecDepth 100000
set_option maxHeartbeats 4000000
namespace Go.Im
def JX (k : Nat) : List UInt8 := [Qy, Qz, needle, pivot].getD k []
def EH (C : List CG) (x : Tr3) : List UInt8 := C9 [32] [FT, nameAt C x.2.1, nameAt C x.2.2, JX x.1]
theorem Nr (k : Nat) : (JX k).length ≤ 6 := by
 unfold JX
 match k with
 | 0 => decide
 | 1 => decide
 | 2 => decide
 | 3 => decide
 | n + 4 => simp
theorem k67c (n : Nat) (hn : 1 ≤ n) {s : AA} {b k cap el : Nat} {L : List (List UInt8)} (g : s.get b = some (.cells (L.map strOf) el true)) (hk : k = L.length) (hc : k ≤ cap) (sep : List UInt8) (hl : Dp L + L.length * sep.length < 1000000000) : AU AL Aj n (.fn 67) [.slice (some ⟨b, 0, none⟩) k cap, .string (ofL sep)] s = .ok (.string (ofL (C9 sep L)), s) := by
 obtain ⟨m, rfl, _⟩ := Ac hn
 subst hk
 rw [Gp 67 .join rfl]
 show BI _ (cond (Nat.ble L.length cap) (ob (s.rd b 0 L.length) fun l => ob (textsOf l) fun ts => cond (Nat.blt (Nat.add (Dp ts) (Nat.mul L.length (toL (ofL sep)).length)) 1000000000) (some (strOf (C9 (toL (ofL sep)) ts), s)) none) none) = _
 have a1 : Nat.ble L.length cap = true := Ae.2 hc
 have a2 : s.rd b 0 L.length = some (L.map strOf) := by rw [ED g (by simp), List.drop_zero, List.take_of_length_le (by simp)]
 have a3 : Nat.blt (Nat.add (Dp L) (Nat.mul L.length sep.length)) 1000000000 = true := Bq.2 hl
 rw [a1, a2]
 show BI _ (ob (textsOf (L.map strOf)) fun ts => cond (Nat.blt (Nat.add (Dp ts) (Nat.mul L.length sep.length)) 1000000000) (some (strOf (C9 sep ts), s)) none) = _
 rw [JL]
 show BI _ (cond (Nat.blt (Nat.add (Dp L) (Nat.mul L.length sep.length)) 1000000000) (some (strOf (C9 sep L), s)) none) = _
 rw [a3]; rfl
theorem veqAgg (l : List Value) (h : ∀ v ∈ l, veqS v v = true) : veq (.agg ⟨l⟩) (.agg ⟨l⟩) = true := by
 have : ∀ l : List Value, (∀ v ∈ l, veqS v v = true) → Ih l l = true := by
  intro l
  induction l with
  | nil => intro _; rfl
  | cons a l ih =>
   intro h
   show (veqS a a && Ih l l) = true
   rw [h a (by simp), ih fun v hv => h v (by simp [hv])]; rfl
 exact this l h
theorem Xh (z : Int) : veqS (iV z) (iV z) = true := by
 show (Hg .i64 .i64 && eqF z z) = true
 rw [DK, KF]; simp
theorem oD (c : CG) : veq (.agg ⟨BQ c⟩) (.agg ⟨BQ c⟩) = true := veqAgg _ (by
 intro v hv
 unfold BQ at hv
 simp only [List.mem_cons, List.mem_append, List.mem_map] at hv
 rcases hv with rfl | ⟨_, _, rfl⟩ | ⟨_, _, rfl⟩ | ⟨b, _, rfl⟩
 · show eqL (toL (ofL c.name)) (toL (ofL c.name)) = true
   rw [YS]; simp
 · exact Xh _
 · exact Xh _
 · show (b == b) = true; simp)
theorem kX (b o : Nat) : veq (.pointer (some ⟨b, o, none⟩)) (.pointer (some ⟨b, o, none⟩)) = true := by
 show (Nat.beq b b && Nat.beq o o) = true
 rw [Ej rfl, Ej rfl]; rfl
noncomputable def Vu (q1 out : Nat) (a2 a10 a11 a12 a13 a14 : Value) : CX := .loop .ready none (EK (.pointer (some ⟨q1, 0, none⟩)) a2 (.pointer (some ⟨out, 0, none⟩)) a10 a11 a12 a13 a14) H9 FY Dv
noncomputable def Xi (q1 out : Nat) (a2 a10 a11 a12 a13 a14 : Value) : CX := .loop .busy none (EK (.pointer (some ⟨q1, 0, none⟩)) a2 (.pointer (some ⟨out, 0, none⟩)) a10 a11 a12 a13 a14) H9 FY Dv
section
variable {b o : Nat} {H : Hist} {F : Nat → Prop} {tag : Nat → Nat} {cb pb lb eb : Option Nat} {E : List Nat} {lv ev : Value}
theorem oG (m N l q1 out : Nat) (hm : 10 ≤ m) (a2 a10 a11 a12 a13 a14 : Value) {s : AA} (hl : s.get l = some (Vu q1 out a2 a10 a11 a12 a13 a14)) (hll : l < s.nx) (hq : s.get q1 = some (.cells [.pointer (some ⟨b, 0, none⟩)] 24 true)) (hql : q1 < s.nx) (hB : CV s b H F tag o cb pb lb eb E lv ev) (hK : KOk s)
 {ov : Value} {base : Option Nat} {L : List (List UInt8)} (ho : s.get out = some (.cells [ov] 22 true)) (hol : out < s.nx) (hA : BX s base 9 1 (L.map strOf) L.length ov) (hL : L.length < 1000) (d1 : out ≠ l) (d2 : base ≠ some out) (d3 : base ≠ some l) (d4 : q1 ≠ l) (d5 : ¬ F l) (d6 : 10 ≤ l)
 (k c e : Nat) (hk : k < 4) (hc : c < (run H).comps.length) (he : e < (run H).comps.length) :
 ∃ s' ov' base', Fe AL (AU AL Aj m) N l [.int .i64 (k : Int), .agg ⟨[iV (c : Int), iV (e : Int)]⟩] s = .ok (.bool true, s') ∧ s'.get l = s.get l ∧ s'.get out = some (.cells [ov'] 22 true) ∧ BX s' base' 9 1 ((L ++ [EH (run H).comps (k, c, e)]).map strOf) (L ++ [EH (run H).comps (k, c, e)]).length ov' ∧ s.nx ≤ s'.nx ∧
  (∀ i, i < s.nx → i ≠ l → i ≠ out → base ≠ some i → s'.get i = s.get i) ∧ (∀ i, base' = some i → base = some i ∨ s.nx ≤ i) := by
 have hl' : s.get l = some (.loop .ready none (EK (.pointer (some ⟨q1, 0, none⟩)) a2 (.pointer (some ⟨out, 0, none⟩)) a10 a11 a12 a13 a14) H9 FY Dv) := hl
 obtain ⟨u0, hu0⟩ : ∃ u0, u0 = s.new (.cells [.int .i64 0, .int .i64 0] 141 true) := ⟨_, rfl⟩
 have nu0 : u0.nx = s.nx + 1 := by rw [hu0]; rfl
 have xu0 : Ext s u0 := by rw [hu0]; exact (Ext.refl s).new _
 have wu := Fj (s := u0) (b := s.nx) (c := [.int .i64 0, .int .i64 0]) (el := 141) (o := 0) (n := 2) (v := .agg ⟨[iV (c : Int), iV (e : Int)]⟩) (by rw [hu0, AA.Ak, if_pos rfl]) rfl rfl (by decide)
 obtain ⟨t0, ht0⟩ : ∃ t0, t0 = u0.put s.nx (.cells [iV (c : Int), iV (e : Int)] 141 true) := ⟨_, rfl⟩
 have wu : wSt u0 2 (.agg ⟨[iV (c : Int), iV (e : Int)]⟩) (.pointer (some ⟨s.nx, 0, none⟩)) = some (Bl, t0) := by rw [ht0]; exact wu
 have nt0 : t0.nx = s.nx + 1 := by rw [ht0]; exact nu0
 have xt0 : Ext s t0 := ⟨by omega, fun i hi => by rw [ht0, AA.get_put, if_neg (by omega)]; exact xu0.get i hi⟩
 have gl0 : t0.get l = some (.loop .ready none (EK (.pointer (some ⟨q1, 0, none⟩)) a2 (.pointer (some ⟨out, 0, none⟩)) a10 a11 a12 a13 a14) H9 FY Dv) := (xt0.get l hll).trans hl'
 obtain ⟨t1, ht1⟩ : ∃ t1, t1 = t0.put l (Xi q1 out a2 a10 a11 a12 a13 a14) := ⟨_, rfl⟩
 have nt1 : t1.nx = s.nx + 1 := by rw [ht1]; exact nt0
 have g1 : ∀ i, i < s.nx → i ≠ l → t1.get i = s.get i := fun i hi hil => by rw [ht1, AA.get_put, if_neg hil]; exact xt0.get i hi
 have gl1 : t1.get l = some (Xi q1 out a2 a10 a11 a12 a13 a14) := by rw [ht1, AA.get_put, if_pos rfl]
 have gp1 : t1.get s.nx = some (.cells [iV (c : Int), iV (e : Int)] 141 true) := by rw [ht1, AA.get_put, if_neg (by omega), ht0, AA.get_put, if_pos rfl]
 have B1 : CV t1 b H F tag o cb pb lb eb E lv ev := hB.frame (by omega) fun i hi => g1 i (hB.hi i hi) (fun hh => d5 (by rw [← hh]; exact hi))
 have q1g : t1.get q1 = some (.cells [.pointer (some ⟨b, 0, none⟩)] 24 true) := (g1 q1 hql d4).trans hq
 have o1g : t1.get out = some (.cells [ov] 22 true) := (g1 out hol d1).trans ho
 have A1 : BX t1 base 9 1 (L.map strOf) L.length ov := hA.frame (by omega) fun i hi => g1 i (hA.lt hi) (fun hh => d3 (by rw [hi, hh]))
 have K1 : KOk t1 := ⟨(g1 0 (by have := hK.nx; omega) (by omega)).trans hK.k0, (g1 9 (by have := hK.nx; omega) (by intro hh; omega)).trans hK.k9, by have := hK.nx; omega⟩
 obtain ⟨cv, pv, rc, _, hC, _⟩ := B1.off.slices
 obtain ⟨cc, hcc⟩ := Bv hc
 obtain ⟨ce, hce⟩ := Bv he
 have okc := B1.off.ok cc (List.mem_of_getElem? hcc)
 have oke := B1.off.ok ce (List.mem_of_getElem? hce)
 obtain ⟨b1, hb1, iac⟩ := hC.iad c hc .i64
 obtain ⟨b2, hb2, iae⟩ := hC.iad e he .i64
 obtain rfl : b1 = b2 := Option.some.inj (hb1.symm.trans hb2)
 subst hb1
 have hbl := hC.lt rfl
 have ldc : ∀ (t : AA), Ext t1 t → ∀ (j : Nat) (cj : CG), (run H).comps[j]? = some cj → DY t 21 (.pointer (some ⟨b1, j * 21, none⟩)) = some (.agg ⟨BQ cj⟩) := fun t x j cj hj => by
  have hj' := BK hj
  have hC' := hC.frame x.nx fun i hi => x.get i (hC.lt hi)
  exact Eh (by rw [hC'.rd (by have : (j + 1) * 21 ≤ (run H).comps.length * 21 := Nat.mul_le_mul_right _ hj'; omega), ER BQ 21 _ j cj (fun a ha => D8 (B1.off.ok a ha)) hj])
 have rdx : ∀ (t : AA), Ext t1 t → ∀ (i j : Nat) (v : Value), i < t1.nx → t1.rd1 i j = some v → t.rd1 i j = some v := fun t x i j v hi h => by unfold AA.rd1 at h ⊢; rw [x.get i hi]; exact h
 have rq : t1.rd1 q1 0 = some (.pointer (some ⟨b, 0, none⟩)) := by rw [Ai q1g]; rfl
 have rb : t1.rd1 b 0 = some (.pointer (some ⟨o, 0, none⟩)) := by rw [Ai B1.hb]; rfl
 have rp0 : t1.rd1 s.nx 0 = some (.int .i64 (c : Int)) := by rw [Ai gp1]; rfl
 have rp1 : t1.rd1 s.nx 1 = some (.int .i64 (e : Int)) := by rw [Ai gp1]; rfl
 have bl : b < t1.nx := B1.hi b B1.fb
 have ol : o < t1.nx := B1.off.lt
 obtain ⟨t2, ht2⟩ : ∃ t2, t2 = t1.new (.cells zero21 120 true) := ⟨_, rfl⟩
 have x2 : Ext t1 t2 := by rw [ht2]; exact (Ext.refl t1).new _
 have n2 : t2.nx = t1.nx + 1 := by rw [ht2]; rfl
 obtain ⟨t3, ht3⟩ : ∃ t3, t3 = t2.new (.cells zero21 120 true) := ⟨_, rfl⟩
 have x3 : Ext t2 t3 := by rw [ht3]; exact (Ext.refl t2).new _
 have n3 : t3.nx = t2.nx + 1 := by rw [ht3]; rfl
 have x13 := x2.trans x3
 obtain ⟨t4, w4', q4, n4, g4⟩ := w21g (s := t3) (q := t1.nx) (c := zero21) (by rw [x3.get _ (by omega), ht2, AA.Ak, if_pos rfl]) rfl (vs := BQ cc) (D8 okc) (E9 cc)
 have x14 : Ext t1 t4 := ⟨by omega, fun i hi => by rw [g4 i (by omega)]; exact x13.get i hi⟩
 obtain ⟨t5, w5', q5, n5, g5⟩ := w21g (s := t4) (q := t2.nx) (c := zero21) (by rw [g4 _ (by omega), ht3, AA.Ak, if_pos rfl]) rfl (vs := BQ ce) (D8 oke) (E9 ce)
 have x15 : Ext t1 t5 := ⟨by omega, fun i hi => by rw [g5 i (by omega)]; exact x14.get i hi⟩
 have q45 : t5.get t1.nx = some (.cells (BQ cc) 120 true) := by rw [g5 _ (by omega)]; exact q4
 have rn1 : t5.rd1 t1.nx 0 = some (strOf cc.name) := by rw [Ai q45]; rfl
 have rn2 : t5.rd1 t2.nx 0 = some (strOf ce.name) := by rw [Ai q5]; rfl
 have ro5 : t5.rd1 out 0 = some ov := by rw [Ai ((x15.get out (by omega)).trans o1g)]; rfl
 have K5 := K1.ext x15
 have rk5 : t5.rd1 0 0 = some (.slice (some ⟨9, 0, none⟩) 4 4) := by rw [Ai K5.k0]; rfl
 have rk9 : t5.rd1 9 k = some (strOf (JX k)) := by
  rw [Ai K5.k9]
  match k, hk with
  | 0, _ => rfl
  | 1, _ => rfl
  | 2, _ => rfl
  | 3, _ => rfl
 obtain ⟨t6, ht6⟩ : ∃ t6, t6 = t5.new (.cells [strOf FT, strOf cc.name, strOf ce.name, strOf (JX k)] 9 true) := ⟨_, rfl⟩
 have x6 : Ext t5 t6 := by rw [ht6]; exact (Ext.refl t5).new _
 have n6 : t6.nx = t5.nx + 1 := by rw [ht6]; rfl
 have nmc : nameAt (run H).comps c = cc.name := by unfold nameAt; rw [hcc]
 have nme : nameAt (run H).comps e = ce.name := by unfold nameAt; rw [hce]
 have nm := hB.ok.names
 have lc := Nq (nm.ok cc.name (List.mem_map.2 ⟨cc, List.mem_of_getElem? hcc, rfl⟩))
 have le := Nq (nm.ok ce.name (List.mem_map.2 ⟨ce, List.mem_of_getElem? hce, rfl⟩))
 have lk := Nr k
 have eline : EH (run H).comps (k, c, e) = C9 [32] [FT, cc.name, ce.name, JX k] := by unfold EH; rw [nmc, nme]
 have d67 := k67c m (by omega) (s := t6) (b := t5.nx) (k := 4) (cap := 4) (el := 9) (L := [FT, cc.name, ce.name, JX k]) (by rw [ht6, AA.Ak, if_pos rfl]; rfl) rfl (Nat.le_refl _) [32] (by
  show 4 + (cc.name.length + (ce.name.length + ((JX k).length + (0 + 1) + 1) + 1) + 1) + 4 * 1 < _
  omega)
 rw [← eline] at d67
 obtain ⟨t7, ht7⟩ : ∃ t7, t7 = t6.new (.cells [strOf (EH (run H).comps (k, c, e))] 9 true) := ⟨_, rfl⟩
 have x7 : Ext t6 t7 := by rw [ht7]; exact (Ext.refl t6).new _
 have n7 : t7.nx = t6.nx + 1 := by rw [ht7]; rfl
 have x17 := (x15.trans x6).trans x7
 have A7 := A1.frame x17.nx fun i hi => x17.get i (A1.lt hi)
 have hsrc := XU (s := t6) (s' := t7) (cs := [strOf (EH (run H).comps (k, c, e))]) (el := 9) (w := 1) ht7 rfl
 obtain ⟨ov', t8, base', w8, A8, hb8, n8, g8⟩ := A7.push (by decide) (by_ := 16) (by omega) (by show _ < 9223372036854775808; omega) rfl rfl hsrc
 have o8 : t8.get out = some (.cells [ov] 22 true) := by rw [g8 out (by omega) d2, x17.get out (by omega)]; exact o1g
 have w9 := MP (s := t8) (b := out) o8 (o := 0) (v := ov') A8.simple (by simp)
 obtain ⟨t9, ht9⟩ : ∃ t9, t9 = t8.put out (.cells [ov'] 22 true) := ⟨_, rfl⟩
 have w9 : wSt t8 1 ov' (.pointer (some ⟨out, 0, none⟩)) = some (Bl, t9) := by rw [ht9]; exact w9
 have n9 : t9.nx = t8.nx := by rw [ht9]; rfl
 have ro6 : t6.rd1 out 0 = some ov := by rw [Ai (((x15.trans x6).get out (by omega)).trans o1g)]; rfl
 have gl9 : t9.get l = some (Xi q1 out a2 a10 a11 a12 a13 a14) := by rw [ht9, AA.get_put, if_neg (Ne.symm d1), g8 l (by omega) d3, x17.get l (by omega)]; exact gl1
 have gl9' : t9.get l = some (.loop .busy none (EK (.pointer (some ⟨q1, 0, none⟩)) a2 (.pointer (some ⟨out, 0, none⟩)) a10 a11 a12 a13 a14) H9 FY Dv) := gl9
 have ef1 : ob (fill (zeros [.string ⟨#[]⟩] 4) [(0, 1, (.string ⟨#[115, 119, 97, 112]⟩)), (1, 1, strOf cc.name), (2, 1, strOf ce.name), (3, 1, strOf (JX k))]) (fun c => some (CX.cells c 9 true, Bo 4 4)) = some (.cells [strOf FT, strOf cc.name, strOf ce.name, strOf (JX k)] 9 true, Bo 4 4) := rfl
 have ef2 : ob (fill (zeros [.string ⟨#[]⟩] 1) [(0, 1, (.string (ofL (EH (run H).comps (k, c, e)))))]) (fun c => some (CX.cells c 9 true, Bo 1 1)) = some (.cells [strOf (EH (run H).comps (k, c, e))] 9 true, Bo 1 1) := rfl
 have nn : s.nx = t1.nx - 1 := by omega
 have i0 : CY 2 1 (.pointer (some ⟨s.nx, 0, none⟩)) (.int .i64 0) = some (.pointer (some ⟨s.nx, 0, none⟩)) := rfl
 have i1 : CY 2 1 (.pointer (some ⟨s.nx, 0, none⟩)) (.int .i64 1) = some (.pointer (some ⟨s.nx, 1, none⟩)) := rfl
 have ik : BR 1 (.slice (some ⟨9, 0, none⟩) 4 4) (.int .i64 (k : Int)) = some (.pointer (some ⟨9, k, none⟩)) := by rw [Gh _ _ _ _ _ _ _ hk, Nat.mul_one, Nat.zero_add]
 have x11 : Ext t1 t1 := .refl t1
 have c1 : ∀ t, Ext t1 t → CW t (some (.pointer (some ⟨q1, 0, none⟩))) (some (.pointer (some ⟨b, 0, none⟩))) (.pointer (some ⟨b, 0, none⟩)) = true := fun t x => Cm (by have := x.nx; omega) (kX b 0)
 have c2 : ∀ t, Ext t1 t → CW t (some (.pointer (some ⟨b, 0, none⟩))) (some (.pointer (some ⟨o, 0, none⟩))) (.pointer (some ⟨o, 0, none⟩)) = true := fun t x => Cm (by have := x.nx; omega) (kX o 0)
 have c3 : ∀ t, Ext t1 t → CW t (some (.pointer (some ⟨o, 0, none⟩))) (some cv) cv = true := fun t x => Cm (by have := x.nx; omega) hC.veqS
 have c4 : ∀ t, Ext t1 t → CW t (some (.pointer (some ⟨s.nx, 1, none⟩))) (some (.int .i64 (e : Int))) (.int .i64 (e : Int)) = true := fun t x => Cm (by have := x.nx; omega) (Xh (e : Int))
 have c5 : ∀ t, Ext t1 t → CW t (some (.pointer (some ⟨b1, e * 21, none⟩))) (some (.agg ⟨BQ ce⟩)) (.agg ⟨BQ ce⟩) = true := fun t x => Cm (by have := x.nx; omega) (oD ce)
 have c6 : CW t6 (some (.pointer (some ⟨out, 0, none⟩))) (some ov) ov = true := Cm (by omega) A7.veqS
 have nb1 : Nat.ble t1.nx t2.nx = true := Ae.2 (by omega)
 have nb2 : Nat.ble t2.nx t3.nx = true := Ae.2 (by omega)
 have nb3 : Nat.ble t3.nx t4.nx = true := Ae.2 (by omega)
 have nb4 : Nat.ble t4.nx t5.nx = true := Ae.2 (by omega)
 have nb5 : Nat.ble t5.nx t6.nx = true := Ae.2 (by omega)
 have nb6 : Nat.ble t6.nx t7.nx = true := Ae.2 (by omega)
 have nb7 : Nat.ble t7.nx t8.nx = true := Ae.2 (by omega)
 have nb8 : Nat.ble t8.nx t9.nx = true := Ae.2 (by omega)
 refine ⟨t9.put l (Vu q1 out a2 a10 a11 a12 a13 a14), ov', base', ?_, by rw [AA.get_put, if_pos rfl, hl], by rw [AA.get_put, if_neg d1, ht9, AA.get_put, if_pos rfl], ?_, by show s.nx ≤ t9.nx; omega, ?_, ?_⟩
 · have es2 : t1.new (.cells [.string ⟨#[]⟩, .int .i64 0, .int .i64 0, .int .i64 0, .int .i64 0, .int .i64 0, .int .i64 0, .int .i64 0, .int .i64 0, .int .i64 0, .int .i64 0, .int .i64 0, .int .i64 0, .bool false, .bool false, .bool false, .bool false, .bool false, .bool false, .bool false, .bool false] 120 true) = t2 := ht2.symm
   have es3 : t2.new (.cells [.string ⟨#[]⟩, .int .i64 0, .int .i64 0, .int .i64 0, .int .i64 0, .int .i64 0, .int .i64 0, .int .i64 0, .int .i64 0, .int .i64 0, .int .i64 0, .int .i64 0, .int .i64 0, .bool false, .bool false, .bool false, .bool false, .bool false, .bool false, .bool false, .bool false] 120 true) = t3 := ht3.symm
   have e1 : ptrTo t1.nx = .pointer (some ⟨t1.nx, 0, none⟩) := rfl
   have e2 : ptrTo t2.nx = .pointer (some ⟨t2.nx, 0, none⟩) := rfl
   have e0 : ptrTo s.nx = .pointer (some ⟨s.nx, 0, none⟩) := rfl
   have s4 : Bo 4 4 t5.nx = .slice (some ⟨t5.nx, 0, none⟩) 4 4 := rfl
   have m1 := OJ (T := AL) (sf := AU AL Aj m) (N := N) (Ux := Dv) (IQ := QZ (.pointer (some ⟨q1, 0, none⟩)) a2 (.pointer (some ⟨out, 0, none⟩)) (.int .i64 (k : Int)) (.pointer (some ⟨s.nx, 0, none⟩)) a10 a11 a12 a13 a14 (.int .i64 (k : Int)) (.agg ⟨[iV (c : Int), iV (e : Int)]⟩)) gl0
   have et1 : t0.put l (.loop .busy none (EK (.pointer (some ⟨q1, 0, none⟩)) a2 (.pointer (some ⟨out, 0, none⟩)) a10 a11 a12 a13 a14) H9 FY Dv) = t1 := ht1.symm
   rw [et1, kS] at m1
   rw [N7 hl', kR, ← hu0, e0]
   simp only [wu, BF, bind_ok, m1]
   simp only [CO, rq, AY, Aq, DJ, CQ, DV, Es, DN, Nat.zero_add, rb, rc, i0, rp0, iac, ldc t1 x11 c cc hcc, i1, rp1, iae, ldc t1 x11 e ce hce, es2, es3, e1, e2, nb1, nb2, w4', w5', BF, nb3, nb4, rdx t3 x13 q1 0 _ (by omega) rq, rdx t4 x14 q1 0 _ (by omega) rq, c1 t3 x13, c1 t4 x14, rdx t3 x13 b 0 _ bl rb, rdx t4 x14 b 0 _ bl rb, c2 t3 x13, c2 t4 x14, rdx t3 x13 o 0 _ ol rc, rdx t4 x14 o 0 _ ol rc, c3 t3 x13, c3 t4 x14, rdx t3 x13 s.nx 1 _ (by omega) rp1, rdx t4 x14 s.nx 1 _ (by omega) rp1, c4 t3 x13, c4 t4 x14, ldc t3 x13 e ce hce, ldc t4 x14 e ce hce, c5 t3 x13, c5 t4 x14, Bool.and_true, ro5, rn1, rn2, rk5, ik, rk9, ef1, ← ht6, nb5, s4, TJ, d67, ef2, ← ht7, nb6, w8, nb7, w9, nb8, ro6, c6]
   exact OL gl9'
 · have : (L ++ [EH (run H).comps (k, c, e)]).map strOf = L.map strOf ++ [strOf (EH (run H).comps (k, c, e))] := by simp
   rw [this, List.length_append]
   exact A8.frame (by show t8.nx ≤ t9.nx; omega) fun i hi => by
    have hio : i ≠ out := fun hh => by rcases hb8 with h | h; exact d2 (by rw [← h, hi, hh]); rw [h] at hi; have := Option.some.inj hi; omega
    have hil : i ≠ l := fun hh => by rcases hb8 with h | h; exact d3 (by rw [← h, hi, hh]); rw [h] at hi; have := Option.some.inj hi; omega
    rw [AA.get_put, if_neg hil, ht9, AA.get_put, if_neg hio]
 · intro i hi hil hio hib
   rw [AA.get_put, if_neg hil, ht9, AA.get_put, if_neg hio, g8 i (by omega) hib, x17.get i (by omega)]
   exact g1 i hi hil
 · intro i hi
   rcases hb8 with h | h
   · exact .inl (by rw [← h]; exact hi)
   · rw [h] at hi; have := Option.some.inj hi; exact .inr (by omega)
end
end Go.Im
set_option maxRecDepth 100000
set_option maxHeartbeats 4000000
namespace Go.Im
def JM (H : Hist) (d : List Tr3) : List (List UInt8) := d.map (EH (run H).comps)
section
variable {b o : Nat} {H : Hist} {F : Nat → Prop} {tag : Nat → Nat} {cb pb lb eb : Option Nat} {E : List Nat} {lv ev : Value}
structure I29 (m l q1 out z : Nat) (a2 a10 a11 a12 a13 a14 : Value) (H : Hist) (b o : Nat) (F : Nat → Prop) (tag : Nat → Nat) (cb pb lb eb : Option Nat) (E : List Nat) (lv ev : Value) (d : List Tr3) (Y : Nat → Prop) (s : AA) : Prop where
 hl : s.get l = some (Vu q1 out a2 a10 a11 a12 a13 a14)
 hq : s.get q1 = some (.cells [.pointer (some ⟨b, 0, none⟩)] 24 true)
 hB : CV s b H F tag o cb pb lb eb E lv ev
 hK : KOk s
 ex : ∃ ov base, s.get out = some (.cells [ov] 22 true) ∧ BX s base 9 1 ((JM H d).map strOf) (JM H d).length ov ∧ base ≠ some out ∧ base ≠ some l ∧ (∀ i, base = some i → z ≤ i) ∧ (∀ i, Y i ↔ i = l ∨ i = out ∨ base = some i)
 ll : l < s.nx
 ol : out < s.nx
noncomputable def body29 (m l q1 out z : Nat) (hm : 10 ≤ m) (a2 a10 a11 a12 a13 a14 : Value) (H : Hist) (b o : Nat) (F : Nat → Prop) (tag : Nat → Nat) (cb pb lb eb : Option Nat) (E : List Nat) (lv ev : Value) (s0 : AA) (n : Nat) (hn : n = (run H).comps.length) (hqz : q1 < z) (hFz : ∀ i, F i → i < z) (hz : z ≤ s0.nx) (hzl : z ≤ l) (hzo : z ≤ out) (hol : out ≠ l) (z10 : 10 ≤ z) :
 Body (AU AL Aj (m + 1)) (.func (.yield l) ⟨[]⟩ ⟨[]⟩) s0 n where
 Inv := I29 m l q1 out z a2 a10 a11 a12 a13 a14 H b o F tag cb pb lb eb E lv ev
 lt := fun {d Y s} h i hi => by
  obtain ⟨ov, base, _, hA, _, _, _, hY⟩ := h.ex
  rcases (hY i).1 hi with rfl | rfl | e
  · exact h.ll
  · exact h.ol
  · exact hA.lt e
 frame := fun {d Y s s'} h hx hg => by
  obtain ⟨ov, base, e1, hA, e3, e4, e5, hY⟩ := h.ex
  have k0 := h.hK.nx
  exact ⟨(hg l (.inl ((hY l).2 (.inl rfl)))).trans h.hl, (hg q1 (.inr (by omega))).trans h.hq, h.hB.frame hx fun i hi => hg i (.inr (by have := hFz i hi; omega)),
   ⟨(hg 0 (.inr (by omega))).trans h.hK.k0, (hg 9 (.inr (by omega))).trans h.hK.k9, by omega⟩,
   ⟨ov, base, (hg out (.inl ((hY out).2 (.inr (.inl rfl))))).trans e1, hA.frame hx fun i hi => hg i (.inl ((hY i).2 (.inr (.inr hi)))), e3, e4, e5, hY⟩, Nat.lt_of_lt_of_le h.ll hx, Nat.lt_of_lt_of_le h.ol hx⟩
 step := fun {d Y s} h hs0 hd k x e hk hx he => by
  obtain ⟨ov, base, e1, hA, e3, e4, e5, hY⟩ := h.ex
  have hll := h.ll
  have hoo := h.ol
  obtain ⟨s', ov', base', r, g1, g2, A', n', g3, hb'⟩ := oG m m l q1 out hm a2 a10 a11 a12 a13 a14 h.hl h.ll h.hq (by omega) h.hB h.hK e1 h.ol hA (by unfold JM; rw [List.length_map]; omega) hol e3 e4 (by omega) (fun hh => by have := hFz l hh; omega) (by omega) k x e hk (by omega) (by omega)
  have k0 := h.hK.nx
  have old : ∀ i, i < z → s'.get i = s.get i := fun i hi => g3 i (by omega) (by omega) (by omega) (fun hh => by have := e5 i hh; omega)
  have nb : ∀ i, base' = some i → z ≤ i := fun i hi => by
   rcases hb' i hi with h1 | h1
   · exact e5 i h1
   · omega
  refine ⟨s', fun i => i = l ∨ i = out ∨ base' = some i, r, ⟨g1.trans h.hl, (old q1 hqz).trans h.hq, h.hB.frame n' fun i hi => old i (hFz i hi), ⟨(old 0 (by omega)).trans h.hK.k0, (old 9 (by omega)).trans h.hK.k9, by omega⟩, ⟨ov', base', g2, ?_, ?_, ?_, nb, fun i => Iff.rfl⟩, by omega, by omega⟩, n', fun i hi hYi => g3 i hi (fun hh => hYi ((hY i).2 (.inl hh))) (fun hh => hYi ((hY i).2 (.inr (.inl hh)))) (fun hh => hYi ((hY i).2 (.inr (.inr hh)))), fun i hi => ?_⟩
  · have : JM H (d ++ [(k, x, e)]) = JM H d ++ [EH (run H).comps (k, x, e)] := by unfold JM; simp
    rw [this]; exact A'
  · intro hh
    rcases hb' out hh with h1 | h1
    · exact e3 h1
    · omega
  · intro hh
    rcases hb' l hh with h1 | h1
    · exact e4 h1
    · omega
  · rcases hi with hi | hi | hi
    · exact .inl ((hY i).2 (.inl hi))
    · exact .inl ((hY i).2 (.inr (.inl hi)))
    · rcases hb' i hi with h1 | h1
      · exact .inl ((hY i).2 (.inr (.inr h1)))
      · exact .inr h1
theorem k29 (n : Nat) (hn : 100 ≤ n) {s : AA} (hK : KOk s) (h : CV s b H F tag o cb pb lb eb E lv ev) : ∃ v' s', AU AL Aj n (.fn 29) [.pointer (some ⟨b, 0, none⟩)] s = .ok (v', s') ∧ Ext s s' ∧ RdS s' v' (JM H (H8 (run H))) := by
 obtain ⟨m2, rfl, hm2⟩ := Ac (show 1 ≤ n by omega)
 obtain ⟨m1, rfl, hm1⟩ := Ac (show 1 ≤ m2 by omega)
 obtain ⟨m, rfl, hm⟩ := Ac (show 1 ≤ m1 by omega)
 have k0 := hK.nx
 obtain ⟨s1, hs1⟩ : ∃ s1, s1 = s.new (.cells [.pointer (some ⟨b, 0, none⟩)] 24 true) := ⟨_, rfl⟩
 have x1 : Ext s s1 := by rw [hs1]; exact (Ext.refl s).new _
 have n1 : s1.nx = s.nx + 1 := by rw [hs1]; rfl
 obtain ⟨s2, hs2⟩ : ∃ s2, s2 = s1.new (.cells [.slice none 0 0] 22 true) := ⟨_, rfl⟩
 have x2 : Ext s1 s2 := by rw [hs2]; exact (Ext.refl s1).new _
 have n2 : s2.nx = s1.nx + 1 := by rw [hs2]; rfl
 have x12 := x1.trans x2
 have h2 := h.ext x12
 have gq2 : s2.get s.nx = some (.cells [.pointer (some ⟨b, 0, none⟩)] 24 true) := by rw [x2.get _ (by omega), hs1, AA.Ak, if_pos rfl]
 have rq : s2.rd1 s.nx 0 = some (.pointer (some ⟨b, 0, none⟩)) := by rw [Ai gq2]; rfl
 have go2 : s2.get s1.nx = some (.cells [.slice none 0 0] 22 true) := by rw [hs2, AA.Ak, if_pos rfl]
 have d51 := k51 (m + 1 + 1) (by omega) h2
 have r0 : s2.rd1 b 0 = some (.pointer (some ⟨o, 0, none⟩)) := by rw [Ai h2.hb]; rfl
 have d66 := k66 (m + 1 + 1) (by omega) s2 o
 obtain ⟨s3, hs3⟩ : ∃ s3, s3 = s2.new (.cells [.pointer (some ⟨o, 0, none⟩)] 65 true) := ⟨_, rfl⟩
 rw [← hs3] at d66
 have x3 : Ext s2 s3 := by rw [hs3]; exact (Ext.refl s2).new _
 have n3 : s3.nx = s2.nx + 1 := by rw [hs3]; rfl
 obtain ⟨g, hg⟩ : ∃ g, g = Value.func (.func 99) ⟨[]⟩ ⟨[.pointer (some ⟨s2.nx, 0, none⟩)]⟩ := ⟨_, rfl⟩
 obtain ⟨s4, hs4⟩ : ∃ s4, s4 = s3.new (Vu s.nx s1.nx (.slice none 0 0) (.pointer (some ⟨b, 0, none⟩)) (.pointer (some ⟨b, 0, none⟩)) (.pointer (some ⟨b, 0, none⟩)) (.pointer (some ⟨o, 0, none⟩)) g) := ⟨_, rfl⟩
 have x4 : Ext s3 s4 := by rw [hs4]; exact (Ext.refl s3).new _
 have n4 : s4.nx = s3.nx + 1 := by rw [hs4]; rfl
 have x24 := x3.trans x4
 have h4 := h2.ext x24
 have gl : s4.get s3.nx = some (Vu s.nx s1.nx (.slice none 0 0) (.pointer (some ⟨b, 0, none⟩)) (.pointer (some ⟨b, 0, none⟩)) (.pointer (some ⟨b, 0, none⟩)) (.pointer (some ⟨o, 0, none⟩)) g) := by rw [hs4, AA.Ak, if_pos rfl]
 have gq : s4.get s2.nx = some (.cells [.pointer (some ⟨o, 0, none⟩)] 65 true) := by rw [x4.get _ (by omega), hs3, AA.Ak, if_pos rfl]
 have hFs : ∀ i, F i → i < s.nx := h.hi
 have inv := h.ok.inv
 obtain ⟨s5, Y5, e5, S5⟩ := Ym (B := body29 m s3.nx s.nx s1.nx s1.nx (by omega) (.slice none 0 0) (.pointer (some ⟨b, 0, none⟩)) (.pointer (some ⟨b, 0, none⟩)) (.pointer (some ⟨b, 0, none⟩)) (.pointer (some ⟨o, 0, none⟩)) g H b o F tag cb pb lb eb E lv ev s4 (run H).comps.length rfl (by omega) (fun i hi => by have := hFs i hi; omega) (by omega) (by omega) (by omega) (by omega) (by omega)) (Y0 := fun i => i = s3.nx ∨ i = s1.nx)
  (m + 1) (by omega) inv.inv rfl inv.Nk (fun k hk => h.ok.homes hk) h4.off gq (by omega) (by rintro (e | e) <;> omega) (fun i hi e => by
   have := hFs i (h.fo i hi)
   rcases e with e | e <;> omega)
  ⟨gl, (x24.get _ (by omega)).trans gq2, h4, hK.ext (x12.trans x24), ⟨.slice none 0 0, none, (x24.get _ (by omega)).trans go2, ⟨rfl, rfl, rfl⟩, by simp, by simp, by simp, fun i => by simp⟩, by omega, by omega⟩
 have i5 := S5.inv
 obtain ⟨ov, base, go5, A5, d1, d2, d3, hY⟩ := i5.ex
 have gl5 : s5.get s3.nx = some (.loop .ready none (EK (.pointer (some ⟨s.nx, 0, none⟩)) (.slice none 0 0) (.pointer (some ⟨s1.nx, 0, none⟩)) (.pointer (some ⟨b, 0, none⟩)) (.pointer (some ⟨b, 0, none⟩)) (.pointer (some ⟨b, 0, none⟩)) (.pointer (some ⟨o, 0, none⟩)) g) H9 FY Dv) := i5.hl
 obtain ⟨s6, hs6⟩ : ∃ s6, s6 = s5.put s3.nx (.loop .exhausted none (EK (.pointer (some ⟨s.nx, 0, none⟩)) (.slice none 0 0) (.pointer (some ⟨s1.nx, 0, none⟩)) (.pointer (some ⟨b, 0, none⟩)) (.pointer (some ⟨b, 0, none⟩)) (.pointer (some ⟨b, 0, none⟩)) (.pointer (some ⟨o, 0, none⟩)) g) H9 FY Dv) := ⟨_, rfl⟩
 have ro6 : s6.rd1 s1.nx 0 = some ov := by rw [Ai (by rw [hs6, AA.get_put, if_neg (by omega)]; exact go5)]; rfl
 have n6 : s6.nx = s5.nx := by rw [hs6]; rfl
 have s5n := S5.nx
 have A6 := A5.frame (s' := s6) (by omega) fun i hi => by
  rw [hs6, AA.get_put, if_neg (fun hh => d2 (by rw [hi, hh]))]
 refine ⟨ov, s6, ?_, ⟨by omega, fun i hi => ?_⟩, A6.rdS⟩
 · have e5' : RJ (AU AL Aj (m + 1 + 1)) [.func (.yield s3.nx) ⟨[]⟩ ⟨[]⟩] s4 g = .ok (.tuple ⟨[]⟩, s5) := by
    rw [hg]
    show AU AL Aj (m + 1 + 1) (.fn 99) ([] ++ ([.func (.yield s3.nx) ⟨[]⟩ ⟨[]⟩] ++ [.pointer (some ⟨s2.nx, 0, none⟩)])) s4 = _
    rw [Ap 99 c99 rfl]
    exact e5
   have fin := kQ (AU AL Aj (m + 1 + 1)) (m + 1 + 1) (.pointer (some ⟨s.nx, 0, none⟩)) (.slice none 0 0) (.pointer (some ⟨s1.nx, 0, none⟩)) (.pointer (some ⟨b, 0, none⟩)) (.pointer (some ⟨b, 0, none⟩)) (.pointer (some ⟨b, 0, none⟩)) (.pointer (some ⟨o, 0, none⟩)) g s6
   simp only [CO, ro6, AY, Aq, bind_ok] at fin
   have ep : ptrTo s.nx = .pointer (some ⟨s.nx, 0, none⟩) := rfl
   have ep1 : ptrTo s1.nx = .pointer (some ⟨s1.nx, 0, none⟩) := rfl
   have ec : cellsOf (.pointer (some ⟨b, 0, none⟩)) = [.pointer (some ⟨b, 0, none⟩)] := rfl
   have es4 : s3.new (.loop .ready none (EK (.pointer (some ⟨s.nx, 0, none⟩)) (.slice none 0 0) (.pointer (some ⟨s1.nx, 0, none⟩)) (.pointer (some ⟨b, 0, none⟩)) (.pointer (some ⟨b, 0, none⟩)) (.pointer (some ⟨b, 0, none⟩)) (.pointer (some ⟨o, 0, none⟩)) g) H9 FY Dv) = s4 := hs4.symm
   have el := Qa (K := kP (AU AL Aj (m + 1 + 1)) (m + 1 + 1)) (env := EK (.pointer (some ⟨s.nx, 0, none⟩)) (.slice none 0 0) (.pointer (some ⟨s1.nx, 0, none⟩)) (.pointer (some ⟨b, 0, none⟩)) (.pointer (some ⟨b, 0, none⟩)) (.pointer (some ⟨b, 0, none⟩)) (.pointer (some ⟨o, 0, none⟩)) g) gl5
   rw [← hs6, fin] at el
   rw [← hg] at d66
   rw [Ap 29 c29 rfl, f29_eq, ec, ← hs1, ← hs2]
   simp only [ep, ep1, CO, rq, AY, Aq, bind_ok, d51, Af, Dq, Es, DN, Nat.zero_add, r0, d66, es4, e5', el]
 · rw [hs6, AA.get_put, if_neg (by omega), S5.get i (by omega) (by rintro (e | e) <;> omega), x24.get i (by omega)]
   exact x12.get i hi
end
end Go.Im
