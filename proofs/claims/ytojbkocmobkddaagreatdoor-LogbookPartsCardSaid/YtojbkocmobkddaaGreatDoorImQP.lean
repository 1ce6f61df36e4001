/- Questions to both books: a compass is asked (program). -/
import Derived.Test.YtojbkocmobkddaaGreatDoorImPB
import Derived.Test.YtojbkocmobkddaaGreatDoorImHM
set_option linter.all false
set_option maxRecDepth 100000
set_option maxHeartbeats 4000000
namespace Go.Im
def zero21 : List Value := Bl (newC [])
def UH (H : Hist) (x : List UInt8) : Value := if nameB x = false then .tuple ⟨[.agg ⟨zero21⟩, .int .i64 8]⟩ else if BF x (run H).comps 0 < 0 then .tuple ⟨[.agg ⟨zero21⟩, .int .i64 6]⟩ else match (run H).comps[cix (run H).comps x]? with
 | some c => .tuple ⟨[.agg ⟨Bl c⟩, .int .i64 0]⟩
 | none => .tuple ⟨[.agg ⟨zero21⟩, .int .i64 6]⟩
theorem J6 (c : Bo) : Bd (Bl c) = true := DX (by
 intro v hv
 unfold Bl at hv
 simp only [List.mem_cons, List.mem_append, List.mem_map] at hv
 rcases hv with rfl | ⟨_, _, rfl⟩ | ⟨_, _, rfl⟩ | ⟨_, _, rfl⟩ <;> rfl)
theorem w21 {s : A8} {q : Nat} (hq : s.get q = some (.cells zero21 120 true)) {vs : List Value} (hl : vs.length = 21) (hs : Bd vs = true) : ∃ s', wSt s 21 (.agg ⟨vs⟩) (.pointer (some ⟨q, 0, none⟩)) = some (BO, s') ∧ CQ s' 21 (.pointer (some ⟨q, 0, none⟩)) = some (.agg ⟨vs⟩) ∧ s'.nx = s.nx ∧ (∀ i, i ≠ q → s'.get i = s.get i) := by
 have e : cellsOf (.agg ⟨vs⟩) = vs := rfl
 have z : zero21.length = 21 := rfl
 have w := Dv (s := s) (b := q) (o := 0) (n := 21) (v := .agg ⟨vs⟩) hq (by rw [e]; exact hl) (by rw [e]; exact hs) (by omega)
 rw [e, show zero21.take 0 ++ (vs ++ zero21.drop (0 + 21)) = vs by rw [List.take_zero, List.drop_eq_nil_of_le (by omega), List.nil_append, List.append_nil]] at w
 refine ⟨_, w, Dw ?_, rfl, fun i hi => by rw [A8.get_put, if_neg hi]⟩
 rw [EH (by rw [A8.get_put, if_pos rfl]) (by omega), List.drop_zero, List.take_of_length_le (by omega)]
section
variable {s : A8} {b o : Nat} {H : Hist} {F : Nat → Prop} {tag : Nat → Nat} {cb pb lb eb : Option Nat} {E : List Nat} {lv ev : Value}
theorem k60 (n : Nat) (hn : 100 ≤ n) (x : List UInt8) (h : DK s b H F tag o cb pb lb eb E lv ev) : Gives (AV AB Ak n (.fn 60) [.pointer (some ⟨b, 0, none⟩), .string (ofL x)] s) s (UH H x) := by
 obtain ⟨m, rfl, _⟩ := Af (show 1 ≤ n by omega)
 obtain ⟨s1, hs1⟩ : ∃ s1, s1 = s.new (.cells zero21 120 true) := ⟨_, rfl⟩
 have x1 : Ext s s1 := by rw [hs1]; exact (Ext.refl s).new _
 have n1 : s1.nx = s.nx + 1 := by rw [hs1]; rfl
 have g1 : s1.get s.nx = some (.cells zero21 120 true) := by rw [hs1, A8.Aq, if_pos rfl]
 have h1 := h.ext x1
 have d51 := k51 m (by omega) h1
 obtain ⟨s2, d82, x2⟩ := k82 (ofL x) m (by omega) s1
 rw [CJ] at d82
 have x2n := x2.nx
 have h2 := h1.ext x2
 have g2 : s2.get s.nx = some (.cells zero21 120 true) := (x2.get _ (by omega)).trans g1
 have es : s.new (.cells [.string ⟨#[]⟩, .int .i64 0, .int .i64 0, .int .i64 0, .int .i64 0, .int .i64 0, .int .i64 0, .int .i64 0, .int .i64 0, .int .i64 0, .int .i64 0, .int .i64 0, .int .i64 0, .bool false, .bool false, .bool false, .bool false, .bool false, .bool false, .bool false, .bool false] 120 true) = s1 := hs1.symm
 have ez : ob (fill [.string ⟨#[]⟩, .int .i64 0, .int .i64 0, .int .i64 0, .int .i64 0, .int .i64 0, .int .i64 0, .int .i64 0, .int .i64 0, .int .i64 0, .int .i64 0, .int .i64 0, .int .i64 0, .bool false, .bool false, .bool false, .bool false, .bool false, .bool false, .bool false, .bool false] []) (fun c => some (Value.agg ⟨c⟩)) = some (.agg ⟨zero21⟩) := rfl
 have ep : ptrTo s.nx = .pointer (some ⟨s.nx, 0, none⟩) := rfl
 have x12 := x1.trans x2
 have start : AV AB Ak (m + 1) (.fn 60) [.pointer (some ⟨b, 0, none⟩), .string (ofL x)] s = U3 B60 (AV AB Ak m) m (.pointer (some ⟨b, 0, none⟩)) (.string (ofL x)) (.pointer (some ⟨s.nx, 0, none⟩)) s1 := by
  rw [Ap 60 c60 rfl, f60_eq, es, d51]
  simp only [bind_ok, AO, cond_false, ep]
 unfold UH
 by_cases c : nameB x = false
 · rw [if_pos c]
   obtain ⟨s3, w3, l3, n3, g3⟩ := w21 g2 (vs := zero21) rfl rfl
   refine ⟨s3, start.trans ?_, ⟨by omega, fun i hi => by rw [g3 i (by omega)]; exact x12.get i hi⟩⟩
   rw [Ry B60 rfl]
   simp only [d82, c, bind_ok, DW, Bool.not_false, AP, AY, AO, cond_true, ez, w3, Ae, l3]
   rfl
 · rw [if_neg c]
   have c : nameB x = true := by cases hh : nameB x with | true => rfl | false => exact (c hh).elim
   have r0 : s2.rd1 b 0 = some (.pointer (some ⟨o, 0, none⟩)) := by rw [Ah h2.hb]; rfl
   have hcl := h.ok.inv.Qe
   obtain ⟨s3, d93, x3⟩ := k93 m s2 o cb pb (run H) h2.off (by omega) (by omega) x
   have d93 : AV AB Ak m (.fn 93) [.pointer (some ⟨o, 0, none⟩), .string (ofL x)] s2 = .ok (.int .i64 (BF x (run H).comps 0), s3) := d93
   have h3 := h2.ext x3
   have x3n := x3.nx
   have g3' : s3.get s.nx = some (.cells zero21 120 true) := (x3.get _ (by omega)).trans g2
   have x13 := x12.trans x3
   have mid : U3 B60 (AV AB Ak m) m (.pointer (some ⟨b, 0, none⟩)) (.string (ofL x)) (.pointer (some ⟨s.nx, 0, none⟩)) s1 = XC B60 (AV AB Ak m) m (.pointer (some ⟨b, 0, none⟩)) (.string (ofL x)) (.pointer (some ⟨s.nx, 0, none⟩)) s2 := by
    rw [Ry B60 rfl]
    simp only [d82, c, bind_ok, DW, Bool.not_true, AP, AY, AO, cond_false]
   by_cases c2 : BF x (run H).comps 0 < 0
   · rw [if_pos c2]
     obtain ⟨s4, w4, l4, n4, g4⟩ := w21 g3' (vs := zero21) rfl rfl
     refine ⟨s4, start.trans (mid.trans ?_), ⟨by omega, fun i hi => by rw [g4 i (by omega)]; exact x13.get i hi⟩⟩
     rw [Rz B60 rfl]
     simp only [CB, Am, Nat.zero_add, BN, r0, d93, bind_ok, AP, AY, BP, decide_eq_true c2, AO, cond_true, ez, w4, Ae, l4]
     rfl
   · rw [if_neg c2]
     obtain ⟨a1, a2, cc, a3, _⟩ := DJ c2
     rw [a3]
     obtain ⟨cb', rfl⟩ := h3.off.Jy a2
     obtain ⟨cv, e1, ic, _, _⟩ := h3.off.C
     have icj := ic _ a2
     have hok := h3.off.ok cc (List.mem_of_getElem? a3)
     have r03 : s3.rd1 b 0 = some (.pointer (some ⟨o, 0, none⟩)) := by rw [Ah h3.hb]; rfl
     obtain ⟨cv', pv, q0, q1, hC, hP⟩ := h3.off.slices
     have ld : CQ s3 21 (.pointer (some ⟨cb', cix (run H).comps x * 21, none⟩)) = some (.agg ⟨Bl cc⟩) := Dw (by
      rw [hC.rd (by have : (cix (run H).comps x + 1) * 21 ≤ (run H).comps.length * 21 := Nat.mul_le_mul_right _ a2; omega), Fg Bl 21 _ _ cc (fun a ha => EP (h3.off.ok a ha)) a3])
     obtain ⟨s4, w4, l4, n4, g4⟩ := w21 g3' (vs := Bl cc) (EP hok) (J6 cc)
     refine ⟨s4, start.trans (mid.trans ?_), ⟨by omega, fun i hi => by rw [g4 i (by omega)]; exact x13.get i hi⟩⟩
     rw [Rz B60 rfl]
     simp only [CB, Am, Nat.zero_add, BN, r0, d93, bind_ok, AP, AY, BP, decide_eq_false c2, AO, cond_false, a1, Zm B60 rfl, r03, e1, icj, ld, w4, Ae, l4]
     rfl
end
end Go.Im
set_option maxRecDepth 100000
set_option maxHeartbeats 4000000
namespace Go.Im
def EC : List Value := [.int .i64 0, .int .i64 0, .int .i64 0, .int .i64 0]
def Hw (C : List Bo) (c : Nat) : List Value := [iV ((partAt C c 0 : Int) + 1), iV ((partAt C c 1 : Int) + 1), iV ((partAt C c 2 : Int) + 1), iV ((partAt C c 3 : Int) + 1)]
def Ib (H : Hist) (x : List UInt8) : Value := if nameB x = false then .tuple ⟨[.agg ⟨EC⟩, .int .i64 8]⟩ else if BF x (run H).comps 0 < 0 then .tuple ⟨[.agg ⟨EC⟩, .int .i64 6]⟩ else .tuple ⟨[.agg ⟨Hw (run H).comps (cix (run H).comps x)⟩, .int .i64 0]⟩
theorem w4 {s : A8} {q : Nat} {c : List Value} (hq : s.get q = some (.cells c 33 true)) (hc : c.length = 4) {vs : List Value} (hl : vs.length = 4) (hs : Bd vs = true) : ∃ s', wSt s 4 (.agg ⟨vs⟩) (.pointer (some ⟨q, 0, none⟩)) = some (BO, s') ∧ CQ s' 4 (.pointer (some ⟨q, 0, none⟩)) = some (.agg ⟨vs⟩) ∧ s'.get q = some (.cells vs 33 true) ∧ s'.nx = s.nx ∧ (∀ i, i ≠ q → s'.get i = s.get i) := by
 have e : cellsOf (.agg ⟨vs⟩) = vs := rfl
 have w := Dv (s := s) (b := q) (o := 0) (n := 4) (v := .agg ⟨vs⟩) hq (by rw [e]; exact hl) (by rw [e]; exact hs) (by omega)
 rw [e, show c.take 0 ++ (vs ++ c.drop (0 + 4)) = vs by rw [List.take_zero, List.drop_eq_nil_of_le (by omega), List.nil_append, List.append_nil]] at w
 refine ⟨_, w, Dw ?_, by rw [A8.get_put, if_pos rfl], rfl, fun i hi => by rw [A8.get_put, if_neg hi]⟩
 rw [EH (by rw [A8.get_put, if_pos rfl]) (by omega), List.drop_zero, List.take_of_length_le (by omega)]
theorem MN (self : Self) (N f : Nat) (v4 : Value) {s : A8} {q : Nat} {c : List Value} (hq : s.get q = some (.cells c 33 true)) (hc : c.length = 4) (k : Nat) (hk : k < 4) (v : Int) (hv : c[k]? = some (iV v)) (hb : 0 ≤ v ∧ v < 1000000) :
 ∃ s', LD B22 self N (f + 1) v4 (.pointer (some ⟨q, 0, none⟩)) (.int .i64 (k : Int)) s = LD B22 self N f v4 (.pointer (some ⟨q, 0, none⟩)) (.int .i64 ((k + 1 : Nat) : Int)) s' ∧ s'.get q = some (.cells (c.set k (iV (v + 1))) 33 true) ∧ s'.nx = s.nx ∧ (∀ i, i ≠ q → s'.get i = s.get i) := by
 have w := KG (s := s) (b := q) hq (o := k) (v := iV (v + 1)) rfl (by omega)
 obtain ⟨s1, hs1⟩ : ∃ s1, s1 = s.put q (.cells (c.set k (iV (v + 1))) 33 true) := ⟨_, rfl⟩
 rw [← hs1] at w
 refine ⟨s1, ?_, by rw [hs1, A8.get_put, if_pos rfl], by rw [hs1]; rfl, fun i hi => by rw [hs1, A8.get_put, if_neg hi]⟩
 have hlt : (k : Int) < 4 := by omega
 have ia : DL 4 1 (.pointer (some ⟨q, 0, none⟩)) (.int .i64 (k : Int)) = some (.pointer (some ⟨q, k, none⟩)) := by rw [EX _ _ _ _ _ _ hk, Nat.mul_one, Nat.zero_add]
 have rd : s.rd1 q k = some (.int .i64 v) := by rw [Ah hq]; exact hv
 have hw : BK .i64 ((k : Int) + 1) = ((k + 1 : Nat) : Int) := by rw [wrap64 (by omega)]; omega
 have hw2 : BK .i64 (v + 1) = v + 1 := wrap64 (by omega)
 have w' : wSt s 1 (.int .i64 (v + 1)) (.pointer (some ⟨q, k, none⟩)) = some (BO, s1) := w
 rw [RY B22 rfl]
 simp only [BQ, decide_eq_true hlt, cond_true, ZM B22 rfl, ia, AP, AY, bind_ok, BN, rd, PS, hw2, w', Ae, EJ, hw]
end Go.Im
set_option maxRecDepth 100000
set_option maxHeartbeats 4000000
namespace Go.Im
theorem Ve : ob (fill [.int .i64 0, .int .i64 0, .int .i64 0, .int .i64 0] []) (fun c => some (Value.agg ⟨c⟩)) = some (.agg ⟨EC⟩) := rfl
section
variable {s : A8} {b o : Nat} {H : Hist} {F : Nat → Prop} {tag : Nat → Nat} {cb pb lb eb : Option Nat} {E : List Nat} {lv ev : Value}
theorem k22_L2 (self : Self) (N f : Nat) (hf : 5 ≤ f) {s : A8} {r q : Nat} {p0 p1 p2 p3 : Nat} (hq : s.get q = some (.cells [iV (p0 : Int), iV (p1 : Int), iV (p2 : Int), iV (p3 : Int)] 33 true)) (hr : s.get r = some (.cells EC 33 true)) (hrq : r ≠ q) (b0 : p0 < 1000000) (b1 : p1 < 1000000) (b2 : p2 < 1000000) (b3 : p3 < 1000000) :
 ∃ s', LD B22 self N f (.pointer (some ⟨r, 0, none⟩)) (.pointer (some ⟨q, 0, none⟩)) (.int .i64 0) s = .ok (.tuple ⟨[.agg ⟨[iV ((p0 : Int) + 1), iV ((p1 : Int) + 1), iV ((p2 : Int) + 1), iV ((p3 : Int) + 1)]⟩, .int .i64 0]⟩, s') ∧ s'.nx = s.nx ∧ (∀ i, i ≠ q → i ≠ r → s'.get i = s.get i) := by
 obtain ⟨f, rfl⟩ : ∃ g, f = g + 5 := ⟨f - 5, by omega⟩
 obtain ⟨s1, e1, h1, n1, g1⟩ := MN self N (f + 4) (.pointer (some ⟨r, 0, none⟩)) hq rfl 0 (by decide) (p0 : Int) rfl (by omega)
 obtain ⟨s2, e2, h2, n2, g2⟩ := MN self N (f + 3) (.pointer (some ⟨r, 0, none⟩)) h1 rfl 1 (by decide) (p1 : Int) rfl (by omega)
 obtain ⟨s3, e3, h3, n3, g3⟩ := MN self N (f + 2) (.pointer (some ⟨r, 0, none⟩)) h2 rfl 2 (by decide) (p2 : Int) rfl (by omega)
 obtain ⟨s4, e4, h4, n4, g4⟩ := MN self N (f + 1) (.pointer (some ⟨r, 0, none⟩)) h3 rfl 3 (by decide) (p3 : Int) rfl (by omega)
 have hr4 : s4.get r = some (.cells EC 33 true) := by rw [g4 r hrq, g3 r hrq, g2 r hrq, g1 r hrq]; exact hr
 have h4 : s4.get q = some (.cells [iV ((p0 : Int) + 1), iV ((p1 : Int) + 1), iV ((p2 : Int) + 1), iV ((p3 : Int) + 1)] 33 true) := h4
 have ld : CQ s4 4 (.pointer (some ⟨q, 0, none⟩)) = some (.agg ⟨[iV ((p0 : Int) + 1), iV ((p1 : Int) + 1), iV ((p2 : Int) + 1), iV ((p3 : Int) + 1)]⟩) := Dw (by rw [EH h4 (by simp)]; rfl)
 obtain ⟨s5, w5, l5, _, n5, g5⟩ := w4 hr4 rfl (vs := [iV ((p0 : Int) + 1), iV ((p1 : Int) + 1), iV ((p2 : Int) + 1), iV ((p3 : Int) + 1)]) rfl rfl
 refine ⟨s5, ?_, by omega, fun i hi hr' => by rw [g5 i hr', g4 i hi, g3 i hi, g2 i hi, g1 i hi]⟩
 have last : LD B22 self N (f + 1) (.pointer (some ⟨r, 0, none⟩)) (.pointer (some ⟨q, 0, none⟩)) (.int .i64 ((3 + 1 : Nat) : Int)) s4 = .ok (.tuple ⟨[.agg ⟨[iV ((p0 : Int) + 1), iV ((p1 : Int) + 1), iV ((p2 : Int) + 1), iV ((p3 : Int) + 1)]⟩, .int .i64 0]⟩, s5) := by
  have hlt : decide (((3 + 1 : Nat) : Int) < 4) = false := rfl
  rw [RY B22 rfl]
  simp only [BQ, hlt, cond_false, ld, AP, AY, bind_ok, w5, Ae, l5]
  rfl
 exact e1.trans (e2.trans (e3.trans (e4.trans last)))
theorem k22 (n : Nat) (hn : 200 ≤ n) (x : List UInt8) (h : DK s b H F tag o cb pb lb eb E lv ev) : Gives (AV AB Ak n (.fn 22) [.pointer (some ⟨b, 0, none⟩), .string (ofL x)] s) s (Ib H x) := by
 obtain ⟨m, rfl, _⟩ := Af (show 1 ≤ n by omega)
 obtain ⟨s1, hs1⟩ : ∃ s1, s1 = s.new (.cells EC 33 true) := ⟨_, rfl⟩
 have x1 : Ext s s1 := by rw [hs1]; exact (Ext.refl s).new _
 have n1 : s1.nx = s.nx + 1 := by rw [hs1]; rfl
 have g1 : s1.get s.nx = some (.cells EC 33 true) := by rw [hs1, A8.Aq, if_pos rfl]
 obtain ⟨s2, d60, x2⟩ := k60 m (by omega) x (h.ext x1)
 have x2n := x2.nx
 have g2 : s2.get s.nx = some (.cells EC 33 true) := (x2.get _ (by omega)).trans g1
 obtain ⟨s3, hs3⟩ : ∃ s3, s3 = s2.new (.cells zero21 120 true) := ⟨_, rfl⟩
 have x3 : Ext s2 s3 := by rw [hs3]; exact (Ext.refl s2).new _
 have n3 : s3.nx = s2.nx + 1 := by rw [hs3]; rfl
 have g3 : s3.get s2.nx = some (.cells zero21 120 true) := by rw [hs3, A8.Aq, if_pos rfl]
 have es : s.new (.cells [.int .i64 0, .int .i64 0, .int .i64 0, .int .i64 0] 33 true) = s1 := hs1.symm
 have es3 : s2.new (.cells [.string ⟨#[]⟩, .int .i64 0, .int .i64 0, .int .i64 0, .int .i64 0, .int .i64 0, .int .i64 0, .int .i64 0, .int .i64 0, .int .i64 0, .int .i64 0, .int .i64 0, .int .i64 0, .bool false, .bool false, .bool false, .bool false, .bool false, .bool false, .bool false, .bool false] 120 true) = s3 := hs3.symm
 have ep : ptrTo s.nx = .pointer (some ⟨s.nx, 0, none⟩) := rfl
 have ep2 : ptrTo s2.nx = .pointer (some ⟨s2.nx, 0, none⟩) := rfl
 have err : ∀ e : Int, e ≠ 0 → AV AB Ak m (.fn 60) [.pointer (some ⟨b, 0, none⟩), .string (ofL x)] s1 = .ok (.tuple ⟨[.agg ⟨zero21⟩, .int .i64 e]⟩, s2) → Gives (AV AB Ak (m + 1) (.fn 22) [.pointer (some ⟨b, 0, none⟩), .string (ofL x)] s) s (.tuple ⟨[.agg ⟨EC⟩, .int .i64 e]⟩) := by
  intro e he d
  obtain ⟨s4, w4', l4, n4, g4⟩ := w21 g3 (vs := zero21) rfl rfl
  have g44 : s4.get s.nx = some (.cells EC 33 true) := by rw [g4 _ (by omega), x3.get _ (by omega)]; exact g2
  obtain ⟨s5, w5, l5, _, n5, g5⟩ := w4 g44 rfl (vs := EC) rfl rfl
  refine ⟨s5, ?_, ⟨by omega, fun i hi => by rw [g5 i (by omega), g4 i (by omega), x3.get i (by omega), x2.get i (by omega)]; exact x1.get i hi⟩⟩
  rw [Ap 22 c22 rfl, jK]
  simp only [es, d, bind_ok, Bg, List.getElem?_cons_zero, List.getElem?_cons_succ, AP, AY, es3, ep, ep2, w4', Ae, DF, decide_eq_false he, Bool.not_false, AO, cond_true, Ve, w5, l5]
  rfl
 unfold Ib
 unfold UH at d60
 by_cases c : nameB x = false
 · rw [if_pos c] at d60 ⊢
   exact err 8 (by decide) d60
 · rw [if_neg c] at d60 ⊢
   by_cases c2 : BF x (run H).comps 0 < 0
   · rw [if_pos c2] at d60 ⊢
     exact err 6 (by decide) d60
   · rw [if_neg c2] at d60 ⊢
     obtain ⟨a1, a2, cc, a3, _⟩ := DJ c2
     rw [a3] at d60
     dsimp only at d60
     have inv := h.ok.inv
     have hok := inv.inv.ok cc (List.mem_of_getElem? a3)
     have hpl := inv.QG
     have hlen := h.len
     obtain ⟨p0, p1, p2, p3, hp⟩ := len4 hok.1
     have hpa : ∀ k v, cc.parts[k]? = some v → partAt (run H).comps (cix (run H).comps x) k = v := fun k v hv => by unfold partAt; rw [a3]; simp [hv]
     have q0 := hpa 0 p0 (by rw [hp]; rfl)
     have q1 := hpa 1 p1 (by rw [hp]; rfl)
     have q2 := hpa 2 p2 (by rw [hp]; rfl)
     have q3 := hpa 3 p3 (by rw [hp]; rfl)
     have bd : ∀ k, k < 4 → partAt (run H).comps (cix (run H).comps x) k < 1000000 := fun k hk => by
      obtain ⟨t, t1, _⟩ := inv.inv.at_ _ k a2 hk
      have := BL t1
      omega
     obtain ⟨s4, w4', l4, n4, g4⟩ := w21 g3 (vs := Bl cc) (EP hok) (J6 cc)
     have ld : CQ s4 4 (.pointer (some ⟨s2.nx, 1, none⟩)) = some (.agg ⟨[iV (p0 : Int), iV (p1 : Int), iV (p2 : Int), iV (p3 : Int)]⟩) := by
      have l4' : ob (s4.rd s2.nx 0 21) (fun l => some (Value.agg ⟨l⟩)) = some (.agg ⟨Bl cc⟩) := l4
      cases hget : s4.get s2.nx with
      | none => unfold A8.rd at l4'; rw [hget] at l4'; cases l4'
      | some ob' =>
       cases ob' with
       | cells full el w =>
        refine Dw ?_
        have hcc : Bl cc = strOf cc.name :: iV (p0 : Int) :: iV (p1 : Int) :: iV (p2 : Int) :: iV (p3 : Int) :: (cc.card.map iV ++ cc.told.map Value.bool) := by unfold Bl; rw [hp]; rfl
        have hrd : s4.rd s2.nx 0 21 = some (Bl cc) := by
         cases h5 : s4.rd s2.nx 0 21 with
         | none => rw [h5] at l4'; cases l4'
         | some l => rw [h5] at l4'; injection l4' with l4'; injection l4' with l4'; injection l4' with l4'; rw [l4']
        have hfl : 21 ≤ full.length := by
         unfold A8.rd Ie at hrd
         rw [hget] at hrd
         simp only [sub] at hrd
         by_cases hh : 21 ≤ full.length
         · exact hh
         · exfalso
           have e : Nat.ble (Nat.add 0 21) full.length = false := by
            cases hb : Nat.ble (Nat.add 0 21) full.length with
            | false => rfl
            | true => exact absurd (Nat.le_of_ble_eq_true hb) (by show ¬ (0 + 21 ≤ full.length); omega)
           rw [e] at hrd; cases hrd
        rw [EH hget (by omega), List.drop_zero] at hrd
        have hrd := Option.some.inj hrd
        rw [EH hget (by omega)]
        have e : (full.drop 1).take 4 = ((full.take 21).drop 1).take 4 := by
         rw [List.drop_take, List.take_take]; rfl
        rw [e, hrd, hcc]; rfl
       | _ => unfold A8.rd at l4'; rw [hget] at l4'; cases l4'
     obtain ⟨s5, hs5⟩ : ∃ s5, s5 = s4.new (.cells EC 33 true) := ⟨_, rfl⟩
     have x5 : Ext s4 s5 := by rw [hs5]; exact (Ext.refl s4).new _
     have n5 : s5.nx = s4.nx + 1 := by rw [hs5]; rfl
     have g5 : s5.get s4.nx = some (.cells EC 33 true) := by rw [hs5, A8.Aq, if_pos rfl]
     obtain ⟨s6, w6, _, h6, n6, g6⟩ := w4 g5 rfl (vs := [iV (p0 : Int), iV (p1 : Int), iV (p2 : Int), iV (p3 : Int)]) rfl rfl
     have hr6 : s6.get s.nx = some (.cells EC 33 true) := by rw [g6 _ (by omega), x5.get _ (by omega), g4 _ (by omega), x3.get _ (by omega)]; exact g2
     obtain ⟨s7, e7, n7, g7⟩ := k22_L2 (AV AB Ak m) m m (by omega) h6 hr6 (by omega) (by rw [← q0]; exact bd 0 (by decide)) (by rw [← q1]; exact bd 1 (by decide)) (by rw [← q2]; exact bd 2 (by decide)) (by rw [← q3]; exact bd 3 (by decide))
     refine ⟨s7, ?_, ⟨by omega, fun i hi => by rw [g7 i (by omega) (by omega), g6 i (by omega), x5.get i (by omega), g4 i (by omega), x3.get i (by omega), x2.get i (by omega)]; exact x1.get i hi⟩⟩
     unfold Hw
     rw [q0, q1, q2, q3, Ap 22 c22 rfl, jK]
     have es5 : s4.new (.cells [.int .i64 0, .int .i64 0, .int .i64 0, .int .i64 0] 33 true) = s5 := hs5.symm
     have ep4 : ptrTo s4.nx = .pointer (some ⟨s4.nx, 0, none⟩) := rfl
     simp only [es, d60, bind_ok, Bg, List.getElem?_cons_zero, List.getElem?_cons_succ, AP, AY, es3, ep, ep2, w4', Ae, DF, decide_true, Bool.not_true, AO, cond_false, ZL B22 rfl, Am, Nat.zero_add, ld, es5, ep4, w6]
     exact e7
end
end Go.Im
set_option maxRecDepth 100000
set_option maxHeartbeats 4000000
namespace Go.Im
def E5 (O : Off) (serial : Int) : Value := if 1 ≤ serial ∧ serial ≤ (O.parts.length : Int) then (match O.parts[(serial - 1).toNat]? with
 | some p => if p.1 < 0 then .tuple ⟨[strOf [], .int .i64 14]⟩ else .tuple ⟨[strOf (nameAt O.comps p.1.toNat), .int .i64 0]⟩
 | none => .tuple ⟨[strOf [], .int .i64 6]⟩) else .tuple ⟨[strOf [], .int .i64 6]⟩
def Fj (H : Hist) (serial after : Int) : Value := if after < 0 ∨ (H.length : Int) < after then .tuple ⟨[strOf [], .int .i64 1]⟩ else E5 (run (H.take after.toNat)) serial
theorem UJ (C : List Bo) (i : Nat) : nameAt (C.map DV) i = nameAt C i := by
 unfold nameAt; rw [List.getElem?_map]; cases C[i]? <;> rfl
theorem Qg (O : Off) (serial : Int) : E5 (blank O) serial = E5 O serial := by
 unfold E5 blank
 simp only [UJ]
section
variable {s : A8} {o : Nat} {cb pb : Option Nat} {O : Off} {K : List Nat}
theorem k18_J6 (self : Self) (N : Nat) (h : Aj s o cb pb O) {j : Nat} (hj : j < O.comps.length) : Ws B18 self N (.pointer (some ⟨o, 0, none⟩)) (.int .i64 (j : Int)) s = .ok (.tuple ⟨[strOf (nameAt O.comps j), .int .i64 0]⟩, s) := by
 obtain ⟨cv, pv, q0, q1, hC, hP⟩ := h.slices
 obtain ⟨c, hc⟩ := BX hj
 obtain ⟨b, hb, ia⟩ := hC.iad j hj .i64
 obtain ⟨b', hb', g⟩ := h.XJ hc (i := 0) (x := strOf c.name) (by decide) rfl
 obtain rfl : b = b' := Option.some.inj (hb.symm.trans hb')
 have g : s.rd1 b (j * 21) = some (strOf c.name) := g
 have hn : nameAt O.comps j = c.name := by unfold nameAt; rw [hc]
 rw [ZG B18 rfl, hn]
 simp only [CB, AP, AY, bind_ok, Am, Nat.zero_add, Nat.add_zero, BN, q0, ia, g]
theorem k18_J5 (self : Self) (N : Nat) (h : Aj s o cb pb O) (hI : En O K) {serial : Int} (hs : 1 ≤ serial ∧ serial ≤ (O.parts.length : Int)) (hpl : O.parts.length < 1000000) : Wq B18 self N (.int .i64 serial) (.pointer (some ⟨o, 0, none⟩)) s = .ok (E5 O serial, s) := by
 obtain ⟨cv, pv, q0, q1, hC, hP⟩ := h.slices
 obtain ⟨k, hk⟩ : ∃ k, k = (serial - 1).toNat := ⟨_, rfl⟩
 have hkl : k < O.parts.length := by omega
 have hi : BK .i64 (serial - 1) = (k : Int) := by rw [wrap64 (by omega)]; omega
 obtain ⟨p, hp⟩ := BX hkl
 obtain ⟨b, hb, ia⟩ := hP.iad k hkl .i64
 obtain ⟨b', hb', g⟩ := h.kQ hp (i := 0) (x := .int .i64 p.1) (by decide) rfl
 obtain rfl : b = b' := Option.some.inj (hb.symm.trans hb')
 have g : s.rd1 b (k * 2) = some (.int .i64 p.1) := g
 unfold E5
 rw [if_pos hs, ← hk, hp]
 dsimp only
 rw [ZF B18 rfl]
 by_cases c : p.1 < 0
 · rw [if_pos c]
   simp only [CB, AP, AY, bind_ok, Am, Nat.zero_add, Nat.add_zero, BN, q1, Qb, hi, ia, g, BP, decide_eq_true c, AO, cond_true]
   rfl
 · rw [if_neg c]
   obtain ⟨kk, hkk⟩ := BX (show k < K.length by rw [hI.ML]; exact hkl)
   obtain ⟨j, j1, j2, _, _⟩ := hI.uniq k p kk hp hkk (by omega)
   have d := k18_J6 self N h j2
   rw [j1] at c g ⊢
   simp only [CB, AP, AY, bind_ok, Am, Nat.zero_add, Nat.add_zero, BN, q1, Qb, hi, ia, g, BP, decide_eq_false c, AO, cond_false]
   exact d
theorem k18_J4 (self : Self) (N : Nat) (h : Aj s o cb pb O) (hI : En O K) (serial : Int) (hpl : O.parts.length < 1000000) : Wp B18 self N (.int .i64 serial) (.pointer (some ⟨o, 0, none⟩)) s = .ok (E5 O serial, s) := by
 obtain ⟨cv, pv, q0, q1, hC, hP⟩ := h.slices
 have lenP := hP.len_eq
 by_cases c1 : serial < 1
 · have c : ¬ (1 ≤ serial ∧ serial ≤ (O.parts.length : Int)) := by omega
   unfold E5
   rw [if_neg c, Me B18 rfl]
   simp only [BQ, decide_eq_true c1, show (true == false) = false from rfl, GR, bind_ok, D6, AP, AY, AO, cond_true]
   rfl
 · by_cases c2 : (O.parts.length : Int) < serial
   · have c : ¬ (1 ≤ serial ∧ serial ≤ (O.parts.length : Int)) := by omega
     unfold E5
     rw [if_neg c, Me B18 rfl]
     simp only [BQ, decide_eq_false c1, beq_self_eq_true, DZ, CB, bind_ok, AP, AY, Am, Nat.zero_add, BN, q1, lenP, Dh, decide_eq_true c2, CZ, AO, cond_true]
     rfl
   · have d := k18_J5 self N h hI (serial := serial) (by omega) hpl
     rw [Me B18 rfl]
     simp only [BQ, decide_eq_false c1, beq_self_eq_true, DZ, CB, bind_ok, AP, AY, Am, Nat.zero_add, BN, q1, lenP, Dh, decide_eq_false c2, CZ, AO, cond_false, d]
end
theorem Vg (t : Nat) (z v : Value) : Vt t z true (.iface t v) = some (.tuple ⟨[v, .bool true]⟩) := by
 show cond (Nat.beq t t) _ _ = _
 rw [Gq rfl]; rfl
theorem NR {t u : Nat} (h : u ≠ t) (z v : Value) : Vt t z true (.iface u v) = some (.tuple ⟨[z, .bool false]⟩) := by
 show cond (Nat.beq u t) _ _ = _
 rw [IJ h]; rfl
theorem Vh {H : Hist} {E : List Nat} {i : Nat} {x : List UInt8 × Ord} {e : Nat} (h : H[i]? = some x) (k : E[i]? = some e) : (Gj H E)[i]? = some (H7 x e) := by
 unfold Gj; rw [List.getElem?_zipWith, h, k]
section
variable {s0 : A8} {b o : Nat} {H : Hist} {F : Nat → Prop} {tag : Nat → Nat} {cb pb lb eb : Option Nat} {E : List Nat} {lv ev : Value}
theorem k18_L2 (m N : Nat) (hm : 100 ≤ m) (h : DK s0 b H F tag o cb pb lb eb E lv ev) (serial : Int) {k : Nat} (hk : k ≤ H.length) {ev' : Value} (hA0 : Ba s0 eb 99 1 ((Gj H E).take (k * 1)) k ev') : ∀ (d i f : Nat) (s : A8) (oo : Nat) (cc pp : Option Nat), i + d = k → d < f → Ext s0 s →
 Aj s oo cc pp (blank (run (H.take i))) → (∀ q, EF oo cc pp q → s0.nx ≤ q) →
 Gives (Jb B18 (AV AB Ak m) N f (.int .i64 serial) (.pointer (some ⟨oo, 0, none⟩)) ev' (.int .i64 (k : Int)) (.int .i64 (i : Int)) s) s0 (E5 (run (H.take k)) serial) := by
 intro d
 induction d with
 | zero =>
  intro i f s oo cc pp hi hf x hO hoo
  obtain ⟨f, rfl, _⟩ := Af hf
  obtain rfl : i = k := by omega
  have inv := h.ok.Ia i hk
  have hpl := inv.QG
  have hlen := h.len
  have hl : (H.take i).length ≤ 200 := by rw [List.length_take]; omega
  have d := k18_J4 (AV AB Ak m) N hO inv.inv.blank serial (by show (run (H.take i)).parts.length < _; omega)
  rw [Qg] at d
  refine ⟨s, ?_, x⟩
  have : ¬ (i : Int) < (i : Int) := by omega
  rw [Jo B18 rfl]
  simp only [BQ, decide_eq_false this, cond_false]
  exact d
 | succ d ih =>
  intro i f s oo cc pp hi hf x hO hoo
  obtain ⟨f, rfl, _⟩ := Af hf
  have hik : i < k := by omega
  have hlt : (i : Int) < (k : Int) := by omega
  have hlen := h.len
  have hw : BK .i64 ((i : Int) + 1) = ((i + 1 : Nat) : Int) := by rw [wrap64 (by omega)]; omega
  obtain ⟨y, hy⟩ := BX (show i < H.length by omega)
  obtain ⟨e, he⟩ := BX (show i < E.length by rw [h.el]; omega)
  obtain ⟨fit, rds⟩ := h.ok i y hy
  have inv := h.ok.Ia i (by omega)
  have hpl := inv.QG
  have hcl := inv.Qe
  have hl : (H.take i).length ≤ 200 := by rw [List.length_take]; omega
  have et : H.take (i + 1) = H.take i ++ [y] := by rw [List.take_add_one, hy]; rfl
  obtain ⟨bb, hbb, ia⟩ := hA0.iad i hik .i64
  obtain ⟨bb', hbb', g⟩ := hA0.get (i := i) (x := H7 y e) (by rw [List.getElem?_take_of_lt (by omega)]; exact Vh hy he)
  obtain rfl : bb = bb' := Option.some.inj (hbb.symm.trans hbb')
  have hbl := hA0.lt hbb
  have g : s.rd1 bb i = some (H7 y e) := by unfold A8.rd1 at g ⊢; rw [x.get bb hbl]; exact g
  rw [Nat.mul_one] at ia
  have heF := h.fE e (List.mem_of_getElem? he)
  have hel := h.hi e heF
  have hen := h.en i y e hy he
  have hes : s.get e = some (.cells (GV (run (H.take i)) y.2) (QE y.2) true) := (x.get e hel).trans hen
  have xn := x.nx
  have hF : ¬ EF oo cc pp e := fun hh => by have := hoo e hh; omega
  have bcl : (blank (run (H.take i))).comps.length = (run (H.take i)).comps.length := by simp [blank]
  have bpl : (blank (run (H.take i))).parts.length = (run (H.take i)).parts.length := rfl
  obtain ⟨txt, ord⟩ := y
  simp only at fit rds hes hen
  have next : ∀ (s' : A8) (cc' pp' : Option Nat), Ext s0 s' → Aj s' oo cc' pp' (blank (run (H.take (i + 1)))) → (∀ q, EF oo cc' pp' q → s0.nx ≤ q) →
   Gives (Jb B18 (AV AB Ak m) N f (.int .i64 serial) (.pointer (some ⟨oo, 0, none⟩)) ev' (.int .i64 (k : Int)) (.int .i64 ((i + 1 : Nat) : Int)) s') s0 (E5 (run (H.take k)) serial) :=
   fun s' cc' pp' x' h1 h2 => ih (i + 1) f s' oo cc' pp' (by omega) (by omega) x' h1 h2
  have ap : (∀ a kk dd, ord ≠ .card a kk dd) → blank (run (H.take (i + 1))) = (blank (run (H.take i))).apply ord := fun hc => by rw [et, F5]; exact Vf fit hc
  have disp : Ep ord ≠ 111 → Ep ord ≠ 112 → GV (blank (run (H.take i))) ord = GV (run (H.take i)) ord → (∀ a kk dd, ord ≠ .card a kk dd) →
   Gives (Jb B18 (AV AB Ak m) N (f + 1) (.int .i64 serial) (.pointer (some ⟨oo, 0, none⟩)) ev' (.int .i64 (k : Int)) (.int .i64 (i : Int)) s) s0 (E5 (run (H.take k)) serial) := by
   intro t1 t2 hce hc
   obtain ⟨s', d1, ⟨cc', pp', o1, o2⟩, fr, ge⟩ := kU m hO inv.inv.blank (by rw [bcl]; omega) (by rw [bcl]; omega) (by rw [bpl]; omega) ord (QI fit) (GV (run (H.take i)) ord) e (by omega) hes (.inl hce.symm) hF
   have fn := fr.nx
   have x' : Ext s0 s' := ⟨by omega, fun q hq => by
    by_cases eq : q = e
    · rw [eq, ge, hce]; exact hen.symm
    · rw [fr.get q (by omega) (fun hh => by rcases hh with hh | hh; have := hoo q hh; omega; exact eq hh)]; exact x.get q hq⟩
   obtain ⟨s2, d2, x2⟩ := next s' cc' pp' x' (by rw [ap hc]; exact o1) (fun q hq => by rcases o2 q hq with h1 | h1; exact hoo q h1; omega)
   refine ⟨s2, ?_, x2⟩
   rw [Jo B18 rfl]
   simp only [BQ, decide_eq_true hlt, cond_true, Md B18 rfl, ia, AP, AY, bind_ok, BN, g, H7, NR t1, NR t2, Bg, List.getElem?_cons_zero, List.getElem?_cons_succ, AO, cond_false, d1, EJ, hw]
   exact d2
  cases ord with
  | new a => exact disp (show 186 ≠ 111 by decide) (show 186 ≠ 112 by decide) rfl (by simp)
  | swap a b' kk => exact disp (show 189 ≠ 111 by decide) (show 189 ≠ 112 by decide) rfl (by simp)
  | card a kk dd =>
   obtain ⟨s2, d2, x2⟩ := next s cc pp x (by rw [et, F5, Xa fit]; exact hO) hoo
   refine ⟨s2, ?_, x2⟩
   have g : s.rd1 bb i = some (.iface 111 (.pointer (some ⟨e, 0, none⟩))) := g
   rw [Jo B18 rfl]
   simp only [BQ, decide_eq_true hlt, cond_true, Md B18 rfl, ia, AP, AY, bind_ok, BN, g, Vg, Bg, List.getElem?_cons_zero, List.getElem?_cons_succ, AO, EJ, hw]
   exact d2
  | mend a kk =>
   have g : s.rd1 bb i = some (.iface 112 (.pointer (some ⟨e, 0, none⟩))) := g
   obtain ⟨ca, hk4, ek⟩ := ES (QI fit)
   obtain ⟨a1, a2, _⟩ := DJ ca
   have hes : s.get e = some (.cells [strOf a, .int .i64 kk, .int .i64 (partAt (run (H.take i)).comps (cix (run (H.take i)).comps a) kk.toNat : Int)] 114 true) := hes
   obtain ⟨u, hu⟩ : ∃ u, u = Value.int .i64 (partAt (run (H.take i)).comps (cix (run (H.take i)).comps a) kk.toNat : Int) := ⟨_, rfl⟩
   rw [← hu] at hes
   obtain ⟨s1, hs1⟩ : ∃ s1, s1 = s.new (.cells [.string ⟨#[]⟩, .int .i64 0, .int .i64 0] 114 true) := ⟨_, rfl⟩
   have x1 : Ext s s1 := by rw [hs1]; exact (Ext.refl s).new _
   have n1 : s1.nx = s.nx + 1 := by rw [hs1]; rfl
   have w := Dv (s := s1) (b := s.nx) (c := [.string ⟨#[]⟩, .int .i64 0, .int .i64 0]) (el := 114) (o := 0) (n := 3) (v := .agg ⟨[strOf a, .int .i64 kk, u]⟩) (by rw [hs1, A8.Aq, if_pos rfl]) rfl (by rw [hu]; rfl) (by decide)
   obtain ⟨s2, hs2⟩ : ∃ s2, s2 = s1.put s.nx (.cells [strOf a, .int .i64 kk, u] 114 true) := ⟨_, rfl⟩
   have w : wSt s1 3 (.agg ⟨[strOf a, .int .i64 kk, u]⟩) (.pointer (some ⟨s.nx, 0, none⟩)) = some (BO, s2) := by rw [hs2]; exact w
   have n2 : s2.nx = s1.nx := by rw [hs2]; rfl
   have x2 : Ext s s2 := ⟨by omega, fun j hj => by rw [hs2, A8.get_put, if_neg (by omega)]; exact x1.get j hj⟩
   have g2 : s2.get s.nx = some (.cells [strOf a, .int .i64 ((kk.toNat : Nat) : Int), u] 114 true) := by rw [← ek, hs2, A8.get_put, if_pos rfl]
   have hO2 := hO.ext x2
   have hF2 : ¬ EF oo cc pp s.nx := fun hh => by have := hO.sub hh; omega
   obtain ⟨_, p1, _⟩ := inv.inv.blank.at_ _ _ a2 hk4
   obtain ⟨s3, d3, ⟨cc', pp', o1, o2⟩, fr, ge⟩ := k57 m hO2 (by rw [bcl]; omega) (by rw [bcl]; omega) (by rw [bpl]; omega) a kk.toNat hk4 u s.nx (by omega) g2 hF2 _ a1 a2 (BL p1)
   have fn := fr.nx
   have x3 : Ext s0 s3 := ⟨by omega, fun q hq => by
    rw [fr.get q (by omega) (fun hh => by rcases hh with hh | hh; have := hoo q hh; omega; omega), x2.get q (by omega)]; exact x.get q hq⟩
   obtain ⟨s4, d4, x4⟩ := next s3 cc' pp' x3 (by rw [ap (by simp)]; exact o1) (fun q hq => by rcases o2 q hq with h1 | h1; exact hoo q h1; omega)
   refine ⟨s4, ?_, x4⟩
   have ld : CQ s 3 (.pointer (some ⟨e, 0, none⟩)) = some (.agg ⟨[strOf a, .int .i64 kk, u]⟩) := Dw (by rw [EH hes (by simp)]; rfl)
   have ep : ptrTo s.nx = .pointer (some ⟨s.nx, 0, none⟩) := rfl
   rw [Jo B18 rfl]
   simp only [BQ, decide_eq_true hlt, cond_true, Md B18 rfl, ia, AP, AY, bind_ok, BN, g, NR (show 112 ≠ 111 by decide), Vg, Bg, List.getElem?_cons_zero, List.getElem?_cons_succ, AO, cond_false, CB, ld, ← hs1, ep, w, Ae, d3, EJ, hw]
   exact d4
  | undo => exact absurd fit.ok id
theorem k18 (n : Nat) (hn : 400 ≤ n) (serial after : Int) (h : DK s0 b H F tag o cb pb lb eb E lv ev) : Gives (AV AB Ak n (.fn 18) [.pointer (some ⟨b, 0, none⟩), .int .i64 serial, .int .i64 after] s0) s0 (Fj H serial after) := by
 obtain ⟨m, rfl, _⟩ := Af (show 1 ≤ n by omega)
 have d51 := k51 m (by omega) h
 have r1 : s0.rd1 b 1 = some lv := by rw [Ah h.hb]; rfl
 have lenL := h.la.len_eq
 unfold Fj
 rw [Ap 18 c18 rfl, f18_eq, d51]
 by_cases c1 : after < 0
 · rw [if_pos (.inl c1)]
   refine ⟨s0, ?_, .refl s0⟩
   simp only [bind_ok, AO, cond_false, BQ, decide_eq_true c1, show (true == false) = false from rfl, GR, D6, AP, AY, cond_true]
   rfl
 · by_cases c2 : (H.length : Int) < after
   · rw [if_pos (.inr c2)]
     refine ⟨s0, ?_, .refl s0⟩
     simp only [bind_ok, AO, cond_false, BQ, decide_eq_false c1, beq_self_eq_true, DZ, CB, AP, AY, Am, Nat.zero_add, BN, r1, lenL, Dh, decide_eq_true c2, CZ, cond_true]
     rfl
   · rw [if_neg (by omega)]
     obtain ⟨k, hk⟩ : ∃ k, k = after.toNat := ⟨_, rfl⟩
     have ek : after = (k : Int) := by omega
     have hkl : k ≤ H.length := by omega
     rw [← hk]
     subst ek
     obtain ⟨s1, hs1⟩ : ∃ s1, s1 = s0.new (.cells [.slice none 0 0, .slice none 0 0] 95 true) := ⟨_, rfl⟩
     have x1 : Ext s0 s1 := by rw [hs1]; exact (Ext.refl s0).new _
     have n1 : s1.nx = s0.nx + 1 := by rw [hs1]; rfl
     have g1 : s1.get s0.nx = some (.cells [.slice none 0 0, .slice none 0 0] 95 true) := by rw [hs1, A8.Aq, if_pos rfl]
     have h1 := h.ext x1
     have r2 : s1.rd1 b 2 = some ev := by rw [Ah h1.hb]; rfl
     obtain ⟨ev', sl, hA⟩ := h1.ea.trunc (by decide) hkl .i64
     have hA0 : Ba s0 eb 99 1 ((Gj H E).take (k * 1)) k ev' := by
      obtain ⟨ev'', sl', hA'⟩ := h.ea.trunc (by decide) hkl .i64
      cases eb with
      | none =>
       obtain ⟨e1, e2, e3⟩ := hA
       exact ⟨e1, e2, e3⟩
      | some q =>
       obtain ⟨e1, _⟩ := hA
       obtain ⟨e2, e3⟩ := hA'
       exact ⟨e1, e3⟩
     have hO : Aj s1 s0.nx none none (blank (run (H.take 0))) := by
      rw [List.take_zero]
      exact ⟨by omega, ⟨_, _, g1, ⟨rfl, rfl, rfl⟩, ⟨rfl, rfl, rfl⟩⟩, (fun c hc => by cases hc), by simp, by simp, by simp⟩
     obtain ⟨s2, d2, x2⟩ := k18_L2 m m (by omega) h serial hkl hA0 k 0 m s1 s0.nx none none (by omega) (by have := h.len; omega) x1 hO (fun q hq => by
      rcases hq with rfl | hq | hq
      · exact Nat.le_refl _
      · cases hq
      · cases hq)
     refine ⟨s2, ?_, x2⟩
     have e1 : ob (fill [.slice none 0 0, .slice none 0 0] []) (fun c => some (Value.agg ⟨c⟩)) = some (.agg ⟨[.slice none 0 0, .slice none 0 0]⟩) := rfl
     have e2 : cellsOf (.agg ⟨[.slice none 0 0, .slice none 0 0]⟩) = [.slice none 0 0, .slice none 0 0] := rfl
     have ep : ptrTo s0.nx = .pointer (some ⟨s0.nx, 0, none⟩) := rfl
     simp only [bind_ok, AO, cond_false, BQ, decide_eq_false c1, beq_self_eq_true, DZ, CB, AP, AY, Am, Nat.zero_add, BN, r1, lenL, Dh, decide_eq_false c2, CZ, ZE B18 rfl, e1, e2, ← hs1, r2, sl, hA.len_eq, ep]
     exact d2
end
end Go.Im
set_option maxRecDepth 100000
set_option maxHeartbeats 4000000
namespace Go.Im
theorem Ya {s0 s : A8} (x : Ext s0 s) {base : Option Nat} {el w len by_ : Nat} {cs news : List Value} {v : Value} (h : Ba s base el w cs len v) (hb : ∀ b, base = some b → s0.nx ≤ b) (hw : 1 ≤ w) (hby : (len + 1) * by_ ≤ 140737488355328) (hlen : len + 1 < UNK) (hn : news.length = w) (hs : Bd news = true) :
 ∃ v' s' base', EY (s.new (.cells news el true)) el w by_ v (CY 1 1 s.nx) = some (v', s') ∧ Ba s' base' el w (cs ++ news) (len + 1) v' ∧ (∀ b, base' = some b → s0.nx ≤ b) ∧ Ext s0 s' ∧ s.nx + 1 ≤ s'.nx ∧ (∀ i, i < s.nx → base ≠ some i → s'.get i = s.get i) ∧ (∀ b, base' = some b → base = some b ∨ s.nx ≤ b) := by
 obtain ⟨s1, hs1⟩ : ∃ s1, s1 = s.new (.cells news el true) := ⟨_, rfl⟩
 have n1 : s1.nx = s.nx + 1 := by rw [hs1]; rfl
 have x1 : Ext s s1 := by rw [hs1]; exact (Ext.refl s).new _
 have hsrc := LU (s := s) (s' := s1) (cs := news) (el := el) (w := w) hs1 hn
 have xn := x.nx
 obtain ⟨v', s', base', h1, h2, h3, h4, h5⟩ := (h.frame x1.nx fun b e => x1.get b (h.lt e)).push hw (by_ := by_) hby hlen hn hs hsrc
 rw [← hs1]
 refine ⟨v', s', base', h1, h2, ?_, ⟨by omega, ?_⟩, by omega, ?_, ?_⟩
 · intro b e
   rcases h3 with e' | e'
   · exact hb b (by rw [← e']; exact e)
   · rw [e'] at e; have := Option.some.inj e; omega
 · intro i hi
   rw [h5 i (by omega) (fun e => by have := hb i e; omega), x1.get i (by omega)]; exact x.get i hi
 · intro i hi e
   rw [h5 i (by omega) e]; exact x1.get i hi
 · intro b e
   rcases h3 with e' | e'
   · exact .inl (by rw [← e']; exact e)
   · rw [e'] at e; have := Option.some.inj e; exact .inr (by omega)
def Dy (c : Bo) : Nat → List (Int × Int)
 | 0 => []
 | h + 1 => Dy c h ++ (if c.told.getD h false then [((h : Int), c.card.getD h 0)] else [])
def ents (c : Bo) : List (Int × Int) := Dy c 8
def ET (H : Hist) (x : List UInt8) : Int := if nameB x = false then 8 else if BF x (run H).comps 0 < 0 then 6 else 0
def Ef (H : Hist) (x : List UInt8) : List (Int × Int) := if ET H x = 0 then (match (run H).comps[cix (run H).comps x]? with | some c => ents c | none => []) else []
theorem J8 (c : Bo) : ∀ h, (Dy c h).length ≤ h
 | 0 => Nat.le_refl _
 | h + 1 => by have := J8 c h; unfold Dy; rw [List.length_append]; split <;> simp <;> omega
def MO (el : Nat) (H : Hist) (x : List UInt8) (s : A8) (v : Value) (s' : A8) : Prop := ∃ base sv, v = .tuple ⟨[sv, .int .i64 (ET H x)]⟩ ∧ Ba s' base el 2 ((Ef H x).flatMap Dj) (Ef H x).length sv ∧ (∀ b, base = some b → s.nx ≤ b)
theorem w21g {s : A8} {q : Nat} {c : List Value} (hq : s.get q = some (.cells c 120 true)) (hc : c.length = 21) {vs : List Value} (hl : vs.length = 21) (hs : Bd vs = true) : ∃ s', wSt s 21 (.agg ⟨vs⟩) (.pointer (some ⟨q, 0, none⟩)) = some (BO, s') ∧ s'.get q = some (.cells vs 120 true) ∧ s'.nx = s.nx ∧ (∀ i, i ≠ q → s'.get i = s.get i) := by
 have e : cellsOf (.agg ⟨vs⟩) = vs := rfl
 have w := Dv (s := s) (b := q) (o := 0) (n := 21) (v := .agg ⟨vs⟩) hq (by rw [e]; exact hl) (by rw [e]; exact hs) (by omega)
 rw [e, show c.take 0 ++ (vs ++ c.drop (0 + 21)) = vs by rw [List.take_zero, List.drop_eq_nil_of_le (by omega), List.nil_append, List.append_nil]] at w
 exact ⟨_, w, by rw [A8.get_put, if_pos rfl], rfl, fun i hi => by rw [A8.get_put, if_neg hi]⟩
theorem Vp {c : Bo} (h : c.ok) : (Bl c).drop 13 = c.told.map Value.bool := by
 obtain ⟨h1, h2, h3⟩ := h
 unfold Bl
 rw [List.drop_succ_cons, List.drop_append, List.drop_eq_nil_of_le (by simp [h1]), List.drop_append, List.drop_eq_nil_of_le (by simp [h1, h2])]
 simp [h1, h2]
theorem Vq {c : Bo} (h : c.ok) {i : Nat} (hi : i < 8) : (Bl c)[5 + i]? = some (iV (c.card.getD i 0)) := by
 obtain ⟨h1, h2, h3⟩ := h
 unfold Bl
 rw [show 5 + i = (4 + i) + 1 by omega, List.getElem?_cons_succ, List.getElem?_append_right (by simp [h1]), List.length_map, h1, show 4 + i - 4 = i by omega, List.getElem?_append_left (by simp [h2, hi]), List.getElem?_map, List.getD_eq_getElem?_getD, List.getElem?_eq_getElem (by omega)]
 rfl
theorem Yb (a b : Int) : ob (fill [.int .i64 0, .int .i64 0] [(0, 1, (.int .i64 a)), (1, 1, (.int .i64 b))]) (fun c => some (Value.agg ⟨c⟩)) = some (.agg ⟨Dj (a, b)⟩) := rfl
theorem Vr (el : Nat) (p : Int × Int) : ob (fill (zeros [.int .i64 0, .int .i64 0] 1) [(0, 2, (.agg ⟨Dj p⟩))]) (fun c => some (Cc.cells c el true, CY 1 1)) = some (.cells (Dj p) el true, CY 1 1) := rfl
theorem k26_L2 (self : Self) (N : Nat) {s0 : A8} {q : Nat} {c : Bo} (hc : c.ok) : ∀ (d i f : Nat) (s : A8) (base : Option Nat) (v8 : Value), i + d = 8 → d < f → Ext s0 s → s.get q = some (.cells (Bl c) 120 true) → q < s.nx → base ≠ some q →
 Ba s base 45 2 ((Dy c i).flatMap Dj) (Dy c i).length v8 → (∀ b, base = some b → s0.nx ≤ b) →
 ∃ base' sv s', PV B26 self N f (.pointer (some ⟨q, 0, none⟩)) v8 (.agg ⟨c.told.map Value.bool⟩) (.int .i64 (i : Int)) s = .ok (.tuple ⟨[sv, .int .i64 0]⟩, s') ∧ Ext s0 s' ∧ Ba s' base' 45 2 ((ents c).flatMap Dj) (ents c).length sv ∧ (∀ b, base' = some b → s0.nx ≤ b) := by
 intro d
 induction d with
 | zero =>
  intro i f s base v8 hi hf x hq hql hbq hA hb
  obtain ⟨f, rfl, _⟩ := Af hf
  obtain rfl : i = 8 := by omega
  refine ⟨base, v8, s, ?_, x, hA, hb⟩
  rw [N7 B26 rfl]
  rfl
 | succ d ih =>
  intro i f s base v8 hi hf x hq hql hbq hA hb
  obtain ⟨f, rfl, _⟩ := Af hf
  have hi8 : i < 8 := by omega
  have hlt : (i : Int) < 8 := by omega
  have hw : BK .i64 ((i : Int) + 1) = ((i + 1 : Nat) : Int) := by rw [wrap64 (by omega)]; omega
  obtain ⟨t, ht⟩ := BX (show i < c.told.length by rw [hc.2.2]; exact hi8)
  have hix : UW false 8 1 (.agg ⟨c.told.map Value.bool⟩) (.int .i64 (i : Int)) = some (.bool t) := by
   show cond (Nat.blt i 8) (nth (c.told.map Value.bool) (Nat.mul i 1)) none = _
   rw [C9.2 hi8, F7, show Nat.mul i 1 = i from Nat.mul_one i, List.getElem?_map, ht]; rfl
  have hg : c.told.getD i false = t := by rw [List.getD_eq_getElem?_getD, ht]; rfl
  cases t with
  | false =>
   have e : Dy c (i + 1) = Dy c i := by rw [Dy, hg]; simp
   obtain ⟨base', sv, s', d1, r⟩ := ih (i + 1) f s base v8 (by omega) (by omega) x hq hql hbq (by rw [e]; exact hA) hb
   refine ⟨base', sv, s', ?_, r⟩
   rw [N7 B26 rfl]
   simp only [BQ, decide_eq_true hlt, cond_true, Ri B26 rfl, hix, AP, AY, bind_ok, AO, cond_false, EJ, hw]
   exact d1
  | true =>
   have e : Dy c (i + 1) = Dy c i ++ [((i : Int), c.card.getD i 0)] := by rw [Dy, hg]; rfl
   have hel := J8 c i
   have xn := x.nx
   obtain ⟨v', s2, b2, w, hA2, hb2, x2, n2, g2, hc2⟩ := Ya (by_ := 16) (news := Dj ((i : Int), c.card.getD i 0)) x hA hb (by decide) (by omega) (by show _ < 9223372036854775808; omega) rfl rfl
   have hrd : s.rd1 q (5 + i) = some (iV (c.card.getD i 0)) := by rw [Ah hq]; exact Vq hc hi8
   have hbq2 : b2 ≠ some q := fun e' => by
    rcases hc2 q e' with h1 | h1
    · exact hbq h1
    · omega
   obtain ⟨base', sv, s', d1, r⟩ := ih (i + 1) f s2 b2 v' (by omega) (by omega) x2 (by rw [g2 q hql hbq]; exact hq) (by omega) hbq2 (by rw [e, List.flatMap_append, List.length_append]; exact hA2) hb2
   refine ⟨base', sv, s', ?_, r⟩
   have ia : DL 8 1 (.pointer (some ⟨q, 0 + 5, none⟩)) (.int .i64 (i : Int)) = some (.pointer (some ⟨q, 5 + i, none⟩)) := by rw [EX _ _ _ _ _ _ hi8, Nat.mul_one, Nat.zero_add]
   have ef := Yb (i : Int) (c.card.getD i 0)
   rw [N7 B26 rfl]
   simp only [BQ, decide_eq_true hlt, cond_true, Ri B26 rfl, hix, AP, AY, bind_ok, AO, Am, ia, BN, hrd, iV, ef, Vr, w, Ae, EJ, hw]
   exact d1
section
variable {s : A8} {b o : Nat} {H : Hist} {F : Nat → Prop} {tag : Nat → Nat} {cb pb lb eb : Option Nat} {E : List Nat} {lv ev : Value}
theorem k26 (n : Nat) (hn : 200 ≤ n) (x : List UInt8) (h : DK s b H F tag o cb pb lb eb E lv ev) : ∃ v s', AV AB Ak n (.fn 26) [.pointer (some ⟨b, 0, none⟩), .string (ofL x)] s = .ok (v, s') ∧ Ext s s' ∧ MO 45 H x s v s' := by
 obtain ⟨m, rfl, _⟩ := Af (show 1 ≤ n by omega)
 obtain ⟨s2, d60, x2⟩ := k60 m (by omega) x h
 have x2n := x2.nx
 obtain ⟨s3, hs3⟩ : ∃ s3, s3 = s2.new (.cells zero21 120 true) := ⟨_, rfl⟩
 have x3 : Ext s2 s3 := by rw [hs3]; exact (Ext.refl s2).new _
 have n3 : s3.nx = s2.nx + 1 := by rw [hs3]; rfl
 have g3 : s3.get s2.nx = some (.cells zero21 120 true) := by rw [hs3, A8.Aq, if_pos rfl]
 have es3 : s2.new (.cells [.string ⟨#[]⟩, .int .i64 0, .int .i64 0, .int .i64 0, .int .i64 0, .int .i64 0, .int .i64 0, .int .i64 0, .int .i64 0, .int .i64 0, .int .i64 0, .int .i64 0, .int .i64 0, .bool false, .bool false, .bool false, .bool false, .bool false, .bool false, .bool false, .bool false] 120 true) = s3 := hs3.symm
 have ep2 : ptrTo s2.nx = .pointer (some ⟨s2.nx, 0, none⟩) := rfl
 have err : ∀ e : Int, e ≠ 0 → ET H x = e → AV AB Ak m (.fn 60) [.pointer (some ⟨b, 0, none⟩), .string (ofL x)] s = .ok (.tuple ⟨[.agg ⟨zero21⟩, .int .i64 e]⟩, s2) → ∃ v s', AV AB Ak (m + 1) (.fn 26) [.pointer (some ⟨b, 0, none⟩), .string (ofL x)] s = .ok (v, s') ∧ Ext s s' ∧ MO 45 H x s v s' := by
  intro e he ha d
  obtain ⟨s4, w4', q4, n4, g4⟩ := w21g g3 rfl (vs := zero21) rfl rfl
  have c0 : Ef H x = [] := by unfold Ef; rw [if_neg (by rw [ha]; exact he)]
  refine ⟨_, s4, ?_, ⟨by omega, fun i hi => by rw [g4 i (by omega), x3.get i (by omega)]; exact x2.get i hi⟩, none, .slice none 0 0, rfl, by rw [c0]; exact ⟨rfl, rfl, rfl⟩, by simp⟩
  rw [Ap 26 c26 rfl, jV, ha]
  simp only [d, bind_ok, Bg, List.getElem?_cons_zero, List.getElem?_cons_succ, AP, AY, es3, ep2, w4', Ae, DF, decide_eq_false he, Bool.not_false, AO, cond_true]
 unfold UH at d60
 by_cases c : nameB x = false
 · rw [if_pos c] at d60
   exact err 8 (by decide) (by unfold ET; rw [if_pos c]) d60
 · rw [if_neg c] at d60
   by_cases c2 : BF x (run H).comps 0 < 0
   · rw [if_pos c2] at d60
     exact err 6 (by decide) (by unfold ET; rw [if_neg c, if_pos c2]) d60
   · rw [if_neg c2] at d60
     obtain ⟨a1, a2, cc, a3, _⟩ := DJ c2
     rw [a3] at d60
     dsimp only at d60
     have ha : ET H x = 0 := by unfold ET; rw [if_neg c, if_neg c2]
     have hok := h.ok.inv.inv.ok cc (List.mem_of_getElem? a3)
     have c0 : Ef H x = ents cc := by unfold Ef; rw [if_pos ha, a3]
     obtain ⟨s4, w4', q4, n4, g4⟩ := w21g g3 rfl (vs := Bl cc) (EP hok) (J6 cc)
     have x4 : Ext s s4 := ⟨by omega, fun i hi => by rw [g4 i (by omega), x3.get i (by omega)]; exact x2.get i hi⟩
     have ld : CQ s4 8 (.pointer (some ⟨s2.nx, 13, none⟩)) = some (.agg ⟨cc.told.map Value.bool⟩) := by
      refine Dw ?_
      rw [EH q4 (by rw [EP hok]; omega), Vp hok, List.take_of_length_le (by simp [hok.2.2])]
     obtain ⟨base', sv, s5, d5, x5, hA, hb⟩ := k26_L2 (AV AB Ak m) m (s0 := s) hok 8 0 m s4 none (.slice none 0 0) rfl (by omega) x4 q4 (by omega) (by simp) ⟨rfl, rfl, rfl⟩ (by simp)
     refine ⟨_, s5, ?_, x5, base', sv, rfl, by rw [c0]; exact hA, hb⟩
     rw [Ap 26 c26 rfl, jV, ha]
     simp only [d60, bind_ok, Bg, List.getElem?_cons_zero, List.getElem?_cons_succ, AP, AY, es3, ep2, w4', Ae, DF, decide_true, Bool.not_true, AO, cond_false, ZU B26 rfl, Am, Nat.zero_add, ld]
     exact d5
end
end Go.Im
set_option maxRecDepth 100000
set_option maxHeartbeats 4000000
namespace Go.Im
theorem QV : ∀ (k n : Nat) (acc : List UInt8), (O9 k n acc).length ≤ acc.length + k
 | 0, n, acc => Nat.le_refl _
 | k + 1, n, acc => by
  show (cond (Nat.blt n 10) (UInt8.ofNat (Nat.add 48 n) :: acc) (O9 k (Nat.div n 10) (UInt8.ofNat (Nat.add 48 (Nat.mod n 10)) :: acc))).length ≤ _
  cases Nat.blt n 10 with
  | true => simp
  | false => have := QV k (Nat.div n 10) (UInt8.ofNat (Nat.add 48 (Nat.mod n 10)) :: acc); simp at this ⊢; omega
theorem Gm (z : Int) : (Eo z).length ≤ 21 := by
 cases z with
 | ofNat n => have := QV 20 n []; show (O9 20 n []).length ≤ 21; simp at this; omega
 | negSucc n => have := QV 20 (n + 1) []; show (45 :: O9 20 (n + 1) []).length ≤ 21; simp at this ⊢; omega
theorem k45 (n : Nat) (hn : 1 ≤ n) (z : Int) (hz : -9223372036854775808 ≤ z ∧ z < 9223372036854775808) (s : A8) : AV AB Ak n (.fn 45) [.int .i64 z] s = .ok (.string (ofL (Eo z)), s) := by
 obtain ⟨m, rfl, _⟩ := Af hn
 rw [Jw 45 .itoa rfl]
 have e : bG z = true := by
  cases z with
  | ofNat n =>
   have h : (n : Int) < 9223372036854775808 := hz.2
   exact C9.2 (show n < 9223372036854775808 by omega)
  | negSucc n =>
   have h := hz.1
   exact C9.2 (show n < 9223372036854775808 by omega)
 show BD _ (cond (bG z) (some (strOf (Eo z), s)) none) = _
 rw [e]; rfl
def H9 (p : Int × Int) : List UInt8 := ((Eo p.1 ++ [32]) ++ Eo p.2) ++ [10]
def lV (x : List UInt8) (L : List (Int × Int)) : List UInt8 := (x ++ [10]) ++ L.flatMap H9
theorem QW (p : Int × Int) : (H9 p).length ≤ 44 := by
 have := Gm p.1; have := Gm p.2
 unfold H9; simp; omega
def KC (H : Hist) (x : List UInt8) : Value := if ET H x = 0 then .tuple ⟨[strOf (lV x (Ef H x)), .int .i64 0]⟩ else .tuple ⟨[strOf [], .int .i64 (ET H x)]⟩
theorem Sl (c : Bo) (hc : ∀ v ∈ c.card, -300 ≤ v ∧ v ≤ 300) : ∀ h, ∀ p ∈ Dy c h, 0 ≤ p.1 ∧ p.1 < (h : Int) ∧ -300 ≤ p.2 ∧ p.2 ≤ 300
 | 0, p, hp => by cases hp
 | h + 1, p, hp => by
  unfold Dy at hp
  rcases List.mem_append.1 hp with hp | hp
  · have := Sl c hc h p hp; omega
  · split at hp
    · rw [List.mem_singleton.1 hp]
      refine ⟨by show (0 : Int) ≤ (h : Int); omega, by show (h : Int) < ((h + 1 : Nat) : Int); omega, ?_⟩
      show -300 ≤ c.card.getD h 0 ∧ c.card.getD h 0 ≤ 300
      rw [List.getD_eq_getElem?_getD]
      cases e : c.card[h]? with
      | none => simp
      | some v => exact hc v (List.mem_of_getElem? e)
    · cases hp
theorem NV {H : Hist} (h : HOk H) (x : List UInt8) : (Ef H x).length ≤ 8 ∧ ∀ p ∈ Ef H x, -300 ≤ p.1 ∧ p.1 ≤ 300 ∧ -300 ≤ p.2 ∧ p.2 ≤ 300 := by
 unfold Ef
 split
 · cases e : (run H).comps[cix (run H).comps x]? with
   | none => exact ⟨by simp, fun p hp => by cases hp⟩
   | some c =>
    refine ⟨J8 c 8, fun p hp => ?_⟩
    have := Sl c (h.cards c (List.mem_of_getElem? e)) 8 p hp
    omega
 · exact ⟨by simp, fun p hp => by cases hp⟩
theorem Sm {x : List UInt8} (h : nameB x = true) : x.length ≤ 6 := by
 unfold nameB at h
 rw [Bool.and_eq_true] at h
 have := of_decide_eq_true h.1
 omega
theorem O7 {H : Hist} {x : List UInt8} (h : ET H x = 0) : nameB x = true := by
 unfold ET at h
 cases c : nameB x with
 | true => rfl
 | false => rw [if_pos c] at h; cases h
theorem IE (x y : List UInt8) (h : x.length + y.length ≤ 9223372036854775807) : BJ .add (.string (ofL x)) (.string (ofL y)) = some (.string (ofL (x ++ y))) := VQ (ofL x) (ofL y) h
theorem Yc : (Value.string ⟨#[10]⟩) = .string (ofL [10]) := rfl
theorem lit32 : (Value.string ⟨#[32]⟩) = .string (ofL [32]) := rfl
theorem k24_L2 (m N : Nat) (hm : 1 ≤ m) {L : List (Int × Int)} (hL : L.length ≤ 8 ∧ ∀ p ∈ L, -300 ≤ p.1 ∧ p.1 ≤ 300 ∧ -300 ≤ p.2 ∧ p.2 ≤ 300) {base : Option Nat} {v : Value} : ∀ (d i f : Nat) (s : A8) (x : List UInt8), i + d = L.length → d < f → x.length < 1000000 + i * 44 →
 Ba s base 45 2 (L.flatMap Dj) L.length v →
 Gives (Tt B24 (AV AB Ak m) N f (.string (ofL x)) v (.int .i64 (L.length : Int)) (.int .i64 (i : Int)) s) s (.tuple ⟨[strOf (x ++ (L.drop i).flatMap H9), .int .i64 0]⟩) := by
 intro d
 induction d with
 | zero =>
  intro i f s x hi hf hx hA
  obtain ⟨f, rfl, _⟩ := Af hf
  obtain rfl : i = L.length := by omega
  refine ⟨s, ?_, .refl s⟩
  have : ¬ (L.length : Int) < (L.length : Int) := by omega
  rw [Rf B24 rfl, List.drop_length]
  simp only [BQ, decide_eq_false this, cond_false, List.flatMap_nil, List.append_nil, strOf]
 | succ d ih =>
  intro i f s x hi hf hx hA
  obtain ⟨f, rfl, _⟩ := Af hf
  have hil : i < L.length := by omega
  obtain ⟨p, hp⟩ := BX hil
  have hlt : (i : Int) < (L.length : Int) := by omega
  have hw : BK .i64 ((i : Int) + 1) = ((i + 1 : Nat) : Int) := by rw [wrap64 (by omega)]; omega
  obtain ⟨b, rfl, ia⟩ := hA.iad i hil .i64
  have hb := hA.lt rfl
  have hrd : CQ s 2 (.pointer (some ⟨b, i * 2, none⟩)) = some (.agg ⟨Dj p⟩) := Dw (by rw [hA.rd (by omega), Fg Dj 2 L i p (fun _ _ => rfl) hp])
  obtain ⟨s1, hs1⟩ : ∃ s1, s1 = s.new (.cells [.int .i64 0, .int .i64 0] 45 true) := ⟨_, rfl⟩
  have x1 : Ext s s1 := by rw [hs1]; exact (Ext.refl s).new _
  have n1 : s1.nx = s.nx + 1 := by rw [hs1]; rfl
  have w := Dv (s := s1) (b := s.nx) (c := [.int .i64 0, .int .i64 0]) (el := 45) (o := 0) (n := 2) (v := .agg ⟨Dj p⟩) (by rw [hs1, A8.Aq, if_pos rfl]) rfl rfl (by decide)
  obtain ⟨s2, hs2⟩ : ∃ s2, s2 = s1.put s.nx (.cells (Dj p) 45 true) := ⟨_, rfl⟩
  have w : wSt s1 2 (.agg ⟨Dj p⟩) (.pointer (some ⟨s.nx, 0, none⟩)) = some (BO, s2) := by rw [hs2]; exact w
  have g2 : s2.get s.nx = some (.cells (Dj p) 45 true) := by rw [hs2, A8.get_put, if_pos rfl]
  have n2 : s2.nx = s1.nx := by rw [hs2]; rfl
  have x2 : Ext s s2 := ⟨by omega, fun j hj => by rw [hs2, A8.get_put, if_neg (by omega)]; exact x1.get j hj⟩
  have r0 : s2.rd1 s.nx 0 = some (.int .i64 p.1) := by rw [Ah g2]; rfl
  have r1 : s2.rd1 s.nx 1 = some (.int .i64 p.2) := by rw [Ah g2]; rfl
  have hpb := hL.2 p (List.mem_of_getElem? hp)
  have d1 := k45 m hm p.1 (by omega) s2
  have d2 := k45 m hm p.2 (by omega) s2
  have l1 := Gm p.1
  have l2 := Gm p.2
  have a1 := IE (Eo p.1) [32] (by simp; omega)
  have a2 := IE (Eo p.1 ++ [32]) (Eo p.2) (by simp; omega)
  have a3 := IE (Eo p.1 ++ [32] ++ Eo p.2) [10] (by simp; omega)
  have l3 := QW p
  have a4 := IE x (H9 p) (by have := hL.1; omega)
  have a4 : BJ .add (.string (ofL x)) (.string (ofL (Eo p.1 ++ [32] ++ Eo p.2 ++ [10]))) = some (.string (ofL (x ++ H9 p))) := a4
  obtain ⟨s', dd, xx⟩ := ih (i + 1) f s2 (x ++ H9 p) (by omega) (by omega) (by rw [List.length_append]; omega) (hA.frame x2.nx fun b' e => x2.get b' (hA.lt e))
  refine ⟨s', ?_, x2.trans xx⟩
  have ec : L.drop i = p :: L.drop (i + 1) := drop_at hp
  have ck := CV (s := s2) (b := s.nx) (o := 1) (v := .int .i64 p.2) (by omega) (by show (Hy .i64 .i64 && eqF p.2 p.2) = true; rw [FN]; simp [DU])
  have ep : ptrTo s.nx = .pointer (some ⟨s.nx, 0, none⟩) := rfl
  rw [Rf B24 rfl, ec, List.flatMap_cons, ← List.append_assoc]
  simp only [BQ, decide_eq_true hlt, cond_true, ZQ B24 rfl, ia, AP, AY, bind_ok, hrd, ← hs1, ep, w, Ae, Am, Nat.zero_add, CO, Bc, BN, r0, r1, d1, d2, lit32, Yc, a1, a2, a3, a4, ck, Bool.and_true, EJ, hw, n2]
  exact dd
section
variable {s : A8} {b o : Nat} {H : Hist} {F : Nat → Prop} {tag : Nat → Nat} {cb pb lb eb : Option Nat} {E : List Nat} {lv ev : Value}
theorem k24 (n : Nat) (hn : 300 ≤ n) (x : List UInt8) (h : DK s b H F tag o cb pb lb eb E lv ev) : Gives (AV AB Ak n (.fn 24) [.pointer (some ⟨b, 0, none⟩), .string (ofL x)] s) s (KC H x) := by
 obtain ⟨m, rfl, _⟩ := Af (show 1 ≤ n by omega)
 obtain ⟨v, s2, d26, x2, base, sv, rfl, hA, hb⟩ := k26 m (by omega) x h
 unfold KC
 rw [Ap 24 c24 rfl, f24_eq]
 by_cases ha : ET H x = 0
 · rw [if_pos ha]
   rw [ha] at d26
   have hx := Sm (O7 ha)
   have a1 := IE x [10] (by simp; omega)
   have hin := NV h.ok x
   obtain ⟨s3, d3, x3⟩ := k24_L2 m m (by omega) hin (Ef H x).length 0 m s2 (x ++ [10]) (by omega) (by omega) (by simp; omega) hA
   refine ⟨s3, ?_, x2.trans x3⟩
   simp only [d26, bind_ok, Bg, List.getElem?_cons_zero, List.getElem?_cons_succ, AP, AY, DF, decide_true, Bool.not_true, AO, cond_false, ZP B24 rfl, Yc, a1, hA.len_eq]
   exact d3
 · rw [if_neg ha]
   refine ⟨s2, ?_, x2⟩
   simp only [d26, bind_ok, Bg, List.getElem?_cons_zero, List.getElem?_cons_succ, AP, AY, DF, decide_eq_false ha, Bool.not_false, AO, cond_true]
   rfl
end
end Go.Im
