/- Questions to both books: a compass is asked (program). -/
import Derived.Test.YtojbkocmobkddaaGreatDoorImPB
import Derived.Test.YtojbkocmobkddaaGreatDoorImHM
set_option linter.all false
set_option maxRecDepth 100000
set_option maxHeartbeats 4000000
namespace Go.Im
def zero21 : List Value := BR (newC [])
def WM (H : Hist) (x : List UInt8) : Value := if nameB x = false then .tuple ⟨[.agg ⟨zero21⟩, .int .i64 8]⟩ else if BJ x (run H).comps 0 < 0 then .tuple ⟨[.agg ⟨zero21⟩, .int .i64 6]⟩ else match (run H).comps[cix (run H).comps x]? with
 | some c => .tuple ⟨[.agg ⟨BR c⟩, .int .i64 0]⟩
 | none => .tuple ⟨[.agg ⟨zero21⟩, .int .i64 6]⟩
theorem GU (c : Bj) : Ba (BR c) = true := GR (by
 intro v hv
 unfold BR at hv
 simp only [List.mem_cons, List.mem_append, List.mem_map] at hv
 rcases hv with rfl | ⟨_, _, rfl⟩ | ⟨_, _, rfl⟩ | ⟨_, _, rfl⟩ <;> rfl)
theorem w21 {s : A8} {q : Nat} (hq : s.get q = some (.cells zero21 120 true)) {vs : List Value} (hl : vs.length = 21) (hs : Ba vs = true) : ∃ s', wSt s 21 (.agg ⟨vs⟩) (.pointer (some ⟨q, 0, none⟩)) = some (BX, s') ∧ DT s' 21 (.pointer (some ⟨q, 0, none⟩)) = some (.agg ⟨vs⟩) ∧ s'.nx = s.nx ∧ (∀ i, i ≠ q → s'.get i = s.get i) := by
 have e : cellsOf (.agg ⟨vs⟩) = vs := rfl
 have z : zero21.length = 21 := rfl
 have w := Gq (s := s) (b := q) (o := 0) (n := 21) (v := .agg ⟨vs⟩) hq (by rw [e]; exact hl) (by rw [e]; exact hs) (by omega)
 rw [e, show zero21.take 0 ++ (vs ++ zero21.drop (0 + 21)) = vs by rw [List.take_zero, List.drop_eq_nil_of_le (by omega), List.nil_append, List.append_nil]] at w
 refine ⟨_, w, Fz ?_, rfl, fun i hi => by rw [A8.get_put, if_neg hi]⟩
 rw [Eb (by rw [A8.get_put, if_pos rfl]) (by omega), List.drop_zero, List.take_of_length_le (by omega)]
section
variable {s : A8} {b o : Nat} {H : Hist} {F : Nat → Prop} {tag : Nat → Nat} {cb pb lb eb : Option Nat} {E : List Nat} {lv ev : Value}
theorem k60 (n : Nat) (hn : 100 ≤ n) (x : List UInt8) (h : D5 s b H F tag o cb pb lb eb E lv ev) : Gives (AU AB Ah n (.fn 60) [.pointer (some ⟨b, 0, none⟩), .string (ofL x)] s) s (WM H x) := by
 obtain ⟨m, rfl, _⟩ := Ae (show 1 ≤ n by omega)
 obtain ⟨s1, hs1⟩ : ∃ s1, s1 = s.new (.cells zero21 120 true) := ⟨_, rfl⟩
 have x1 : Ext s s1 := by rw [hs1]; exact (Ext.refl s).new _
 have n1 : s1.nx = s.nx + 1 := by rw [hs1]; rfl
 have g1 : s1.get s.nx = some (.cells zero21 120 true) := by rw [hs1, A8.Af, if_pos rfl]
 have h1 := h.ext x1
 have d51 := k51 m (by omega) h1
 obtain ⟨s2, d82, x2⟩ := k82 (ofL x) m (by omega) s1
 rw [H7] at d82
 have x2n := x2.nx
 have h2 := h1.ext x2
 have g2 : s2.get s.nx = some (.cells zero21 120 true) := (x2.get _ (by omega)).trans g1
 have es : s.new (.cells [.string ⟨#[]⟩, .int .i64 0, .int .i64 0, .int .i64 0, .int .i64 0, .int .i64 0, .int .i64 0, .int .i64 0, .int .i64 0, .int .i64 0, .int .i64 0, .int .i64 0, .int .i64 0, .bool false, .bool false, .bool false, .bool false, .bool false, .bool false, .bool false, .bool false] 120 true) = s1 := hs1.symm
 have ez : ob (fill [.string ⟨#[]⟩, .int .i64 0, .int .i64 0, .int .i64 0, .int .i64 0, .int .i64 0, .int .i64 0, .int .i64 0, .int .i64 0, .int .i64 0, .int .i64 0, .int .i64 0, .int .i64 0, .bool false, .bool false, .bool false, .bool false, .bool false, .bool false, .bool false, .bool false] []) (fun c => some (Value.agg ⟨c⟩)) = some (.agg ⟨zero21⟩) := rfl
 have ep : ptrTo s.nx = .pointer (some ⟨s.nx, 0, none⟩) := rfl
 have x12 := x1.trans x2
 have start : AU AB Ah (m + 1) (.fn 60) [.pointer (some ⟨b, 0, none⟩), .string (ofL x)] s = Sj B60 (AU AB Ah m) m (.pointer (some ⟨b, 0, none⟩)) (.string (ofL x)) (.pointer (some ⟨s.nx, 0, none⟩)) s1 := by
  rw [Au 60 c60 rfl, f60_eq, es, d51]
  simp only [bind_ok, Ar, cond_false, ep]
 unfold WM
 by_cases c : nameB x = false
 · rw [if_pos c]
   obtain ⟨s3, w3, l3, n3, g3⟩ := w21 g2 (vs := zero21) rfl rfl
   refine ⟨s3, start.trans ?_, ⟨by omega, fun i hi => by rw [g3 i (by omega)]; exact x12.get i hi⟩⟩
   rw [Qx B60 rfl]
   simp only [d82, c, bind_ok, Jh, Bool.not_false, Ad, BD, Ar, cond_true, ez, w3, Aq, l3]
   rfl
 · rw [if_neg c]
   have c : nameB x = true := by cases hh : nameB x with | true => rfl | false => exact (c hh).elim
   have r0 : s2.rd1 b 0 = some (.pointer (some ⟨o, 0, none⟩)) := by rw [Ag h2.hb]; rfl
   have hcl := h.ok.inv.Pv
   obtain ⟨s3, d93, x3⟩ := k93 m s2 o cb pb (run H) h2.off (by omega) (by omega) x
   have d93 : AU AB Ah m (.fn 93) [.pointer (some ⟨o, 0, none⟩), .string (ofL x)] s2 = .ok (.int .i64 (BJ x (run H).comps 0), s3) := d93
   have h3 := h2.ext x3
   have x3n := x3.nx
   have g3' : s3.get s.nx = some (.cells zero21 120 true) := (x3.get _ (by omega)).trans g2
   have x13 := x12.trans x3
   have mid : Sj B60 (AU AB Ah m) m (.pointer (some ⟨b, 0, none⟩)) (.string (ofL x)) (.pointer (some ⟨s.nx, 0, none⟩)) s1 = Vs B60 (AU AB Ah m) m (.pointer (some ⟨b, 0, none⟩)) (.string (ofL x)) (.pointer (some ⟨s.nx, 0, none⟩)) s2 := by
    rw [Qx B60 rfl]
    simp only [d82, c, bind_ok, Jh, Bool.not_true, Ad, BD, Ar, cond_false]
   by_cases c2 : BJ x (run H).comps 0 < 0
   · rw [if_pos c2]
     obtain ⟨s4, w4, l4, n4, g4⟩ := w21 g3' (vs := zero21) rfl rfl
     refine ⟨s4, start.trans (mid.trans ?_), ⟨by omega, fun i hi => by rw [g4 i (by omega)]; exact x13.get i hi⟩⟩
     rw [Qy B60 rfl]
     simp only [H8, EC, Nat.zero_add, CS, r0, d93, bind_ok, Ad, BD, Et, decide_eq_true c2, Ar, cond_true, ez, w4, Aq, l4]
     rfl
   · rw [if_neg c2]
     obtain ⟨a1, a2, cc, a3, _⟩ := DR c2
     rw [a3]
     obtain ⟨cb', rfl⟩ := h3.off.Jk a2
     obtain ⟨cv, e1, ic, _, _⟩ := h3.off.C
     have icj := ic _ a2
     have hok := h3.off.ok cc (List.mem_of_getElem? a3)
     have r03 : s3.rd1 b 0 = some (.pointer (some ⟨o, 0, none⟩)) := by rw [Ag h3.hb]; rfl
     obtain ⟨cv', pv, q0, q1, hC, hP⟩ := h3.off.slices
     have ld : DT s3 21 (.pointer (some ⟨cb', cix (run H).comps x * 21, none⟩)) = some (.agg ⟨BR cc⟩) := Fz (by
      rw [hC.rd (by have : (cix (run H).comps x + 1) * 21 ≤ (run H).comps.length * 21 := Nat.mul_le_mul_right _ a2; omega), FC BR 21 _ _ cc (fun a ha => DW (h3.off.ok a ha)) a3])
     obtain ⟨s4, w4, l4, n4, g4⟩ := w21 g3' (vs := BR cc) (DW hok) (GU cc)
     refine ⟨s4, start.trans (mid.trans ?_), ⟨by omega, fun i hi => by rw [g4 i (by omega)]; exact x13.get i hi⟩⟩
     rw [Qy B60 rfl]
     simp only [H8, EC, Nat.zero_add, CS, r0, d93, bind_ok, Ad, BD, Et, decide_eq_false c2, Ar, cond_false, a1, YU B60 rfl, r03, e1, icj, ld, w4, Aq, l4]
     rfl
end
end Go.Im
set_option maxRecDepth 100000
set_option maxHeartbeats 4000000
namespace Go.Im
def Ef : List Value := [.int .i64 0, .int .i64 0, .int .i64 0, .int .i64 0]
def serials (C : List Bj) (c : Nat) : List Value := [iV ((partAt C c 0 : Int) + 1), iV ((partAt C c 1 : Int) + 1), iV ((partAt C c 2 : Int) + 1), iV ((partAt C c 3 : Int) + 1)]
def Jb (H : Hist) (x : List UInt8) : Value := if nameB x = false then .tuple ⟨[.agg ⟨Ef⟩, .int .i64 8]⟩ else if BJ x (run H).comps 0 < 0 then .tuple ⟨[.agg ⟨Ef⟩, .int .i64 6]⟩ else .tuple ⟨[.agg ⟨serials (run H).comps (cix (run H).comps x)⟩, .int .i64 0]⟩
theorem w4 {s : A8} {q : Nat} {c : List Value} (hq : s.get q = some (.cells c 33 true)) (hc : c.length = 4) {vs : List Value} (hl : vs.length = 4) (hs : Ba vs = true) : ∃ s', wSt s 4 (.agg ⟨vs⟩) (.pointer (some ⟨q, 0, none⟩)) = some (BX, s') ∧ DT s' 4 (.pointer (some ⟨q, 0, none⟩)) = some (.agg ⟨vs⟩) ∧ s'.get q = some (.cells vs 33 true) ∧ s'.nx = s.nx ∧ (∀ i, i ≠ q → s'.get i = s.get i) := by
 have e : cellsOf (.agg ⟨vs⟩) = vs := rfl
 have w := Gq (s := s) (b := q) (o := 0) (n := 4) (v := .agg ⟨vs⟩) hq (by rw [e]; exact hl) (by rw [e]; exact hs) (by omega)
 rw [e, show c.take 0 ++ (vs ++ c.drop (0 + 4)) = vs by rw [List.take_zero, List.drop_eq_nil_of_le (by omega), List.nil_append, List.append_nil]] at w
 refine ⟨_, w, Fz ?_, by rw [A8.get_put, if_pos rfl], rfl, fun i hi => by rw [A8.get_put, if_neg hi]⟩
 rw [Eb (by rw [A8.get_put, if_pos rfl]) (by omega), List.drop_zero, List.take_of_length_le (by omega)]
theorem Lm (self : Self) (N f : Nat) (v4 : Value) {s : A8} {q : Nat} {c : List Value} (hq : s.get q = some (.cells c 33 true)) (hc : c.length = 4) (k : Nat) (hk : k < 4) (v : Int) (hv : c[k]? = some (iV v)) (hb : 0 ≤ v ∧ v < 1000000) :
 ∃ s', KW B22 self N (f + 1) v4 (.pointer (some ⟨q, 0, none⟩)) (.int .i64 (k : Int)) s = KW B22 self N f v4 (.pointer (some ⟨q, 0, none⟩)) (.int .i64 ((k + 1 : Nat) : Int)) s' ∧ s'.get q = some (.cells (c.set k (iV (v + 1))) 33 true) ∧ s'.nx = s.nx ∧ (∀ i, i ≠ q → s'.get i = s.get i) := by
 have w := Me (s := s) (b := q) hq (o := k) (v := iV (v + 1)) rfl (by omega)
 obtain ⟨s1, hs1⟩ : ∃ s1, s1 = s.put q (.cells (c.set k (iV (v + 1))) 33 true) := ⟨_, rfl⟩
 rw [← hs1] at w
 refine ⟨s1, ?_, by rw [hs1, A8.get_put, if_pos rfl], by rw [hs1]; rfl, fun i hi => by rw [hs1, A8.get_put, if_neg hi]⟩
 have hlt : (k : Int) < 4 := by omega
 have ia : Bo 4 1 (.pointer (some ⟨q, 0, none⟩)) (.int .i64 (k : Int)) = some (.pointer (some ⟨q, k, none⟩)) := by rw [FU _ _ _ _ _ _ hk, Nat.mul_one, Nat.zero_add]
 have rd : s.rd1 q k = some (.int .i64 v) := by rw [Ag hq]; exact hv
 have hw : BL .i64 ((k : Int) + 1) = ((k + 1 : Nat) : Int) := by rw [wrap64 (by omega)]; omega
 have hw2 : BL .i64 (v + 1) = v + 1 := wrap64 (by omega)
 have w' : wSt s 1 (.int .i64 (v + 1)) (.pointer (some ⟨q, k, none⟩)) = some (BX, s1) := w
 rw [Qp B22 rfl]
 simp only [Bq, decide_eq_true hlt, cond_true, YL B22 rfl, ia, Ad, BD, bind_ok, CS, rd, Fa, hw2, w', Aq, GN, hw]
end Go.Im
set_option maxRecDepth 100000
set_option maxHeartbeats 4000000
namespace Go.Im
theorem fU : ob (fill [.int .i64 0, .int .i64 0, .int .i64 0, .int .i64 0] []) (fun c => some (Value.agg ⟨c⟩)) = some (.agg ⟨Ef⟩) := rfl
section
variable {s : A8} {b o : Nat} {H : Hist} {F : Nat → Prop} {tag : Nat → Nat} {cb pb lb eb : Option Nat} {E : List Nat} {lv ev : Value}
theorem k22_L2 (self : Self) (N f : Nat) (hf : 5 ≤ f) {s : A8} {r q : Nat} {p0 p1 p2 p3 : Nat} (hq : s.get q = some (.cells [iV (p0 : Int), iV (p1 : Int), iV (p2 : Int), iV (p3 : Int)] 33 true)) (hr : s.get r = some (.cells Ef 33 true)) (hrq : r ≠ q) (b0 : p0 < 1000000) (b1 : p1 < 1000000) (b2 : p2 < 1000000) (b3 : p3 < 1000000) :
 ∃ s', KW B22 self N f (.pointer (some ⟨r, 0, none⟩)) (.pointer (some ⟨q, 0, none⟩)) (.int .i64 0) s = .ok (.tuple ⟨[.agg ⟨[iV ((p0 : Int) + 1), iV ((p1 : Int) + 1), iV ((p2 : Int) + 1), iV ((p3 : Int) + 1)]⟩, .int .i64 0]⟩, s') ∧ s'.nx = s.nx ∧ (∀ i, i ≠ q → i ≠ r → s'.get i = s.get i) := by
 obtain ⟨f, rfl⟩ : ∃ g, f = g + 5 := ⟨f - 5, by omega⟩
 obtain ⟨s1, e1, h1, n1, g1⟩ := Lm self N (f + 4) (.pointer (some ⟨r, 0, none⟩)) hq rfl 0 (by decide) (p0 : Int) rfl (by omega)
 obtain ⟨s2, e2, h2, n2, g2⟩ := Lm self N (f + 3) (.pointer (some ⟨r, 0, none⟩)) h1 rfl 1 (by decide) (p1 : Int) rfl (by omega)
 obtain ⟨s3, e3, h3, n3, g3⟩ := Lm self N (f + 2) (.pointer (some ⟨r, 0, none⟩)) h2 rfl 2 (by decide) (p2 : Int) rfl (by omega)
 obtain ⟨s4, e4, h4, n4, g4⟩ := Lm self N (f + 1) (.pointer (some ⟨r, 0, none⟩)) h3 rfl 3 (by decide) (p3 : Int) rfl (by omega)
 have hr4 : s4.get r = some (.cells Ef 33 true) := by rw [g4 r hrq, g3 r hrq, g2 r hrq, g1 r hrq]; exact hr
 have h4 : s4.get q = some (.cells [iV ((p0 : Int) + 1), iV ((p1 : Int) + 1), iV ((p2 : Int) + 1), iV ((p3 : Int) + 1)] 33 true) := h4
 have ld : DT s4 4 (.pointer (some ⟨q, 0, none⟩)) = some (.agg ⟨[iV ((p0 : Int) + 1), iV ((p1 : Int) + 1), iV ((p2 : Int) + 1), iV ((p3 : Int) + 1)]⟩) := Fz (by rw [Eb h4 (by simp)]; rfl)
 obtain ⟨s5, w5, l5, _, n5, g5⟩ := w4 hr4 rfl (vs := [iV ((p0 : Int) + 1), iV ((p1 : Int) + 1), iV ((p2 : Int) + 1), iV ((p3 : Int) + 1)]) rfl rfl
 refine ⟨s5, ?_, by omega, fun i hi hr' => by rw [g5 i hr', g4 i hi, g3 i hi, g2 i hi, g1 i hi]⟩
 have last : KW B22 self N (f + 1) (.pointer (some ⟨r, 0, none⟩)) (.pointer (some ⟨q, 0, none⟩)) (.int .i64 ((3 + 1 : Nat) : Int)) s4 = .ok (.tuple ⟨[.agg ⟨[iV ((p0 : Int) + 1), iV ((p1 : Int) + 1), iV ((p2 : Int) + 1), iV ((p3 : Int) + 1)]⟩, .int .i64 0]⟩, s5) := by
  have hlt : decide (((3 + 1 : Nat) : Int) < 4) = false := rfl
  rw [Qp B22 rfl]
  simp only [Bq, hlt, cond_false, ld, Ad, BD, bind_ok, w5, Aq, l5]
  rfl
 exact e1.trans (e2.trans (e3.trans (e4.trans last)))
theorem k22 (n : Nat) (hn : 200 ≤ n) (x : List UInt8) (h : D5 s b H F tag o cb pb lb eb E lv ev) : Gives (AU AB Ah n (.fn 22) [.pointer (some ⟨b, 0, none⟩), .string (ofL x)] s) s (Jb H x) := by
 obtain ⟨m, rfl, _⟩ := Ae (show 1 ≤ n by omega)
 obtain ⟨s1, hs1⟩ : ∃ s1, s1 = s.new (.cells Ef 33 true) := ⟨_, rfl⟩
 have x1 : Ext s s1 := by rw [hs1]; exact (Ext.refl s).new _
 have n1 : s1.nx = s.nx + 1 := by rw [hs1]; rfl
 have g1 : s1.get s.nx = some (.cells Ef 33 true) := by rw [hs1, A8.Af, if_pos rfl]
 obtain ⟨s2, d60, x2⟩ := k60 m (by omega) x (h.ext x1)
 have x2n := x2.nx
 have g2 : s2.get s.nx = some (.cells Ef 33 true) := (x2.get _ (by omega)).trans g1
 obtain ⟨s3, hs3⟩ : ∃ s3, s3 = s2.new (.cells zero21 120 true) := ⟨_, rfl⟩
 have x3 : Ext s2 s3 := by rw [hs3]; exact (Ext.refl s2).new _
 have n3 : s3.nx = s2.nx + 1 := by rw [hs3]; rfl
 have g3 : s3.get s2.nx = some (.cells zero21 120 true) := by rw [hs3, A8.Af, if_pos rfl]
 have es : s.new (.cells [.int .i64 0, .int .i64 0, .int .i64 0, .int .i64 0] 33 true) = s1 := hs1.symm
 have es3 : s2.new (.cells [.string ⟨#[]⟩, .int .i64 0, .int .i64 0, .int .i64 0, .int .i64 0, .int .i64 0, .int .i64 0, .int .i64 0, .int .i64 0, .int .i64 0, .int .i64 0, .int .i64 0, .int .i64 0, .bool false, .bool false, .bool false, .bool false, .bool false, .bool false, .bool false, .bool false] 120 true) = s3 := hs3.symm
 have ep : ptrTo s.nx = .pointer (some ⟨s.nx, 0, none⟩) := rfl
 have ep2 : ptrTo s2.nx = .pointer (some ⟨s2.nx, 0, none⟩) := rfl
 have err : ∀ e : Int, e ≠ 0 → AU AB Ah m (.fn 60) [.pointer (some ⟨b, 0, none⟩), .string (ofL x)] s1 = .ok (.tuple ⟨[.agg ⟨zero21⟩, .int .i64 e]⟩, s2) → Gives (AU AB Ah (m + 1) (.fn 22) [.pointer (some ⟨b, 0, none⟩), .string (ofL x)] s) s (.tuple ⟨[.agg ⟨Ef⟩, .int .i64 e]⟩) := by
  intro e he d
  obtain ⟨s4, w4', l4, n4, g4⟩ := w21 g3 (vs := zero21) rfl rfl
  have g44 : s4.get s.nx = some (.cells Ef 33 true) := by rw [g4 _ (by omega), x3.get _ (by omega)]; exact g2
  obtain ⟨s5, w5, l5, _, n5, g5⟩ := w4 g44 rfl (vs := Ef) rfl rfl
  refine ⟨s5, ?_, ⟨by omega, fun i hi => by rw [g5 i (by omega), g4 i (by omega), x3.get i (by omega), x2.get i (by omega)]; exact x1.get i hi⟩⟩
  rw [Au 22 c22 rfl, dV]
  simp only [es, d, bind_ok, CP, List.getElem?_cons_zero, List.getElem?_cons_succ, Ad, BD, es3, ep, ep2, w4', Aq, E9, decide_eq_false he, Bool.not_false, Ar, cond_true, fU, w5, l5]
  rfl
 unfold Jb
 unfold WM at d60
 by_cases c : nameB x = false
 · rw [if_pos c] at d60 ⊢
   exact err 8 (by decide) d60
 · rw [if_neg c] at d60 ⊢
   by_cases c2 : BJ x (run H).comps 0 < 0
   · rw [if_pos c2] at d60 ⊢
     exact err 6 (by decide) d60
   · rw [if_neg c2] at d60 ⊢
     obtain ⟨a1, a2, cc, a3, _⟩ := DR c2
     rw [a3] at d60
     dsimp only at d60
     have inv := h.ok.inv
     have hok := inv.inv.ok cc (List.mem_of_getElem? a3)
     have hpl := inv.plen
     have hlen := h.len
     obtain ⟨p0, p1, p2, p3, hp⟩ := len4 hok.1
     have hpa : ∀ k v, cc.parts[k]? = some v → partAt (run H).comps (cix (run H).comps x) k = v := fun k v hv => by unfold partAt; rw [a3]; simp [hv]
     have q0 := hpa 0 p0 (by rw [hp]; rfl)
     have q1 := hpa 1 p1 (by rw [hp]; rfl)
     have q2 := hpa 2 p2 (by rw [hp]; rfl)
     have q3 := hpa 3 p3 (by rw [hp]; rfl)
     have bd : ∀ k, k < 4 → partAt (run H).comps (cix (run H).comps x) k < 1000000 := fun k hk => by
      obtain ⟨t, t1, _⟩ := inv.inv.at_ _ k a2 hk
      have := BA t1
      omega
     obtain ⟨s4, w4', l4, n4, g4⟩ := w21 g3 (vs := BR cc) (DW hok) (GU cc)
     have ld : DT s4 4 (.pointer (some ⟨s2.nx, 1, none⟩)) = some (.agg ⟨[iV (p0 : Int), iV (p1 : Int), iV (p2 : Int), iV (p3 : Int)]⟩) := by
      have l4' : ob (s4.rd s2.nx 0 21) (fun l => some (Value.agg ⟨l⟩)) = some (.agg ⟨BR cc⟩) := l4
      cases hget : s4.get s2.nx with
      | none => unfold A8.rd at l4'; rw [hget] at l4'; cases l4'
      | some ob' =>
       cases ob' with
       | cells full el w =>
        refine Fz ?_
        have hcc : BR cc = strOf cc.name :: iV (p0 : Int) :: iV (p1 : Int) :: iV (p2 : Int) :: iV (p3 : Int) :: (cc.card.map iV ++ cc.told.map Value.bool) := by unfold BR; rw [hp]; rfl
        have hrd : s4.rd s2.nx 0 21 = some (BR cc) := by
         cases h5 : s4.rd s2.nx 0 21 with
         | none => rw [h5] at l4'; cases l4'
         | some l => rw [h5] at l4'; injection l4' with l4'; injection l4' with l4'; injection l4' with l4'; rw [l4']
        have hfl : 21 ≤ full.length := by
         unfold A8.rd IL at hrd
         rw [hget] at hrd
         simp only [sub] at hrd
         by_cases hh : 21 ≤ full.length
         · exact hh
         · exfalso
           have e : Nat.ble (Nat.add 0 21) full.length = false := by
            cases hb : Nat.ble (Nat.add 0 21) full.length with
            | false => rfl
            | true => exact absurd (Nat.le_of_ble_eq_true hb) (by show ¬ (0 + 21 ≤ full.length); omega)
           rw [e] at hrd; cases hrd
        rw [Eb hget (by omega), List.drop_zero] at hrd
        have hrd := Option.some.inj hrd
        rw [Eb hget (by omega)]
        have e : (full.drop 1).take 4 = ((full.take 21).drop 1).take 4 := by
         rw [List.drop_take, List.take_take]; rfl
        rw [e, hrd, hcc]; rfl
       | _ => unfold A8.rd at l4'; rw [hget] at l4'; cases l4'
     obtain ⟨s5, hs5⟩ : ∃ s5, s5 = s4.new (.cells Ef 33 true) := ⟨_, rfl⟩
     have x5 : Ext s4 s5 := by rw [hs5]; exact (Ext.refl s4).new _
     have n5 : s5.nx = s4.nx + 1 := by rw [hs5]; rfl
     have g5 : s5.get s4.nx = some (.cells Ef 33 true) := by rw [hs5, A8.Af, if_pos rfl]
     obtain ⟨s6, w6, _, h6, n6, g6⟩ := w4 g5 rfl (vs := [iV (p0 : Int), iV (p1 : Int), iV (p2 : Int), iV (p3 : Int)]) rfl rfl
     have hr6 : s6.get s.nx = some (.cells Ef 33 true) := by rw [g6 _ (by omega), x5.get _ (by omega), g4 _ (by omega), x3.get _ (by omega)]; exact g2
     obtain ⟨s7, e7, n7, g7⟩ := k22_L2 (AU AB Ah m) m m (by omega) h6 hr6 (by omega) (by rw [← q0]; exact bd 0 (by decide)) (by rw [← q1]; exact bd 1 (by decide)) (by rw [← q2]; exact bd 2 (by decide)) (by rw [← q3]; exact bd 3 (by decide))
     refine ⟨s7, ?_, ⟨by omega, fun i hi => by rw [g7 i (by omega) (by omega), g6 i (by omega), x5.get i (by omega), g4 i (by omega), x3.get i (by omega), x2.get i (by omega)]; exact x1.get i hi⟩⟩
     unfold serials
     rw [q0, q1, q2, q3, Au 22 c22 rfl, dV]
     have es5 : s4.new (.cells [.int .i64 0, .int .i64 0, .int .i64 0, .int .i64 0] 33 true) = s5 := hs5.symm
     have ep4 : ptrTo s4.nx = .pointer (some ⟨s4.nx, 0, none⟩) := rfl
     simp only [es, d60, bind_ok, CP, List.getElem?_cons_zero, List.getElem?_cons_succ, Ad, BD, es3, ep, ep2, w4', Aq, E9, decide_true, Bool.not_true, Ar, cond_false, YK B22 rfl, EC, Nat.zero_add, ld, es5, ep4, w6]
     exact e7
end
end Go.Im
set_option maxRecDepth 100000
set_option maxHeartbeats 4000000
namespace Go.Im
theorem OH {s0 s : A8} (x : Ext s0 s) {base : Option Nat} {el w len by_ : Nat} {cs news : List Value} {v : Value} (h : Bc s base el w cs len v) (hb : ∀ b, base = some b → s0.nx ≤ b) (hw : 1 ≤ w) (hby : (len + 1) * by_ ≤ 140737488355328) (hlen : len + 1 < UNK) (hn : news.length = w) (hs : Ba news = true) :
 ∃ v' s' base', Df (s.new (.cells news el true)) el w by_ v (Bv 1 1 s.nx) = some (v', s') ∧ Bc s' base' el w (cs ++ news) (len + 1) v' ∧ (∀ b, base' = some b → s0.nx ≤ b) ∧ Ext s0 s' ∧ s.nx + 1 ≤ s'.nx ∧ (∀ i, i < s.nx → base ≠ some i → s'.get i = s.get i) ∧ (∀ b, base' = some b → base = some b ∨ s.nx ≤ b) := by
 obtain ⟨s1, hs1⟩ : ∃ s1, s1 = s.new (.cells news el true) := ⟨_, rfl⟩
 have n1 : s1.nx = s.nx + 1 := by rw [hs1]; rfl
 have x1 : Ext s s1 := by rw [hs1]; exact (Ext.refl s).new _
 have hsrc := fQ (s := s) (s' := s1) (cs := news) (el := el) (w := w) hs1 hn
 have xn := x.nx
 obtain ⟨v', s', base', h1, h2, h3, h4, h5⟩ := (h.frame x1.nx fun b e => x1.get b (h.lt e)).push hw (by_ := by_) hby hlen hn hs hsrc
 rw [← hs1]
 refine ⟨v', s', base', h1, h2, ?_, ⟨by omega, ?_⟩, by omega, ?_, ?_⟩
 · intro b e
   rcases h3 with e' | e'
   · exact hb b (by rw [← e']; exact e)
   · rw [e'] at e; have := Option.some.inj e; omega
 · intro i hi
   rw [h5 i (by omega) (fun e => by have := hb i e; omega), x1.get i (by omega)]; exact x.get i hi
 · intro i hi e
   rw [h5 i (by omega) e]; exact x1.get i hi
 · intro b e
   rcases h3 with e' | e'
   · exact .inl (by rw [← e']; exact e)
   · rw [e'] at e; have := Option.some.inj e; exact .inr (by omega)
theorem w21g {s : A8} {q : Nat} {c : List Value} (hq : s.get q = some (.cells c 120 true)) (hc : c.length = 21) {vs : List Value} (hl : vs.length = 21) (hs : Ba vs = true) : ∃ s', wSt s 21 (.agg ⟨vs⟩) (.pointer (some ⟨q, 0, none⟩)) = some (BX, s') ∧ s'.get q = some (.cells vs 120 true) ∧ s'.nx = s.nx ∧ (∀ i, i ≠ q → s'.get i = s.get i) := by
 have e : cellsOf (.agg ⟨vs⟩) = vs := rfl
 have w := Gq (s := s) (b := q) (o := 0) (n := 21) (v := .agg ⟨vs⟩) hq (by rw [e]; exact hl) (by rw [e]; exact hs) (by omega)
 rw [e, show c.take 0 ++ (vs ++ c.drop (0 + 21)) = vs by rw [List.take_zero, List.drop_eq_nil_of_le (by omega), List.nil_append, List.append_nil]] at w
 exact ⟨_, w, by rw [A8.get_put, if_pos rfl], rfl, fun i hi => by rw [A8.get_put, if_neg hi]⟩
section
variable {s : A8} {b o : Nat} {H : Hist} {F : Nat → Prop} {tag : Nat → Nat} {cb pb lb eb : Option Nat} {E : List Nat} {lv ev : Value}
end
end Go.Im
set_option maxRecDepth 100000
set_option maxHeartbeats 4000000
namespace Go.Im
theorem Q8 : ∀ (k n : Nat) (acc : List UInt8), (Nv k n acc).length ≤ acc.length + k
 | 0, n, acc => Nat.le_refl _
 | k + 1, n, acc => by
  show (cond (Nat.blt n 10) (UInt8.ofNat (Nat.add 48 n) :: acc) (Nv k (Nat.div n 10) (UInt8.ofNat (Nat.add 48 (Nat.mod n 10)) :: acc))).length ≤ _
  cases Nat.blt n 10 with
  | true => simp
  | false => have := Q8 k (Nat.div n 10) (UInt8.ofNat (Nat.add 48 (Nat.mod n 10)) :: acc); simp at this ⊢; omega
theorem RS (z : Int) : (F6 z).length ≤ 21 := by
 cases z with
 | ofNat n => have := Q8 20 n []; show (Nv 20 n []).length ≤ 21; simp at this; omega
 | negSucc n => have := Q8 20 (n + 1) []; show (45 :: Nv 20 (n + 1) []).length ≤ 21; simp at this ⊢; omega
theorem k45 (n : Nat) (hn : 1 ≤ n) (z : Int) (hz : -9223372036854775808 ≤ z ∧ z < 9223372036854775808) (s : A8) : AU AB Ah n (.fn 45) [.int .i64 z] s = .ok (.string (ofL (F6 z)), s) := by
 obtain ⟨m, rfl, _⟩ := Ae hn
 rw [Ji 45 .itoa rfl]
 have e : ZL z = true := by
  cases z with
  | ofNat n =>
   have h : (n : Int) < 9223372036854775808 := hz.2
   exact Bh.2 (show n < 9223372036854775808 by omega)
  | negSucc n =>
   have h := hz.1
   exact Bh.2 (show n < 9223372036854775808 by omega)
 show Aw _ (cond (ZL z) (some (strOf (F6 z), s)) none) = _
 rw [e]; rfl
theorem Jp {x : List UInt8} (h : nameB x = true) : x.length ≤ 6 := by
 unfold nameB at h
 rw [Bool.and_eq_true] at h
 have := of_decide_eq_true h.1
 omega
theorem Dn (x y : List UInt8) (h : x.length + y.length ≤ 9223372036854775807) : Az .add (.string (ofL x)) (.string (ofL y)) = some (.string (ofL (x ++ y))) := dI (ofL x) (ofL y) h
theorem Xf : (Value.string ⟨#[32]⟩) = .string (ofL [32]) := rfl
section
variable {s : A8} {b o : Nat} {H : Hist} {F : Nat → Prop} {tag : Nat → Nat} {cb pb lb eb : Option Nat} {E : List Nat} {lv ev : Value}
end
end Go.Im
