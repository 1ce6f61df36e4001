/- Questions to both books: a compass is asked (program). -/
import Derived.Test.YtojbkocmobkddaaGreatDoorImPB
import Derived.Test.YtojbkocmobkddaaGreatDoorImHM
set_option linter.all false
set_option maxRecDepth 100000
set_option maxHeartbeats 4000000
namespace Go.Im
def zero21 : List Value := BQ (newC [])
def Ug (H : Hist) (x : List UInt8) : Value := if nameB x = false then .tuple ⟨[.agg ⟨zero21⟩, .int .i64 8]⟩ else if BZ x (run H).comps 0 < 0 then .tuple ⟨[.agg ⟨zero21⟩, .int .i64 6]⟩ else match (run H).comps[cix (run H).comps x]? with
 | some c => .tuple ⟨[.agg ⟨BQ c⟩, .int .i64 0]⟩
 | none => .tuple ⟨[.agg ⟨zero21⟩, .int .i64 6]⟩
theorem E9 (c : CG) : Bh (BQ c) = true := Gi (by
 intro v hv
 unfold BQ at hv
 simp only [List.mem_cons, List.mem_append, List.mem_map] at hv
 rcases hv with rfl | ⟨_, _, rfl⟩ | ⟨_, _, rfl⟩ | ⟨_, _, rfl⟩ <;> rfl)
theorem w21 {s : AA} {q : Nat} (hq : s.get q = some (.cells zero21 120 true)) {vs : List Value} (hl : vs.length = 21) (hs : Bh vs = true) : ∃ s', wSt s 21 (.agg ⟨vs⟩) (.pointer (some ⟨q, 0, none⟩)) = some (Bl, s') ∧ DY s' 21 (.pointer (some ⟨q, 0, none⟩)) = some (.agg ⟨vs⟩) ∧ s'.nx = s.nx ∧ (∀ i, i ≠ q → s'.get i = s.get i) := by
 have e : cellsOf (.agg ⟨vs⟩) = vs := rfl
 have z : zero21.length = 21 := rfl
 have w := Fj (s := s) (b := q) (o := 0) (n := 21) (v := .agg ⟨vs⟩) hq (by rw [e]; exact hl) (by rw [e]; exact hs) (by omega)
 rw [e, show zero21.take 0 ++ (vs ++ zero21.drop (0 + 21)) = vs by rw [List.take_zero, List.drop_eq_nil_of_le (by omega), List.nil_append, List.append_nil]] at w
 refine ⟨_, w, Eh ?_, rfl, fun i hi => by rw [AA.get_put, if_neg hi]⟩
 rw [ED (by rw [AA.get_put, if_pos rfl]) (by omega), List.drop_zero, List.take_of_length_le (by omega)]
section
variable {s : AA} {b o : Nat} {H : Hist} {F : Nat → Prop} {tag : Nat → Nat} {cb pb lb eb : Option Nat} {E : List Nat} {lv ev : Value}
theorem k60 (n : Nat) (hn : 100 ≤ n) (x : List UInt8) (h : CV s b H F tag o cb pb lb eb E lv ev) : Gives (AU AL Aj n (.fn 60) [.pointer (some ⟨b, 0, none⟩), .string (ofL x)] s) s (Ug H x) := by
 obtain ⟨m, rfl, _⟩ := Ac (show 1 ≤ n by omega)
 obtain ⟨s1, hs1⟩ : ∃ s1, s1 = s.new (.cells zero21 120 true) := ⟨_, rfl⟩
 have x1 : Ext s s1 := by rw [hs1]; exact (Ext.refl s).new _
 have n1 : s1.nx = s.nx + 1 := by rw [hs1]; rfl
 have g1 : s1.get s.nx = some (.cells zero21 120 true) := by rw [hs1, AA.Ak, if_pos rfl]
 have h1 := h.ext x1
 have d51 := k51 m (by omega) h1
 obtain ⟨s2, d82, x2⟩ := k82 (ofL x) m (by omega) s1
 rw [Bj] at d82
 have x2n := x2.nx
 have h2 := h1.ext x2
 have g2 : s2.get s.nx = some (.cells zero21 120 true) := (x2.get _ (by omega)).trans g1
 have es : s.new (.cells [.string ⟨#[]⟩, .int .i64 0, .int .i64 0, .int .i64 0, .int .i64 0, .int .i64 0, .int .i64 0, .int .i64 0, .int .i64 0, .int .i64 0, .int .i64 0, .int .i64 0, .int .i64 0, .bool false, .bool false, .bool false, .bool false, .bool false, .bool false, .bool false, .bool false] 120 true) = s1 := hs1.symm
 have ez : ob (fill [.string ⟨#[]⟩, .int .i64 0, .int .i64 0, .int .i64 0, .int .i64 0, .int .i64 0, .int .i64 0, .int .i64 0, .int .i64 0, .int .i64 0, .int .i64 0, .int .i64 0, .int .i64 0, .bool false, .bool false, .bool false, .bool false, .bool false, .bool false, .bool false, .bool false] []) (fun c => some (Value.agg ⟨c⟩)) = some (.agg ⟨zero21⟩) := rfl
 have ep : ptrTo s.nx = .pointer (some ⟨s.nx, 0, none⟩) := rfl
 have x12 := x1.trans x2
 have start : AU AL Aj (m + 1) (.fn 60) [.pointer (some ⟨b, 0, none⟩), .string (ofL x)] s = UK B60 (AU AL Aj m) m (.pointer (some ⟨b, 0, none⟩)) (.string (ofL x)) (.pointer (some ⟨s.nx, 0, none⟩)) s1 := by
  rw [Ap 60 c60 rfl, f60_eq, es, d51]
  simp only [bind_ok, Af, cond_false, ep]
 unfold Ug
 by_cases c : nameB x = false
 · rw [if_pos c]
   obtain ⟨s3, w3, l3, n3, g3⟩ := w21 g2 (vs := zero21) rfl rfl
   refine ⟨s3, start.trans ?_, ⟨by omega, fun i hi => by rw [g3 i (by omega)]; exact x12.get i hi⟩⟩
   rw [SQ B60 rfl]
   simp only [d82, c, bind_ok, Dx, Bool.not_false, AY, Aq, Af, cond_true, ez, w3, BF, l3]
   rfl
 · rw [if_neg c]
   have c : nameB x = true := by cases hh : nameB x with | true => rfl | false => exact (c hh).elim
   have r0 : s2.rd1 b 0 = some (.pointer (some ⟨o, 0, none⟩)) := by rw [Ai h2.hb]; rfl
   have hcl := h.ok.inv.Nk
   obtain ⟨s3, d93, x3⟩ := k93 m s2 o cb pb (run H) h2.off (by omega) (by omega) x
   have d93 : AU AL Aj m (.fn 93) [.pointer (some ⟨o, 0, none⟩), .string (ofL x)] s2 = .ok (.int .i64 (BZ x (run H).comps 0), s3) := d93
   have h3 := h2.ext x3
   have x3n := x3.nx
   have g3' : s3.get s.nx = some (.cells zero21 120 true) := (x3.get _ (by omega)).trans g2
   have x13 := x12.trans x3
   have mid : UK B60 (AU AL Aj m) m (.pointer (some ⟨b, 0, none⟩)) (.string (ofL x)) (.pointer (some ⟨s.nx, 0, none⟩)) s1 = X8 B60 (AU AL Aj m) m (.pointer (some ⟨b, 0, none⟩)) (.string (ofL x)) (.pointer (some ⟨s.nx, 0, none⟩)) s2 := by
    rw [SQ B60 rfl]
    simp only [d82, c, bind_ok, Dx, Bool.not_true, AY, Aq, Af, cond_false]
   by_cases c2 : BZ x (run H).comps 0 < 0
   · rw [if_pos c2]
     obtain ⟨s4, w4, l4, n4, g4⟩ := w21 g3' (vs := zero21) rfl rfl
     refine ⟨s4, start.trans (mid.trans ?_), ⟨by omega, fun i hi => by rw [g4 i (by omega)]; exact x13.get i hi⟩⟩
     rw [SS B60 rfl]
     simp only [Es, DN, Nat.zero_add, CO, r0, d93, bind_ok, AY, Aq, Dk, decide_eq_true c2, Af, cond_true, ez, w4, BF, l4]
     rfl
   · rw [if_neg c2]
     obtain ⟨a1, a2, cc, a3, _⟩ := Dh c2
     rw [a3]
     obtain ⟨cb', rfl⟩ := h3.off.KL a2
     obtain ⟨cv, e1, ic, _, _⟩ := h3.off.C
     have icj := ic _ a2
     have hok := h3.off.ok cc (List.mem_of_getElem? a3)
     have r03 : s3.rd1 b 0 = some (.pointer (some ⟨o, 0, none⟩)) := by rw [Ai h3.hb]; rfl
     obtain ⟨cv', pv, q0, q1, hC, hP⟩ := h3.off.slices
     have ld : DY s3 21 (.pointer (some ⟨cb', cix (run H).comps x * 21, none⟩)) = some (.agg ⟨BQ cc⟩) := Eh (by
      rw [hC.rd (by have : (cix (run H).comps x + 1) * 21 ≤ (run H).comps.length * 21 := Nat.mul_le_mul_right _ a2; omega), ER BQ 21 _ _ cc (fun a ha => D8 (h3.off.ok a ha)) a3])
     obtain ⟨s4, w4, l4, n4, g4⟩ := w21 g3' (vs := BQ cc) (D8 hok) (E9 cc)
     refine ⟨s4, start.trans (mid.trans ?_), ⟨by omega, fun i hi => by rw [g4 i (by omega)]; exact x13.get i hi⟩⟩
     rw [SS B60 rfl]
     simp only [Es, DN, Nat.zero_add, CO, r0, d93, bind_ok, AY, Aq, Dk, decide_eq_false c2, Af, cond_false, a1, Zn B60 rfl, r03, e1, icj, ld, w4, BF, l4]
     rfl
end
end Go.Im
set_option maxRecDepth 100000
set_option maxHeartbeats 4000000
namespace Go.Im
def Fa : List Value := [.int .i64 0, .int .i64 0, .int .i64 0, .int .i64 0]
def Oi (C : List CG) (c : Nat) : List Value := [iV ((partAt C c 0 : Int) + 1), iV ((partAt C c 1 : Int) + 1), iV ((partAt C c 2 : Int) + 1), iV ((partAt C c 3 : Int) + 1)]
def MW (H : Hist) (x : List UInt8) : Value := if nameB x = false then .tuple ⟨[.agg ⟨Fa⟩, .int .i64 8]⟩ else if BZ x (run H).comps 0 < 0 then .tuple ⟨[.agg ⟨Fa⟩, .int .i64 6]⟩ else .tuple ⟨[.agg ⟨Oi (run H).comps (cix (run H).comps x)⟩, .int .i64 0]⟩
theorem w4 {s : AA} {q : Nat} {c : List Value} (hq : s.get q = some (.cells c 33 true)) (hc : c.length = 4) {vs : List Value} (hl : vs.length = 4) (hs : Bh vs = true) : ∃ s', wSt s 4 (.agg ⟨vs⟩) (.pointer (some ⟨q, 0, none⟩)) = some (Bl, s') ∧ DY s' 4 (.pointer (some ⟨q, 0, none⟩)) = some (.agg ⟨vs⟩) ∧ s'.get q = some (.cells vs 33 true) ∧ s'.nx = s.nx ∧ (∀ i, i ≠ q → s'.get i = s.get i) := by
 have e : cellsOf (.agg ⟨vs⟩) = vs := rfl
 have w := Fj (s := s) (b := q) (o := 0) (n := 4) (v := .agg ⟨vs⟩) hq (by rw [e]; exact hl) (by rw [e]; exact hs) (by omega)
 rw [e, show c.take 0 ++ (vs ++ c.drop (0 + 4)) = vs by rw [List.take_zero, List.drop_eq_nil_of_le (by omega), List.nil_append, List.append_nil]] at w
 refine ⟨_, w, Eh ?_, by rw [AA.get_put, if_pos rfl], rfl, fun i hi => by rw [AA.get_put, if_neg hi]⟩
 rw [ED (by rw [AA.get_put, if_pos rfl]) (by omega), List.drop_zero, List.take_of_length_le (by omega)]
theorem MX (self : Self) (N f : Nat) (v4 : Value) {s : AA} {q : Nat} {c : List Value} (hq : s.get q = some (.cells c 33 true)) (hc : c.length = 4) (k : Nat) (hk : k < 4) (v : Int) (hv : c[k]? = some (iV v)) (hb : 0 ≤ v ∧ v < 1000000) :
 ∃ s', LJ B22 self N (f + 1) v4 (.pointer (some ⟨q, 0, none⟩)) (.int .i64 (k : Int)) s = LJ B22 self N f v4 (.pointer (some ⟨q, 0, none⟩)) (.int .i64 ((k + 1 : Nat) : Int)) s' ∧ s'.get q = some (.cells (c.set k (iV (v + 1))) 33 true) ∧ s'.nx = s.nx ∧ (∀ i, i ≠ q → s'.get i = s.get i) := by
 have w := MP (s := s) (b := q) hq (o := k) (v := iV (v + 1)) rfl (by omega)
 obtain ⟨s1, hs1⟩ : ∃ s1, s1 = s.put q (.cells (c.set k (iV (v + 1))) 33 true) := ⟨_, rfl⟩
 rw [← hs1] at w
 refine ⟨s1, ?_, by rw [hs1, AA.get_put, if_pos rfl], by rw [hs1]; rfl, fun i hi => by rw [hs1, AA.get_put, if_neg hi]⟩
 have hlt : (k : Int) < 4 := by omega
 have ia : CY 4 1 (.pointer (some ⟨q, 0, none⟩)) (.int .i64 (k : Int)) = some (.pointer (some ⟨q, k, none⟩)) := by rw [FP _ _ _ _ _ _ hk, Nat.mul_one, Nat.zero_add]
 have rd : s.rd1 q k = some (.int .i64 v) := by rw [Ai hq]; exact hv
 have hw : Az .i64 ((k : Int) + 1) = ((k + 1 : Nat) : Int) := by rw [wrap64 (by omega)]; omega
 have hw2 : Az .i64 (v + 1) = v + 1 := wrap64 (by omega)
 have w' : wSt s 1 (.int .i64 (v + 1)) (.pointer (some ⟨q, k, none⟩)) = some (Bl, s1) := w
 rw [Rz B22 rfl]
 simp only [BP, decide_eq_true hlt, cond_true, ZR B22 rfl, ia, AY, Aq, bind_ok, CO, rd, Io, hw2, w', BF, Eb, hw]
end Go.Im
set_option maxRecDepth 100000
set_option maxHeartbeats 4000000
namespace Go.Im
theorem kH : ob (fill [.int .i64 0, .int .i64 0, .int .i64 0, .int .i64 0] []) (fun c => some (Value.agg ⟨c⟩)) = some (.agg ⟨Fa⟩) := rfl
section
variable {s : AA} {b o : Nat} {H : Hist} {F : Nat → Prop} {tag : Nat → Nat} {cb pb lb eb : Option Nat} {E : List Nat} {lv ev : Value}
theorem k22_L2 (self : Self) (N f : Nat) (hf : 5 ≤ f) {s : AA} {r q : Nat} {p0 p1 p2 p3 : Nat} (hq : s.get q = some (.cells [iV (p0 : Int), iV (p1 : Int), iV (p2 : Int), iV (p3 : Int)] 33 true)) (hr : s.get r = some (.cells Fa 33 true)) (hrq : r ≠ q) (b0 : p0 < 1000000) (b1 : p1 < 1000000) (b2 : p2 < 1000000) (b3 : p3 < 1000000) :
 ∃ s', LJ B22 self N f (.pointer (some ⟨r, 0, none⟩)) (.pointer (some ⟨q, 0, none⟩)) (.int .i64 0) s = .ok (.tuple ⟨[.agg ⟨[iV ((p0 : Int) + 1), iV ((p1 : Int) + 1), iV ((p2 : Int) + 1), iV ((p3 : Int) + 1)]⟩, .int .i64 0]⟩, s') ∧ s'.nx = s.nx ∧ (∀ i, i ≠ q → i ≠ r → s'.get i = s.get i) := by
 obtain ⟨f, rfl⟩ : ∃ g, f = g + 5 := ⟨f - 5, by omega⟩
 obtain ⟨s1, e1, h1, n1, g1⟩ := MX self N (f + 4) (.pointer (some ⟨r, 0, none⟩)) hq rfl 0 (by decide) (p0 : Int) rfl (by omega)
 obtain ⟨s2, e2, h2, n2, g2⟩ := MX self N (f + 3) (.pointer (some ⟨r, 0, none⟩)) h1 rfl 1 (by decide) (p1 : Int) rfl (by omega)
 obtain ⟨s3, e3, h3, n3, g3⟩ := MX self N (f + 2) (.pointer (some ⟨r, 0, none⟩)) h2 rfl 2 (by decide) (p2 : Int) rfl (by omega)
 obtain ⟨s4, e4, h4, n4, g4⟩ := MX self N (f + 1) (.pointer (some ⟨r, 0, none⟩)) h3 rfl 3 (by decide) (p3 : Int) rfl (by omega)
 have hr4 : s4.get r = some (.cells Fa 33 true) := by rw [g4 r hrq, g3 r hrq, g2 r hrq, g1 r hrq]; exact hr
 have h4 : s4.get q = some (.cells [iV ((p0 : Int) + 1), iV ((p1 : Int) + 1), iV ((p2 : Int) + 1), iV ((p3 : Int) + 1)] 33 true) := h4
 have ld : DY s4 4 (.pointer (some ⟨q, 0, none⟩)) = some (.agg ⟨[iV ((p0 : Int) + 1), iV ((p1 : Int) + 1), iV ((p2 : Int) + 1), iV ((p3 : Int) + 1)]⟩) := Eh (by rw [ED h4 (by simp)]; rfl)
 obtain ⟨s5, w5, l5, _, n5, g5⟩ := w4 hr4 rfl (vs := [iV ((p0 : Int) + 1), iV ((p1 : Int) + 1), iV ((p2 : Int) + 1), iV ((p3 : Int) + 1)]) rfl rfl
 refine ⟨s5, ?_, by omega, fun i hi hr' => by rw [g5 i hr', g4 i hi, g3 i hi, g2 i hi, g1 i hi]⟩
 have last : LJ B22 self N (f + 1) (.pointer (some ⟨r, 0, none⟩)) (.pointer (some ⟨q, 0, none⟩)) (.int .i64 ((3 + 1 : Nat) : Int)) s4 = .ok (.tuple ⟨[.agg ⟨[iV ((p0 : Int) + 1), iV ((p1 : Int) + 1), iV ((p2 : Int) + 1), iV ((p3 : Int) + 1)]⟩, .int .i64 0]⟩, s5) := by
  have hlt : decide (((3 + 1 : Nat) : Int) < 4) = false := rfl
  rw [Rz B22 rfl]
  simp only [BP, hlt, cond_false, ld, AY, Aq, bind_ok, w5, BF, l5]
  rfl
 exact e1.trans (e2.trans (e3.trans (e4.trans last)))
theorem k22 (n : Nat) (hn : 200 ≤ n) (x : List UInt8) (h : CV s b H F tag o cb pb lb eb E lv ev) : Gives (AU AL Aj n (.fn 22) [.pointer (some ⟨b, 0, none⟩), .string (ofL x)] s) s (MW H x) := by
 obtain ⟨m, rfl, _⟩ := Ac (show 1 ≤ n by omega)
 obtain ⟨s1, hs1⟩ : ∃ s1, s1 = s.new (.cells Fa 33 true) := ⟨_, rfl⟩
 have x1 : Ext s s1 := by rw [hs1]; exact (Ext.refl s).new _
 have n1 : s1.nx = s.nx + 1 := by rw [hs1]; rfl
 have g1 : s1.get s.nx = some (.cells Fa 33 true) := by rw [hs1, AA.Ak, if_pos rfl]
 obtain ⟨s2, d60, x2⟩ := k60 m (by omega) x (h.ext x1)
 have x2n := x2.nx
 have g2 : s2.get s.nx = some (.cells Fa 33 true) := (x2.get _ (by omega)).trans g1
 obtain ⟨s3, hs3⟩ : ∃ s3, s3 = s2.new (.cells zero21 120 true) := ⟨_, rfl⟩
 have x3 : Ext s2 s3 := by rw [hs3]; exact (Ext.refl s2).new _
 have n3 : s3.nx = s2.nx + 1 := by rw [hs3]; rfl
 have g3 : s3.get s2.nx = some (.cells zero21 120 true) := by rw [hs3, AA.Ak, if_pos rfl]
 have es : s.new (.cells [.int .i64 0, .int .i64 0, .int .i64 0, .int .i64 0] 33 true) = s1 := hs1.symm
 have es3 : s2.new (.cells [.string ⟨#[]⟩, .int .i64 0, .int .i64 0, .int .i64 0, .int .i64 0, .int .i64 0, .int .i64 0, .int .i64 0, .int .i64 0, .int .i64 0, .int .i64 0, .int .i64 0, .int .i64 0, .bool false, .bool false, .bool false, .bool false, .bool false, .bool false, .bool false, .bool false] 120 true) = s3 := hs3.symm
 have ep : ptrTo s.nx = .pointer (some ⟨s.nx, 0, none⟩) := rfl
 have ep2 : ptrTo s2.nx = .pointer (some ⟨s2.nx, 0, none⟩) := rfl
 have err : ∀ e : Int, e ≠ 0 → AU AL Aj m (.fn 60) [.pointer (some ⟨b, 0, none⟩), .string (ofL x)] s1 = .ok (.tuple ⟨[.agg ⟨zero21⟩, .int .i64 e]⟩, s2) → Gives (AU AL Aj (m + 1) (.fn 22) [.pointer (some ⟨b, 0, none⟩), .string (ofL x)] s) s (.tuple ⟨[.agg ⟨Fa⟩, .int .i64 e]⟩) := by
  intro e he d
  obtain ⟨s4, w4', l4, n4, g4⟩ := w21 g3 (vs := zero21) rfl rfl
  have g44 : s4.get s.nx = some (.cells Fa 33 true) := by rw [g4 _ (by omega), x3.get _ (by omega)]; exact g2
  obtain ⟨s5, w5, l5, _, n5, g5⟩ := w4 g44 rfl (vs := Fa) rfl rfl
  refine ⟨s5, ?_, ⟨by omega, fun i hi => by rw [g5 i (by omega), g4 i (by omega), x3.get i (by omega), x2.get i (by omega)]; exact x1.get i hi⟩⟩
  rw [Ap 22 c22 rfl, jC]
  simp only [es, d, bind_ok, Bc, List.getElem?_cons_zero, List.getElem?_cons_succ, AY, Aq, es3, ep, ep2, w4', BF, DF, decide_eq_false he, Bool.not_false, Af, cond_true, kH, w5, l5]
  rfl
 unfold MW
 unfold Ug at d60
 by_cases c : nameB x = false
 · rw [if_pos c] at d60 ⊢
   exact err 8 (by decide) d60
 · rw [if_neg c] at d60 ⊢
   by_cases c2 : BZ x (run H).comps 0 < 0
   · rw [if_pos c2] at d60 ⊢
     exact err 6 (by decide) d60
   · rw [if_neg c2] at d60 ⊢
     obtain ⟨a1, a2, cc, a3, _⟩ := Dh c2
     rw [a3] at d60
     dsimp only at d60
     have inv := h.ok.inv
     have hok := inv.inv.ok cc (List.mem_of_getElem? a3)
     have hpl := inv.plen
     have hlen := h.len
     obtain ⟨p0, p1, p2, p3, hp⟩ := len4 hok.1
     have hpa : ∀ k v, cc.parts[k]? = some v → partAt (run H).comps (cix (run H).comps x) k = v := fun k v hv => by unfold partAt; rw [a3]; simp [hv]
     have q0 := hpa 0 p0 (by rw [hp]; rfl)
     have q1 := hpa 1 p1 (by rw [hp]; rfl)
     have q2 := hpa 2 p2 (by rw [hp]; rfl)
     have q3 := hpa 3 p3 (by rw [hp]; rfl)
     have bd : ∀ k, k < 4 → partAt (run H).comps (cix (run H).comps x) k < 1000000 := fun k hk => by
      obtain ⟨t, t1, _⟩ := inv.inv.at_ _ k a2 hk
      have := BK t1
      omega
     obtain ⟨s4, w4', l4, n4, g4⟩ := w21 g3 (vs := BQ cc) (D8 hok) (E9 cc)
     have ld : DY s4 4 (.pointer (some ⟨s2.nx, 1, none⟩)) = some (.agg ⟨[iV (p0 : Int), iV (p1 : Int), iV (p2 : Int), iV (p3 : Int)]⟩) := by
      have l4' : ob (s4.rd s2.nx 0 21) (fun l => some (Value.agg ⟨l⟩)) = some (.agg ⟨BQ cc⟩) := l4
      cases hget : s4.get s2.nx with
      | none => unfold AA.rd at l4'; rw [hget] at l4'; cases l4'
      | some ob' =>
       cases ob' with
       | cells full el w =>
        refine Eh ?_
        have hcc : BQ cc = strOf cc.name :: iV (p0 : Int) :: iV (p1 : Int) :: iV (p2 : Int) :: iV (p3 : Int) :: (cc.card.map iV ++ cc.told.map Value.bool) := by unfold BQ; rw [hp]; rfl
        have hrd : s4.rd s2.nx 0 21 = some (BQ cc) := by
         cases h5 : s4.rd s2.nx 0 21 with
         | none => rw [h5] at l4'; cases l4'
         | some l => rw [h5] at l4'; injection l4' with l4'; injection l4' with l4'; injection l4' with l4'; rw [l4']
        have hfl : 21 ≤ full.length := by
         unfold AA.rd Iy at hrd
         rw [hget] at hrd
         simp only [sub] at hrd
         by_cases hh : 21 ≤ full.length
         · exact hh
         · exfalso
           have e : Nat.ble (Nat.add 0 21) full.length = false := by
            cases hb : Nat.ble (Nat.add 0 21) full.length with
            | false => rfl
            | true => exact absurd (Nat.le_of_ble_eq_true hb) (by show ¬ (0 + 21 ≤ full.length); omega)
           rw [e] at hrd; cases hrd
        rw [ED hget (by omega), List.drop_zero] at hrd
        have hrd := Option.some.inj hrd
        rw [ED hget (by omega)]
        have e : (full.drop 1).take 4 = ((full.take 21).drop 1).take 4 := by
         rw [List.drop_take, List.take_take]; rfl
        rw [e, hrd, hcc]; rfl
       | _ => unfold AA.rd at l4'; rw [hget] at l4'; cases l4'
     obtain ⟨s5, hs5⟩ : ∃ s5, s5 = s4.new (.cells Fa 33 true) := ⟨_, rfl⟩
     have x5 : Ext s4 s5 := by rw [hs5]; exact (Ext.refl s4).new _
     have n5 : s5.nx = s4.nx + 1 := by rw [hs5]; rfl
     have g5 : s5.get s4.nx = some (.cells Fa 33 true) := by rw [hs5, AA.Ak, if_pos rfl]
     obtain ⟨s6, w6, _, h6, n6, g6⟩ := w4 g5 rfl (vs := [iV (p0 : Int), iV (p1 : Int), iV (p2 : Int), iV (p3 : Int)]) rfl rfl
     have hr6 : s6.get s.nx = some (.cells Fa 33 true) := by rw [g6 _ (by omega), x5.get _ (by omega), g4 _ (by omega), x3.get _ (by omega)]; exact g2
     obtain ⟨s7, e7, n7, g7⟩ := k22_L2 (AU AL Aj m) m m (by omega) h6 hr6 (by omega) (by rw [← q0]; exact bd 0 (by decide)) (by rw [← q1]; exact bd 1 (by decide)) (by rw [← q2]; exact bd 2 (by decide)) (by rw [← q3]; exact bd 3 (by decide))
     refine ⟨s7, ?_, ⟨by omega, fun i hi => by rw [g7 i (by omega) (by omega), g6 i (by omega), x5.get i (by omega), g4 i (by omega), x3.get i (by omega), x2.get i (by omega)]; exact x1.get i hi⟩⟩
     unfold Oi
     rw [q0, q1, q2, q3, Ap 22 c22 rfl, jC]
     have es5 : s4.new (.cells [.int .i64 0, .int .i64 0, .int .i64 0, .int .i64 0] 33 true) = s5 := hs5.symm
     have ep4 : ptrTo s4.nx = .pointer (some ⟨s4.nx, 0, none⟩) := rfl
     simp only [es, d60, bind_ok, Bc, List.getElem?_cons_zero, List.getElem?_cons_succ, AY, Aq, es3, ep, ep2, w4', BF, DF, decide_true, Bool.not_true, Af, cond_false, ZQ B22 rfl, DN, Nat.zero_add, ld, es5, ep4, w6]
     exact e7
end
end Go.Im
set_option maxRecDepth 100000
set_option maxHeartbeats 4000000
namespace Go.Im
theorem MZ {s0 s : AA} (x : Ext s0 s) {base : Option Nat} {el w len by_ : Nat} {cs news : List Value} {v : Value} (h : BX s base el w cs len v) (hb : ∀ b, base = some b → s0.nx ≤ b) (hw : 1 ≤ w) (hby : (len + 1) * by_ ≤ 140737488355328) (hlen : len + 1 < UNK) (hn : news.length = w) (hs : Bh news = true) :
 ∃ v' s' base', FC (s.new (.cells news el true)) el w by_ v (Bo 1 1 s.nx) = some (v', s') ∧ BX s' base' el w (cs ++ news) (len + 1) v' ∧ (∀ b, base' = some b → s0.nx ≤ b) ∧ Ext s0 s' ∧ s.nx + 1 ≤ s'.nx ∧ (∀ i, i < s.nx → base ≠ some i → s'.get i = s.get i) ∧ (∀ b, base' = some b → base = some b ∨ s.nx ≤ b) := by
 obtain ⟨s1, hs1⟩ : ∃ s1, s1 = s.new (.cells news el true) := ⟨_, rfl⟩
 have n1 : s1.nx = s.nx + 1 := by rw [hs1]; rfl
 have x1 : Ext s s1 := by rw [hs1]; exact (Ext.refl s).new _
 have hsrc := XU (s := s) (s' := s1) (cs := news) (el := el) (w := w) hs1 hn
 have xn := x.nx
 obtain ⟨v', s', base', h1, h2, h3, h4, h5⟩ := (h.frame x1.nx fun b e => x1.get b (h.lt e)).push hw (by_ := by_) hby hlen hn hs hsrc
 rw [← hs1]
 refine ⟨v', s', base', h1, h2, ?_, ⟨by omega, ?_⟩, by omega, ?_, ?_⟩
 · intro b e
   rcases h3 with e' | e'
   · exact hb b (by rw [← e']; exact e)
   · rw [e'] at e; have := Option.some.inj e; omega
 · intro i hi
   rw [h5 i (by omega) (fun e => by have := hb i e; omega), x1.get i (by omega)]; exact x.get i hi
 · intro i hi e
   rw [h5 i (by omega) e]; exact x1.get i hi
 · intro b e
   rcases h3 with e' | e'
   · exact .inl (by rw [← e']; exact e)
   · rw [e'] at e; have := Option.some.inj e; exact .inr (by omega)
def FV (c : CG) : Nat → List (Int × Int)
 | 0 => []
 | h + 1 => FV c h ++ (if c.told.getD h false then [((h : Int), c.card.getD h 0)] else [])
def ents (c : CG) : List (Int × Int) := FV c 8
def FW (H : Hist) (x : List UInt8) : Int := if nameB x = false then 8 else if BZ x (run H).comps 0 < 0 then 6 else 0
def GR (H : Hist) (x : List UInt8) : List (Int × Int) := if FW H x = 0 then (match (run H).comps[cix (run H).comps x]? with | some c => ents c | none => []) else []
theorem LQ (c : CG) : ∀ h, (FV c h).length ≤ h
 | 0 => Nat.le_refl _
 | h + 1 => by have := LQ c h; unfold FV; rw [List.length_append]; split <;> simp <;> omega
def Vk (el : Nat) (H : Hist) (x : List UInt8) (s : AA) (v : Value) (s' : AA) : Prop := ∃ base sv, v = .tuple ⟨[sv, .int .i64 (FW H x)]⟩ ∧ BX s' base el 2 ((GR H x).flatMap EP) (GR H x).length sv ∧ (∀ b, base = some b → s.nx ≤ b)
theorem w21g {s : AA} {q : Nat} {c : List Value} (hq : s.get q = some (.cells c 120 true)) (hc : c.length = 21) {vs : List Value} (hl : vs.length = 21) (hs : Bh vs = true) : ∃ s', wSt s 21 (.agg ⟨vs⟩) (.pointer (some ⟨q, 0, none⟩)) = some (Bl, s') ∧ s'.get q = some (.cells vs 120 true) ∧ s'.nx = s.nx ∧ (∀ i, i ≠ q → s'.get i = s.get i) := by
 have e : cellsOf (.agg ⟨vs⟩) = vs := rfl
 have w := Fj (s := s) (b := q) (o := 0) (n := 21) (v := .agg ⟨vs⟩) hq (by rw [e]; exact hl) (by rw [e]; exact hs) (by omega)
 rw [e, show c.take 0 ++ (vs ++ c.drop (0 + 21)) = vs by rw [List.take_zero, List.drop_eq_nil_of_le (by omega), List.nil_append, List.append_nil]] at w
 exact ⟨_, w, by rw [AA.get_put, if_pos rfl], rfl, fun i hi => by rw [AA.get_put, if_neg hi]⟩
theorem Vl {c : CG} (h : c.ok) : (BQ c).drop 13 = c.told.map Value.bool := by
 obtain ⟨h1, h2, h3⟩ := h
 unfold BQ
 rw [List.drop_succ_cons, List.drop_append, List.drop_eq_nil_of_le (by simp [h1]), List.drop_append, List.drop_eq_nil_of_le (by simp [h1, h2])]
 simp [h1, h2]
theorem Vm {c : CG} (h : c.ok) {i : Nat} (hi : i < 8) : (BQ c)[5 + i]? = some (iV (c.card.getD i 0)) := by
 obtain ⟨h1, h2, h3⟩ := h
 unfold BQ
 rw [show 5 + i = (4 + i) + 1 by omega, List.getElem?_cons_succ, List.getElem?_append_right (by simp [h1]), List.length_map, h1, show 4 + i - 4 = i by omega, List.getElem?_append_left (by simp [h2, hi]), List.getElem?_map, List.getD_eq_getElem?_getD, List.getElem?_eq_getElem (by omega)]
 rfl
theorem ni (a b : Int) : ob (fill [.int .i64 0, .int .i64 0] [(0, 1, (.int .i64 a)), (1, 1, (.int .i64 b))]) (fun c => some (Value.agg ⟨c⟩)) = some (.agg ⟨EP (a, b)⟩) := rfl
theorem kJ (el : Nat) (p : Int × Int) : ob (fill (zeros [.int .i64 0, .int .i64 0] 1) [(0, 2, (.agg ⟨EP p⟩))]) (fun c => some (CX.cells c el true, Bo 1 1)) = some (.cells (EP p) el true, Bo 1 1) := rfl
theorem k26_L2 (self : Self) (N : Nat) {s0 : AA} {q : Nat} {c : CG} (hc : c.ok) : ∀ (d i f : Nat) (s : AA) (base : Option Nat) (v8 : Value), i + d = 8 → d < f → Ext s0 s → s.get q = some (.cells (BQ c) 120 true) → q < s.nx → base ≠ some q →
 BX s base 45 2 ((FV c i).flatMap EP) (FV c i).length v8 → (∀ b, base = some b → s0.nx ≤ b) →
 ∃ base' sv s', Po B26 self N f (.pointer (some ⟨q, 0, none⟩)) v8 (.agg ⟨c.told.map Value.bool⟩) (.int .i64 (i : Int)) s = .ok (.tuple ⟨[sv, .int .i64 0]⟩, s') ∧ Ext s0 s' ∧ BX s' base' 45 2 ((ents c).flatMap EP) (ents c).length sv ∧ (∀ b, base' = some b → s0.nx ≤ b) := by
 intro d
 induction d with
 | zero =>
  intro i f s base v8 hi hf x hq hql hbq hA hb
  obtain ⟨f, rfl, _⟩ := Ac hf
  obtain rfl : i = 8 := by omega
  refine ⟨base, v8, s, ?_, x, hA, hb⟩
  rw [NQ B26 rfl]
  rfl
 | succ d ih =>
  intro i f s base v8 hi hf x hq hql hbq hA hb
  obtain ⟨f, rfl, _⟩ := Ac hf
  have hi8 : i < 8 := by omega
  have hlt : (i : Int) < 8 := by omega
  have hw : Az .i64 ((i : Int) + 1) = ((i + 1 : Nat) : Int) := by rw [wrap64 (by omega)]; omega
  obtain ⟨t, ht⟩ := Bv (show i < c.told.length by rw [hc.2.2]; exact hi8)
  have hix : Uo false 8 1 (.agg ⟨c.told.map Value.bool⟩) (.int .i64 (i : Int)) = some (.bool t) := by
   show cond (Nat.blt i 8) (nth (c.told.map Value.bool) (Nat.mul i 1)) none = _
   rw [Bq.2 hi8, Eu, show Nat.mul i 1 = i from Nat.mul_one i, List.getElem?_map, ht]; rfl
  have hg : c.told.getD i false = t := by rw [List.getD_eq_getElem?_getD, ht]; rfl
  cases t with
  | false =>
   have e : FV c (i + 1) = FV c i := by rw [FV, hg]; simp
   obtain ⟨base', sv, s', d1, r⟩ := ih (i + 1) f s base v8 (by omega) (by omega) x hq hql hbq (by rw [e]; exact hA) hb
   refine ⟨base', sv, s', ?_, r⟩
   rw [NQ B26 rfl]
   simp only [BP, decide_eq_true hlt, cond_true, SA B26 rfl, hix, AY, Aq, bind_ok, Af, cond_false, Eb, hw]
   exact d1
  | true =>
   have e : FV c (i + 1) = FV c i ++ [((i : Int), c.card.getD i 0)] := by rw [FV, hg]; rfl
   have hel := LQ c i
   have xn := x.nx
   obtain ⟨v', s2, b2, w, hA2, hb2, x2, n2, g2, hc2⟩ := MZ (by_ := 16) (news := EP ((i : Int), c.card.getD i 0)) x hA hb (by decide) (by omega) (by show _ < 9223372036854775808; omega) rfl rfl
   have hrd : s.rd1 q (5 + i) = some (iV (c.card.getD i 0)) := by rw [Ai hq]; exact Vm hc hi8
   have hbq2 : b2 ≠ some q := fun e' => by
    rcases hc2 q e' with h1 | h1
    · exact hbq h1
    · omega
   obtain ⟨base', sv, s', d1, r⟩ := ih (i + 1) f s2 b2 v' (by omega) (by omega) x2 (by rw [g2 q hql hbq]; exact hq) (by omega) hbq2 (by rw [e, List.flatMap_append, List.length_append]; exact hA2) hb2
   refine ⟨base', sv, s', ?_, r⟩
   have ia : CY 8 1 (.pointer (some ⟨q, 0 + 5, none⟩)) (.int .i64 (i : Int)) = some (.pointer (some ⟨q, 5 + i, none⟩)) := by rw [FP _ _ _ _ _ _ hi8, Nat.mul_one, Nat.zero_add]
   have ef := ni (i : Int) (c.card.getD i 0)
   rw [NQ B26 rfl]
   simp only [BP, decide_eq_true hlt, cond_true, SA B26 rfl, hix, AY, Aq, bind_ok, Af, DN, ia, CO, hrd, iV, ef, kJ, w, BF, Eb, hw]
   exact d1
section
variable {s : AA} {b o : Nat} {H : Hist} {F : Nat → Prop} {tag : Nat → Nat} {cb pb lb eb : Option Nat} {E : List Nat} {lv ev : Value}
theorem k26 (n : Nat) (hn : 200 ≤ n) (x : List UInt8) (h : CV s b H F tag o cb pb lb eb E lv ev) : ∃ v s', AU AL Aj n (.fn 26) [.pointer (some ⟨b, 0, none⟩), .string (ofL x)] s = .ok (v, s') ∧ Ext s s' ∧ Vk 45 H x s v s' := by
 obtain ⟨m, rfl, _⟩ := Ac (show 1 ≤ n by omega)
 obtain ⟨s2, d60, x2⟩ := k60 m (by omega) x h
 have x2n := x2.nx
 obtain ⟨s3, hs3⟩ : ∃ s3, s3 = s2.new (.cells zero21 120 true) := ⟨_, rfl⟩
 have x3 : Ext s2 s3 := by rw [hs3]; exact (Ext.refl s2).new _
 have n3 : s3.nx = s2.nx + 1 := by rw [hs3]; rfl
 have g3 : s3.get s2.nx = some (.cells zero21 120 true) := by rw [hs3, AA.Ak, if_pos rfl]
 have es3 : s2.new (.cells [.string ⟨#[]⟩, .int .i64 0, .int .i64 0, .int .i64 0, .int .i64 0, .int .i64 0, .int .i64 0, .int .i64 0, .int .i64 0, .int .i64 0, .int .i64 0, .int .i64 0, .int .i64 0, .bool false, .bool false, .bool false, .bool false, .bool false, .bool false, .bool false, .bool false] 120 true) = s3 := hs3.symm
 have ep2 : ptrTo s2.nx = .pointer (some ⟨s2.nx, 0, none⟩) := rfl
 have err : ∀ e : Int, e ≠ 0 → FW H x = e → AU AL Aj m (.fn 60) [.pointer (some ⟨b, 0, none⟩), .string (ofL x)] s = .ok (.tuple ⟨[.agg ⟨zero21⟩, .int .i64 e]⟩, s2) → ∃ v s', AU AL Aj (m + 1) (.fn 26) [.pointer (some ⟨b, 0, none⟩), .string (ofL x)] s = .ok (v, s') ∧ Ext s s' ∧ Vk 45 H x s v s' := by
  intro e he ha d
  obtain ⟨s4, w4', q4, n4, g4⟩ := w21g g3 rfl (vs := zero21) rfl rfl
  have c0 : GR H x = [] := by unfold GR; rw [if_neg (by rw [ha]; exact he)]
  refine ⟨_, s4, ?_, ⟨by omega, fun i hi => by rw [g4 i (by omega), x3.get i (by omega)]; exact x2.get i hi⟩, none, .slice none 0 0, rfl, by rw [c0]; exact ⟨rfl, rfl, rfl⟩, by simp⟩
  rw [Ap 26 c26 rfl, jH, ha]
  simp only [d, bind_ok, Bc, List.getElem?_cons_zero, List.getElem?_cons_succ, AY, Aq, es3, ep2, w4', BF, DF, decide_eq_false he, Bool.not_false, Af, cond_true]
 unfold Ug at d60
 by_cases c : nameB x = false
 · rw [if_pos c] at d60
   exact err 8 (by decide) (by unfold FW; rw [if_pos c]) d60
 · rw [if_neg c] at d60
   by_cases c2 : BZ x (run H).comps 0 < 0
   · rw [if_pos c2] at d60
     exact err 6 (by decide) (by unfold FW; rw [if_neg c, if_pos c2]) d60
   · rw [if_neg c2] at d60
     obtain ⟨a1, a2, cc, a3, _⟩ := Dh c2
     rw [a3] at d60
     dsimp only at d60
     have ha : FW H x = 0 := by unfold FW; rw [if_neg c, if_neg c2]
     have hok := h.ok.inv.inv.ok cc (List.mem_of_getElem? a3)
     have c0 : GR H x = ents cc := by unfold GR; rw [if_pos ha, a3]
     obtain ⟨s4, w4', q4, n4, g4⟩ := w21g g3 rfl (vs := BQ cc) (D8 hok) (E9 cc)
     have x4 : Ext s s4 := ⟨by omega, fun i hi => by rw [g4 i (by omega), x3.get i (by omega)]; exact x2.get i hi⟩
     have ld : DY s4 8 (.pointer (some ⟨s2.nx, 13, none⟩)) = some (.agg ⟨cc.told.map Value.bool⟩) := by
      refine Eh ?_
      rw [ED q4 (by rw [D8 hok]; omega), Vl hok, List.take_of_length_le (by simp [hok.2.2])]
     obtain ⟨base', sv, s5, d5, x5, hA, hb⟩ := k26_L2 (AU AL Aj m) m (s0 := s) hok 8 0 m s4 none (.slice none 0 0) rfl (by omega) x4 q4 (by omega) (by simp) ⟨rfl, rfl, rfl⟩ (by simp)
     refine ⟨_, s5, ?_, x5, base', sv, rfl, by rw [c0]; exact hA, hb⟩
     rw [Ap 26 c26 rfl, jH, ha]
     simp only [d60, bind_ok, Bc, List.getElem?_cons_zero, List.getElem?_cons_succ, AY, Aq, es3, ep2, w4', BF, DF, decide_true, Bool.not_true, Af, cond_false, ZV B26 rfl, DN, Nat.zero_add, ld]
     exact d5
end
end Go.Im
set_option maxRecDepth 100000
set_option maxHeartbeats 4000000
namespace Go.Im
theorem QX : ∀ (k n : Nat) (acc : List UInt8), (OT k n acc).length ≤ acc.length + k
 | 0, n, acc => Nat.le_refl _
 | k + 1, n, acc => by
  show (cond (Nat.blt n 10) (UInt8.ofNat (Nat.add 48 n) :: acc) (OT k (Nat.div n 10) (UInt8.ofNat (Nat.add 48 (Nat.mod n 10)) :: acc))).length ≤ _
  cases Nat.blt n 10 with
  | true => simp
  | false => have := QX k (Nat.div n 10) (UInt8.ofNat (Nat.add 48 (Nat.mod n 10)) :: acc); simp at this ⊢; omega
theorem DZ (z : Int) : (BO z).length ≤ 21 := by
 cases z with
 | ofNat n => have := QX 20 n []; show (OT 20 n []).length ≤ 21; simp at this; omega
 | negSucc n => have := QX 20 (n + 1) []; show (45 :: OT 20 (n + 1) []).length ≤ 21; simp at this ⊢; omega
theorem k45 (n : Nat) (hn : 1 ≤ n) (z : Int) (hz : -9223372036854775808 ≤ z ∧ z < 9223372036854775808) (s : AA) : AU AL Aj n (.fn 45) [.int .i64 z] s = .ok (.string (ofL (BO z)), s) := by
 obtain ⟨m, rfl, _⟩ := Ac hn
 rw [Gp 45 .itoa rfl]
 have e : bH z = true := by
  cases z with
  | ofNat n =>
   have h : (n : Int) < 9223372036854775808 := hz.2
   exact Bq.2 (show n < 9223372036854775808 by omega)
  | negSucc n =>
   have h := hz.1
   exact Bq.2 (show n < 9223372036854775808 by omega)
 show BI _ (cond (bH z) (some (strOf (BO z), s)) none) = _
 rw [e]; rfl
def LU (p : Int × Int) : List UInt8 := ((BO p.1 ++ [32]) ++ BO p.2) ++ [10]
def Vp (x : List UInt8) (L : List (Int × Int)) : List UInt8 := (x ++ [10]) ++ L.flatMap LU
theorem Xe (p : Int × Int) : (LU p).length ≤ 44 := by
 have := DZ p.1; have := DZ p.2
 unfold LU; simp; omega
def Oj (H : Hist) (x : List UInt8) : Value := if FW H x = 0 then .tuple ⟨[strOf (Vp x (GR H x)), .int .i64 0]⟩ else .tuple ⟨[strOf [], .int .i64 (FW H x)]⟩
theorem TI (c : CG) (hc : ∀ v ∈ c.card, -300 ≤ v ∧ v ≤ 300) : ∀ h, ∀ p ∈ FV c h, 0 ≤ p.1 ∧ p.1 < (h : Int) ∧ -300 ≤ p.2 ∧ p.2 ≤ 300
 | 0, p, hp => by cases hp
 | h + 1, p, hp => by
  unfold FV at hp
  rcases List.mem_append.1 hp with hp | hp
  · have := TI c hc h p hp; omega
  · split at hp
    · rw [List.mem_singleton.1 hp]
      refine ⟨by show (0 : Int) ≤ (h : Int); omega, by show (h : Int) < ((h + 1 : Nat) : Int); omega, ?_⟩
      show -300 ≤ c.card.getD h 0 ∧ c.card.getD h 0 ≤ 300
      rw [List.getD_eq_getElem?_getD]
      cases e : c.card[h]? with
      | none => simp
      | some v => exact hc v (List.mem_of_getElem? e)
    · cases hp
theorem aU {H : Hist} (h : HOk H) (x : List UInt8) : (GR H x).length ≤ 8 ∧ ∀ p ∈ GR H x, -300 ≤ p.1 ∧ p.1 ≤ 300 ∧ -300 ≤ p.2 ∧ p.2 ≤ 300 := by
 unfold GR
 split
 · cases e : (run H).comps[cix (run H).comps x]? with
   | none => exact ⟨by simp, fun p hp => by cases hp⟩
   | some c =>
    refine ⟨LQ c 8, fun p hp => ?_⟩
    have := TI c (h.cards c (List.mem_of_getElem? e)) 8 p hp
    omega
 · exact ⟨by simp, fun p hp => by cases hp⟩
theorem Nq {x : List UInt8} (h : nameB x = true) : x.length ≤ 6 := by
 unfold nameB at h
 rw [Bool.and_eq_true] at h
 have := of_decide_eq_true h.1
 omega
theorem Vq {H : Hist} {x : List UInt8} (h : FW H x = 0) : nameB x = true := by
 unfold FW at h
 cases c : nameB x with
 | true => rfl
 | false => rw [if_pos c] at h; cases h
theorem Cc (x y : List UInt8) (h : x.length + y.length ≤ 9223372036854775807) : BG .add (.string (ofL x)) (.string (ofL y)) = some (.string (ofL (x ++ y))) := iq (ofL x) (ofL y) h
theorem Kr : (Value.string ⟨#[10]⟩) = .string (ofL [10]) := rfl
theorem TJ : (Value.string ⟨#[32]⟩) = .string (ofL [32]) := rfl
theorem k24_L2 (m N : Nat) (hm : 1 ≤ m) {L : List (Int × Int)} (hL : L.length ≤ 8 ∧ ∀ p ∈ L, -300 ≤ p.1 ∧ p.1 ≤ 300 ∧ -300 ≤ p.2 ∧ p.2 ≤ 300) {base : Option Nat} {v : Value} : ∀ (d i f : Nat) (s : AA) (x : List UInt8), i + d = L.length → d < f → x.length < 1000000 + i * 44 →
 BX s base 45 2 (L.flatMap EP) L.length v →
 Gives (UE B24 (AU AL Aj m) N f (.string (ofL x)) v (.int .i64 (L.length : Int)) (.int .i64 (i : Int)) s) s (.tuple ⟨[strOf (x ++ (L.drop i).flatMap LU), .int .i64 0]⟩) := by
 intro d
 induction d with
 | zero =>
  intro i f s x hi hf hx hA
  obtain ⟨f, rfl, _⟩ := Ac hf
  obtain rfl : i = L.length := by omega
  refine ⟨s, ?_, .refl s⟩
  have : ¬ (L.length : Int) < (L.length : Int) := by omega
  rw [S9 B24 rfl, List.drop_length]
  simp only [BP, decide_eq_false this, cond_false, List.flatMap_nil, List.append_nil, strOf]
 | succ d ih =>
  intro i f s x hi hf hx hA
  obtain ⟨f, rfl, _⟩ := Ac hf
  have hil : i < L.length := by omega
  obtain ⟨p, hp⟩ := Bv hil
  have hlt : (i : Int) < (L.length : Int) := by omega
  have hw : Az .i64 ((i : Int) + 1) = ((i + 1 : Nat) : Int) := by rw [wrap64 (by omega)]; omega
  obtain ⟨b, rfl, ia⟩ := hA.iad i hil .i64
  have hb := hA.lt rfl
  have hrd : DY s 2 (.pointer (some ⟨b, i * 2, none⟩)) = some (.agg ⟨EP p⟩) := Eh (by rw [hA.rd (by omega), ER EP 2 L i p (fun _ _ => rfl) hp])
  obtain ⟨s1, hs1⟩ : ∃ s1, s1 = s.new (.cells [.int .i64 0, .int .i64 0] 45 true) := ⟨_, rfl⟩
  have x1 : Ext s s1 := by rw [hs1]; exact (Ext.refl s).new _
  have n1 : s1.nx = s.nx + 1 := by rw [hs1]; rfl
  have w := Fj (s := s1) (b := s.nx) (c := [.int .i64 0, .int .i64 0]) (el := 45) (o := 0) (n := 2) (v := .agg ⟨EP p⟩) (by rw [hs1, AA.Ak, if_pos rfl]) rfl rfl (by decide)
  obtain ⟨s2, hs2⟩ : ∃ s2, s2 = s1.put s.nx (.cells (EP p) 45 true) := ⟨_, rfl⟩
  have w : wSt s1 2 (.agg ⟨EP p⟩) (.pointer (some ⟨s.nx, 0, none⟩)) = some (Bl, s2) := by rw [hs2]; exact w
  have g2 : s2.get s.nx = some (.cells (EP p) 45 true) := by rw [hs2, AA.get_put, if_pos rfl]
  have n2 : s2.nx = s1.nx := by rw [hs2]; rfl
  have x2 : Ext s s2 := ⟨by omega, fun j hj => by rw [hs2, AA.get_put, if_neg (by omega)]; exact x1.get j hj⟩
  have r0 : s2.rd1 s.nx 0 = some (.int .i64 p.1) := by rw [Ai g2]; rfl
  have r1 : s2.rd1 s.nx 1 = some (.int .i64 p.2) := by rw [Ai g2]; rfl
  have hpb := hL.2 p (List.mem_of_getElem? hp)
  have d1 := k45 m hm p.1 (by omega) s2
  have d2 := k45 m hm p.2 (by omega) s2
  have l1 := DZ p.1
  have l2 := DZ p.2
  have a1 := Cc (BO p.1) [32] (by simp; omega)
  have a2 := Cc (BO p.1 ++ [32]) (BO p.2) (by simp; omega)
  have a3 := Cc (BO p.1 ++ [32] ++ BO p.2) [10] (by simp; omega)
  have l3 := Xe p
  have a4 := Cc x (LU p) (by have := hL.1; omega)
  have a4 : BG .add (.string (ofL x)) (.string (ofL (BO p.1 ++ [32] ++ BO p.2 ++ [10]))) = some (.string (ofL (x ++ LU p))) := a4
  obtain ⟨s', dd, xx⟩ := ih (i + 1) f s2 (x ++ LU p) (by omega) (by omega) (by rw [List.length_append]; omega) (hA.frame x2.nx fun b' e => x2.get b' (hA.lt e))
  refine ⟨s', ?_, x2.trans xx⟩
  have ec : L.drop i = p :: L.drop (i + 1) := drop_at hp
  have ck := Cm (s := s2) (b := s.nx) (o := 1) (v := .int .i64 p.2) (by omega) (by show (Hg .i64 .i64 && eqF p.2 p.2) = true; rw [KF]; simp [DK])
  have ep : ptrTo s.nx = .pointer (some ⟨s.nx, 0, none⟩) := rfl
  rw [S9 B24 rfl, ec, List.flatMap_cons, ← List.append_assoc]
  simp only [BP, decide_eq_true hlt, cond_true, ZU B24 rfl, ia, AY, Aq, bind_ok, hrd, ← hs1, ep, w, BF, DN, Nat.zero_add, DJ, CQ, CO, r0, r1, d1, d2, TJ, Kr, a1, a2, a3, a4, ck, Bool.and_true, Eb, hw, n2]
  exact dd
section
variable {s : AA} {b o : Nat} {H : Hist} {F : Nat → Prop} {tag : Nat → Nat} {cb pb lb eb : Option Nat} {E : List Nat} {lv ev : Value}
theorem k24 (n : Nat) (hn : 300 ≤ n) (x : List UInt8) (h : CV s b H F tag o cb pb lb eb E lv ev) : Gives (AU AL Aj n (.fn 24) [.pointer (some ⟨b, 0, none⟩), .string (ofL x)] s) s (Oj H x) := by
 obtain ⟨m, rfl, _⟩ := Ac (show 1 ≤ n by omega)
 obtain ⟨v, s2, d26, x2, base, sv, rfl, hA, hb⟩ := k26 m (by omega) x h
 unfold Oj
 rw [Ap 24 c24 rfl, f24_eq]
 by_cases ha : FW H x = 0
 · rw [if_pos ha]
   rw [ha] at d26
   have hx := Nq (Vq ha)
   have a1 := Cc x [10] (by simp; omega)
   have hin := aU h.ok x
   obtain ⟨s3, d3, x3⟩ := k24_L2 m m (by omega) hin (GR H x).length 0 m s2 (x ++ [10]) (by omega) (by omega) (by simp; omega) hA
   refine ⟨s3, ?_, x2.trans x3⟩
   simp only [d26, bind_ok, Bc, List.getElem?_cons_zero, List.getElem?_cons_succ, AY, Aq, DF, decide_true, Bool.not_true, Af, cond_false, ZT B24 rfl, Kr, a1, hA.len_eq]
   exact d3
 · rw [if_neg ha]
   refine ⟨s2, ?_, x2⟩
   simp only [d26, bind_ok, Bc, List.getElem?_cons_zero, List.getElem?_cons_succ, AY, Aq, DF, decide_eq_false ha, Bool.not_false, Af, cond_true]
   rfl
end
end Go.Im
