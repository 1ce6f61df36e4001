/- Questions to both books: a compass is asked (program). -/
import Derived.Test.YtojbkocmobkddaaGreatDoorImPB
import Derived.Test.YtojbkocmobkddaaGreatDoorImHM
set_option linter.all false
set_option maxRecDepth 100000
set_option maxHeartbeats 4000000
namespace Go.Im
def zero21 : List Value := BL (newC [])
def TL (H : Hist) (x : List UInt8) : Value := if nameB x = false then .tuple ⟨[.agg ⟨zero21⟩, .int .i64 8]⟩ else if BQ x (run H).comps 0 < 0 then .tuple ⟨[.agg ⟨zero21⟩, .int .i64 6]⟩ else match (run H).comps[cix (run H).comps x]? with
 | some c => .tuple ⟨[.agg ⟨BL c⟩, .int .i64 0]⟩
 | none => .tuple ⟨[.agg ⟨zero21⟩, .int .i64 6]⟩
theorem Dp (c : Bl) : BZ (BL c) = true := GK (by
 intro v hv
 unfold BL at hv
 simp only [List.mem_cons, List.mem_append, List.mem_map] at hv
 rcases hv with rfl | ⟨_, _, rfl⟩ | ⟨_, _, rfl⟩ | ⟨_, _, rfl⟩ <;> rfl)
theorem w21 {s : AA} {q : Nat} (hq : s.get q = some (.cells zero21 120 true)) {vs : List Value} (hl : vs.length = 21) (hs : BZ vs = true) : ∃ s', wSt s 21 (.agg ⟨vs⟩) (.pointer (some ⟨q, 0, none⟩)) = some (Bc, s') ∧ DF s' 21 (.pointer (some ⟨q, 0, none⟩)) = some (.agg ⟨vs⟩) ∧ s'.nx = s.nx ∧ (∀ i, i ≠ q → s'.get i = s.get i) := by
 have e : cellsOf (.agg ⟨vs⟩) = vs := rfl
 have z : zero21.length = 21 := rfl
 have w := FU (s := s) (b := q) (o := 0) (n := 21) (v := .agg ⟨vs⟩) hq (by rw [e]; exact hl) (by rw [e]; exact hs) (by omega)
 rw [e, show zero21.take 0 ++ (vs ++ zero21.drop (0 + 21)) = vs by rw [List.take_zero, List.drop_eq_nil_of_le (by omega), List.nil_append, List.append_nil]] at w
 refine ⟨_, w, EP ?_, rfl, fun i hi => by rw [AA.get_put, if_neg hi]⟩
 rw [Dx (by rw [AA.get_put, if_pos rfl]) (by omega), List.drop_zero, List.take_of_length_le (by omega)]
section
variable {s : AA} {b o : Nat} {H : Hist} {F : Nat → Prop} {tag : Nat → Nat} {cb pb lb eb : Option Nat} {E : List Nat} {lv ev : Value}
theorem k60 (n : Nat) (hn : 100 ≤ n) (x : List UInt8) (h : Bv s b H F tag o cb pb lb eb E lv ev) : Gives (AV AL Aj n (.fn 60) [.pointer (some ⟨b, 0, none⟩), .string (ofL x)] s) s (TL H x) := by
 obtain ⟨m, rfl, _⟩ := Ac (show 1 ≤ n by omega)
 obtain ⟨s1, hs1⟩ : ∃ s1, s1 = s.new (.cells zero21 120 true) := ⟨_, rfl⟩
 have x1 : Ext s s1 := by rw [hs1]; exact (Ext.refl s).new _
 have n1 : s1.nx = s.nx + 1 := by rw [hs1]; rfl
 have g1 : s1.get s.nx = some (.cells zero21 120 true) := by rw [hs1, AA.Ai, if_pos rfl]
 have h1 := h.ext x1
 have d51 := k51 m (by omega) h1
 obtain ⟨s2, d82, x2⟩ := k82 (ofL x) m (by omega) s1
 rw [F5] at d82
 have x2n := x2.nx
 have h2 := h1.ext x2
 have g2 : s2.get s.nx = some (.cells zero21 120 true) := (x2.get _ (by omega)).trans g1
 have es : s.new (.cells [.string ⟨#[]⟩, .int .i64 0, .int .i64 0, .int .i64 0, .int .i64 0, .int .i64 0, .int .i64 0, .int .i64 0, .int .i64 0, .int .i64 0, .int .i64 0, .int .i64 0, .int .i64 0, .bool false, .bool false, .bool false, .bool false, .bool false, .bool false, .bool false, .bool false] 120 true) = s1 := hs1.symm
 have ez : ob (fill [.string ⟨#[]⟩, .int .i64 0, .int .i64 0, .int .i64 0, .int .i64 0, .int .i64 0, .int .i64 0, .int .i64 0, .int .i64 0, .int .i64 0, .int .i64 0, .int .i64 0, .int .i64 0, .bool false, .bool false, .bool false, .bool false, .bool false, .bool false, .bool false, .bool false] []) (fun c => some (Value.agg ⟨c⟩)) = some (.agg ⟨zero21⟩) := rfl
 have ep : ptrTo s.nx = .pointer (some ⟨s.nx, 0, none⟩) := rfl
 have x12 := x1.trans x2
 have start : AV AL Aj (m + 1) (.fn 60) [.pointer (some ⟨b, 0, none⟩), .string (ofL x)] s = SV B60 (AV AL Aj m) m (.pointer (some ⟨b, 0, none⟩)) (.string (ofL x)) (.pointer (some ⟨s.nx, 0, none⟩)) s1 := by
  rw [Ap 60 c60 rfl, f60_eq, es, d51]
  simp only [bind_ok, Ak, cond_false, ep]
 unfold TL
 by_cases c : nameB x = false
 · rw [if_pos c]
   obtain ⟨s3, w3, l3, n3, g3⟩ := w21 g2 (vs := zero21) rfl rfl
   refine ⟨s3, start.trans ?_, ⟨by omega, fun i hi => by rw [g3 i (by omega)]; exact x12.get i hi⟩⟩
   rw [Qp B60 rfl]
   simp only [d82, c, bind_ok, Gy, Bool.not_false, Ad, Az, Ak, cond_true, ez, w3, Au, l3]
   rfl
 · rw [if_neg c]
   have c : nameB x = true := by cases hh : nameB x with | true => rfl | false => exact (c hh).elim
   have r0 : s2.rd1 b 0 = some (.pointer (some ⟨o, 0, none⟩)) := by rw [Ag h2.hb]; rfl
   have hcl := h.ok.inv.MO
   obtain ⟨s3, d93, x3⟩ := k93 m s2 o cb pb (run H) h2.off (by omega) (by omega) x
   have d93 : AV AL Aj m (.fn 93) [.pointer (some ⟨o, 0, none⟩), .string (ofL x)] s2 = .ok (.int .i64 (BQ x (run H).comps 0), s3) := d93
   have h3 := h2.ext x3
   have x3n := x3.nx
   have g3' : s3.get s.nx = some (.cells zero21 120 true) := (x3.get _ (by omega)).trans g2
   have x13 := x12.trans x3
   have mid : SV B60 (AV AL Aj m) m (.pointer (some ⟨b, 0, none⟩)) (.string (ofL x)) (.pointer (some ⟨s.nx, 0, none⟩)) s1 = Ve B60 (AV AL Aj m) m (.pointer (some ⟨b, 0, none⟩)) (.string (ofL x)) (.pointer (some ⟨s.nx, 0, none⟩)) s2 := by
    rw [Qp B60 rfl]
    simp only [d82, c, bind_ok, Gy, Bool.not_true, Ad, Az, Ak, cond_false]
   by_cases c2 : BQ x (run H).comps 0 < 0
   · rw [if_pos c2]
     obtain ⟨s4, w4, l4, n4, g4⟩ := w21 g3' (vs := zero21) rfl rfl
     refine ⟨s4, start.trans (mid.trans ?_), ⟨by omega, fun i hi => by rw [g4 i (by omega)]; exact x13.get i hi⟩⟩
     rw [Qq B60 rfl]
     simp only [EY, Cj, Nat.zero_add, C9, r0, d93, bind_ok, Ad, Az, Dt, decide_eq_true c2, Ak, cond_true, ez, w4, Au, l4]
     rfl
   · rw [if_neg c2]
     obtain ⟨a1, a2, cc, a3, _⟩ := DN c2
     rw [a3]
     obtain ⟨cb', rfl⟩ := h3.off.Jf a2
     obtain ⟨cv, e1, ic, _, _⟩ := h3.off.C
     have icj := ic _ a2
     have hok := h3.off.ok cc (List.mem_of_getElem? a3)
     have r03 : s3.rd1 b 0 = some (.pointer (some ⟨o, 0, none⟩)) := by rw [Ag h3.hb]; rfl
     obtain ⟨cv', pv, q0, q1, hC, hP⟩ := h3.off.slices
     have ld : DF s3 21 (.pointer (some ⟨cb', cix (run H).comps x * 21, none⟩)) = some (.agg ⟨BL cc⟩) := EP (by
      rw [hC.rd (by have : (cix (run H).comps x + 1) * 21 ≤ (run H).comps.length * 21 := Nat.mul_le_mul_right _ a2; omega), EC BL 21 _ _ cc (fun a ha => CY (h3.off.ok a ha)) a3])
     obtain ⟨s4, w4, l4, n4, g4⟩ := w21 g3' (vs := BL cc) (CY hok) (Dp cc)
     refine ⟨s4, start.trans (mid.trans ?_), ⟨by omega, fun i hi => by rw [g4 i (by omega)]; exact x13.get i hi⟩⟩
     rw [Qq B60 rfl]
     simp only [EY, Cj, Nat.zero_add, C9, r0, d93, bind_ok, Ad, Az, Dt, decide_eq_false c2, Ak, cond_false, a1, YJ B60 rfl, r03, e1, icj, ld, w4, Au, l4]
     rfl
end
end Go.Im
set_option maxRecDepth 100000
set_option maxHeartbeats 4000000
namespace Go.Im
def FI : List Value := [.int .i64 0, .int .i64 0, .int .i64 0, .int .i64 0]
def Ns (C : List Bl) (c : Nat) : List Value := [iV ((partAt C c 0 : Int) + 1), iV ((partAt C c 1 : Int) + 1), iV ((partAt C c 2 : Int) + 1), iV ((partAt C c 3 : Int) + 1)]
def LW (H : Hist) (x : List UInt8) : Value := if nameB x = false then .tuple ⟨[.agg ⟨FI⟩, .int .i64 8]⟩ else if BQ x (run H).comps 0 < 0 then .tuple ⟨[.agg ⟨FI⟩, .int .i64 6]⟩ else .tuple ⟨[.agg ⟨Ns (run H).comps (cix (run H).comps x)⟩, .int .i64 0]⟩
theorem w4 {s : AA} {q : Nat} {c : List Value} (hq : s.get q = some (.cells c 33 true)) (hc : c.length = 4) {vs : List Value} (hl : vs.length = 4) (hs : BZ vs = true) : ∃ s', wSt s 4 (.agg ⟨vs⟩) (.pointer (some ⟨q, 0, none⟩)) = some (Bc, s') ∧ DF s' 4 (.pointer (some ⟨q, 0, none⟩)) = some (.agg ⟨vs⟩) ∧ s'.get q = some (.cells vs 33 true) ∧ s'.nx = s.nx ∧ (∀ i, i ≠ q → s'.get i = s.get i) := by
 have e : cellsOf (.agg ⟨vs⟩) = vs := rfl
 have w := FU (s := s) (b := q) (o := 0) (n := 4) (v := .agg ⟨vs⟩) hq (by rw [e]; exact hl) (by rw [e]; exact hs) (by omega)
 rw [e, show c.take 0 ++ (vs ++ c.drop (0 + 4)) = vs by rw [List.take_zero, List.drop_eq_nil_of_le (by omega), List.nil_append, List.append_nil]] at w
 refine ⟨_, w, EP ?_, by rw [AA.get_put, if_pos rfl], rfl, fun i hi => by rw [AA.get_put, if_neg hi]⟩
 rw [Dx (by rw [AA.get_put, if_pos rfl]) (by omega), List.drop_zero, List.take_of_length_le (by omega)]
theorem LX (self : Self) (N f : Nat) (v4 : Value) {s : AA} {q : Nat} {c : List Value} (hq : s.get q = some (.cells c 33 true)) (hc : c.length = 4) (k : Nat) (hk : k < 4) (v : Int) (hv : c[k]? = some (iV v)) (hb : 0 ≤ v ∧ v < 1000000) :
 ∃ s', KL B22 self N (f + 1) v4 (.pointer (some ⟨q, 0, none⟩)) (.int .i64 (k : Int)) s = KL B22 self N f v4 (.pointer (some ⟨q, 0, none⟩)) (.int .i64 ((k + 1 : Nat) : Int)) s' ∧ s'.get q = some (.cells (c.set k (iV (v + 1))) 33 true) ∧ s'.nx = s.nx ∧ (∀ i, i ≠ q → s'.get i = s.get i) := by
 have w := LM (s := s) (b := q) hq (o := k) (v := iV (v + 1)) rfl (by omega)
 obtain ⟨s1, hs1⟩ : ∃ s1, s1 = s.put q (.cells (c.set k (iV (v + 1))) 33 true) := ⟨_, rfl⟩
 rw [← hs1] at w
 refine ⟨s1, ?_, by rw [hs1, AA.get_put, if_pos rfl], by rw [hs1]; rfl, fun i hi => by rw [hs1, AA.get_put, if_neg hi]⟩
 have hlt : (k : Int) < 4 := by omega
 have ia : CG 4 1 (.pointer (some ⟨q, 0, none⟩)) (.int .i64 (k : Int)) = some (.pointer (some ⟨q, k, none⟩)) := by rw [F6 _ _ _ _ _ _ hk, Nat.mul_one, Nat.zero_add]
 have rd : s.rd1 q k = some (.int .i64 v) := by rw [Ag hq]; exact hv
 have hw : BI .i64 ((k : Int) + 1) = ((k + 1 : Nat) : Int) := by rw [wrap64 (by omega)]; omega
 have hw2 : BI .i64 (v + 1) = v + 1 := wrap64 (by omega)
 have w' : wSt s 1 (.int .i64 (v + 1)) (.pointer (some ⟨q, k, none⟩)) = some (Bc, s1) := w
 rw [Qg B22 rfl]
 simp only [BR, decide_eq_true hlt, cond_true, Xv B22 rfl, ia, Ad, Az, bind_ok, C9, rd, JR, hw2, w', Au, EW, hw]
end Go.Im
set_option maxRecDepth 100000
set_option maxHeartbeats 4000000
namespace Go.Im
theorem fF : ob (fill [.int .i64 0, .int .i64 0, .int .i64 0, .int .i64 0] []) (fun c => some (Value.agg ⟨c⟩)) = some (.agg ⟨FI⟩) := rfl
section
variable {s : AA} {b o : Nat} {H : Hist} {F : Nat → Prop} {tag : Nat → Nat} {cb pb lb eb : Option Nat} {E : List Nat} {lv ev : Value}
theorem k22_L2 (self : Self) (N f : Nat) (hf : 5 ≤ f) {s : AA} {r q : Nat} {p0 p1 p2 p3 : Nat} (hq : s.get q = some (.cells [iV (p0 : Int), iV (p1 : Int), iV (p2 : Int), iV (p3 : Int)] 33 true)) (hr : s.get r = some (.cells FI 33 true)) (hrq : r ≠ q) (b0 : p0 < 1000000) (b1 : p1 < 1000000) (b2 : p2 < 1000000) (b3 : p3 < 1000000) :
 ∃ s', KL B22 self N f (.pointer (some ⟨r, 0, none⟩)) (.pointer (some ⟨q, 0, none⟩)) (.int .i64 0) s = .ok (.tuple ⟨[.agg ⟨[iV ((p0 : Int) + 1), iV ((p1 : Int) + 1), iV ((p2 : Int) + 1), iV ((p3 : Int) + 1)]⟩, .int .i64 0]⟩, s') ∧ s'.nx = s.nx ∧ (∀ i, i ≠ q → i ≠ r → s'.get i = s.get i) := by
 obtain ⟨f, rfl⟩ : ∃ g, f = g + 5 := ⟨f - 5, by omega⟩
 obtain ⟨s1, e1, h1, n1, g1⟩ := LX self N (f + 4) (.pointer (some ⟨r, 0, none⟩)) hq rfl 0 (by decide) (p0 : Int) rfl (by omega)
 obtain ⟨s2, e2, h2, n2, g2⟩ := LX self N (f + 3) (.pointer (some ⟨r, 0, none⟩)) h1 rfl 1 (by decide) (p1 : Int) rfl (by omega)
 obtain ⟨s3, e3, h3, n3, g3⟩ := LX self N (f + 2) (.pointer (some ⟨r, 0, none⟩)) h2 rfl 2 (by decide) (p2 : Int) rfl (by omega)
 obtain ⟨s4, e4, h4, n4, g4⟩ := LX self N (f + 1) (.pointer (some ⟨r, 0, none⟩)) h3 rfl 3 (by decide) (p3 : Int) rfl (by omega)
 have hr4 : s4.get r = some (.cells FI 33 true) := by rw [g4 r hrq, g3 r hrq, g2 r hrq, g1 r hrq]; exact hr
 have h4 : s4.get q = some (.cells [iV ((p0 : Int) + 1), iV ((p1 : Int) + 1), iV ((p2 : Int) + 1), iV ((p3 : Int) + 1)] 33 true) := h4
 have ld : DF s4 4 (.pointer (some ⟨q, 0, none⟩)) = some (.agg ⟨[iV ((p0 : Int) + 1), iV ((p1 : Int) + 1), iV ((p2 : Int) + 1), iV ((p3 : Int) + 1)]⟩) := EP (by rw [Dx h4 (by simp)]; rfl)
 obtain ⟨s5, w5, l5, _, n5, g5⟩ := w4 hr4 rfl (vs := [iV ((p0 : Int) + 1), iV ((p1 : Int) + 1), iV ((p2 : Int) + 1), iV ((p3 : Int) + 1)]) rfl rfl
 refine ⟨s5, ?_, by omega, fun i hi hr' => by rw [g5 i hr', g4 i hi, g3 i hi, g2 i hi, g1 i hi]⟩
 have last : KL B22 self N (f + 1) (.pointer (some ⟨r, 0, none⟩)) (.pointer (some ⟨q, 0, none⟩)) (.int .i64 ((3 + 1 : Nat) : Int)) s4 = .ok (.tuple ⟨[.agg ⟨[iV ((p0 : Int) + 1), iV ((p1 : Int) + 1), iV ((p2 : Int) + 1), iV ((p3 : Int) + 1)]⟩, .int .i64 0]⟩, s5) := by
  have hlt : decide (((3 + 1 : Nat) : Int) < 4) = false := rfl
  rw [Qg B22 rfl]
  simp only [BR, hlt, cond_false, ld, Ad, Az, bind_ok, w5, Au, l5]
  rfl
 exact e1.trans (e2.trans (e3.trans (e4.trans last)))
theorem k22 (n : Nat) (hn : 200 ≤ n) (x : List UInt8) (h : Bv s b H F tag o cb pb lb eb E lv ev) : Gives (AV AL Aj n (.fn 22) [.pointer (some ⟨b, 0, none⟩), .string (ofL x)] s) s (LW H x) := by
 obtain ⟨m, rfl, _⟩ := Ac (show 1 ≤ n by omega)
 obtain ⟨s1, hs1⟩ : ∃ s1, s1 = s.new (.cells FI 33 true) := ⟨_, rfl⟩
 have x1 : Ext s s1 := by rw [hs1]; exact (Ext.refl s).new _
 have n1 : s1.nx = s.nx + 1 := by rw [hs1]; rfl
 have g1 : s1.get s.nx = some (.cells FI 33 true) := by rw [hs1, AA.Ai, if_pos rfl]
 obtain ⟨s2, d60, x2⟩ := k60 m (by omega) x (h.ext x1)
 have x2n := x2.nx
 have g2 : s2.get s.nx = some (.cells FI 33 true) := (x2.get _ (by omega)).trans g1
 obtain ⟨s3, hs3⟩ : ∃ s3, s3 = s2.new (.cells zero21 120 true) := ⟨_, rfl⟩
 have x3 : Ext s2 s3 := by rw [hs3]; exact (Ext.refl s2).new _
 have n3 : s3.nx = s2.nx + 1 := by rw [hs3]; rfl
 have g3 : s3.get s2.nx = some (.cells zero21 120 true) := by rw [hs3, AA.Ai, if_pos rfl]
 have es : s.new (.cells [.int .i64 0, .int .i64 0, .int .i64 0, .int .i64 0] 33 true) = s1 := hs1.symm
 have es3 : s2.new (.cells [.string ⟨#[]⟩, .int .i64 0, .int .i64 0, .int .i64 0, .int .i64 0, .int .i64 0, .int .i64 0, .int .i64 0, .int .i64 0, .int .i64 0, .int .i64 0, .int .i64 0, .int .i64 0, .bool false, .bool false, .bool false, .bool false, .bool false, .bool false, .bool false, .bool false] 120 true) = s3 := hs3.symm
 have ep : ptrTo s.nx = .pointer (some ⟨s.nx, 0, none⟩) := rfl
 have ep2 : ptrTo s2.nx = .pointer (some ⟨s2.nx, 0, none⟩) := rfl
 have err : ∀ e : Int, e ≠ 0 → AV AL Aj m (.fn 60) [.pointer (some ⟨b, 0, none⟩), .string (ofL x)] s1 = .ok (.tuple ⟨[.agg ⟨zero21⟩, .int .i64 e]⟩, s2) → Gives (AV AL Aj (m + 1) (.fn 22) [.pointer (some ⟨b, 0, none⟩), .string (ofL x)] s) s (.tuple ⟨[.agg ⟨FI⟩, .int .i64 e]⟩) := by
  intro e he d
  obtain ⟨s4, w4', l4, n4, g4⟩ := w21 g3 (vs := zero21) rfl rfl
  have g44 : s4.get s.nx = some (.cells FI 33 true) := by rw [g4 _ (by omega), x3.get _ (by omega)]; exact g2
  obtain ⟨s5, w5, l5, _, n5, g5⟩ := w4 g44 rfl (vs := FI) rfl rfl
  refine ⟨s5, ?_, ⟨by omega, fun i hi => by rw [g5 i (by omega), g4 i (by omega), x3.get i (by omega), x2.get i (by omega)]; exact x1.get i hi⟩⟩
  rw [Ap 22 c22 rfl, cZ]
  simp only [es, d, bind_ok, CP, List.getElem?_cons_zero, List.getElem?_cons_succ, Ad, Az, es3, ep, ep2, w4', Au, Di, decide_eq_false he, Bool.not_false, Ak, cond_true, fF, w5, l5]
  rfl
 unfold LW
 unfold TL at d60
 by_cases c : nameB x = false
 · rw [if_pos c] at d60 ⊢
   exact err 8 (by decide) d60
 · rw [if_neg c] at d60 ⊢
   by_cases c2 : BQ x (run H).comps 0 < 0
   · rw [if_pos c2] at d60 ⊢
     exact err 6 (by decide) d60
   · rw [if_neg c2] at d60 ⊢
     obtain ⟨a1, a2, cc, a3, _⟩ := DN c2
     rw [a3] at d60
     dsimp only at d60
     have inv := h.ok.inv
     have hok := inv.inv.ok cc (List.mem_of_getElem? a3)
     have hpl := inv.plen
     have hlen := h.len
     obtain ⟨p0, p1, p2, p3, hp⟩ := len4 hok.1
     have hpa : ∀ k v, cc.parts[k]? = some v → partAt (run H).comps (cix (run H).comps x) k = v := fun k v hv => by unfold partAt; rw [a3]; simp [hv]
     have q0 := hpa 0 p0 (by rw [hp]; rfl)
     have q1 := hpa 1 p1 (by rw [hp]; rfl)
     have q2 := hpa 2 p2 (by rw [hp]; rfl)
     have q3 := hpa 3 p3 (by rw [hp]; rfl)
     have bd : ∀ k, k < 4 → partAt (run H).comps (cix (run H).comps x) k < 1000000 := fun k hk => by
      obtain ⟨t, t1, _⟩ := inv.inv.at_ _ k a2 hk
      have := BH t1
      omega
     obtain ⟨s4, w4', l4, n4, g4⟩ := w21 g3 (vs := BL cc) (CY hok) (Dp cc)
     have ld : DF s4 4 (.pointer (some ⟨s2.nx, 1, none⟩)) = some (.agg ⟨[iV (p0 : Int), iV (p1 : Int), iV (p2 : Int), iV (p3 : Int)]⟩) := by
      have l4' : ob (s4.rd s2.nx 0 21) (fun l => some (Value.agg ⟨l⟩)) = some (.agg ⟨BL cc⟩) := l4
      cases hget : s4.get s2.nx with
      | none => unfold AA.rd at l4'; rw [hget] at l4'; cases l4'
      | some ob' =>
       cases ob' with
       | cells full el w =>
        refine EP ?_
        have hcc : BL cc = strOf cc.name :: iV (p0 : Int) :: iV (p1 : Int) :: iV (p2 : Int) :: iV (p3 : Int) :: (cc.card.map iV ++ cc.told.map Value.bool) := by unfold BL; rw [hp]; rfl
        have hrd : s4.rd s2.nx 0 21 = some (BL cc) := by
         cases h5 : s4.rd s2.nx 0 21 with
         | none => rw [h5] at l4'; cases l4'
         | some l => rw [h5] at l4'; injection l4' with l4'; injection l4' with l4'; injection l4' with l4'; rw [l4']
        have hfl : 21 ≤ full.length := by
         unfold AA.rd IV at hrd
         rw [hget] at hrd
         simp only [sub] at hrd
         by_cases hh : 21 ≤ full.length
         · exact hh
         · exfalso
           have e : Nat.ble (Nat.add 0 21) full.length = false := by
            cases hb : Nat.ble (Nat.add 0 21) full.length with
            | false => rfl
            | true => exact absurd (Nat.le_of_ble_eq_true hb) (by show ¬ (0 + 21 ≤ full.length); omega)
           rw [e] at hrd; cases hrd
        rw [Dx hget (by omega), List.drop_zero] at hrd
        have hrd := Option.some.inj hrd
        rw [Dx hget (by omega)]
        have e : (full.drop 1).take 4 = ((full.take 21).drop 1).take 4 := by
         rw [List.drop_take, List.take_take]; rfl
        rw [e, hrd, hcc]; rfl
       | _ => unfold AA.rd at l4'; rw [hget] at l4'; cases l4'
     obtain ⟨s5, hs5⟩ : ∃ s5, s5 = s4.new (.cells FI 33 true) := ⟨_, rfl⟩
     have x5 : Ext s4 s5 := by rw [hs5]; exact (Ext.refl s4).new _
     have n5 : s5.nx = s4.nx + 1 := by rw [hs5]; rfl
     have g5 : s5.get s4.nx = some (.cells FI 33 true) := by rw [hs5, AA.Ai, if_pos rfl]
     obtain ⟨s6, w6, _, h6, n6, g6⟩ := w4 g5 rfl (vs := [iV (p0 : Int), iV (p1 : Int), iV (p2 : Int), iV (p3 : Int)]) rfl rfl
     have hr6 : s6.get s.nx = some (.cells FI 33 true) := by rw [g6 _ (by omega), x5.get _ (by omega), g4 _ (by omega), x3.get _ (by omega)]; exact g2
     obtain ⟨s7, e7, n7, g7⟩ := k22_L2 (AV AL Aj m) m m (by omega) h6 hr6 (by omega) (by rw [← q0]; exact bd 0 (by decide)) (by rw [← q1]; exact bd 1 (by decide)) (by rw [← q2]; exact bd 2 (by decide)) (by rw [← q3]; exact bd 3 (by decide))
     refine ⟨s7, ?_, ⟨by omega, fun i hi => by rw [g7 i (by omega) (by omega), g6 i (by omega), x5.get i (by omega), g4 i (by omega), x3.get i (by omega), x2.get i (by omega)]; exact x1.get i hi⟩⟩
     unfold Ns
     rw [q0, q1, q2, q3, Ap 22 c22 rfl, cZ]
     have es5 : s4.new (.cells [.int .i64 0, .int .i64 0, .int .i64 0, .int .i64 0] 33 true) = s5 := hs5.symm
     have ep4 : ptrTo s4.nx = .pointer (some ⟨s4.nx, 0, none⟩) := rfl
     simp only [es, d60, bind_ok, CP, List.getElem?_cons_zero, List.getElem?_cons_succ, Ad, Az, es3, ep, ep2, w4', Au, Di, decide_true, Bool.not_true, Ak, cond_false, Xu B22 rfl, Cj, Nat.zero_add, ld, es5, ep4, w6]
     exact e7
end
end Go.Im
set_option maxRecDepth 100000
set_option maxHeartbeats 4000000
namespace Go.Im
theorem Ji {s0 s : AA} (x : Ext s0 s) {base : Option Nat} {el w len by_ : Nat} {cs news : List Value} {v : Value} (h : BM s base el w cs len v) (hb : ∀ b, base = some b → s0.nx ≤ b) (hw : 1 ≤ w) (hby : (len + 1) * by_ ≤ 140737488355328) (hlen : len + 1 < UNK) (hn : news.length = w) (hs : BZ news = true) :
 ∃ v' s' base', Ea (s.new (.cells news el true)) el w by_ v (Bg 1 1 s.nx) = some (v', s') ∧ BM s' base' el w (cs ++ news) (len + 1) v' ∧ (∀ b, base' = some b → s0.nx ≤ b) ∧ Ext s0 s' ∧ s.nx + 1 ≤ s'.nx ∧ (∀ i, i < s.nx → base ≠ some i → s'.get i = s.get i) ∧ (∀ b, base' = some b → base = some b ∨ s.nx ≤ b) := by
 obtain ⟨s1, hs1⟩ : ∃ s1, s1 = s.new (.cells news el true) := ⟨_, rfl⟩
 have n1 : s1.nx = s.nx + 1 := by rw [hs1]; rfl
 have x1 : Ext s s1 := by rw [hs1]; exact (Ext.refl s).new _
 have hsrc := W9 (s := s) (s' := s1) (cs := news) (el := el) (w := w) hs1 hn
 have xn := x.nx
 obtain ⟨v', s', base', h1, h2, h3, h4, h5⟩ := (h.frame x1.nx fun b e => x1.get b (h.lt e)).push hw (by_ := by_) hby hlen hn hs hsrc
 rw [← hs1]
 refine ⟨v', s', base', h1, h2, ?_, ⟨by omega, ?_⟩, by omega, ?_, ?_⟩
 · intro b e
   rcases h3 with e' | e'
   · exact hb b (by rw [← e']; exact e)
   · rw [e'] at e; have := Option.some.inj e; omega
 · intro i hi
   rw [h5 i (by omega) (fun e => by have := hb i e; omega), x1.get i (by omega)]; exact x.get i hi
 · intro i hi e
   rw [h5 i (by omega) e]; exact x1.get i hi
 · intro b e
   rcases h3 with e' | e'
   · exact .inl (by rw [← e']; exact e)
   · rw [e'] at e; have := Option.some.inj e; exact .inr (by omega)
def FB (c : Bl) : Nat → List (Int × Int)
 | 0 => []
 | h + 1 => FB c h ++ (if c.told.getD h false then [((h : Int), c.card.getD h 0)] else [])
def ents (c : Bl) : List (Int × Int) := FB c 8
def FC (H : Hist) (x : List UInt8) : Int := if nameB x = false then 8 else if BQ x (run H).comps 0 < 0 then 6 else 0
def G5 (H : Hist) (x : List UInt8) : List (Int × Int) := if FC H x = 0 then (match (run H).comps[cix (run H).comps x]? with | some c => ents c | none => []) else []
theorem KP (c : Bl) : ∀ h, (FB c h).length ≤ h
 | 0 => Nat.le_refl _
 | h + 1 => by have := KP c h; unfold FB; rw [List.length_append]; split <;> simp <;> omega
def Ue (el : Nat) (H : Hist) (x : List UInt8) (s : AA) (v : Value) (s' : AA) : Prop := ∃ base sv, v = .tuple ⟨[sv, .int .i64 (FC H x)]⟩ ∧ BM s' base el 2 ((G5 H x).flatMap E9) (G5 H x).length sv ∧ (∀ b, base = some b → s.nx ≤ b)
theorem w21g {s : AA} {q : Nat} {c : List Value} (hq : s.get q = some (.cells c 120 true)) (hc : c.length = 21) {vs : List Value} (hl : vs.length = 21) (hs : BZ vs = true) : ∃ s', wSt s 21 (.agg ⟨vs⟩) (.pointer (some ⟨q, 0, none⟩)) = some (Bc, s') ∧ s'.get q = some (.cells vs 120 true) ∧ s'.nx = s.nx ∧ (∀ i, i ≠ q → s'.get i = s.get i) := by
 have e : cellsOf (.agg ⟨vs⟩) = vs := rfl
 have w := FU (s := s) (b := q) (o := 0) (n := 21) (v := .agg ⟨vs⟩) hq (by rw [e]; exact hl) (by rw [e]; exact hs) (by omega)
 rw [e, show c.take 0 ++ (vs ++ c.drop (0 + 21)) = vs by rw [List.take_zero, List.drop_eq_nil_of_le (by omega), List.nil_append, List.append_nil]] at w
 exact ⟨_, w, by rw [AA.get_put, if_pos rfl], rfl, fun i hi => by rw [AA.get_put, if_neg hi]⟩
theorem Uf {c : Bl} (h : c.ok) : (BL c).drop 13 = c.told.map Value.bool := by
 obtain ⟨h1, h2, h3⟩ := h
 unfold BL
 rw [List.drop_succ_cons, List.drop_append, List.drop_eq_nil_of_le (by simp [h1]), List.drop_append, List.drop_eq_nil_of_le (by simp [h1, h2])]
 simp [h1, h2]
theorem Ug {c : Bl} (h : c.ok) {i : Nat} (hi : i < 8) : (BL c)[5 + i]? = some (iV (c.card.getD i 0)) := by
 obtain ⟨h1, h2, h3⟩ := h
 unfold BL
 rw [show 5 + i = (4 + i) + 1 by omega, List.getElem?_cons_succ, List.getElem?_append_right (by simp [h1]), List.length_map, h1, show 4 + i - 4 = i by omega, List.getElem?_append_left (by simp [h2, hi]), List.getElem?_map, List.getD_eq_getElem?_getD, List.getElem?_eq_getElem (by omega)]
 rfl
theorem jd (a b : Int) : ob (fill [.int .i64 0, .int .i64 0] [(0, 1, (.int .i64 a)), (1, 1, (.int .i64 b))]) (fun c => some (Value.agg ⟨c⟩)) = some (.agg ⟨E9 (a, b)⟩) := rfl
theorem fG (el : Nat) (p : Int × Int) : ob (fill (zeros [.int .i64 0, .int .i64 0] 1) [(0, 2, (.agg ⟨E9 p⟩))]) (fun c => some (CB.cells c el true, Bg 1 1)) = some (.cells (E9 p) el true, Bg 1 1) := rfl
theorem k26_L2 (self : Self) (N : Nat) {s0 : AA} {q : Nat} {c : Bl} (hc : c.ok) : ∀ (d i f : Nat) (s : AA) (base : Option Nat) (v8 : Value), i + d = 8 → d < f → Ext s0 s → s.get q = some (.cells (BL c) 120 true) → q < s.nx → base ≠ some q →
 BM s base 45 2 ((FB c i).flatMap E9) (FB c i).length v8 → (∀ b, base = some b → s0.nx ≤ b) →
 ∃ base' sv s', Oo B26 self N f (.pointer (some ⟨q, 0, none⟩)) v8 (.agg ⟨c.told.map Value.bool⟩) (.int .i64 (i : Int)) s = .ok (.tuple ⟨[sv, .int .i64 0]⟩, s') ∧ Ext s0 s' ∧ BM s' base' 45 2 ((ents c).flatMap E9) (ents c).length sv ∧ (∀ b, base' = some b → s0.nx ≤ b) := by
 intro d
 induction d with
 | zero =>
  intro i f s base v8 hi hf x hq hql hbq hA hb
  obtain ⟨f, rfl, _⟩ := Ac hf
  obtain rfl : i = 8 := by omega
  refine ⟨base, v8, s, ?_, x, hA, hb⟩
  rw [Lu B26 rfl]
  rfl
 | succ d ih =>
  intro i f s base v8 hi hf x hq hql hbq hA hb
  obtain ⟨f, rfl, _⟩ := Ac hf
  have hi8 : i < 8 := by omega
  have hlt : (i : Int) < 8 := by omega
  have hw : BI .i64 ((i : Int) + 1) = ((i + 1 : Nat) : Int) := by rw [wrap64 (by omega)]; omega
  obtain ⟨t, ht⟩ := Bh (show i < c.told.length by rw [hc.2.2]; exact hi8)
  have hix : TT false 8 1 (.agg ⟨c.told.map Value.bool⟩) (.int .i64 (i : Int)) = some (.bool t) := by
   show cond (Nat.blt i 8) (nth (c.told.map Value.bool) (Nat.mul i 1)) none = _
   rw [Bf.2 hi8, Eb, show Nat.mul i 1 = i from Nat.mul_one i, List.getElem?_map, ht]; rfl
  have hg : c.told.getD i false = t := by rw [List.getD_eq_getElem?_getD, ht]; rfl
  cases t with
  | false =>
   have e : FB c (i + 1) = FB c i := by rw [FB, hg]; simp
   obtain ⟨base', sv, s', d1, r⟩ := ih (i + 1) f s base v8 (by omega) (by omega) x hq hql hbq (by rw [e]; exact hA) hb
   refine ⟨base', sv, s', ?_, r⟩
   rw [Lu B26 rfl]
   simp only [BR, decide_eq_true hlt, cond_true, Qi B26 rfl, hix, Ad, Az, bind_ok, Ak, cond_false, EW, hw]
   exact d1
  | true =>
   have e : FB c (i + 1) = FB c i ++ [((i : Int), c.card.getD i 0)] := by rw [FB, hg]; rfl
   have hel := KP c i
   have xn := x.nx
   obtain ⟨v', s2, b2, w, hA2, hb2, x2, n2, g2, hc2⟩ := Ji (by_ := 16) (news := E9 ((i : Int), c.card.getD i 0)) x hA hb (by decide) (by omega) (by show _ < 9223372036854775808; omega) rfl rfl
   have hrd : s.rd1 q (5 + i) = some (iV (c.card.getD i 0)) := by rw [Ag hq]; exact Ug hc hi8
   have hbq2 : b2 ≠ some q := fun e' => by
    rcases hc2 q e' with h1 | h1
    · exact hbq h1
    · omega
   obtain ⟨base', sv, s', d1, r⟩ := ih (i + 1) f s2 b2 v' (by omega) (by omega) x2 (by rw [g2 q hql hbq]; exact hq) (by omega) hbq2 (by rw [e, List.flatMap_append, List.length_append]; exact hA2) hb2
   refine ⟨base', sv, s', ?_, r⟩
   have ia : CG 8 1 (.pointer (some ⟨q, 0 + 5, none⟩)) (.int .i64 (i : Int)) = some (.pointer (some ⟨q, 5 + i, none⟩)) := by rw [F6 _ _ _ _ _ _ hi8, Nat.mul_one, Nat.zero_add]
   have ef := jd (i : Int) (c.card.getD i 0)
   rw [Lu B26 rfl]
   simp only [BR, decide_eq_true hlt, cond_true, Qi B26 rfl, hix, Ad, Az, bind_ok, Ak, Cj, ia, C9, hrd, iV, ef, fG, w, Au, EW, hw]
   exact d1
section
variable {s : AA} {b o : Nat} {H : Hist} {F : Nat → Prop} {tag : Nat → Nat} {cb pb lb eb : Option Nat} {E : List Nat} {lv ev : Value}
theorem k26 (n : Nat) (hn : 200 ≤ n) (x : List UInt8) (h : Bv s b H F tag o cb pb lb eb E lv ev) : ∃ v s', AV AL Aj n (.fn 26) [.pointer (some ⟨b, 0, none⟩), .string (ofL x)] s = .ok (v, s') ∧ Ext s s' ∧ Ue 45 H x s v s' := by
 obtain ⟨m, rfl, _⟩ := Ac (show 1 ≤ n by omega)
 obtain ⟨s2, d60, x2⟩ := k60 m (by omega) x h
 have x2n := x2.nx
 obtain ⟨s3, hs3⟩ : ∃ s3, s3 = s2.new (.cells zero21 120 true) := ⟨_, rfl⟩
 have x3 : Ext s2 s3 := by rw [hs3]; exact (Ext.refl s2).new _
 have n3 : s3.nx = s2.nx + 1 := by rw [hs3]; rfl
 have g3 : s3.get s2.nx = some (.cells zero21 120 true) := by rw [hs3, AA.Ai, if_pos rfl]
 have es3 : s2.new (.cells [.string ⟨#[]⟩, .int .i64 0, .int .i64 0, .int .i64 0, .int .i64 0, .int .i64 0, .int .i64 0, .int .i64 0, .int .i64 0, .int .i64 0, .int .i64 0, .int .i64 0, .int .i64 0, .bool false, .bool false, .bool false, .bool false, .bool false, .bool false, .bool false, .bool false] 120 true) = s3 := hs3.symm
 have ep2 : ptrTo s2.nx = .pointer (some ⟨s2.nx, 0, none⟩) := rfl
 have err : ∀ e : Int, e ≠ 0 → FC H x = e → AV AL Aj m (.fn 60) [.pointer (some ⟨b, 0, none⟩), .string (ofL x)] s = .ok (.tuple ⟨[.agg ⟨zero21⟩, .int .i64 e]⟩, s2) → ∃ v s', AV AL Aj (m + 1) (.fn 26) [.pointer (some ⟨b, 0, none⟩), .string (ofL x)] s = .ok (v, s') ∧ Ext s s' ∧ Ue 45 H x s v s' := by
  intro e he ha d
  obtain ⟨s4, w4', q4, n4, g4⟩ := w21g g3 rfl (vs := zero21) rfl rfl
  have c0 : G5 H x = [] := by unfold G5; rw [if_neg (by rw [ha]; exact he)]
  refine ⟨_, s4, ?_, ⟨by omega, fun i hi => by rw [g4 i (by omega), x3.get i (by omega)]; exact x2.get i hi⟩, none, .slice none 0 0, rfl, by rw [c0]; exact ⟨rfl, rfl, rfl⟩, by simp⟩
  rw [Ap 26 c26 rfl, dF, ha]
  simp only [d, bind_ok, CP, List.getElem?_cons_zero, List.getElem?_cons_succ, Ad, Az, es3, ep2, w4', Au, Di, decide_eq_false he, Bool.not_false, Ak, cond_true]
 unfold TL at d60
 by_cases c : nameB x = false
 · rw [if_pos c] at d60
   exact err 8 (by decide) (by unfold FC; rw [if_pos c]) d60
 · rw [if_neg c] at d60
   by_cases c2 : BQ x (run H).comps 0 < 0
   · rw [if_pos c2] at d60
     exact err 6 (by decide) (by unfold FC; rw [if_neg c, if_pos c2]) d60
   · rw [if_neg c2] at d60
     obtain ⟨a1, a2, cc, a3, _⟩ := DN c2
     rw [a3] at d60
     dsimp only at d60
     have ha : FC H x = 0 := by unfold FC; rw [if_neg c, if_neg c2]
     have hok := h.ok.inv.inv.ok cc (List.mem_of_getElem? a3)
     have c0 : G5 H x = ents cc := by unfold G5; rw [if_pos ha, a3]
     obtain ⟨s4, w4', q4, n4, g4⟩ := w21g g3 rfl (vs := BL cc) (CY hok) (Dp cc)
     have x4 : Ext s s4 := ⟨by omega, fun i hi => by rw [g4 i (by omega), x3.get i (by omega)]; exact x2.get i hi⟩
     have ld : DF s4 8 (.pointer (some ⟨s2.nx, 13, none⟩)) = some (.agg ⟨cc.told.map Value.bool⟩) := by
      refine EP ?_
      rw [Dx q4 (by rw [CY hok]; omega), Uf hok, List.take_of_length_le (by simp [hok.2.2])]
     obtain ⟨base', sv, s5, d5, x5, hA, hb⟩ := k26_L2 (AV AL Aj m) m (s0 := s) hok 8 0 m s4 none (.slice none 0 0) rfl (by omega) x4 q4 (by omega) (by simp) ⟨rfl, rfl, rfl⟩ (by simp)
     refine ⟨_, s5, ?_, x5, base', sv, rfl, by rw [c0]; exact hA, hb⟩
     rw [Ap 26 c26 rfl, dF, ha]
     simp only [d60, bind_ok, CP, List.getElem?_cons_zero, List.getElem?_cons_succ, Ad, Az, es3, ep2, w4', Au, Di, decide_true, Bool.not_true, Ak, cond_false, Xy B26 rfl, Cj, Nat.zero_add, ld]
     exact d5
end
end Go.Im
set_option maxRecDepth 100000
set_option maxHeartbeats 4000000
namespace Go.Im
theorem Ph : ∀ (k n : Nat) (acc : List UInt8), (NU k n acc).length ≤ acc.length + k
 | 0, n, acc => Nat.le_refl _
 | k + 1, n, acc => by
  show (cond (Nat.blt n 10) (UInt8.ofNat (Nat.add 48 n) :: acc) (NU k (Nat.div n 10) (UInt8.ofNat (Nat.add 48 (Nat.mod n 10)) :: acc))).length ≤ _
  cases Nat.blt n 10 with
  | true => simp
  | false => have := Ph k (Nat.div n 10) (UInt8.ofNat (Nat.add 48 (Nat.mod n 10)) :: acc); simp at this ⊢; omega
theorem EL (z : Int) : (CS z).length ≤ 21 := by
 cases z with
 | ofNat n => have := Ph 20 n []; show (NU 20 n []).length ≤ 21; simp at this; omega
 | negSucc n => have := Ph 20 (n + 1) []; show (45 :: NU 20 (n + 1) []).length ≤ 21; simp at this ⊢; omega
theorem k45 (n : Nat) (hn : 1 ≤ n) (z : Int) (hz : -9223372036854775808 ≤ z ∧ z < 9223372036854775808) (s : AA) : AV AL Aj n (.fn 45) [.int .i64 z] s = .ok (.string (ofL (CS z)), s) := by
 obtain ⟨m, rfl, _⟩ := Ac hn
 rw [GR 45 .itoa rfl]
 have e : Yy z = true := by
  cases z with
  | ofNat n =>
   have h : (n : Int) < 9223372036854775808 := hz.2
   exact Bf.2 (show n < 9223372036854775808 by omega)
  | negSucc n =>
   have h := hz.1
   exact Bf.2 (show n < 9223372036854775808 by omega)
 show BG _ (cond (Yy z) (some (strOf (CS z), s)) none) = _
 rw [e]; rfl
def KQ (p : Int × Int) : List UInt8 := ((CS p.1 ++ [32]) ++ CS p.2) ++ [10]
def Ui (x : List UInt8) (L : List (Int × Int)) : List UInt8 := (x ++ [10]) ++ L.flatMap KQ
theorem WJ (p : Int × Int) : (KQ p).length ≤ 44 := by
 have := EL p.1; have := EL p.2
 unfold KQ; simp; omega
def Nu (H : Hist) (x : List UInt8) : Value := if FC H x = 0 then .tuple ⟨[strOf (Ui x (G5 H x)), .int .i64 0]⟩ else .tuple ⟨[strOf [], .int .i64 (FC H x)]⟩
theorem RQ (c : Bl) (hc : ∀ v ∈ c.card, -300 ≤ v ∧ v ≤ 300) : ∀ h, ∀ p ∈ FB c h, 0 ≤ p.1 ∧ p.1 < (h : Int) ∧ -300 ≤ p.2 ∧ p.2 ≤ 300
 | 0, p, hp => by cases hp
 | h + 1, p, hp => by
  unfold FB at hp
  rcases List.mem_append.1 hp with hp | hp
  · have := RQ c hc h p hp; omega
  · split at hp
    · rw [List.mem_singleton.1 hp]
      refine ⟨by show (0 : Int) ≤ (h : Int); omega, by show (h : Int) < ((h + 1 : Nat) : Int); omega, ?_⟩
      show -300 ≤ c.card.getD h 0 ∧ c.card.getD h 0 ≤ 300
      rw [List.getD_eq_getElem?_getD]
      cases e : c.card[h]? with
      | none => simp
      | some v => exact hc v (List.mem_of_getElem? e)
    · cases hp
theorem Yl {H : Hist} (h : HOk H) (x : List UInt8) : (G5 H x).length ≤ 8 ∧ ∀ p ∈ G5 H x, -300 ≤ p.1 ∧ p.1 ≤ 300 ∧ -300 ≤ p.2 ∧ p.2 ≤ 300 := by
 unfold G5
 split
 · cases e : (run H).comps[cix (run H).comps x]? with
   | none => exact ⟨by simp, fun p hp => by cases hp⟩
   | some c =>
    refine ⟨KP c 8, fun p hp => ?_⟩
    have := RQ c (h.cards c (List.mem_of_getElem? e)) 8 p hp
    omega
 · exact ⟨by simp, fun p hp => by cases hp⟩
theorem MQ {x : List UInt8} (h : nameB x = true) : x.length ≤ 6 := by
 unfold nameB at h
 rw [Bool.and_eq_true] at h
 have := of_decide_eq_true h.1
 omega
theorem Uj {H : Hist} {x : List UInt8} (h : FC H x = 0) : nameB x = true := by
 unfold FC at h
 cases c : nameB x with
 | true => rfl
 | false => rw [if_pos c] at h; cases h
theorem DU (x y : List UInt8) (h : x.length + y.length ≤ 9223372036854775807) : BJ .add (.string (ofL x)) (.string (ofL y)) = some (.string (ofL (x ++ y))) := bV (ofL x) (ofL y) h
theorem fK : (Value.string ⟨#[10]⟩) = .string (ofL [10]) := rfl
theorem RS : (Value.string ⟨#[32]⟩) = .string (ofL [32]) := rfl
theorem k24_L2 (m N : Nat) (hm : 1 ≤ m) {L : List (Int × Int)} (hL : L.length ≤ 8 ∧ ∀ p ∈ L, -300 ≤ p.1 ∧ p.1 ≤ 300 ∧ -300 ≤ p.2 ∧ p.2 ≤ 300) {base : Option Nat} {v : Value} : ∀ (d i f : Nat) (s : AA) (x : List UInt8), i + d = L.length → d < f → x.length < 1000000 + i * 44 →
 BM s base 45 2 (L.flatMap E9) L.length v →
 Gives (SQ B24 (AV AL Aj m) N f (.string (ofL x)) v (.int .i64 (L.length : Int)) (.int .i64 (i : Int)) s) s (.tuple ⟨[strOf (x ++ (L.drop i).flatMap KQ), .int .i64 0]⟩) := by
 intro d
 induction d with
 | zero =>
  intro i f s x hi hf hx hA
  obtain ⟨f, rfl, _⟩ := Ac hf
  obtain rfl : i = L.length := by omega
  refine ⟨s, ?_, .refl s⟩
  have : ¬ (L.length : Int) < (L.length : Int) := by omega
  rw [Qh B24 rfl, List.drop_length]
  simp only [BR, decide_eq_false this, cond_false, List.flatMap_nil, List.append_nil, strOf]
 | succ d ih =>
  intro i f s x hi hf hx hA
  obtain ⟨f, rfl, _⟩ := Ac hf
  have hil : i < L.length := by omega
  obtain ⟨p, hp⟩ := Bh hil
  have hlt : (i : Int) < (L.length : Int) := by omega
  have hw : BI .i64 ((i : Int) + 1) = ((i + 1 : Nat) : Int) := by rw [wrap64 (by omega)]; omega
  obtain ⟨b, rfl, ia⟩ := hA.iad i hil .i64
  have hb := hA.lt rfl
  have hrd : DF s 2 (.pointer (some ⟨b, i * 2, none⟩)) = some (.agg ⟨E9 p⟩) := EP (by rw [hA.rd (by omega), EC E9 2 L i p (fun _ _ => rfl) hp])
  obtain ⟨s1, hs1⟩ : ∃ s1, s1 = s.new (.cells [.int .i64 0, .int .i64 0] 45 true) := ⟨_, rfl⟩
  have x1 : Ext s s1 := by rw [hs1]; exact (Ext.refl s).new _
  have n1 : s1.nx = s.nx + 1 := by rw [hs1]; rfl
  have w := FU (s := s1) (b := s.nx) (c := [.int .i64 0, .int .i64 0]) (el := 45) (o := 0) (n := 2) (v := .agg ⟨E9 p⟩) (by rw [hs1, AA.Ai, if_pos rfl]) rfl rfl (by decide)
  obtain ⟨s2, hs2⟩ : ∃ s2, s2 = s1.put s.nx (.cells (E9 p) 45 true) := ⟨_, rfl⟩
  have w : wSt s1 2 (.agg ⟨E9 p⟩) (.pointer (some ⟨s.nx, 0, none⟩)) = some (Bc, s2) := by rw [hs2]; exact w
  have g2 : s2.get s.nx = some (.cells (E9 p) 45 true) := by rw [hs2, AA.get_put, if_pos rfl]
  have n2 : s2.nx = s1.nx := by rw [hs2]; rfl
  have x2 : Ext s s2 := ⟨by omega, fun j hj => by rw [hs2, AA.get_put, if_neg (by omega)]; exact x1.get j hj⟩
  have r0 : s2.rd1 s.nx 0 = some (.int .i64 p.1) := by rw [Ag g2]; rfl
  have r1 : s2.rd1 s.nx 1 = some (.int .i64 p.2) := by rw [Ag g2]; rfl
  have hpb := hL.2 p (List.mem_of_getElem? hp)
  have d1 := k45 m hm p.1 (by omega) s2
  have d2 := k45 m hm p.2 (by omega) s2
  have l1 := EL p.1
  have l2 := EL p.2
  have a1 := DU (CS p.1) [32] (by simp; omega)
  have a2 := DU (CS p.1 ++ [32]) (CS p.2) (by simp; omega)
  have a3 := DU (CS p.1 ++ [32] ++ CS p.2) [10] (by simp; omega)
  have l3 := WJ p
  have a4 := DU x (KQ p) (by have := hL.1; omega)
  have a4 : BJ .add (.string (ofL x)) (.string (ofL (CS p.1 ++ [32] ++ CS p.2 ++ [10]))) = some (.string (ofL (x ++ KQ p))) := a4
  obtain ⟨s', dd, xx⟩ := ih (i + 1) f s2 (x ++ KQ p) (by omega) (by omega) (by rw [List.length_append]; omega) (hA.frame x2.nx fun b' e => x2.get b' (hA.lt e))
  refine ⟨s', ?_, x2.trans xx⟩
  have ec : L.drop i = p :: L.drop (i + 1) := drop_at hp
  have ck := Cb (s := s2) (b := s.nx) (o := 1) (v := .int .i64 p.2) (by omega) (by show (I7 .i64 .i64 && eqF p.2 p.2) = true; rw [Nj]; simp [DI])
  have ep : ptrTo s.nx = .pointer (some ⟨s.nx, 0, none⟩) := rfl
  rw [Qh B24 rfl, ec, List.flatMap_cons, ← List.append_assoc]
  simp only [BR, decide_eq_true hlt, cond_true, Xx B24 rfl, ia, Ad, Az, bind_ok, hrd, ← hs1, ep, w, Au, Cj, Nat.zero_add, Dh, Ce, C9, r0, r1, d1, d2, RS, fK, a1, a2, a3, a4, ck, Bool.and_true, EW, hw, n2]
  exact dd
section
variable {s : AA} {b o : Nat} {H : Hist} {F : Nat → Prop} {tag : Nat → Nat} {cb pb lb eb : Option Nat} {E : List Nat} {lv ev : Value}
theorem k24 (n : Nat) (hn : 300 ≤ n) (x : List UInt8) (h : Bv s b H F tag o cb pb lb eb E lv ev) : Gives (AV AL Aj n (.fn 24) [.pointer (some ⟨b, 0, none⟩), .string (ofL x)] s) s (Nu H x) := by
 obtain ⟨m, rfl, _⟩ := Ac (show 1 ≤ n by omega)
 obtain ⟨v, s2, d26, x2, base, sv, rfl, hA, hb⟩ := k26 m (by omega) x h
 unfold Nu
 rw [Ap 24 c24 rfl, f24_eq]
 by_cases ha : FC H x = 0
 · rw [if_pos ha]
   rw [ha] at d26
   have hx := MQ (Uj ha)
   have a1 := DU x [10] (by simp; omega)
   have hin := Yl h.ok x
   obtain ⟨s3, d3, x3⟩ := k24_L2 m m (by omega) hin (G5 H x).length 0 m s2 (x ++ [10]) (by omega) (by omega) (by simp; omega) hA
   refine ⟨s3, ?_, x2.trans x3⟩
   simp only [d26, bind_ok, CP, List.getElem?_cons_zero, List.getElem?_cons_succ, Ad, Az, Di, decide_true, Bool.not_true, Ak, cond_false, Xw B24 rfl, fK, a1, hA.len_eq]
   exact d3
 · rw [if_neg ha]
   refine ⟨s2, ?_, x2⟩
   simp only [d26, bind_ok, CP, List.getElem?_cons_zero, List.getElem?_cons_succ, Ad, Az, Di, decide_eq_false ha, Bool.not_false, Ak, cond_true]
   rfl
end
end Go.Im
