/- The reference's book on the ideal machine: what is wrong with an order. -/
import Derived.Test.YtojbkocmobkddaaGreatDoorImRD
set_option linter.all false
set_option maxRecDepth 100000
set_option maxHeartbeats 4000000
namespace Go.Im
def Fq (H : Hist) (ord : Ord) : Int := match ord with
 | .undo => if H.length = 0 then 2 else 0
 | o => if (run H).check o = 0 then (if H.length = 200 then 17 else 0) else (run H).check o
section
variable {s0 s : A8} {H : Hist} {rb : Nat} {lv : Value}
theorem Xf (self : Self) (N : Nat) (hrb : s.rd1 rb 1 = some lv) (hl : CP lv = some (.int .i64 (H.length : Int))) : U0 B56 self N (.pointer (some ⟨rb, 0, none⟩)) s = .ok (.int .i64 (if H.length = 200 then 17 else 0), s) := by
 rw [Zj B56 rfl]
 by_cases c : H.length = 200
 · have ci : (H.length : Int) = 200 := by omega
   rw [if_pos c]
   simp only [CB, AP, AY, bind_ok, Am, Nat.zero_add, BN, hrb, hl, DR, decide_eq_true ci, AO, cond_true]
 · have ci : ¬ (H.length : Int) = 200 := by omega
   rw [if_neg c]
   simp only [CB, AP, AY, bind_ok, Am, Nat.zero_add, BN, hrb, hl, DR, decide_eq_false ci, AO, cond_false]
structure WX (s0 s : A8) (rb q t : Nat) (lv : Value) (H : Hist) (nb : Option Nat) (nv : Value) (o : FC) (c1 c2 c3 c4 : Option Nat) (v1 v2 v3 v4 : Value) : Prop where
 ox : OX s0 s q nb nv o
 rl : rb < s.nx
 tl : t < s.nx
 hrb : s.rd1 rb 1 = some lv
 len : CP lv = some (.int .i64 (H.length : Int))
 ht : s.get t = some (.cells [v1, v2, v3, v4] 126 true)
 st : Jh s c1 c2 c3 c4 (run H) (runK H) v1 v2 v3 v4
variable {q t : Nat} {nb : Option Nat} {nv : Value} {o : FC} {c1 c2 c3 c4 : Option Nat} {v1 v2 v3 v4 : Value}
theorem WX.step (h : WX s0 s rb q t lv H nb nv o c1 c2 c3 c4 v1 v2 v3 v4) {s' : A8} (x : Ext s s') : WX s0 s' rb q t lv H nb nv o c1 c2 c3 c4 v1 v2 v3 v4 :=
 { h with
  ox := h.ox.step x
  rl := Nat.lt_of_lt_of_le h.rl x.nx
  tl := Nat.lt_of_lt_of_le h.tl x.nx
  hrb := by have := x.get rb h.rl; have e := h.hrb; unfold A8.rd1 at e ⊢; rw [this]; exact e
  ht := (x.get t h.tl).trans h.ht
  st := h.st.ext x }
theorem WX.ldT (h : WX s0 s rb q t lv H nb nv o c1 c2 c3 c4 v1 v2 v3 v4) : CQ s 4 (.pointer (some ⟨t, 0, none⟩)) = some (.agg ⟨[v1, v2, v3, v4]⟩) := Dw (by rw [EH h.ht (by simp)]; rfl)
theorem WX.q0 (h : WX s0 s rb q t lv H nb nv o c1 c2 c3 c4 v1 v2 v3 v4) : s.rd1 q 0 = some (strOf o.what) := by rw [Ah h.ox.hq]; rfl
theorem WX.q1 (h : WX s0 s rb q t lv H nb nv o c1 c2 c3 c4 v1 v2 v3 v4) : s.rd1 q 1 = some nv := by rw [Ah h.ox.hq]; rfl
theorem Xg (n N : Nat) (hn : 100 ≤ n) (hc : (run H).comps.length ≤ 8) (hN : o.names.length ≤ 2) : ∀ (d i f : Nat) (s : A8), i + d = o.names.length → d < f → WX s0 s rb q t lv H nb nv o c1 c2 c3 c4 v1 v2 v3 v4 →
 (∃ s', (∃ a, a ∈ o.names.drop i ∧ BF a (run H).comps 0 < 0) ∧ Ext s s' ∧ Jc B56 (AV AB Ak n) N f (.pointer (some ⟨rb, 0, none⟩)) (.pointer (some ⟨q, 0, none⟩)) (.pointer (some ⟨t, 0, none⟩)) (.int .i64 (i : Int)) s = .ok (.int .i64 6, s')) ∨
 (∃ s', (∀ a, a ∈ o.names.drop i → ¬ BF a (run H).comps 0 < 0) ∧ Ext s s' ∧ WX s0 s' rb q t lv H nb nv o c1 c2 c3 c4 v1 v2 v3 v4 ∧ Jc B56 (AV AB Ak n) N f (.pointer (some ⟨rb, 0, none⟩)) (.pointer (some ⟨q, 0, none⟩)) (.pointer (some ⟨t, 0, none⟩)) (.int .i64 (i : Int)) s = PY B56 (AV AB Ak n) N (.pointer (some ⟨rb, 0, none⟩)) (.pointer (some ⟨q, 0, none⟩)) s') := by
 intro d
 induction d with
 | zero =>
  intro i f s hi hf h
  obtain ⟨f, rfl, _⟩ := Af hf
  right
  have hlt : ¬ (i : Int) < (o.names.length : Int) := by omega
  refine ⟨s, ?_, .refl s, h, ?_⟩
  · rw [List.drop_eq_nil_of_le (by omega)]; intro a ha; cases ha
  · rw [N9 B56 rfl]
    simp only [Am, AP, AY, bind_ok, Nat.zero_add, BN, h.q1, h.ox.hn.len_eq, BP, decide_eq_false hlt, AO, cond_false]
 | succ d ih =>
  intro i f s hi hf h
  obtain ⟨f, rfl, _⟩ := Af hf
  obtain ⟨a, ha⟩ := BX (show i < o.names.length by omega)
  have hlt : (i : Int) < (o.names.length : Int) := by omega
  obtain ⟨b, eb, ia, ga⟩ := h.ox.name ha
  obtain ⟨s1, d1, x1⟩ := k92 n (by omega) a h.st (by omega)
  have h1 := h.step x1
  have nb1 : Nat.ble s.nx s1.nx = true := Ag.2 x1.nx
  have hw : BK .i64 ((i : Int) + 1) = ((i + 1 : Nat) : Int) := by rw [wrap64 (by omega)]; omega
  have hd := drop_at ha
  by_cases c : BF a (run H).comps 0 < 0
  · left
    refine ⟨s1, ⟨a, by rw [hd]; simp, c⟩, x1, ?_⟩
    rw [N9 B56 rfl]
    simp only [Am, AP, AY, bind_ok, Nat.zero_add, BN, h.q1, h.ox.hn.len_eq, BP, decide_eq_true hlt, AO, cond_true, Rt B56 rfl, h.ldT, CO, Bc, ia, ga, d1, nb1, decide_eq_true c]
  · have e1 : Jc B56 (AV AB Ak n) N (f + 1) (.pointer (some ⟨rb, 0, none⟩)) (.pointer (some ⟨q, 0, none⟩)) (.pointer (some ⟨t, 0, none⟩)) (.int .i64 (i : Int)) s = Jc B56 (AV AB Ak n) N f (.pointer (some ⟨rb, 0, none⟩)) (.pointer (some ⟨q, 0, none⟩)) (.pointer (some ⟨t, 0, none⟩)) (.int .i64 ((i + 1 : Nat) : Int)) s1 := by
     rw [N9 B56 rfl]
     simp only [Am, AP, AY, bind_ok, Nat.zero_add, BN, h.q1, h.ox.hn.len_eq, BP, decide_eq_true hlt, AO, cond_true, cond_false, Rt B56 rfl, h.ldT, CO, Bc, ia, ga, d1, nb1, decide_eq_false c, EJ, hw]
    rcases ih (i + 1) f s1 (by omega) (by omega) h1 with ⟨s2, ⟨a', ha', hc'⟩, x2, e2⟩ | ⟨s2, hall, x2, h2, e2⟩
    · left
      exact ⟨s2, ⟨a', by rw [hd]; exact List.mem_cons_of_mem _ ha', hc'⟩, x1.trans x2, e1.trans e2⟩
    · right
      refine ⟨s2, fun a' ha' => ?_, x1.trans x2, h2, e1.trans e2⟩
      rw [hd] at ha'
      rcases List.mem_cons.1 ha' with rfl | h5
      · exact c
      · exact hall a' h5
end
end Go.Im
set_option maxRecDepth 100000
set_option maxHeartbeats 4000000
namespace Go.Im
section
variable {s0 s : A8} {H : Hist} {rb q t : Nat} {lv : Value} {nb : Option Nat} {nv : Value} {o : FC} {c1 c2 c3 c4 : Option Nat} {v1 v2 v3 v4 : Value}
theorem QU (self : Self) (N : Nat) (h : WX s0 s rb q t lv H nb nv o c1 c2 c3 c4 v1 v2 v3 v4) (h1 : o.names.length = 1) : PY B56 self N (.pointer (some ⟨rb, 0, none⟩)) (.pointer (some ⟨q, 0, none⟩)) s = .ok (.int .i64 (if H.length = 200 then 17 else 0), s) := by
 have e := Xf self N h.hrb h.len
 have len1 := h.ox.hn.len_eq
 rw [h1] at len1
 rw [Ru B56 rfl]
 have z : decide (((1 : Nat) : Int) = 2) = false := rfl
 simp only [Am, AP, AY, CO, Nat.zero_add, Bc, cond_true, cond_false, BN, h.q1, len1, DR, z, BU, show (false == true) = false from rfl, GR, CZ, AO, e]
theorem Xh (self : Self) (N : Nat) (h : WX s0 s rb q t lv H nb nv o c1 c2 c3 c4 v1 v2 v3 v4) (a b : List UInt8) (h1 : o.names = [a, b]) : PY B56 self N (.pointer (some ⟨rb, 0, none⟩)) (.pointer (some ⟨q, 0, none⟩)) s = .ok (.int .i64 (if a = b then 7 else if H.length = 200 then 17 else 0), s) := by
 have e := Xf self N h.hrb h.len
 have len2 := h.ox.hn.len_eq
 rw [h1] at len2
 obtain ⟨x, ex, i0, g0⟩ := h.ox.name (i := 0) (a := a) (by rw [h1]; rfl)
 obtain ⟨x', ex', i1, g1⟩ := h.ox.name (i := 1) (a := b) (by rw [h1]; rfl)
 obtain rfl : x = x' := Option.some.inj (ex.symm.trans ex')
 have i0 : Az 1 nv (.int .i64 0) = some (.pointer (some ⟨x, 0, none⟩)) := i0
 have i1 : Az 1 nv (.int .i64 1) = some (.pointer (some ⟨x, 1, none⟩)) := i1
 have len2 : CP nv = some (.int .i64 2) := len2
 have q : BJ .eql (strOf a) (strOf b) = some (.bool (decide (a = b))) := eqW a b (ofL b) rfl
 rw [Ru B56 rfl]
 by_cases c : a = b
 · rw [if_pos c]
   simp only [Am, AP, AY, CO, Nat.zero_add, Bc, cond_true, BN, h.q1, len2, DR, decide_true, BU, beq_self_eq_true, DZ, i0, g0, i1, g1, q, decide_eq_true c, D6, AO]
 · rw [if_neg c]
   simp only [Am, AP, AY, CO, Nat.zero_add, Bc, cond_true, cond_false, BN, h.q1, len2, DR, decide_true, BU, beq_self_eq_true, DZ, i0, g0, i1, g1, q, decide_eq_false c, D6, AO, e]
theorem Ee {ord : Ord} (hu : ord ≠ .undo) {e : Int} (h : (run H).check ord = e) (he : e ≠ 0) : Fq H ord = e := by
 unfold Fq
 cases ord with
 | undo => exact (hu rfl).elim
 | _ => simp only [h, if_neg he]
theorem Fv {ord : Ord} (hu : ord ≠ .undo) (h : (run H).check ord = 0) : Fq H ord = if H.length = 200 then 17 else 0 := by
 unfold Fq
 cases ord with
 | undo => exact (hu rfl).elim
 | _ => simp only [h, if_true]
theorem aU {O : Off} {a : List UInt8} (c : 0 ≤ BF a O.comps 0) : O.check (.new a) = 7 := by unfold Off.check; exact if_pos c
theorem aV {O : Off} {a : List UInt8} (c : ¬ 0 ≤ BF a O.comps 0) (h : O.comps.length = 8) : O.check (.new a) = 3 := by unfold Off.check; exact (if_neg c).trans (if_pos h)
theorem aW {O : Off} {a : List UInt8} (c : ¬ 0 ≤ BF a O.comps 0) (h : ¬ O.comps.length = 8) : O.check (.new a) = 0 := by unfold Off.check; exact (if_neg c).trans (if_neg h)
theorem Xi {O : Off} {a b : List UInt8} {k : Int} (c : BF a O.comps 0 < 0 ∨ BF b O.comps 0 < 0) : O.check (.swap a b k) = 6 := by unfold Off.check; exact if_pos c
theorem Xj {O : Off} {a b : List UInt8} {k : Int} (c : ¬ (BF a O.comps 0 < 0 ∨ BF b O.comps 0 < 0)) (h : a = b) : O.check (.swap a b k) = 7 := by unfold Off.check; exact (if_neg c).trans (if_pos h)
theorem Xk {O : Off} {a b : List UInt8} {k : Int} (c : ¬ (BF a O.comps 0 < 0 ∨ BF b O.comps 0 < 0)) (h : ¬ a = b) : O.check (.swap a b k) = 0 := by unfold Off.check; exact (if_neg c).trans (if_neg h)
theorem Xl {O : Off} {a : List UInt8} {k v : Int} (c : BF a O.comps 0 < 0) : O.check (.card a k v) = 6 := by unfold Off.check; exact if_pos c
theorem Xm {O : Off} {a : List UInt8} {k v : Int} (c : ¬ BF a O.comps 0 < 0) : O.check (.card a k v) = 0 := by unfold Off.check; exact if_neg c
theorem Xn {O : Off} {a : List UInt8} {k : Int} (c : BF a O.comps 0 < 0) : O.check (.mend a k) = 6 := by unfold Off.check; exact if_pos c
theorem Xo {O : Off} {a : List UInt8} {k : Int} (c : ¬ BF a O.comps 0 < 0) : O.check (.mend a k) = 0 := by unfold Off.check; exact if_neg c
theorem k56 (n : Nat) (hn : 2100 ≤ n) (hrl : rb < s.nx) (hrb : s.rd1 rb 1 = some lv) (hL : RdL s lv (H.map (·.1))) (hH : HOk H) (hlen : H.length ≤ 200) (ord : Ord) (nb : Option Nat) (nv : Value) (hnv : Ba s nb 9 1 ((EL ord).names.map strOf) (EL ord).names.length nv) :
 Gives (AV AB Ak n (.fn 56) [.pointer (some ⟨rb, 0, none⟩), .agg ⟨[strOf (EL ord).what, nv, .int .i64 (EL ord).kind, .int .i64 (EL ord).heading, .int .i64 (EL ord).by_]⟩] s) s (.int .i64 (Fq H ord)) := by
 obtain ⟨m, rfl, _⟩ := Af (show 1 ≤ n by omega)
 obtain ⟨ro, hro⟩ : ∃ ro, ro = EL ord := ⟨_, rfl⟩
 rw [← hro] at hnv ⊢
 obtain ⟨s1, hs1⟩ : ∃ s1, s1 = s.new (.cells [strOf ro.what, nv, .int .i64 ro.kind, .int .i64 ro.heading, .int .i64 ro.by_] 107 true) := ⟨_, rfl⟩
 have x1 : Ext s s1 := by rw [hs1]; exact (Ext.refl s).new _
 have n1 : s1.nx = s.nx + 1 := by rw [hs1]; rfl
 obtain ⟨v, s2, d59, x2, c1, c2, c3, c4, v1, v2, v3, v4, rfl, st2, _⟩ := k59 m (by omega) H hH hlen lv s1 (hL.ext x1)
 obtain ⟨s3, hs3⟩ : ∃ s3, s3 = s2.new (.cells [.slice none 0 0, .slice none 0 0, .slice none 0 0, .slice none 0 0] 126 true) := ⟨_, rfl⟩
 have n3 : s3.nx = s2.nx + 1 := by rw [hs3]; rfl
 have x3 : Ext s2 s3 := by rw [hs3]; exact (Ext.refl s2).new _
 have hs : Bd [v1, v2, v3, v4] = true := DX (by
  intro v hv; simp only [List.mem_cons, List.not_mem_nil, or_false] at hv
  rcases hv with rfl | rfl | rfl | rfl
  · exact st2.a1.simple
  · exact st2.a2.simple
  · exact st2.a3.simple
  · exact st2.a4.simple)
 have w := Dv (s := s3) (b := s2.nx) (o := 0) (n := 4) (v := .agg ⟨[v1, v2, v3, v4]⟩) (by rw [hs3, A8.Aq, if_pos rfl]) rfl hs (by decide)
 obtain ⟨s4, hs4⟩ : ∃ s4, s4 = s3.put s2.nx (.cells [v1, v2, v3, v4] 126 true) := ⟨_, rfl⟩
 have w : wSt s3 4 (.agg ⟨[v1, v2, v3, v4]⟩) (.pointer (some ⟨s2.nx, 0, none⟩)) = some (BO, s4) := by rw [hs4]; exact w
 have n4 : s4.nx = s3.nx := by rw [hs4]; rfl
 have x24 : Ext s2 s4 := ⟨by omega, fun i hi => by rw [hs4, A8.get_put, if_neg (by omega)]; exact x3.get i hi⟩
 have x2n := x2.nx
 have x14 := x1.trans (x2.trans x24)
 have hlm : CP lv = some (.int .i64 (H.length : Int)) := by have := hL.len; rwa [List.length_map] at this
 obtain ⟨z, hz⟩ : ∃ z : A8, z.nx = 0 := ⟨{ s with nx := 0 }, rfl⟩
 have h4 : WX z s4 rb s.nx s2.nx lv H nb nv ro c1 c2 c3 c4 v1 v2 v3 v4 := by
  refine ⟨⟨?_, by omega, by omega, hnv.frame x14.nx fun b e => x14.get b (hnv.lt e), fun b _ => by omega⟩, by omega, by omega, ?_, hlm, by rw [hs4, A8.get_put, if_pos rfl], st2.ext x24⟩
  · rw [x24.get _ (by omega), x2.get _ (by omega), hs1, A8.Aq, if_pos rfl]
  · have := x14.get rb hrl
    unfold A8.rd1 at hrb ⊢
    rw [this]; exact hrb
 have hr1 : s1.rd1 rb 1 = some lv := by
  have := x1.get rb hrl
  unfold A8.rd1 at hrb ⊢
  rw [this]; exact hrb
 have hcl := hH.inv.Qe
 have ep : ptrTo s.nx = .pointer (some ⟨s.nx, 0, none⟩) := rfl
 have ep2 : ptrTo s2.nx = .pointer (some ⟨s2.nx, 0, none⟩) := rfl
 have ecl : cellsOf (.agg ⟨[strOf ro.what, nv, .int .i64 ro.kind, .int .i64 ro.heading, .int .i64 ro.by_]⟩) = [strOf ro.what, nv, .int .i64 ro.kind, .int .i64 ro.heading, .int .i64 ro.by_] := rfl
 have qU := eqW ro.what Di ⟨#[117, 110, 100, 111]⟩ rfl
 have qN := eqW ro.what Dq ⟨#[110, 101, 119]⟩ rfl
 have rest : ro.what ≠ Di → ro.what ≠ Dq → AV AB Ak (m + 1) (.fn 56) [.pointer (some ⟨rb, 0, none⟩), .agg ⟨[strOf ro.what, nv, .int .i64 ro.kind, .int .i64 ro.heading, .int .i64 ro.by_]⟩] s = Jc B56 (AV AB Ak m) m m (.pointer (some ⟨rb, 0, none⟩)) (.pointer (some ⟨s.nx, 0, none⟩)) (.pointer (some ⟨s2.nx, 0, none⟩)) (.int .i64 0) s4 := by
  intro hu hw
  rw [Ap 56 c56 rfl, XB]
  simp only [ecl, ← hs1, CB, AP, AY, bind_ok, Am, Nat.zero_add, BN, hr1, d59, ← hs3, ep, ep2, w, Ae, h4.q0, qU, decide_eq_false hu, AO, cond_false, qN, decide_eq_false hw]
 cases ord with
 | undo =>
  have hw : ro.what = Di := by rw [hro]; rfl
  refine ⟨s4, ?_, x14⟩
  rw [Ap 56 c56 rfl, XB]
  simp only [Fq]
  by_cases c : H.length = 0
  · have ci : (H.length : Int) = 0 := by omega
    rw [if_pos c]
    simp only [ecl, ← hs1, CB, AP, AY, bind_ok, Am, Nat.zero_add, BN, hr1, d59, ← hs3, ep, ep2, w, Ae, h4.q0, qU, decide_eq_true hw, h4.hrb, hlm, DR, decide_eq_true ci, AO, cond_true]
  · have ci : ¬ (H.length : Int) = 0 := by omega
    rw [if_neg c]
    simp only [ecl, ← hs1, CB, AP, AY, bind_ok, Am, Nat.zero_add, BN, hr1, d59, ← hs3, ep, ep2, w, Ae, h4.q0, qU, decide_eq_true hw, h4.hrb, hlm, DR, decide_eq_false ci, AO, cond_true, cond_false]
 | new a =>
  have hu : ro.what ≠ Di := by rw [hro]; show Dq ≠ Di; decide
  have hw : ro.what = Dq := by rw [hro]; rfl
  have hna : ro.names[0]? = some a := by rw [hro]; rfl
  obtain ⟨b, eb, ia, ga⟩ := h4.ox.name hna
  have ia : Az 1 nv (.int .i64 0) = some (.pointer (some ⟨b, 0, none⟩)) := ia
  obtain ⟨s5, d92, x5⟩ := k92 m (by omega) a h4.st (by omega)
  have h5 := h4.step x5
  have nb5 : Nat.ble s4.nx s5.nx = true := Ag.2 x5.nx
  have e2 := Xf (AV AB Ak m) m h5.hrb h5.len
  have rt0 : s5.rd1 s2.nx 0 = some v1 := by rw [Ah h5.ht]; rfl
  refine ⟨s5, ?_, x14.trans x5⟩
  rw [Ap 56 c56 rfl, XB]
  by_cases c : 0 ≤ BF a (run H).comps 0
  · simp only [ecl, ← hs1, CB, AP, AY, bind_ok, Am, Nat.zero_add, BN, hr1, d59, ← hs3, ep, ep2, w, Ae, h4.q0, qU, decide_eq_false hu, AO, cond_false, qN, decide_eq_true hw, cond_true, h4.ldT, CO, Bc, h4.q1, ia, ga, d92, nb5, JZ, decide_eq_true c]
    rw [Ee (by simp) (aU c) (by decide)]
  · simp only [ecl, ← hs1, CB, AP, AY, bind_ok, Am, Nat.zero_add, BN, hr1, d59, ← hs3, ep, ep2, w, Ae, h4.q0, qU, decide_eq_false hu, AO, cond_false, qN, decide_eq_true hw, cond_true, h4.ldT, CO, Bc, h4.q1, ia, ga, d92, nb5, JZ, decide_eq_false c, Zi B56 rfl, rt0, h5.st.a1.len_eq, DR]
    by_cases c8 : (run H).comps.length = 8
    · have ci : ((run H).comps.length : Int) = 8 := by omega
      rw [decide_eq_true ci, Ee (by simp) (aV c c8) (by decide)]; rfl
    · have ci : ¬ ((run H).comps.length : Int) = 8 := by omega
      rw [decide_eq_false ci, cond_false, e2, Fv (by simp) (aW c c8)]
 | swap a b k =>
  have hu : ro.what ≠ Di := by rw [hro]; show Ci ≠ Di; decide
  have hw : ro.what ≠ Dq := by rw [hro]; show Ci ≠ Dq; decide
  have hna : ro.names = [a, b] := by rw [hro]; rfl
  rcases Xg (o := ro) m m (by omega) hcl (by rw [hna]; simp) 2 0 m s4 (by rw [hna]; rfl) (by omega) h4 with ⟨s5, ⟨a', ha', hc'⟩, x5, e5⟩ | ⟨s5, hall, x5, h5, e5⟩
  · refine ⟨s5, (rest hu hw).trans (e5.trans ?_), x14.trans x5⟩
    rw [hna, List.drop_zero] at ha'
    have : BF a (run H).comps 0 < 0 ∨ BF b (run H).comps 0 < 0 := by
     simp at ha'; rcases ha' with rfl | rfl
     · exact .inl hc'
     · exact .inr hc'
    rw [Ee (by simp) (Xi this) (by decide)]
  · refine ⟨s5, (rest hu hw).trans (e5.trans ?_), x14.trans x5⟩
    rw [hna, List.drop_zero] at hall
    have : ¬ (BF a (run H).comps 0 < 0 ∨ BF b (run H).comps 0 < 0) := by
     rintro (h | h)
     · exact hall a (by simp) h
     · exact hall b (by simp) h
    rw [Xh _ _ h5 a b hna]
    by_cases c : a = b
    · rw [if_pos c, Ee (by simp) (Xj this c) (by decide)]
    · rw [if_neg c, Fv (by simp) (Xk this c)]
 | card a k v =>
  have hu : ro.what ≠ Di := by rw [hro]; show CW ≠ Di; decide
  have hw : ro.what ≠ Dq := by rw [hro]; show CW ≠ Dq; decide
  have hna : ro.names = [a] := by rw [hro]; rfl
  rcases Xg (o := ro) m m (by omega) hcl (by rw [hna]; simp) 1 0 m s4 (by rw [hna]; rfl) (by omega) h4 with ⟨s5, ⟨a', ha', hc'⟩, x5, e5⟩ | ⟨s5, hall, x5, h5, e5⟩
  · refine ⟨s5, (rest hu hw).trans (e5.trans ?_), x14.trans x5⟩
    rw [hna, List.drop_zero] at ha'
    obtain rfl : a' = a := by simpa using ha'
    rw [Ee (by simp) (Xl hc') (by decide)]
  · refine ⟨s5, (rest hu hw).trans (e5.trans ?_), x14.trans x5⟩
    rw [hna, List.drop_zero] at hall
    rw [QU _ _ h5 (by rw [hna]; rfl), Fv (by simp) (Xm (hall a (by simp)))]
 | mend a k =>
  have hu : ro.what ≠ Di := by rw [hro]; show Cj ≠ Di; decide
  have hw : ro.what ≠ Dq := by rw [hro]; show Cj ≠ Dq; decide
  have hna : ro.names = [a] := by rw [hro]; rfl
  rcases Xg (o := ro) m m (by omega) hcl (by rw [hna]; simp) 1 0 m s4 (by rw [hna]; rfl) (by omega) h4 with ⟨s5, ⟨a', ha', hc'⟩, x5, e5⟩ | ⟨s5, hall, x5, h5, e5⟩
  · refine ⟨s5, (rest hu hw).trans (e5.trans ?_), x14.trans x5⟩
    rw [hna, List.drop_zero] at ha'
    obtain rfl : a' = a := by simpa using ha'
    rw [Ee (by simp) (Xn hc') (by decide)]
  · refine ⟨s5, (rest hu hw).trans (e5.trans ?_), x14.trans x5⟩
    rw [hna, List.drop_zero] at hall
    rw [QU _ _ h5 (by rw [hna]; rfl), Fv (by simp) (Xo (hall a (by simp)))]
end
end Go.Im
set_option maxRecDepth 100000
set_option maxHeartbeats 4000000
namespace Go.Im
def strsOf (H : Hist) : List Value := H.map fun x => strOf x.1
def E9 (s : A8) (lb : Option Nat) (lv : Value) (H : Hist) : Prop :=
 Ba s lb 9 1 (strsOf H) H.length lv ∨ (H = [] ∧ ∃ b, lb = some b ∧ b < s.nx ∧ lv = .slice (some ⟨b, 0, none⟩) 0 0 ∧ s.get b = some (.cells [] 9 true))
section
variable {s : A8} {lb : Option Nat} {lv : Value} {H : Hist} {rb : Nat} {F : Nat → Prop}
theorem E9.frame {s' : A8} (h : E9 s lb lv H) (hn : s.nx ≤ s'.nx) (hg : ∀ b, lb = some b → s'.get b = s.get b) : E9 s' lb lv H := by
 rcases h with h | ⟨h1, b, h2, h3, h4, h5⟩
 · exact .inl (h.frame hn hg)
 · exact .inr ⟨h1, b, h2, by omega, h4, (hg b h2).trans h5⟩
theorem E9.lt (h : E9 s lb lv H) {b : Nat} (e : lb = some b) : b < s.nx := by
 rcases h with h | ⟨h1, b', h2, h3, h4, h5⟩
 · exact h.lt e
 · rw [h2] at e; rw [← Option.some.inj e]; exact h3
theorem E9.len (h : E9 s lb lv H) : CP lv = some (.int .i64 (H.length : Int)) := by
 rcases h with h | ⟨rfl, b, h2, h3, rfl, h5⟩
 · exact h.len_eq
 · rfl
theorem E9.simple (h : E9 s lb lv H) : Go.Im.simple lv = true := by
 rcases h with h | ⟨rfl, b, h2, h3, rfl, h5⟩
 · exact h.simple
 · rfl
theorem E9.rdL (h : E9 s lb lv H) : RdL s lv (H.map (·.1)) := by
 rcases h with h | ⟨rfl, b, h2, h3, rfl, h5⟩
 · have e : strsOf H = (H.map (·.1)).map strOf := by unfold strsOf; rw [List.map_map]; rfl
   have el : H.length = (H.map (·.1)).length := by rw [List.length_map]
   rw [e, el] at h
   exact h.rdL
 · exact ⟨rfl, fun i x hx => by simp at hx⟩
theorem E9.push (h : E9 s lb lv H) (hlen : H.length < 1000000) (x : List UInt8 × Ord) : ∃ v' s' b', EY (s.new (.cells [strOf x.1] 9 true)) 9 1 16 lv (CY 1 1 s.nx) = some (v', s') ∧ E9 s' b' v' (H ++ [x]) ∧ s.nx + 1 ≤ s'.nx ∧ (∀ i, i < s.nx → lb ≠ some i → s'.get i = s.get i) ∧ (∀ b, b' = some b → lb = some b ∨ s.nx ≤ b) := by
 rcases h with h | ⟨rfl, b, rfl, h3, rfl, h5⟩
 · obtain ⟨v', s', b', w, hA, hb, n, g⟩ := UK h hlen x.1
   refine ⟨v', s', b', w, .inl ?_, n, g, fun b e => ?_⟩
   · have e : strsOf (H ++ [x]) = strsOf H ++ [strOf x.1] := by unfold strsOf; simp
     rw [e, List.length_append]; exact hA
   · rcases hb with h1 | h1
     · exact .inl (by rw [← h1]; exact e)
     · rw [h1] at e; exact .inr (by have := Option.some.inj e; omega)
 · obtain ⟨s1, hs1⟩ : ∃ s1, s1 = s.new (.cells [strOf x.1] 9 true) := ⟨_, rfl⟩
   have n1 : s1.nx = s.nx + 1 := by rw [hs1]; rfl
   have x1 : Ext s s1 := by rw [hs1]; exact (Ext.refl s).new _
   have hsrc := LU (s := s) (s' := s1) (cs := [strOf x.1]) (el := 9) (w := 1) hs1 rfl
   have hb1 : s1.get b = some (.cells [] 9 true) := (x1.get b h3).trans h5
   have hrd : s1.rd b 0 0 = some [] := by rw [EH hb1 (by decide)]; rfl
   have w : EY s1 9 1 16 (.slice (some ⟨b, 0, none⟩) 0 0) (CY 1 1 s.nx) = some (.slice (some ⟨s1.nx, 0, none⟩) 1 UNK, s1.new (.cells [strOf x.1] 9 true)) := by
    show ob (DN s1 1 (CY 1 1 s.nx)) (fun news => EK s1 9 1 16 news (.slice (some ⟨b, 0, none⟩) 0 0)) = _
    rw [hsrc]
    have e0 : EK s1 9 1 16 [strOf x.1] (.slice (some ⟨b, 0, none⟩) 0 0) = Gp s1 9 1 0 0 1 1 [strOf x.1] (some ⟨b, 0, none⟩) := by
     show cond (Nat.beq 1 0) none (cond (Nat.ble (Nat.mul (Nat.add 0 (Nat.div [strOf x.1].length 1)) 16) 140737488355328 && Nat.blt (Nat.add 0 (Nat.div [strOf x.1].length 1)) UNK) (Gp s1 9 1 0 0 (Nat.div [strOf x.1].length 1) (Nat.add 0 (Nat.div [strOf x.1].length 1)) [strOf x.1] (some ⟨b, 0, none⟩)) none) = _
     have d : Nat.div [strOf x.1].length 1 = 1 := Nat.div_one 1
     have d0 : Nat.add 0 1 = 1 := rfl
     have a1 : Nat.ble (Nat.mul 1 16) 140737488355328 = true := Ag.2 (by decide)
     have a2 : Nat.blt 1 UNK = true := C9.2 (by decide)
     rw [d, d0, a1, a2]; rfl
    have e1 : Gp s1 9 1 0 0 1 1 [strOf x.1] (some ⟨b, 0, none⟩) = ob (s1.rd b 0 0) fun old => some (EG s1 9 1 old [strOf x.1]) := by
     show cond (Nat.blt 0 UNK) (cond (Nat.ble 1 0) (KI s1 ⟨b, 0, none⟩ 1 0 0 1 [strOf x.1]) (ob (s1.rd b 0 (Nat.mul 0 1)) fun old => some (EG s1 9 1 old [strOf x.1]))) (cond (Nat.beq 0 UNE) none (OZ s1 ⟨b, 0, none⟩ 9 1 0 1 [strOf x.1] (s1.get b))) = _
     have a1 : Nat.blt 0 UNK = true := C9.2 (by decide)
     have a2 : Nat.ble 1 0 = false := rfl
     rw [a1, a2]; rfl
    show EK s1 9 1 16 [strOf x.1] (.slice (some ⟨b, 0, none⟩) 0 0) = _
    rw [e0, e1, hrd]; rfl
   have x2 : Ext s1 (s1.new (.cells [strOf x.1] 9 true)) := (Ext.refl s1).new _
   refine ⟨_, _, some s1.nx, by rw [← hs1]; exact w, .inl ⟨rfl, by simp, [strOf x.1], by rw [A8.Aq, if_pos rfl], rfl, by simp⟩, by show s.nx + 1 ≤ s1.nx + 1; omega, fun i hi _ => ?_, fun b' e => .inr (by have := Option.some.inj e; omega)⟩
   rw [x2.get i (by omega)]; exact x1.get i hi
structure ED (s : A8) (rb : Nat) (H : Hist) (F : Nat → Prop) (lb : Option Nat) (lv : Value) : Prop where
 hb : s.get rb = some (.cells [.bool true, lv] 97 true)
 ln : E9 s lb lv H
 nb : lb ≠ some rb
 fb : F rb
 fl : ∀ i, lb = some i → F i
 lo : ∀ i, F i → 10 ≤ i
 hi : ∀ i, F i → i < s.nx
 ok : HOk H
 len : H.length ≤ 200
def Fz (s : A8) (rb : Nat) (H : Hist) (F : Nat → Prop) : Prop := ∃ lb lv, ED s rb H F lb lv
theorem ED.frame {s' : A8} (h : ED s rb H F lb lv) (hn : s.nx ≤ s'.nx) (hg : ∀ i, F i → s'.get i = s.get i) : ED s' rb H F lb lv :=
 { h with hb := (hg rb h.fb).trans h.hb, ln := h.ln.frame hn fun b e => hg b (h.fl b e), hi := fun i hi => Nat.lt_of_lt_of_le (h.hi i hi) hn }
theorem ED.ext {s' : A8} (h : ED s rb H F lb lv) (x : Ext s s') : ED s' rb H F lb lv := h.frame x.nx fun i hi => x.get i (h.hi i hi)
theorem ED.mono {G : Nat → Prop} (h : ED s rb H F lb lv) (hG : ∀ i, F i → G i) (lo : ∀ i, G i → 10 ≤ i) (hi : ∀ i, G i → i < s.nx) : ED s rb H G lb lv :=
 { h with fb := hG _ h.fb, fl := fun i e => hG _ (h.fl i e), lo := lo, hi := hi }
theorem ED.FV {s' : A8} (h : ED s rb H F lb lv) (hk : 10 ≤ s.nx) (x : Ext s s') : ED s' rb H (grow F s s') lb lv :=
 (h.ext x).mono (fun i hi => ⟨.inl hi, Nat.lt_of_lt_of_le (h.hi i hi) x.nx⟩) (Hu h.lo hk) fun i hi => hi.2
theorem Fz.frame {s' : A8} (h : Fz s rb H F) {G : Nat → Prop} (f : Fr s s' G) (hG : ∀ i, F i → ¬ G i) : Fz s' rb H F := by
 obtain ⟨lb, lv, h⟩ := h
 exact ⟨lb, lv, h.frame f.nx fun i hi => f.get i (h.hi i hi) (hG i hi)⟩
theorem k15 (n : Nat) (hn : 1 ≤ n) (s : A8) (hk : KOk s) : ∃ s', AV AB Ak n (.fn 15) [] s = .ok (.pointer (some ⟨s.nx, 0, none⟩), s') ∧ Fz s' s.nx [] (grow (fun _ => False) s s') ∧ Ext s s' := by
 obtain ⟨m, rfl, _⟩ := Af hn
 obtain ⟨s1, h1⟩ : ∃ s1, s1 = s.new (.cells [.bool true, .slice none 0 0] 97 true) := ⟨_, rfl⟩
 have n1 : s1.nx = s.nx + 1 := by rw [h1]; rfl
 have x1 : Ext s s1 := by rw [h1]; exact (Ext.refl s).new _
 refine ⟨s1, ?_, ⟨none, .slice none 0 0, by rw [h1, A8.Aq, if_pos rfl], .inl ⟨rfl, rfl, rfl⟩, by simp, ⟨.inr (Nat.le_refl _), by omega⟩, by simp, Hu (fun i hi => hi.elim) hk.nx, fun i hi => hi.2, HOk.nil, by simp⟩, x1⟩
 rw [Ap 15 c15 rfl, f15_eq]
 have e1 : ob (fill [.bool false, .slice none 0 0] [(0, 1, (.bool true))]) (fun c => some (Value.agg ⟨c⟩)) = some (.agg ⟨[.bool true, .slice none 0 0]⟩) := rfl
 have e2 : cellsOf (.agg ⟨[.bool true, .slice none 0 0]⟩) = [.bool true, .slice none 0 0] := rfl
 simp only [e1, AP, AY, bind_ok, e2, ← h1]
 rfl
theorem k54 (n : Nat) (hn : 1 ≤ n) (h : ED s rb H F lb lv) : AV AB Ak n (.fn 54) [.pointer (some ⟨rb, 0, none⟩)] s = .ok (.bool false, s) := by
 obtain ⟨m, rfl, _⟩ := Af hn
 rw [Ap 54 c54 rfl, f54_eq]
 have r0 : s.rd1 rb 0 = some (.bool true) := by rw [Ah h.hb]; rfl
 simp [r0]
end
end Go.Im
set_option maxRecDepth 100000
set_option maxHeartbeats 4000000
namespace Go.Im
theorem UM (s : A8) (news : List Value) (a : Nat) (hn : news.length < 1000000) : EK s 9 1 16 news (.slice (some ⟨a, 0, none⟩) 0 0) = Gp s 9 1 0 0 news.length news.length news (some ⟨a, 0, none⟩) := by
 show cond (Nat.beq 1 0) none (cond (Nat.ble (Nat.mul (Nat.add 0 (Nat.div news.length 1)) 16) 140737488355328 && Nat.blt (Nat.add 0 (Nat.div news.length 1)) UNK) (Gp s 9 1 0 0 (Nat.div news.length 1) (Nat.add 0 (Nat.div news.length 1)) news (some ⟨a, 0, none⟩)) none) = _
 have d : Nat.div news.length 1 = news.length := Nat.div_one _
 have d0 : Nat.add 0 news.length = news.length := Nat.zero_add _
 have a1 : Nat.ble (Nat.mul news.length 16) 140737488355328 = true := Ag.2 (by show news.length * 16 ≤ _; omega)
 have a2 : Nat.blt news.length UNK = true := C9.2 (by show news.length < 9223372036854775808; omega)
 rw [d, d0, a1, a2]; rfl
theorem Xp (s : A8) (news : List Value) (a : Nat) (m : Nat) : Gp s 9 1 0 0 m m news (some ⟨a, 0, none⟩) = cond (Nat.ble m 0) (KI s ⟨a, 0, none⟩ 1 0 0 m news) (ob (s.rd a 0 0) fun old => some (EG s 9 m old news)) := by
 show cond (Nat.blt 0 UNK) (cond (Nat.ble m 0) (KI s ⟨a, 0, none⟩ 1 0 0 m news) (ob (s.rd a 0 (Nat.mul 0 1)) fun old => some (EG s 9 m old news))) (cond (Nat.beq 0 UNE) none (OZ s ⟨a, 0, none⟩ 9 1 0 m news (s.get a))) = _
 have a1 : Nat.blt 0 UNK = true := C9.2 (by decide)
 have a3 : Nat.mul 0 1 = 0 := rfl
 rw [a1, a3]; rfl
section
variable {s : A8} {lb : Option Nat} {lv : Value} {H : Hist} {rb : Nat} {F : Nat → Prop}
theorem E9.undo (h : E9 s lb lv H) (h0 : 0 < H.length) (hlen : H.length ≤ 200) : ∃ lv' v' s' b', rSl (s.new (.cells [] 9 true)) 9 1 none (some (.int .i64 ((H.length - 1 : Nat) : Int))) none lv = some lv' ∧ EY (s.new (.cells [] 9 true)) 9 1 16 (CY 0 0 s.nx) lv' = some (v', s') ∧ E9 s' b' v' (H.take (H.length - 1)) ∧ s.nx + 1 ≤ s'.nx ∧
 (∀ i, i < s.nx → s'.get i = s.get i) ∧ (∀ b, b' = some b → s.nx ≤ b) := by
 obtain ⟨k, hk⟩ : ∃ k, k = H.length - 1 := ⟨_, rfl⟩
 rw [← hk]
 rcases h with h | ⟨rfl, _⟩
 · obtain ⟨s1, hs1⟩ : ∃ s1, s1 = s.new (.cells [] 9 true) := ⟨_, rfl⟩
   have n1 : s1.nx = s.nx + 1 := by rw [hs1]; rfl
   have x1 : Ext s s1 := by rw [hs1]; exact (Ext.refl s).new _
   have hb1 : s1.get s.nx = some (.cells [] 9 true) := by rw [hs1, A8.Aq, if_pos rfl]
   rw [← hs1]
   obtain ⟨lv', e1, hA⟩ := (h.frame x1.nx fun b e => x1.get b (h.lt e)).trunc (by decide) (show k ≤ H.length by omega) .i64
   obtain ⟨b, rfl, _⟩ := h.iad 0 h0 .i64
   have hlv : lv' = .slice (some ⟨b, 0, none⟩) k UNK := hA.1
   have hst : (strsOf H).take (k * 1) = strsOf (H.take k) := by unfold strsOf; rw [Nat.mul_one, List.map_take]
   rw [hst] at hA
   have hsl : (strsOf (H.take k)).length = k := by unfold strsOf; rw [List.length_map, List.length_take]; omega
   have hsrc : DN s1 1 lv' = some (strsOf (H.take k)) := by
    rw [hlv]
    show s1.rd b 0 (Nat.mul k 1) = _
    have e : Nat.mul k 1 = k := Nat.mul_one k
    rw [e, hA.rd (by omega), List.drop_zero, List.take_of_length_le (by omega)]
   have ea : EY s1 9 1 16 (CY 0 0 s.nx) lv' = Gp s1 9 1 0 0 k k (strsOf (H.take k)) (some ⟨s.nx, 0, none⟩) := by
    show ob (DN s1 1 lv') (fun news => EK s1 9 1 16 news (.slice (some ⟨s.nx, 0, none⟩) 0 0)) = _
    rw [hsrc]
    show EK s1 9 1 16 (strsOf (H.take k)) (.slice (some ⟨s.nx, 0, none⟩) 0 0) = _
    rw [UM s1 _ s.nx (by omega), hsl]
   rw [Xp] at ea
   by_cases c : k = 0
   · subst c
     have hnil : H.take 0 = [] := List.take_zero
     rw [hnil] at ea ⊢
     have w := kN (s := s1) (b := s.nx) (o := 0) (vs := []) hb1 rfl (by decide)
     have e2 : KI s1 ⟨s.nx, 0, none⟩ 1 0 0 0 (strsOf []) = some (.slice (some ⟨s.nx, 0, none⟩) 0 0, s1.put s.nx (.cells [] 9 true)) := by
      show ob (s1.wr s.nx 0 []) (fun s' => some (Value.slice (some ⟨s.nx, 0, none⟩) 0 0, s')) = _
      rw [w]; rfl
     have e3 : Nat.ble 0 0 = true := rfl
     rw [e3, cond_true, e2] at ea
     refine ⟨lv', _, _, some s.nx, e1, ea, .inr ⟨rfl, s.nx, rfl, by show s.nx < s1.nx; omega, rfl, by rw [A8.get_put, if_pos rfl]⟩, by show s.nx + 1 ≤ s1.nx; omega, fun i hi => ?_, fun b' e => by have := Option.some.inj e; omega⟩
     rw [A8.get_put, if_neg (by omega)]; exact x1.get i hi
   · have e3 : Nat.ble k 0 = false := by
      cases hb : Nat.ble k 0 with
      | false => rfl
      | true => exact absurd (Nat.le_of_ble_eq_true hb) (by omega)
     have hrd : s1.rd s.nx 0 0 = some [] := by rw [EH hb1 (by decide)]; rfl
     rw [e3, cond_false, hrd] at ea
     have x2 : Ext s1 (s1.new (.cells (strsOf (H.take k)) 9 true)) := (Ext.refl s1).new _
     have hl2 : (H.take k).length = k := by rw [List.length_take]; omega
     refine ⟨lv', .slice (some ⟨s1.nx, 0, none⟩) k UNK, s1.new (.cells (strsOf (H.take k)) 9 true), some s1.nx, e1, ea, .inl ?_, by show s.nx + 1 ≤ s1.nx + 1; omega, fun i hi => ?_, fun b' e => by have := Option.some.inj e; omega⟩
     · rw [hl2]
       refine ⟨rfl, by show s1.nx < s1.nx + 1; omega, strsOf (H.take k), by rw [A8.Aq, if_pos rfl], List.take_of_length_le (by omega), by omega⟩
     · rw [x2.get i (by omega)]; exact x1.get i hi
 · simp at h0
theorem Vo {x : List UInt8} {ord : Ord} (hr : EM x = .ok ord) : Ht H x = Fq H ord := by
 by_cases hu : ord = .undo
 · subst hu; unfold Ht Fq; rw [hr]
 · rw [SV hr hu]
   by_cases c : (run H).check ord = 0
   · rw [if_pos c, Fv hu c]
   · rw [if_neg c, Ee hu rfl c]
end
end Go.Im
set_option maxRecDepth 100000
set_option maxHeartbeats 4000000
namespace Go.Im
section
variable {s : A8} {lb : Option Nat} {lv : Value} {H : Hist} {rb : Nat} {F : Nat → Prop}
theorem ED.put (h : ED s rb H F lb lv) {s1 : A8} {b' : Option Nat} {v' : Value} {H' : Hist} (hn : s.nx ≤ s1.nx) (hk : 10 ≤ s.nx) (hg : ∀ i, i < s.nx → lb ≠ some i → s1.get i = s.get i) (hA : E9 s1 b' v' H') (hb : ∀ b, b' = some b → lb = some b ∨ s.nx ≤ b) (ok : HOk H') (len : H'.length ≤ 200) :
 ∃ s2, wSt s1 1 v' (.pointer (some ⟨rb, 1, none⟩)) = some (BO, s2) ∧ s2.nx = s1.nx ∧ Fz s2 rb H' (grow F s s2) ∧ Fr s s2 F := by
 have hr1 : s1.get rb = some (.cells [.bool true, lv] 97 true) := (hg rb (h.hi rb h.fb) h.nb).trans h.hb
 have hne : b' ≠ some rb := fun e => by
  rcases hb rb e with h1 | h1
  · exact h.nb h1
  · have := h.hi rb h.fb; omega
 refine ⟨_, KG hr1 hA.simple (by simp), rfl, ⟨b', v', by rw [A8.get_put, if_pos rfl]; rfl, hA.frame (Nat.le_refl _) fun b e => by rw [A8.get_put, if_neg (fun e' => hne (by rw [e, e']))], hne, ⟨.inl h.fb, by have := h.hi rb h.fb; show rb < s1.nx; omega⟩, fun i e => ?_, Hu h.lo hk, fun i hi => hi.2, ok, len⟩, hn, fun i hi hF => ?_⟩
 · refine ⟨?_, hA.lt e⟩
   rcases hb i e with h1 | h1
   · exact .inl (h.fl i h1)
   · exact .inr h1
 · rw [A8.get_put, if_neg (fun e => hF (by rw [e]; exact h.fb)), hg i hi (fun e => hF (h.fl i e))]
theorem aX (m : Nat) (hm : 1 ≤ m) (x : List UInt8) (h : ED s rb H F lb lv) : AV AB Ak (m + 1) (.fn 17) [.pointer (some ⟨rb, 0, none⟩), .string (ofL x)] s = Wj B17 (AV AB Ak m) m (.pointer (some ⟨rb, 0, none⟩)) (.string (ofL x)) s := by
 rw [Ap 17 c17 rfl, f17_eq, k54 m hm h]
 simp only [bind_ok, AO, cond_false]
theorem k17 (n : Nat) (hn : 2200 ≤ n) (x : List UInt8) (hx : x.length < 1000000) (hk : 10 ≤ s.nx) (hB : Fz s rb H F) :
 ∃ s', AV AB Ak n (.fn 17) [.pointer (some ⟨rb, 0, none⟩), .string (ofL x)] s = .ok (.int .i64 (Ht H x), s') ∧ Fz s' rb (doH H x) (grow F s s') ∧ Fr s s' F := by
 obtain ⟨m, rfl, hm⟩ := Af (show 1 ≤ n by omega)
 obtain ⟨lb, lv, h⟩ := hB
 rw [aX m (by omega) x h, ZB B17 rfl]
 cases hr : EM x with
 | error e =>
  have E1 : Ht H x = e := by unfold Ht; rw [hr]
  have E2 : doH H x = H := by unfold doH; rw [hr]
  have hrr : FZ x = .error e := by rw [SY, hr]; rfl
  obtain ⟨v, s1, d55, x1, post⟩ := k55 m (by omega) x hx s
  rw [hrr] at post
  obtain ⟨rfl, he⟩ := post
  obtain ⟨s2, hs2⟩ : ∃ s2, s2 = s1.new (.cells Dk 107 true) := ⟨_, rfl⟩
  have x2 : Ext s1 s2 := by rw [hs2]; exact (Ext.refl s1).new _
  have n2 : s2.nx = s1.nx + 1 := by rw [hs2]; rfl
  have w := Dv (s := s2) (b := s1.nx) (o := 0) (n := 5) (v := .agg ⟨Dk⟩) (by rw [hs2, A8.Aq, if_pos rfl]) rfl rfl (by decide)
  obtain ⟨s3, hs3⟩ : ∃ s3, some (BO, s3) = wSt s2 5 (.agg ⟨Dk⟩) (.pointer (some ⟨s1.nx, 0, none⟩)) ∧ Ext s s3 := by
   refine ⟨_, w.symm, ⟨by have := x1.nx; show s.nx ≤ s2.nx; omega, fun i hi => ?_⟩⟩
   have := x1.nx
   rw [A8.get_put, if_neg (by omega), x2.get i (by omega)]; exact x1.get i hi
  have es : s1.new (.cells [.string ⟨#[]⟩, .slice none 0 0, .int .i64 0, .int .i64 0, .int .i64 0] 107 true) = s2 := hs2.symm
  have ep : ptrTo s1.nx = .pointer (some ⟨s1.nx, 0, none⟩) := rfl
  refine ⟨s3, ?_, ?_, .of_ext hs3.2 _⟩
  · rw [E1]
    simp only [d55, bind_ok, Bg, List.getElem?_cons_zero, List.getElem?_cons_succ, AP, AY, es, ep, ← hs3.1, Ae, DR, decide_eq_false he, AO, cond_false, RQ B17 rfl, FN, Bool.not_false, cond_true]
  · rw [E2]; exact ⟨lb, lv, h.FV hk hs3.2⟩
 | ok ord =>
  have hrr := QT hr
  obtain ⟨v, s1, s2, nb, nv, d55, p0, p1, w2, x2, n12, ox⟩ := Jj m (by omega) x hx s hrr
  have d55 : AV AB Ak m (.fn 55) [.string (ofL x)] s = .ok (v, s1) := d55
  have h2 := h.ext x2
  have rb1 : s2.rd1 rb 1 = some lv := by rw [Ah h2.hb]; rfl
  obtain ⟨s3, d56, x3⟩ := k56 m (by omega) (h2.hi rb h2.fb) rb1 h2.ln.rdL h.ok h.len ord nb nv ox.hn
  have x23 := x2.trans x3
  have h3 := h2.ext x3
  have ox3 := ox.step x3
  have w2' : wSt (s1.new (.cells [.string ⟨#[]⟩, .slice none 0 0, .int .i64 0, .int .i64 0, .int .i64 0] 107 true)) 5 (.agg ⟨[strOf (EL ord).what, nv, .int .i64 (EL ord).kind, .int .i64 (EL ord).heading, .int .i64 (EL ord).by_]⟩) (.pointer (some ⟨s1.nx, 0, none⟩)) = some (BO, s2) := w2
  have ep : ptrTo s1.nx = .pointer (some ⟨s1.nx, 0, none⟩) := rfl
  have ld : CQ s2 5 (.pointer (some ⟨s1.nx, 0, none⟩)) = some (.agg ⟨[strOf (EL ord).what, nv, .int .i64 (EL ord).kind, .int .i64 (EL ord).heading, .int .i64 (EL ord).by_]⟩) := Dw (by rw [EH ox.hq (by simp)]; rfl)
  have E1 := Vo (H := H) hr
  rw [E1]
  simp only [d55, bind_ok, p0, p1, AP, AY, ep, w2', Ae, DR, decide_true, AO, cond_true, ld, d56]
  rw [RQ B17 rfl]
  by_cases c : Fq H ord = 0
  · have e17 : (!(eqF (Fq H ord) 0)) = false := by rw [FN, decide_eq_true c]; rfl
    rw [e17, cond_false, c, ZC B17 rfl]
    have rq0 : s3.rd1 s1.nx 0 = some (strOf (EL ord).what) := by rw [Ah ox3.hq]; rfl
    have r1 : s3.rd1 rb 1 = some lv := by rw [Ah h3.hb]; rfl
    have qU := eqW (EL ord).what Di ⟨#[117, 110, 100, 111]⟩ rfl
    have hk3 : 10 ≤ s3.nx := by have := x23.nx; omega
    have gr : ∀ s4 H', Fz s4 rb H' (grow F s3 s4) → Fz s4 rb H' (grow F s s4) := fun s4 H' hh => by
     obtain ⟨lb', lv', h'⟩ := hh
     refine ⟨lb', lv', h'.mono (fun i hi => ⟨?_, hi.2⟩) (Hu h.lo hk) fun i hi => hi.2⟩
     rcases hi.1 with h5 | h5
     · exact .inl h5
     · exact .inr (Nat.le_trans x23.nx h5)
    by_cases hu : ord = .undo
    · subst hu
      have hw : (EL .undo).what = Di := rfl
      have hl0 : 0 < H.length := by
       unfold Fq at c
       by_cases c0 : H.length = 0
       · rw [if_pos c0] at c; cases c
       · omega
      have hlen := h.len
      have E2 : doH H x = H.take (H.length - 1) := by unfold doH; rw [hr]
      obtain ⟨lv', v', s4, b', e1, w4, hA, n4, g4, hb4⟩ := h3.ln.undo hl0 h.len
      obtain ⟨s5, w5, n5, rr, fr⟩ := h3.put (s1 := s4) (b' := b') (v' := v') (H' := H.take (H.length - 1)) (by omega) hk3 (fun i hi _ => g4 i hi) hA (fun b e => .inr (hb4 b e)) (h.ok.take _) (by rw [List.length_take]; omega)
      obtain ⟨sn, hsn⟩ : ∃ sn, sn = s3.new (.cells [] 9 true) := ⟨_, rfl⟩
      have xn : Ext s3 sn := by rw [hsn]; exact (Ext.refl s3).new _
      have nn : sn.nx = s3.nx + 1 := by rw [hsn]; rfl
      have r1n : sn.rd1 rb 1 = some lv := by rw [Ah (h3.ext xn).hb]; rfl
      rw [← hsn] at e1 w4
      have nb1 : Nat.ble s3.nx sn.nx = true := Ag.2 (by omega)
      have nb2 : Nat.ble sn.nx s4.nx = true := Ag.2 (by omega)
      have nb3 : Nat.ble s4.nx s5.nx = true := Ag.2 (by omega)
      have ef : ob (fill (zeros [.string ⟨#[]⟩] 0) []) (fun c => some (Cc.cells c 9 true, CY 0 0)) = some (.cells [] 9 true, CY 0 0) := rfl
      have i1 : BK .i64 ((H.length : Int) - 1) = ((H.length - 1 : Nat) : Int) := by rw [wrap64 (by omega)]; omega
      refine ⟨s5, ?_, by rw [E2]; exact gr _ _ rr, (Fr.of_ext x23 F).tr fr⟩
      simp only [Am, AP, AY, bind_ok, Nat.zero_add, BN, rq0, qU, decide_eq_true hw, AO, cond_true, ef, ← hsn, CO, nb1, CB, Bc, r1n, h3.ln.len, VP, i1, e1, w4, Ae, nb2, w5, nb3]
    · have hw : (EL ord).what ≠ Di := by
       cases ord with
       | undo => exact (hu rfl).elim
       | new a => show Dq ≠ Di; decide
       | swap a b k => show Ci ≠ Di; decide
       | card a k d => show CW ≠ Di; decide
       | mend a k => show Cj ≠ Di; decide
      have VA : (run H).check ord = 0 := by
       by_cases cc : (run H).check ord = 0
       · exact cc
       · rw [Ee hu rfl cc] at c; exact (cc c).elim
      have hl2 : H.length ≠ 200 := by
       intro c2
       rw [Fv hu VA, if_pos c2] at c; cases c
      have hlen := h.len
      have E2 : doH H x = H ++ [(x, ord)] := by rw [UG hr hu, if_pos VA, if_neg hl2]
      have hord : ord.ok := by
       rcases Vb hr with hh | hh
       · exact (hu hh).elim
       · exact hh
      obtain ⟨v', s4, b', w4, hA, n4, g4, hb4⟩ := h3.ln.push (by omega) (x, ord)
      obtain ⟨s5, w5, n5, rr, fr⟩ := h3.put (s1 := s4) (b' := b') (v' := v') (H' := H ++ [(x, ord)]) (by omega) hk3 g4 hA hb4 (h.ok.snoc ⟨hord, VA⟩ hr) (by simp; omega)
      refine ⟨s5, ?_, by rw [E2]; exact gr _ _ rr, (Fr.of_ext x23 F).tr fr⟩
      simp only [Am, AP, AY, bind_ok, Nat.zero_add, BN, rq0, qU, decide_eq_false hw, AO, cond_false, CB, r1, QJ, w4, Ae, w5]
  · have e17 : (!(eqF (Fq H ord) 0)) = true := by rw [FN, decide_eq_false c]; rfl
    have E2 : doH H x = H := by
     by_cases hu : ord = .undo
     · subst hu
       have : H.length = 0 := by
        unfold Fq at c
        by_cases c0 : H.length = 0
        · exact c0
        · rw [if_neg c0] at c; exact (c rfl).elim
       unfold doH; rw [hr]
       exact List.take_of_length_le (by omega)
     · rw [UG hr hu]
       by_cases cc : (run H).check ord = 0
       · rw [if_pos cc]
         rw [Fv hu cc] at c
         by_cases c2 : H.length = 200
         · rw [if_pos c2]
         · rw [if_neg c2] at c; exact (c rfl).elim
       · rw [if_neg cc]
    rw [e17, cond_true]
    exact ⟨s3, rfl, by rw [E2]; exact ⟨lb, lv, h.FV hk x23⟩, .of_ext x23 _⟩
end
end Go.Im
