/- Contracts on the ideal machine: the reference: is, names, kinds, numbers. -/
import Derived.Test.YtojbkocmobkddaaGreatDoorImPB
import Derived.Lib.AtoiAllCases
set_option linter.all false
set_option maxRecDepth 100000
set_option maxHeartbeats 4000000
namespace Go.Im
theorem k58 (n : Nat) (hn : 1 ≤ n) (i lo hi : Int) (s : A8) : AV AB Ak n (.fn 58) [.int .i64 i, .int .i64 lo, .int .i64 hi] s = .ok (.bool (decide (lo ≤ i ∧ i ≤ hi)), s) := by
 obtain ⟨m, rfl, _⟩ := Af hn
 rw [Ap 58 c58 rfl, f58_eq]
 by_cases h1 : i < lo
 · have : ¬ lo ≤ i := by omega
   simp [h1, this]
 · have : lo ≤ i := by omega
   simp [h1, this]
theorem k114 (n : Nat) (hn : 1 ≤ n) (i lo hi : Int) (s : A8) : AV AB Ak n (.fn 114) [.int .i64 i, .int .i64 lo, .int .i64 hi] s = .ok (.bool (decide (lo ≤ i ∧ i ≤ hi)), s) := by
 obtain ⟨m, rfl, _⟩ := Af hn
 rw [Ap 114 c114 rfl, nC]
 by_cases h1 : i < lo
 · have : ¬ lo ≤ i := by omega
   simp [h1, this]
 · have : lo ≤ i := by omega
   simp [h1, this]
theorem kX (self : Self) (N : Nat) (x : List UInt8) (hx : x.length < 1000000000) (s : A8) : ∀ (k q f : Nat), x.length - q ≤ k → k < f → q ≤ x.length → Pg B85 self N f (.string (ofL x)) (.int .i64 (q : Int)) s = .ok (.bool ((x.drop q).all isLow), s) := by
 intro k
 induction k with
 | zero =>
  intro q f hk hf hq
  obtain ⟨f, rfl, _⟩ := Af hf
  rw [SG B85 rfl, List.drop_eq_nil_of_le (by omega)]
  have : ¬ (q : Int) < (x.length : Int) := by omega
  simp [this]
 | succ k ih =>
  intro q f hk hf hq
  obtain ⟨f, rfl, _⟩ := Af hf
  rw [SG B85 rfl]
  by_cases hlt : q < x.length
  · obtain ⟨c, hc⟩ := BX hlt
    have h0 : (q : Int) < (x.length : Int) := by omega
    have hw : BK .i64 ((q : Int) + 1) = ((q + 1 : Nat) : Int) := by rw [wrap64 (by omega)]; omega
    have e1 := ih (q + 1) f (by omega) (by omega) (by omega)
    rw [drop_at hc, List.all_cons]
    have hcc : (toL (ofL x))[q]? = some c := hc
    by_cases a1 : (c.toNat : Int) < 97
    · have : isLow c = false := by unfold isLow; apply decide_eq_false; omega
      simp only [CJ, E8, BQ, h0, decide_true, cond_true, NJ B85 rfl, Dn, hc, Option.map_some, AP, AY, bind_ok, BP, a1, BU, beq_self_eq_true, DZ, GR, Dh, D6, CZ, AO, this, Bool.false_and, show (true == false) = false from rfl]
    · by_cases a2 : (122 : Int) < (c.toNat : Int)
      · have : isLow c = false := by unfold isLow; apply decide_eq_false; omega
        simp only [CJ, E8, BQ, h0, decide_true, cond_true, NJ B85 rfl, Dn, hc, Option.map_some, AP, AY, bind_ok, BP, a1, BU, beq_self_eq_true, DZ, GR, Dh, D6, CZ, AO, this, Bool.false_and, show (true == false) = false from rfl, a2, decide_false]
      · have : isLow c = true := by unfold isLow; apply decide_eq_true; omega
        simp only [CJ, E8, BQ, h0, decide_true, cond_true, NJ B85 rfl, Dn, hc, Option.map_some, AP, AY, bind_ok, BP, a1, decide_false, BU, beq_self_eq_true, DZ, Dh, a2, CZ, AO, cond_false, EJ, hw, e1, this, Bool.true_and]
  · have : ¬ (q : Int) < (x.length : Int) := by omega
    rw [List.drop_eq_nil_of_le (by omega)]
    simp [this]
theorem k85 (n : Nat) (x : List UInt8) (hn : 10 ≤ n) (s : A8) : AV AB Ak n (.fn 85) [.string (ofL x)] s = .ok (.bool (nameB x), s) := by
 obtain ⟨m, rfl, _⟩ := Af (show 1 ≤ n by omega)
 rw [Ap 85 c85 rfl, f85_eq]
 unfold nameB
 by_cases h : 1 ≤ (x.length : Int) ∧ (x.length : Int) ≤ 6
 · have h2 : 0 < x.length ∧ x.length ≤ 6 := by omega
   have e1 := kX (AV AB Ak m) m x (by omega) s x.length 0 m (by omega) (by omega) (by omega)
   rw [List.drop_zero] at e1
   have e1 : Pg B85 (AV AB Ak m) m m (.string (ofL x)) (.int .i64 0) s = .ok (.bool (x.all isLow), s) := e1
   simp [k114 m (by omega), h, h2, Zr B85 rfl, e1]
 · have h2 : ¬ (0 < x.length ∧ x.length ≤ 6) := by omega
   simp [k114 m (by omega), h, h2]
theorem kY (self : Self) (N : Nat) (x : ByteArray) (s : A8) (b cap : Nat) (h : s.get b = some (.cells (([Py, Pz, needle, pivot]).map strOf) 9 true)) (f : Nat) (hf : 5 ≤ f) : U6 B91 self N f (.string x) (.slice (some ⟨b, 0, none⟩) 4 cap) (.int .i64 0) s = .ok (.int .i64 (Ce (toL x)), s) := by
 obtain ⟨f, rfl⟩ : ∃ m, f = m + 5 := ⟨f - 5, by omega⟩
 have hr0 : s.rd1 b 0 = some (strOf Py) := by rw [Ah h]; rfl
 have hr1 : s.rd1 b 1 = some (strOf Pz) := by rw [Ah h]; rfl
 have hr2 : s.rd1 b 2 = some (strOf needle) := by rw [Ah h]; rfl
 have hr3 : s.rd1 b 3 = some (strOf pivot) := by rw [Ah h]; rfl
 have q : ∀ l, BJ .eql (strOf l) (.string x) = some (.bool (decide (l = toL x))) := fun l => by unfold strOf; rw [Ey]; rfl
 have i0 : Az 1 (.slice (some ⟨b, 0, none⟩) 4 cap) (.int .i64 0) = some (.pointer (some ⟨b, 0, none⟩)) := rfl
 have i1 : Az 1 (.slice (some ⟨b, 0, none⟩) 4 cap) (.int .i64 1) = some (.pointer (some ⟨b, 1, none⟩)) := rfl
 have i2 : Az 1 (.slice (some ⟨b, 0, none⟩) 4 cap) (.int .i64 2) = some (.pointer (some ⟨b, 2, none⟩)) := rfl
 have i3 : Az 1 (.slice (some ⟨b, 0, none⟩) 4 cap) (.int .i64 3) = some (.pointer (some ⟨b, 3, none⟩)) := rfl
 have w1 : BK .i64 ((0 : Int) + 1) = 1 := rfl
 have w2 : BK .i64 ((1 : Int) + 1) = 2 := rfl
 have w3 : BK .i64 ((2 : Int) + 1) = 3 := rfl
 have w4 : BK .i64 ((3 : Int) + 1) = 4 := rfl
 have z0 : (decide ((0 : Int) < ((4 : Nat) : Int))) = true := rfl
 have z1 : (decide ((1 : Int) < ((4 : Nat) : Int))) = true := rfl
 have z2 : (decide ((2 : Int) < ((4 : Nat) : Int))) = true := rfl
 have z3 : (decide ((3 : Int) < ((4 : Nat) : Int))) = true := rfl
 have z4 : (decide ((4 : Int) < ((4 : Nat) : Int))) = false := rfl
 unfold Ce
 rw [IV B91 rfl]
 simp only [IU, AP, AY, bind_ok, BP, z0, AO, cond_true, Jv B91 rfl, i0, BN, hr0, q]
 by_cases c0 : toL x = Py
 · simp [c0]
 · rw [if_neg c0, decide_eq_false (Ne.symm c0), cond_false, IV B91 rfl]
   simp only [EJ, w1, IU, AP, AY, bind_ok, BP, z1, AO, cond_true, Jv B91 rfl, i1, BN, hr1, q]
   by_cases c1 : toL x = Pz
   · simp [c1]
   · rw [if_neg c1, decide_eq_false (Ne.symm c1), cond_false, IV B91 rfl]
     simp only [EJ, w2, IU, AP, AY, bind_ok, BP, z2, AO, cond_true, Jv B91 rfl, i2, BN, hr2, q]
     by_cases c2 : toL x = needle
     · simp [c2]
     · rw [if_neg c2, decide_eq_false (Ne.symm c2), cond_false, IV B91 rfl]
       simp only [EJ, w3, IU, AP, AY, bind_ok, BP, z3, AO, cond_true, Jv B91 rfl, i3, BN, hr3, q]
       by_cases c3 : toL x = pivot
       · simp [c3]
       · rw [if_neg c3, decide_eq_false (Ne.symm c3), cond_false, IV B91 rfl]
         simp only [EJ, w4, IU, AP, AY, bind_ok, BP, z4, AO, cond_false]
theorem k91 (n : Nat) (hn : 6 ≤ n) (x : ByteArray) (s : A8) : Gives (AV AB Ak n (.fn 91) [.string x] s) s (.int .i64 (Ce (toL x))) := by
 obtain ⟨m, rfl, _⟩ := Af (show 1 ≤ n by omega)
 refine ⟨s.new (.cells (([Py, Pz, needle, pivot]).map strOf) 9 true), ?_, (Ext.refl s).new _⟩
 rw [Ap 91 c91 rfl, f91_eq]
 have e1 : ob (fill (zeros [.string ⟨#[]⟩] 4) [(0, 1, (.string ⟨#[98, 111, 119, 108]⟩)), (1, 1, (.string ⟨#[99, 97, 112]⟩)), (2, 1, (.string ⟨#[110, 101, 101, 100, 108, 101]⟩)), (3, 1, (.string ⟨#[112, 105, 118, 111, 116]⟩))]) (fun c => some (Cc.cells c 9 true, CY 4 4)) = some (.cells (([Py, Pz, needle, pivot]).map strOf) 9 true, CY 4 4) := rfl
 rw [e1]
 exact kY (AV AB Ak m) m x _ s.nx 4 (by rw [A8.Aq, if_pos rfl]) m (by omega)
end Go.Im
set_option maxRecDepth 100000
set_option maxHeartbeats 4000000
namespace Go.Im
def JI : List UInt8 → List UInt8 → List (List UInt8) → Option (List (List UInt8))
 | [], cur, acc => if cur = [] then none else some (acc ++ [cur])
 | c :: l, cur, acc => if 33 ≤ c.toNat ∧ c.toNat ≤ 126 then JI l (cur ++ [c]) acc else if cur = [] ∨ c.toNat ≠ 32 then none else JI l [] (acc ++ [cur])
def WPost (r : Option (List (List UInt8))) (s : A8) (v : Value) (s' : A8) : Prop := match r with
 | none => v = .tuple ⟨[.slice none 0 0, .bool false]⟩
 | some W => ∃ b vv, v = .tuple ⟨[vv, .bool true]⟩ ∧ Ba s' (some b) 9 1 (W.map strOf) W.length vv ∧ s.nx ≤ b
theorem QJ (x : List UInt8) : ob (fill (zeros [.string ⟨#[]⟩] 1) [(0, 1, (.string (ofL x)))]) (fun c => some (Cc.cells c 9 true, CY 1 1)) = some (.cells [strOf x] 9 true, CY 1 1) := rfl
theorem UK {s : A8} {base : Option Nat} {cs : List Value} {len : Nat} {v : Value} (h : Ba s base 9 1 cs len v) (hlen : len < 1000000) (x : List UInt8) :
 ∃ v' s' base', EY (s.new (.cells [strOf x] 9 true)) 9 1 16 v (CY 1 1 s.nx) = some (v', s') ∧ Ba s' base' 9 1 (cs ++ [strOf x]) (len + 1) v' ∧ (base' = base ∨ base' = some (s.nx + 1)) ∧ s.nx + 1 ≤ s'.nx ∧ (∀ i, i < s.nx → base ≠ some i → s'.get i = s.get i) := by
 obtain ⟨s2, hs2⟩ : ∃ s2, s2 = s.new (.cells [strOf x] 9 true) := ⟨_, rfl⟩
 have x2 : Ext s s2 := by rw [hs2]; exact (Ext.refl s).new _
 have n2 : s2.nx = s.nx + 1 := by rw [hs2]; rfl
 have hsrc : DN s2 1 (CY 1 1 s.nx) = some [strOf x] := by
  show s2.rd s.nx 0 (Nat.mul 1 1) = _
  rw [EH (by rw [hs2, A8.Aq, if_pos rfl]) (by simp)]; rfl
 obtain ⟨v', s', b', w, hA, hb, n, g⟩ := (h.frame x2.nx fun b e => x2.get b (h.lt e)).push (by decide) (by_ := 16) (by omega) (by show len + 1 < 9223372036854775808; omega) (news := [strOf x]) rfl rfl hsrc
 refine ⟨v', s', b', by rw [← hs2]; exact w, hA, by rw [n2] at hb; exact hb, by omega, fun i hi hne => ?_⟩
 rw [g i (by omega) hne, x2.get i hi]
theorem kZ (self : Self) (N : Nat) (x : List UInt8) (hx : x.length < 1000000) (s0 : A8) : ∀ (k q f : Nat) (cur : List UInt8) (acc : List (List UInt8)) (base : Option Nat) (v4 : Value) (s : A8), x.length + 1 - q ≤ k → k < f → q ≤ x.length → cur.length ≤ q → acc.length ≤ q → Ext s0 s →
 Ba s base 9 1 (acc.map strOf) acc.length v4 → (∀ b, base = some b → s0.nx ≤ b) →
 ∃ v s', LK B86 self N f (.string (ofL x)) v4 (.string (ofL cur)) (.int .i64 (q : Int)) s = .ok (v, s') ∧ Ext s0 s' ∧ WPost (JI (x.drop q) cur acc) s0 v s' := by
 intro k
 induction k with
 | zero => intro q f cur acc base v4 s hk hf hq; omega
 | succ k ih =>
  intro q f cur acc base v4 s hk hf hq hcur hacc he hA hb
  obtain ⟨f, rfl, _⟩ := Af hf
  have hlen : (toL (ofL x)).length = x.length := rfl
  have hnl : ¬ (x.length : Int) < (q : Int) := by omega
  have eE : (toL (ByteArray.mk #[])) = [] := rfl
  obtain ⟨v', s', b', w, hA', hb', n', g'⟩ := UK hA (by omega) cur
  have hx' : Ext s0 s' := ⟨by have := he.nx; omega, fun i hi => by
   have := he.nx
   rw [g' i (by omega) (fun e => by have := hb i e; omega)]; exact he.get i hi⟩
  have hbb : ∀ b, b' = some b → s0.nx ≤ b := fun b e => by
   rcases hb' with h | h
   · exact hb b (by rw [← h]; exact e)
   · rw [h] at e; have := Option.some.inj e; have := he.nx; omega
  have hA2 : Ba s' b' 9 1 ((acc ++ [cur]).map strOf) (acc ++ [cur]).length v' := by
   rw [List.map_append, List.length_append]; exact hA'
  have hw : BK .i64 ((q : Int) + 1) = ((q + 1 : Nat) : Int) := by rw [wrap64 (by omega)]; omega
  by_cases hlt : q < x.length
  · obtain ⟨c, hc⟩ := BX hlt
    have hql : (q : Int) < (x.length : Int) := by omega
    rw [drop_at hc, JI]
    by_cases c1 : 33 ≤ c.toNat ∧ c.toNat ≤ 126
    · rw [if_pos c1]
      obtain ⟨v, s2, d, h1, h2⟩ := ih (q + 1) f (cur ++ [c]) acc base v4 s (by omega) (by omega) (by omega) (by simp; omega) (by omega) he hA hb
      refine ⟨v, s2, ?_, h1, h2⟩
      have g1 : (33 : Int) ≤ (c.toNat : Int) := by omega
      have g2 : (c.toNat : Int) ≤ 126 := by omega
      have hs : Fa (some (.int .i64 (q : Int))) (some (.int .i64 ((q + 1 : Nat) : Int))) (.string (ofL x)) = some (.string (ofL [c])) := by
       rw [VR (ofL x) .i64 .i64 (by omega) (by show q + 1 ≤ x.length; omega), CJ]
       have : (x.take (q + 1)).drop q = [c] := by
        rw [List.take_add_one, hc, List.drop_append_of_le_length (by rw [List.length_take]; omega), List.drop_eq_nil_of_le (by rw [List.length_take]; omega)]; rfl
       rw [this]
      have ha : BJ .add (.string (ofL cur)) (.string (ofL [c])) = some (.string (ofL (cur ++ [c]))) := by rw [VQ _ _ (by show cur.length + 1 ≤ _; omega)]; rfl
      rw [Js B86 rfl]
      simp only [hlen, E8, BQ, hnl, decide_false, Bool.not_false, cond_true, Jt B86 rfl, hql, decide_true, beq_self_eq_true, DZ, bind_ok, Dn, CJ, hc, Option.map_some, AP, AY, JZ, g1, D6, BU, VO, g2, AO, EJ, hw, hs, ha]
      exact d
    · rw [if_neg c1]
      have r10 : LK B86 self N (f + 1) (.string (ofL x)) v4 (.string (ofL cur)) (.int .i64 (q : Int)) s = U4 B86 self N f (.string (ofL x)) v4 (.string (ofL cur)) (.int .i64 (q : Int)) s := by
       rw [Js B86 rfl]
       by_cases g1 : (33 : Int) ≤ (c.toNat : Int)
       · have g2 : ¬ (c.toNat : Int) ≤ 126 := by omega
         simp only [hlen, E8, BQ, hnl, decide_false, Bool.not_false, cond_true, Jt B86 rfl, hql, decide_true, beq_self_eq_true, DZ, bind_ok, Dn, CJ, hc, Option.map_some, AP, AY, JZ, g1, D6, BU, VO, g2, AO, cond_false]
       · simp only [hlen, E8, BQ, hnl, decide_false, Bool.not_false, cond_true, Jt B86 rfl, hql, decide_true, beq_self_eq_true, DZ, GR, bind_ok, Dn, CJ, hc, Option.map_some, AP, AY, JZ, g1, D6, CZ, BU, show (false == true) = false from rfl, AO, cond_false]
      rw [r10]
      by_cases c2 : cur = [] ∨ c.toNat ≠ 32
      · rw [if_pos c2]
        refine ⟨_, s, ?_, he, rfl⟩
        rw [Ju B86 rfl]
        by_cases ce : cur = []
        · subst ce
          simp only [CJ, eE, G9, decide_true, show (true == false) = false from rfl, GR, bind_ok, RJ, D6, AP, AY, AO, cond_true]
        · have c32 : ¬ (c.toNat : Int) = 32 := by
           rcases c2 with h | h
           · exact (ce h).elim
           · omega
          simp only [CJ, eE, G9, ce, decide_false, beq_self_eq_true, DZ, bind_ok, Ja, AP, AY, BP, hql, decide_true, BU, Dn, hc, Option.map_some, DF, c32, Bool.not_false, D6, CZ, AO, cond_true]
      · rw [if_neg c2]
        have ce : cur ≠ [] := fun h => c2 (.inl h)
        have c32 : (c.toNat : Int) = 32 := by have : c.toNat = 32 := Classical.not_not.1 fun h => c2 (.inr h); omega
        obtain ⟨v, s2, d, h1, h2⟩ := ih (q + 1) f [] (acc ++ [cur]) b' v' s' (by omega) (by omega) (by omega) (by simp) (by simp; omega) hx' hA2 hbb
        refine ⟨v, s2, ?_, h1, h2⟩
        rw [Ju B86 rfl]
        simp only [CJ, eE, G9, ce, decide_false, beq_self_eq_true, DZ, bind_ok, Ja, AP, AY, BP, hql, decide_true, BU, Dn, hc, Option.map_some, DF, c32, Bool.not_true, D6, CZ, AO, cond_false, SH B86 rfl, QJ, w, Ae, EJ, hw]
        exact d
  · have hql : ¬ (q : Int) < (x.length : Int) := by omega
    obtain rfl : q = x.length := by omega
    rw [List.drop_eq_nil_of_le (Nat.le_refl _), JI]
    have r10 : LK B86 self N (f + 1) (.string (ofL x)) v4 (.string (ofL cur)) (.int .i64 (x.length : Int)) s = U4 B86 self N f (.string (ofL x)) v4 (.string (ofL cur)) (.int .i64 (x.length : Int)) s := by
     rw [Js B86 rfl]
     simp only [hlen, E8, BQ, hnl, decide_false, Bool.not_false, cond_true, Jt B86 rfl, show (false == true) = false from rfl, GR, bind_ok, AP, AY, CZ, BU, AO, cond_false]
    rw [r10]
    by_cases ce : cur = []
    · rw [if_pos ce]
      refine ⟨_, s, ?_, he, rfl⟩
      subst ce
      rw [Ju B86 rfl]
      simp only [CJ, eE, G9, decide_true, show (true == false) = false from rfl, GR, bind_ok, RJ, D6, AP, AY, AO, cond_true]
    · rw [if_neg ce]
      obtain ⟨f, rfl⟩ : ∃ m, f = m + 1 := ⟨f - 1, by omega⟩
      refine ⟨.tuple ⟨[v', .bool true]⟩, s', ?_, hx', ?_⟩
      · rw [Ju B86 rfl]
        have hgt : (x.length : Int) < ((x.length + 1 : Nat) : Int) := by omega
        simp only [CJ, eE, G9, ce, decide_false, beq_self_eq_true, DZ, GR, bind_ok, Ja, AP, AY, BP, hql, BU, show (false == true) = false from rfl, D6, CZ, AO, cond_false, SH B86 rfl, QJ, w, Ae, EJ, hw, Js B86 rfl, E8, BQ, hgt, decide_true, Bool.not_true]
      · rcases hb' with h | h
        · cases hbs : base with
          | none =>
           rw [h, hbs] at hA2
           obtain ⟨_, h0, _⟩ := hA2
           simp at h0
          | some b => rw [h, hbs] at hA2; exact ⟨b, v', rfl, hA2, hb b hbs⟩
        · rw [h] at hA2; exact ⟨s.nx + 1, v', rfl, hA2, by have := he.nx; omega⟩
theorem k86 (n : Nat) (x : List UInt8) (hx : x.length < 1000000) (hn : x.length + 4 ≤ n) (s : A8) : ∃ v s', AV AB Ak n (.fn 86) [.string (ofL x)] s = .ok (v, s') ∧ Ext s s' ∧ WPost (JI x [] []) s v s' := by
 obtain ⟨m, rfl, _⟩ := Af (show 1 ≤ n by omega)
 rw [Ap 86 c86 rfl, f86_eq]
 exact kZ (AV AB Ak m) m x hx s (x.length + 1) 0 m [] [] none _ s (by omega) (by omega) (by omega) (by simp) (by simp) (.refl s) ⟨rfl, rfl, rfl⟩ (by simp)
end Go.Im
set_option maxRecDepth 100000
set_option maxHeartbeats 4000000
namespace Go.Im
def FY : List UInt8 → Int → Option Int
 | [], n => some n
 | c :: l, n => if c.toNat < 48 ∨ 57 < c.toNat then none else FY l (if n < 1000000 then 10 * n + ((c.toNat : Int) - 48) else n)
def Fp (digits : List UInt8) (sign : Int) : Option Int := if digits = [] ∨ digits[0]? = some 48 then none else (FY digits 0).map (sign * ·)
def D8 (x : List UInt8) : Option Int :=
 if x = [48] then some 0 else match x with
 | 45 :: d => Fp d (-1)
 | _ => Fp x 1
def Vj : Option Int → Value
 | none => .tuple ⟨[.int .i64 0, .bool false]⟩
 | some n => .tuple ⟨[.int .i64 n, .bool true]⟩
theorem ku (self : Self) (N : Nat) (x : List UInt8) (hx : x.length < 1000000) (sg : Int) (hsg : sg = 1 ∨ sg = -1) (s : A8) : ∀ (k q f : Nat) (v : Int), x.length - q ≤ k → k < f → q ≤ x.length → 0 ≤ v ∧ v < 10000010 →
 NH B80 self N f (.int .i64 sg) (.string (ofL x)) (.int .i64 v) (.int .i64 (q : Int)) s = .ok (Vj ((FY (x.drop q) v).map (sg * ·)), s) := by
 intro k
 have fin : ∀ (q f : Nat) (v : Int), x.length ≤ q → 0 ≤ v ∧ v < 10000010 → NH B80 self N (f + 1) (.int .i64 sg) (.string (ofL x)) (.int .i64 v) (.int .i64 (q : Int)) s = .ok (Vj ((FY (x.drop q) v).map (sg * ·)), s) := by
  intro q f v hq hv
  have h0 : ¬ (q : Int) < (x.length : Int) := by omega
  have hlen : (toL (ofL x)).length = x.length := rfl
  have hw : BK .i64 (sg * v) = sg * v := wrap64 (by rcases hsg with rfl | rfl <;> omega)
  rw [SB B80 rfl, List.drop_eq_nil_of_le hq]
  simp only [E8, hlen, BQ, h0, decide_false, cond_false, Zp B80 rfl, imul, hw]
  rfl
 induction k with
 | zero =>
  intro q f v hk hf hq hv
  obtain ⟨f, rfl, _⟩ := Af hf
  exact fin q f v (by omega) hv
 | succ k ih =>
  intro q f v hk hf hq hv
  obtain ⟨f, rfl, _⟩ := Af hf
  by_cases hlt : q < x.length
  · obtain ⟨c, hc⟩ := BX hlt
    have h0 : (q : Int) < (x.length : Int) := by omega
    have hlen : (toL (ofL x)).length = x.length := rfl
    have hw : BK .i64 ((q : Int) + 1) = ((q + 1 : Nat) : Int) := by rw [wrap64 (by omega)]; omega
    have hu := c.toNat_lt
    rw [SB B80 rfl, drop_at hc, FY]
    by_cases c1 : c.toNat < 48 ∨ 57 < c.toNat
    · rw [if_pos c1]
      by_cases g1 : (c.toNat : Int) < 48
      · simp only [E8, hlen, BQ, h0, decide_true, cond_true, Jr B80 rfl, Dn, CJ, hc, Option.map_some, AP, AY, bind_ok, BP, g1, BU, show (true == false) = false from rfl, GR, D6, AO]; rfl
      · have g2 : (57 : Int) < (c.toNat : Int) := by omega
        simp only [E8, hlen, BQ, h0, decide_true, cond_true, Jr B80 rfl, Dn, CJ, hc, Option.map_some, AP, AY, bind_ok, BP, g1, decide_false, BU, beq_self_eq_true, DZ, Dh, g2, CZ, AO]; rfl
    · rw [if_neg c1]
      have g1 : ¬ (c.toNat : Int) < 48 := by omega
      have g2 : ¬ (57 : Int) < (c.toNat : Int) := by omega
      by_cases cv : v < 1000000
      · rw [if_pos cv]
        have e1 := ih (q + 1) f (10 * v + ((c.toNat : Int) - 48)) (by omega) (by omega) (by omega) (by omega)
        have w1 : BK .u8 ((c.toNat : Int) - 48) = (c.toNat : Int) - 48 := by
         rw [GL, wrap_u8]; omega
        have w2 : BK .i64 ((c.toNat : Int) - 48) = (c.toNat : Int) - 48 := wrap64 (by omega)
        have w3 : BK .i64 (10 * v) = 10 * v := wrap64 (by omega)
        have w4 : BK .i64 (10 * v + ((c.toNat : Int) - 48)) = 10 * v + ((c.toNat : Int) - 48) := wrap64 (by omega)
        simp only [E8, hlen, BQ, h0, decide_true, cond_true, Jr B80 rfl, Dn, CJ, hc, Option.map_some, AP, AY, bind_ok, BP, g1, decide_false, BU, beq_self_eq_true, DZ, Dh, g2, CZ, AO, cond_false, SC B80 rfl, cv, VP, w1, Z7, w2, imul, w3, PS, w4, EJ, hw, e1]
      · rw [if_neg cv]
        have e1 := ih (q + 1) f v (by omega) (by omega) (by omega) hv
        simp only [E8, hlen, BQ, h0, decide_true, cond_true, Jr B80 rfl, Dn, CJ, hc, Option.map_some, AP, AY, bind_ok, BP, g1, decide_false, BU, beq_self_eq_true, DZ, Dh, g2, CZ, AO, cond_false, SC B80 rfl, cv, EJ, hw, e1]
  · exact fin q f v (by omega) hv
theorem Xb (self : Self) (N : Nat) (d : List UInt8) (hx : d.length < 1000000) (hN : d.length + 1 ≤ N) (sg : Int) (hsg : sg = 1 ∨ sg = -1) (s : A8) : XE B80 self N (.int .i64 sg) (.string (ofL d)) s = .ok (Vj (Fp d sg), s) := by
 rw [Zn B80 rfl]
 unfold Fp
 cases d with
 | nil => rw [if_pos (.inl rfl)]; rfl
 | cons c l =>
  have hlen : (toL (ofL (c :: l))).length = l.length + 1 := rfl
  have n0 : ¬ ((l.length + 1 : Nat) : Int) = 0 := by omega
  have i0 : (toL (ofL (c :: l)))[0]? = some c := rfl
  by_cases c48 : c = 48
  · subst c48
    rw [if_pos (.inr rfl)]
    simp only [E8, hlen, FN, n0, decide_false, beq_self_eq_true, DZ, bind_ok, Gx, i0, Option.map_some, AP, AY, DR, CZ, AO]
    rfl
  · have h : ¬ (c :: l = [] ∨ (c :: l)[0]? = some 48) := by
     intro h
     rcases h with h | h
     · cases h
     · exact c48 (Option.some.inj h)
    have g : ¬ (c.toNat : Int) = 48 := fun h => c48 (UInt8.toNat_inj.1 (show c.toNat = 48 by omega))
    have e1 := ku self N (c :: l) hx sg hsg s (l.length + 1) 0 N 0 (by simp) (by simp at hN; omega) (by omega) (by omega)
    rw [List.drop_zero] at e1
    rw [if_neg h]
    simp only [E8, hlen, FN, n0, decide_false, beq_self_eq_true, DZ, bind_ok, Gx, i0, Option.map_some, AP, AY, DR, g, CZ, AO, cond_false, Zo B80 rfl]
    exact e1
theorem k80 (n : Nat) (x : List UInt8) (hx : x.length < 1000000) (hn : x.length + 3 ≤ n) (s : A8) : AV AB Ak n (.fn 80) [.string (ofL x)] s = .ok (Vj (D8 x), s) := by
 obtain ⟨m, rfl, _⟩ := Af (show 1 ≤ n by omega)
 rw [Ap 80 c80 rfl, f80_eq]
 have e48 : toL (ByteArray.mk #[48]) = [48] := rfl
 cases x with
 | nil =>
  have h1 := Xb (AV AB Ak m) m [] (by simp) (by simp; omega) 1 (.inl rfl) s
  have hr : D8 [] = Fp [] 1 := rfl
  rw [hr]
  simp [Jq B80 rfl, e48, h1]
 | cons c l =>
  have hlen : (c :: l).length = l.length + 1 := rfl
  have h0 : (0 : Int) < ((l.length + 1 : Nat) : Int) := by omega
  have i0 : (c :: l)[0]? = some c := rfl
  simp only [List.length_cons] at hx hn
  by_cases c45 : c = 45
  · subst c45
    have h1 := Xb (AV AB Ak m) m l (by omega) (by omega) (-1) (.inr rfl) s
    have hs : Fa (some (.int .i64 1)) none (.string (ofL (45 :: l))) = some (.string (ofL l)) := by
     have := Nv (ofL (45 :: l)) .i64 (i := 1) (by show 1 ≤ l.length + 1; omega)
     exact this
    have hr : D8 (45 :: l) = Fp l (-1) := by
     unfold D8
     rw [if_neg (by intro h; cases h)]
     split
     · rename_i d h; injection h with _ h; rw [h]
     · rename_i h; exact (h l rfl).elim
    have e0 : decide ((45 : UInt8) :: l = [48]) = false := by apply decide_eq_false; intro h; cases h
    have e45 : decide (((45 : UInt8).toNat : Int) = 45) = true := rfl
    rw [hr]
    simp only [E8, hlen, BQ, h0, decide_true, beq_self_eq_true, DZ, bind_ok, Gx, i0, Option.map_some, AP, AY, DR, e45, D6, AO, cond_true, Bc, hs, CO, Jq B80 rfl, CJ, e48, G9, e0, cond_false, h1]
  · have g : ¬ (c.toNat : Int) = 45 := fun h => c45 (UInt8.toNat_inj.1 (show c.toNat = 45 by omega))
    have h1 := Xb (AV AB Ak m) m (c :: l) (by simp; omega) (by simp; omega) 1 (.inl rfl) s
    by_cases c48 : (c :: l) = [48]
    · have hr : D8 (c :: l) = some 0 := by unfold D8; rw [if_pos c48]
      rw [hr]
      simp only [E8, hlen, BQ, h0, decide_true, beq_self_eq_true, DZ, bind_ok, Gx, i0, Option.map_some, AP, AY, DR, g, decide_false, D6, AO, cond_false, Jq B80 rfl, CJ, e48, G9, c48]
      rfl
    · have hr : D8 (c :: l) = Fp (c :: l) 1 := by
       unfold D8
       rw [if_neg c48]
       split
       · rename_i d h; injection h with h _; exact (c45 h).elim
       · rfl
      rw [hr]
      simp only [E8, hlen, BQ, h0, decide_true, beq_self_eq_true, DZ, bind_ok, Gx, i0, Option.map_some, AP, AY, DR, g, decide_false, D6, AO, cond_false, Jq B80 rfl, CJ, e48, G9, c48, h1]
end Go.Im
set_option maxRecDepth 100000
set_option maxHeartbeats 4000000
namespace Go.Im
structure FC where
 what : List UInt8
 names : List (List UInt8)
 kind : Int
 heading : Int
 by_ : Int
def Dk : List Value := [.string ⟨#[]⟩, .slice none 0 0, .int .i64 0, .int .i64 0, .int .i64 0]
def QK (o : FC) : Except Int FC := if (0 ≤ o.heading ∧ o.heading ≤ 7) ∧ (-300 ≤ o.by_ ∧ o.by_ ≤ 300) then .ok o else .error 1
def st9 (W : List (List UInt8)) (cnt : Nat) (o : FC) : Except Int FC :=
 if wd W 0 = Ci ∨ wd W 0 = Cj then (if Ce (wd W (cnt - 1)) < 0 then .error 10 else QK { o with kind := Ce (wd W (cnt - 1)) }) else QK o
def st6 (W : List (List UInt8)) (cnt : Nat) : Nat → Nat → FC → Except Int FC
 | 0, _, o => st9 W cnt o
 | k + 1, i, o => if nameB (wd W i) then st6 W cnt k (i + 1) { o with names := o.names ++ [wd W i] } else .error 8
def st4 (W : List (List UInt8)) (cnt nm : Nat) (o : FC) : Except Int FC :=
 if wd W 0 = CW then match D8 (wd W 2) with
  | some h => match D8 (wd W 3) with
   | some d => st6 W cnt nm 1 { o with heading := h, by_ := d }
   | none => .error 9
  | none => .error 9
 else st6 W cnt nm 1 o
def st3 (W : List (List UInt8)) (cnt nm : Nat) (o : FC) : Except Int FC := if W.length ≠ cnt then .error 9 else st4 W cnt nm o
def st2 (W : List (List UInt8)) : Except Int FC :=
 let o : FC := ⟨wd W 0, [], 0, 0, 0⟩
 if wd W 0 = Dq then st3 W 2 1 o else if wd W 0 = Ci then st3 W 4 2 o else if wd W 0 = CW then st3 W 4 1 o else if wd W 0 = Cj then st3 W 3 1 o else if wd W 0 = Di then st3 W 1 0 o else .error 10
def FZ (x : List UInt8) : Except Int FC := if 60 < x.length then .error 20 else match JI x [] [] with
 | none => .error 9
 | some W => st2 W
def JC (r : Except Int FC) (s0 : A8) (v : Value) (s' : A8) : Prop := match r with
 | .error e => v = .tuple ⟨[.agg ⟨Dk⟩, .int .i64 e]⟩ ∧ e ≠ 0
 | .ok o => ∃ nb nv, v = .tuple ⟨[.agg ⟨[strOf o.what, nv, .int .i64 o.kind, .int .i64 o.heading, .int .i64 o.by_]⟩, .int .i64 0]⟩ ∧ Ba s' nb 9 1 (o.names.map strOf) o.names.length nv ∧ (∀ b, nb = some b → s0.nx ≤ b)
def JC.fin (r : Except Int FC) (s0 : A8) (x : R (Value × A8)) : Prop := ∃ v s', x = .ok (v, s') ∧ Ext s0 s' ∧ JC r s0 v s'
structure RX (s0 s : A8) (r p wb : Nat) (W : List (List UInt8)) (vv : Value) (o : FC) (nb : Option Nat) (nv : Value) : Prop where
 ext : Ext s0 s
 rn : s0.nx ≤ r
 pn : s0.nx ≤ p
 wn : s0.nx ≤ wb
 nn : ∀ b, nb = some b → s0.nx ≤ b
 rl : r < s.nx
 pl : p < s.nx
 rp : r ≠ p
 rw : r ≠ wb
 pw : p ≠ wb
 rnb : nb ≠ some r
 pnb : nb ≠ some p
 wnb : nb ≠ some wb
 hr : ∃ c, s.get r = some (.cells c 107 true) ∧ c.length = 5
 hp : s.get p = some (.cells [strOf o.what, nv, .int .i64 o.kind, .int .i64 o.heading, .int .i64 o.by_] 107 true)
 hw : Ba s (some wb) 9 1 (W.map strOf) W.length vv
 hn : Ba s nb 9 1 (o.names.map strOf) o.names.length nv
section
variable {s0 s : A8} {r p wb : Nat} {W : List (List UInt8)} {vv nv : Value} {o : FC} {nb : Option Nat}
theorem RX.step (h : RX s0 s r p wb W vv o nb nv) {s' : A8} (x : Ext s s') : RX s0 s' r p wb W vv o nb nv :=
 { h with
  ext := h.ext.trans x
  rl := Nat.lt_of_lt_of_le h.rl x.nx
  pl := Nat.lt_of_lt_of_le h.pl x.nx
  hr := by obtain ⟨c, h1, h2⟩ := h.hr; exact ⟨c, (x.get r h.rl).trans h1, h2⟩
  hp := (x.get p h.pl).trans h.hp
  hw := h.hw.frame x.nx fun b e => x.get b (h.hw.lt e)
  hn := h.hn.frame x.nx fun b e => x.get b (h.hn.lt e) }
theorem RX.ret (h : RX s0 s r p wb W vv o nb nv) (vs : List Value) (hl : vs.length = 5) (hs : Bd vs = true) : ∃ s', wSt s 5 (.agg ⟨vs⟩) (.pointer (some ⟨r, 0, none⟩)) = some (BO, s') ∧ CQ s' 5 (.pointer (some ⟨r, 0, none⟩)) = some (.agg ⟨vs⟩) ∧ Ext s0 s' ∧ RX s0 s' r p wb W vv o nb nv := by
 obtain ⟨c, h1, h2⟩ := h.hr
 have e : cellsOf (.agg ⟨vs⟩) = vs := rfl
 refine ⟨_, Dv h1 (by rw [e]; exact hl) (by rw [e]; exact hs) (by omega), ?_, ?_⟩
 · refine Dw ?_
   rw [EH (by rw [A8.get_put, if_pos rfl]) (by simp [e, hl])]
   simp [e, h2, hl]
 · have hx : Ext s0 (s.put r (.cells (c.take 0 ++ (cellsOf (.agg ⟨vs⟩) ++ c.drop (0 + 5))) 107 true)) := ⟨h.ext.nx, fun i hi => by rw [A8.get_put, if_neg (by have := h.rn; omega)]; exact h.ext.get i hi⟩
   have hg : ∀ i, i ≠ r → (s.put r (.cells (c.take 0 ++ (cellsOf (.agg ⟨vs⟩) ++ c.drop (0 + 5))) 107 true)).get i = s.get i := fun i hi => by rw [A8.get_put, if_neg hi]
   refine ⟨hx, { h with ext := hx, hr := ⟨_, by rw [A8.get_put, if_pos rfl], by simp [e, h2, hl]⟩, hp := (hg p (Ne.symm h.rp)).trans h.hp, hw := h.hw.frame (Nat.le_refl _) fun b eb => hg b (by rw [← Option.some.inj eb]; exact Ne.symm h.rw), hn := h.hn.frame (Nat.le_refl _) fun b eb => hg b (fun e' => h.rnb (by rw [eb, e'])) }⟩
theorem RX.err (h : RX s0 s r p wb W vv o nb nv) (e : Int) (he : e ≠ 0) : JC.fin (.error e) s0 (R.bind (BD 11 (wSt s 5 (.agg ⟨Dk⟩) (.pointer (some ⟨r, 0, none⟩)))) fun r8 => (obR 33 (ob (CQ r8.2 5 (.pointer (some ⟨r, 0, none⟩))) fun x0 => ob (some (.int .i64 e)) fun x1 => some [x0, x1]) fun vs => .ok (CS vs, r8.2))) := by
 obtain ⟨s', w, l, x, _⟩ := h.ret Dk rfl rfl
 exact ⟨_, s', by rw [w]; simp only [Ae, bind_ok, l]; rfl, x, rfl, he⟩
theorem EI : ob (fill [.string ⟨#[]⟩, .slice none 0 0, .int .i64 0, .int .i64 0, .int .i64 0] []) (fun c => some (Value.agg ⟨c⟩)) = some (.agg ⟨Dk⟩) := rfl
theorem RX.p3 (h : RX s0 s r p wb W vv o nb nv) : s.rd1 p 3 = some (.int .i64 o.heading) := by rw [Ah h.hp]; rfl
theorem RX.p4 (h : RX s0 s r p wb W vv o nb nv) : s.rd1 p 4 = some (.int .i64 o.by_) := by rw [Ah h.hp]; rfl
theorem YX (n N : Nat) (hn : 5 ≤ n) (h : RX s0 s r p wb W vv o nb nv) : JC.fin (QK o) s0 (OJ B55 (AV AB Ak n) N (.pointer (some ⟨r, 0, none⟩)) (.pointer (some ⟨p, 0, none⟩)) s) := by
 rw [XA B55 rfl]
 unfold QK
 have q := h.err 1 (by decide)
 by_cases c1 : 0 ≤ o.heading ∧ o.heading ≤ 7
 · by_cases c2 : -300 ≤ o.by_ ∧ o.by_ ≤ 300
   · rw [if_pos ⟨c1, c2⟩]
     have hs : Bd [strOf o.what, nv, .int .i64 o.kind, .int .i64 o.heading, .int .i64 o.by_] = true := by
      have := h.hn.simple
      exact DX (by intro v hv; simp only [List.mem_cons, List.not_mem_nil, or_false] at hv; rcases hv with rfl | rfl | rfl | rfl | rfl <;> first | rfl | exact this)
     obtain ⟨s', w, l, x, h'⟩ := h.ret [strOf o.what, nv, .int .i64 o.kind, .int .i64 o.heading, .int .i64 o.by_] rfl hs
     have rp : CQ s 5 (.pointer (some ⟨p, 0, none⟩)) = some (.agg ⟨[strOf o.what, nv, .int .i64 o.kind, .int .i64 o.heading, .int .i64 o.by_]⟩) := by
      refine Dw ?_
      rw [EH h.hp (by simp)]; rfl
     refine ⟨.tuple ⟨[.agg ⟨[strOf o.what, nv, .int .i64 o.kind, .int .i64 o.heading, .int .i64 o.by_]⟩, .int .i64 0]⟩, s', ?_, x, nb, nv, rfl, h'.hn, h.nn⟩
     simp only [Am, AP, AY, bind_ok, BN, Nat.zero_add, h.p3, k58 n (by omega), decide_eq_true c1, DW, Bool.not_true, BU, beq_self_eq_true, DZ, h.p4, decide_eq_true c2, CZ, AO, cond_false, rp, w, Ae, l]
     rfl
   · rw [if_neg (fun hh => c2 hh.2)]
     simp only [Am, AP, AY, bind_ok, BN, Nat.zero_add, h.p3, k58 n (by omega), decide_eq_true c1, DW, Bool.not_true, BU, beq_self_eq_true, DZ, h.p4, decide_eq_false c2, CZ, Bool.not_false, AO, cond_true, EI]
     exact q
 · rw [if_neg (fun hh => c1 hh.1)]
   simp only [Am, AP, AY, bind_ok, BN, Nat.zero_add, h.p3, k58 n (by omega), decide_eq_false c1, DW, Bool.not_false, BU, show (true == false) = false from rfl, GR, D6, AO, cond_true, EI]
   exact q
end
end Go.Im
set_option maxRecDepth 100000
set_option maxHeartbeats 4000000
namespace Go.Im
section
variable {s0 s : A8} {r p wb : Nat} {W : List (List UInt8)} {vv nv : Value} {o : FC} {nb : Option Nat}
theorem RX.word (h : RX s0 s r p wb W vv o nb nv) (i : Nat) (hi : i < W.length) : Az 1 vv (.int .i64 (i : Int)) = some (.pointer (some ⟨wb, i, none⟩)) ∧ s.rd1 wb i = some (strOf (wd W i)) := by
 obtain ⟨b, e, ia⟩ := h.hw.iad i hi .i64
 obtain rfl := Option.some.inj e
 rw [Nat.mul_one] at ia
 obtain ⟨x, hx⟩ := BX hi
 have hd : wd W i = x := by unfold wd; rw [List.getD_eq_getElem?_getD, hx]; rfl
 obtain ⟨b', e', g⟩ := h.hw.get (i := i) (x := strOf x) (by rw [List.getElem?_map, hx]; rfl)
 obtain rfl := Option.some.inj e'
 exact ⟨ia, by rw [hd]; exact g⟩
theorem RX.l7 (h : RX s0 s r p wb W vv o nb nv) (i : Nat) (hi : i < 5) (v : Value) (hv : simple v = true) (o' : FC) (nb' : Option Nat) (nv' : Value)
 (hc : [strOf o.what, nv, .int .i64 o.kind, .int .i64 o.heading, .int .i64 o.by_].set i v = [strOf o'.what, nv', .int .i64 o'.kind, .int .i64 o'.heading, .int .i64 o'.by_])
 (hA : Ba s nb' 9 1 (o'.names.map strOf) o'.names.length nv') (nn : ∀ b, nb' = some b → s0.nx ≤ b) (rnb : nb' ≠ some r) (pnb : nb' ≠ some p) (wnb : nb' ≠ some wb) :
 ∃ s', wSt s 1 v (.pointer (some ⟨p, i, none⟩)) = some (BO, s') ∧ RX s0 s' r p wb W vv o' nb' nv' ∧ s'.nx = s.nx := by
 have hg : ∀ j, j ≠ p → (s.put p (.cells ([strOf o.what, nv, .int .i64 o.kind, .int .i64 o.heading, .int .i64 o.by_].set i v) 107 true)).get j = s.get j := fun j hj => by rw [A8.get_put, if_neg hj]
 refine ⟨_, KG h.hp hv (by simpa using hi), { h with ext := ⟨h.ext.nx, fun j hj => ?_⟩, hr := ?_, hp := ?_, hw := ?_, hn := ?_, nn := nn, rnb := rnb, pnb := pnb, wnb := wnb }, rfl⟩
 · rw [hg j (by have := h.pn; omega)]; exact h.ext.get j hj
 · obtain ⟨c, h1, h2⟩ := h.hr; exact ⟨c, (hg r h.rp).trans h1, h2⟩
 · rw [A8.get_put, if_pos rfl, hc]
 · exact h.hw.frame (Nat.le_refl _) fun b eb => hg b (by rw [← Option.some.inj eb]; exact Ne.symm h.pw)
 · exact hA.frame (Nat.le_refl _) fun b eb => hg b (fun e' => pnb (by rw [eb, e']))
theorem RX.wK (h : RX s0 s r p wb W vv o nb nv) (x : Int) : ∃ s', wSt s 1 (.int .i64 x) (.pointer (some ⟨p, 2, none⟩)) = some (BO, s') ∧ RX s0 s' r p wb W vv { o with kind := x } nb nv ∧ s'.nx = s.nx := h.l7 2 (by decide) _ rfl { o with kind := x } nb nv rfl h.hn h.nn h.rnb h.pnb h.wnb
theorem RX.wH (h : RX s0 s r p wb W vv o nb nv) (x : Int) : ∃ s', wSt s 1 (.int .i64 x) (.pointer (some ⟨p, 3, none⟩)) = some (BO, s') ∧ RX s0 s' r p wb W vv { o with heading := x } nb nv ∧ s'.nx = s.nx := h.l7 3 (by decide) _ rfl { o with heading := x } nb nv rfl h.hn h.nn h.rnb h.pnb h.wnb
theorem RX.wD (h : RX s0 s r p wb W vv o nb nv) (x : Int) : ∃ s', wSt s 1 (.int .i64 x) (.pointer (some ⟨p, 4, none⟩)) = some (BO, s') ∧ RX s0 s' r p wb W vv { o with by_ := x } nb nv ∧ s'.nx = s.nx := h.l7 4 (by decide) _ rfl { o with by_ := x } nb nv rfl h.hn h.nn h.rnb h.pnb h.wnb
theorem eqW (l m : List UInt8) (x : ByteArray) (h : toL x = m) : BJ .eql (strOf l) (.string x) = some (.bool (decide (l = m))) := by unfold strOf; rw [Ey, h]; rfl
theorem RX.p2 (h : RX s0 s r p wb W vv o nb nv) : s.rd1 p 2 = some (.int .i64 o.kind) := by rw [Ah h.hp]; rfl
theorem k55_J9 (n N : Nat) (hn : 8 ≤ n) (h : RX s0 s r p wb W vv o nb nv) (cnt : Nat) (hc : W.length = cnt) (h1 : 1 ≤ cnt) (hc9 : cnt < 10) : JC.fin (st9 W cnt o) s0 (X9 B55 (AV AB Ak n) N (.pointer (some ⟨r, 0, none⟩)) vv (.pointer (some ⟨p, 0, none⟩)) (.int .i64 (cnt : Int)) s) := by
 rw [Zh B55 rfl]
 obtain ⟨i0, g0⟩ := h.word 0 (by omega)
 have i0 : Az 1 vv (.int .i64 0) = some (.pointer (some ⟨wb, 0, none⟩)) := i0
 have q1 := eqW (wd W 0) Ci ⟨#[115, 119, 97, 112]⟩ rfl
 have q2 := eqW (wd W 0) Cj ⟨#[109, 101, 110, 100]⟩ rfl
 obtain ⟨ic, gc⟩ := h.word (cnt - 1) (by omega)
 have hw : BK .i64 ((cnt : Int) - 1) = ((cnt - 1 : Nat) : Int) := by rw [wrap64 (by omega)]; omega
 obtain ⟨s1, d1, x1⟩ := k91 n (by omega) (ofL (wd W (cnt - 1))) s
 rw [CJ] at d1
 have d1 : AV AB Ak n (.fn 91) [strOf (wd W (cnt - 1))] s = .ok (.int .i64 (Ce (wd W (cnt - 1))), s1) := d1
 obtain ⟨s2, w2, h2, _⟩ := (h.step x1).wK (Ce (wd W (cnt - 1)))
 have r2 := h2.p2
 have e1 := h2.err 10 (by decide)
 have e3 := YX n N (by omega) h2
 have e2 := YX n N (by omega) h
 unfold st9
 by_cases c1 : wd W 0 = Ci
 · rw [if_pos (.inl c1)]
   by_cases c : Ce (wd W (cnt - 1)) < 0
   · rw [if_pos c]
     simp only [i0, AP, AY, bind_ok, BN, g0, q1, decide_eq_true c1, BU, show (true == false) = false from rfl, GR, D6, AO, cond_true, Qb, hw, ic, gc, d1, Am, Nat.zero_add, w2, Ae, r2, BP, decide_eq_true c, EI]
     exact e1
   · rw [if_neg c]
     simp only [i0, AP, AY, bind_ok, BN, g0, q1, decide_eq_true c1, BU, show (true == false) = false from rfl, GR, D6, AO, cond_true, Qb, hw, ic, gc, d1, Am, Nat.zero_add, w2, Ae, r2, BP, decide_eq_false c, cond_false]
     exact e3
 · by_cases c2 : wd W 0 = Cj
   · rw [if_pos (.inr c2)]
     by_cases c : Ce (wd W (cnt - 1)) < 0
     · rw [if_pos c]
       simp only [i0, AP, AY, bind_ok, BN, g0, q1, q2, decide_eq_false c1, decide_eq_true c2, BU, beq_self_eq_true, DZ, CZ, AO, cond_true, Qb, hw, ic, gc, d1, Am, Nat.zero_add, w2, Ae, r2, BP, decide_eq_true c, EI]
       exact e1
     · rw [if_neg c]
       simp only [i0, AP, AY, bind_ok, BN, g0, q1, q2, decide_eq_false c1, decide_eq_true c2, BU, beq_self_eq_true, DZ, CZ, AO, cond_true, Qb, hw, ic, gc, d1, Am, Nat.zero_add, w2, Ae, r2, BP, decide_eq_false c, cond_false]
       exact e3
   · rw [if_neg (fun hh => by rcases hh with hh | hh; exact c1 hh; exact c2 hh)]
     simp only [i0, AP, AY, bind_ok, BN, g0, q1, q2, decide_eq_false c1, decide_eq_false c2, BU, beq_self_eq_true, DZ, CZ, AO, cond_false]
     exact e2
theorem RX.p1 (h : RX s0 s r p wb W vv o nb nv) : s.rd1 p 1 = some nv := by rw [Ah h.hp]; rfl
theorem k55_J8 (self : Self) (N f : Nat) (h : RX s0 s r p wb W vv o nb nv) (cnt nm : Int) (i : Nat) (hi : i < W.length) (hi9 : i < 100) (ho : o.names.length < 100) : ∃ s' nb' nv', RX s0 s' r p wb W vv { o with names := o.names ++ [wd W i] } nb' nv' ∧
 X8 B55 self N f (.pointer (some ⟨r, 0, none⟩)) vv (.pointer (some ⟨p, 0, none⟩)) (.int .i64 cnt) (.int .i64 nm) (.int .i64 (i : Int)) s = PX B55 self N f (.pointer (some ⟨r, 0, none⟩)) vv (.pointer (some ⟨p, 0, none⟩)) (.int .i64 cnt) (.int .i64 nm) (.int .i64 ((i + 1 : Nat) : Int)) s' := by
 obtain ⟨ii, gi⟩ := h.word i hi
 obtain ⟨v', s1, b', w, hA, hb, n1, g1⟩ := UK h.hn (by omega) (wd W i)
 have hxn := h.ext.nx
 have hl := h.rl
 have hpl := h.pl
 have hwl := h.hw.lt rfl
 have gg : ∀ j, j < s.nx → nb ≠ some j → s1.get j = s.get j := g1
 have nn' : ∀ b, b' = some b → s0.nx ≤ b := fun b e => by
  rcases hb with e1 | e1
  · exact h.nn b (by rw [← e1]; exact e)
  · rw [e1] at e; have := Option.some.inj e; omega
 have ne' : ∀ j, j < s.nx → nb ≠ some j → b' ≠ some j := fun j hj hne e => by
  rcases hb with e1 | e1
  · exact hne (by rw [← e1]; exact e)
  · rw [e1] at e; have := Option.some.inj e; omega
 have h1 : RX s0 s1 r p wb W vv { o with names := o.names } nb nv → True := fun _ => trivial
 have hp1 : s1.get p = _ := (gg p hpl h.pnb).trans h.hp
 have w3 := KG (s := s1) hp1 (o := 1) (v := v') hA.simple (by simp)
 obtain ⟨s2, hs2⟩ : ∃ s2, s2 = s1.put p (.cells ([strOf o.what, nv, .int .i64 o.kind, .int .i64 o.heading, .int .i64 o.by_].set 1 v') 107 true) := ⟨_, rfl⟩
 rw [← hs2] at w3
 have n2 : s2.nx = s1.nx := by rw [hs2]; rfl
 have g2 : ∀ j, j ≠ p → s2.get j = s1.get j := fun j hj => by rw [hs2, A8.get_put, if_neg hj]
 refine ⟨s2, b', v', ⟨⟨by omega, fun j hj => ?_⟩, h.rn, h.pn, h.wn, nn', by omega, by omega, h.rp, h.rw, h.pw, ne' r hl h.rnb, ne' p hpl h.pnb, ne' wb hwl h.wnb, ?_, ?_, ?_, ?_⟩, ?_⟩
 · rw [g2 j (by have := h.pn; omega), gg j (by omega) (fun e => by have := h.nn j e; omega)]; exact h.ext.get j hj
 · obtain ⟨c, e1, e2⟩ := h.hr
   exact ⟨c, by rw [g2 r h.rp, gg r hl h.rnb]; exact e1, e2⟩
 · rw [hs2, A8.get_put, if_pos rfl]; rfl
 · exact h.hw.frame (by omega) fun b e => by rw [← Option.some.inj e, g2 wb (Ne.symm h.pw), gg wb hwl h.wnb]
 · have := hA.frame (s' := s2) (by omega) fun b e => g2 b (fun e' => ne' p hpl h.pnb (by rw [e, e']))
   rw [List.map_append, List.length_append]
   exact this
 · have r1 := h.p1
   have hw : BK .i64 ((i : Int) + 1) = ((i + 1 : Nat) : Int) := by rw [wrap64 (by omega)]; omega
   have e4 : ob (fill (zeros [.string ⟨#[]⟩] 1) [(0, 1, strOf (wd W i))]) (fun c => some (Cc.cells c 9 true, CY 1 1)) = some (.cells [strOf (wd W i)] 9 true, CY 1 1) := rfl
   have nb1 : Nat.ble s.nx (s.new (.cells [strOf (wd W i)] 9 true)).nx = true := Ag.2 (Nat.le_succ _)
   have nb2 : Nat.ble (s.new (.cells [strOf (wd W i)] 9 true)).nx s1.nx = true := Ag.2 n1
   have nb3 : Nat.ble s1.nx s2.nx = true := Ag.2 (by omega)
   rw [Zg B55 rfl]
   simp only [Am, AP, AY, CO, Nat.zero_add, Bc, cond_true, BN, r1, ii, gi, e4, nb1, w, Ae, nb2, w3, nb3, EJ, hw]
theorem k55_L6 (n N : Nat) (hn : 100 ≤ n) (hW : ∀ x ∈ W, x.length ≤ 60) (cnt nm : Nat) (hc : W.length = cnt) (hnm : nm < cnt) (hc9 : cnt < 10) : ∀ (k i f : Nat) (s : A8) (o : FC) (nb : Option Nat) (nv : Value), i + k = nm + 1 → k < f → o.names.length + k < 20 → RX s0 s r p wb W vv o nb nv →
 JC.fin (st6 W cnt k i o) s0 (PX B55 (AV AB Ak n) N f (.pointer (some ⟨r, 0, none⟩)) vv (.pointer (some ⟨p, 0, none⟩)) (.int .i64 (cnt : Int)) (.int .i64 (nm : Int)) (.int .i64 (i : Int)) s) := by
 intro k
 induction k with
 | zero =>
  intro i f s o nb nv hi hf ho h
  obtain ⟨f, rfl, _⟩ := Af hf
  have h0 : (nm : Int) < (i : Int) := by omega
  rw [Ro B55 rfl]
  simp only [BQ, decide_eq_true h0, Bool.not_true, cond_false]
  exact k55_J9 n N (by omega) h cnt hc (by omega) hc9
 | succ k ih =>
  intro i f s o nb nv hi hf ho h
  obtain ⟨f, rfl, _⟩ := Af hf
  have h0 : ¬ (nm : Int) < (i : Int) := by omega
  obtain ⟨ii, gi⟩ := h.word i (by omega)
  have hwl : (wd W i).length ≤ 60 := by
   obtain ⟨x, hx⟩ := BX (show i < W.length by omega)
   have hd : wd W i = x := by unfold wd; rw [List.getD_eq_getElem?_getD, hx]; rfl
   rw [hd]; exact hW x (List.mem_of_getElem? hx)
  have d : AV AB Ak n (.fn 85) [strOf (wd W i)] s = .ok (.bool (nameB (wd W i)), s) := k85 n (wd W i) (by omega) s
  rw [Ro B55 rfl, st6]
  by_cases c : nameB (wd W i) = true
  · rw [if_pos c]
    obtain ⟨s2, nb2, nv2, h2, e2⟩ := k55_J8 (AV AB Ak n) N f h (cnt : Int) (nm : Int) i (by omega) (by omega) (by omega)
    have e3 := ih (i + 1) f s2 _ nb2 nv2 (by omega) (by omega) (by simp; omega) h2
    simp only [BQ, decide_eq_false h0, Bool.not_false, cond_true, Rq B55 rfl, ii, AP, AY, bind_ok, BN, gi, d, c, DW, Bool.not_true, AO, cond_false, e2]
    exact e3
  · rw [if_neg c]
    have e1 := h.err 8 (by decide)
    have c := Bool.eq_false_iff.2 c
    simp only [BQ, decide_eq_false h0, Bool.not_false, cond_true, Rq B55 rfl, ii, AP, AY, bind_ok, BN, gi, d, c, DW, AO, EI]
    exact e1
end
end Go.Im
set_option maxRecDepth 100000
set_option maxHeartbeats 4000000
namespace Go.Im
theorem lC (r : Option Int) : pExt 0 (Vj r) = some (.int .i64 (r.getD 0)) := by cases r <;> rfl
theorem lD (r : Option Int) : pExt 1 (Vj r) = some (.bool r.isSome) := by cases r <;> rfl
section
variable {s0 s : A8} {r p wb : Nat} {W : List (List UInt8)} {vv nv : Value} {o : FC} {nb : Option Nat}
theorem lF (n N : Nat) (hn : 100 ≤ n) (hN : 20 ≤ N) (hW : ∀ x ∈ W, x.length ≤ 60) (cnt nm : Nat) (hc : W.length = cnt) (hnm : nm < cnt) (hc9 : cnt < 10) (ho : o.names = []) (h : RX s0 s r p wb W vv o nb nv) :
 JC.fin (st6 W cnt nm 1 o) s0 (Tz B55 (AV AB Ak n) N (.pointer (some ⟨r, 0, none⟩)) vv (.pointer (some ⟨p, 0, none⟩)) (.int .i64 (cnt : Int)) (.int .i64 (nm : Int)) s) := by
 rw [Zf B55 rfl]
 exact k55_L6 n N hn hW cnt nm hc hnm hc9 nm 1 N s o nb nv (by omega) (by omega) (by rw [ho]; simp; omega) h
theorem k55_J4 (n N : Nat) (hn : 100 ≤ n) (hN : 20 ≤ N) (hW : ∀ x ∈ W, x.length ≤ 60) (cnt nm : Nat) (hc : W.length = cnt) (hnm : nm < cnt) (hc9 : cnt < 10) (ho : o.names = []) (lG : wd W 0 = CW → cnt = 4) (h : RX s0 s r p wb W vv o nb nv) :
 JC.fin (st4 W cnt nm o) s0 (X7 B55 (AV AB Ak n) N (.pointer (some ⟨r, 0, none⟩)) vv (.pointer (some ⟨p, 0, none⟩)) (.int .i64 (cnt : Int)) (.int .i64 (nm : Int)) s) := by
 obtain ⟨i0, g0⟩ := h.word 0 (by omega)
 have i0 : Az 1 vv (.int .i64 0) = some (.pointer (some ⟨wb, 0, none⟩)) := i0
 have q1 := eqW (wd W 0) CW ⟨#[99, 97, 114, 100]⟩ rfl
 rw [Ze B55 rfl]
 unfold st4
 by_cases c1 : wd W 0 = CW
 · rw [if_pos c1]
   have hc4 := lG c1
   obtain ⟨i2, g2⟩ := h.word 2 (by omega)
   have i2 : Az 1 vv (.int .i64 2) = some (.pointer (some ⟨wb, 2, none⟩)) := i2
   have wl : ∀ i, i < W.length → (wd W i).length ≤ 60 := fun i hi => by
    obtain ⟨x, hx⟩ := BX hi
    have hd : wd W i = x := by unfold wd; rw [List.getD_eq_getElem?_getD, hx]; rfl
    rw [hd]; exact hW x (List.mem_of_getElem? hx)
   have d2 : AV AB Ak n (.fn 80) [strOf (wd W 2)] s = .ok (Vj (D8 (wd W 2)), s) := k80 n _ (by have := wl 2 (by omega); omega) (by have := wl 2 (by omega); omega) s
   obtain ⟨s1, w1, h1, _⟩ := h.wH ((D8 (wd W 2)).getD 0)
   obtain ⟨i3, g3⟩ := h1.word 3 (by omega)
   have i3 : Az 1 vv (.int .i64 3) = some (.pointer (some ⟨wb, 3, none⟩)) := i3
   have d3 : AV AB Ak n (.fn 80) [strOf (wd W 3)] s1 = .ok (Vj (D8 (wd W 3)), s1) := k80 n _ (by have := wl 3 (by omega); omega) (by have := wl 3 (by omega); omega) s1
   obtain ⟨s2, w2, h2, _⟩ := h1.wD ((D8 (wd W 3)).getD 0)
   have e1 := h2.err 9 (by decide)
   have e2 := lF n N hn hN hW cnt nm hc hnm hc9 (by exact ho) h2
   cases hr2 : D8 (wd W 2) with
   | none =>
    have is2 : (D8 (wd W 2)).isSome = false := by rw [hr2]; rfl
    simp only [i0, AP, AY, bind_ok, BN, g0, q1, decide_eq_true c1, AO, cond_true, i2, g2, d2, lC, lD, Am, Nat.zero_add, w1, Ae, i3, g3, d3, w2, is2, DW, Bool.not_false, BU, show (true == false) = false from rfl, GR, D6, EI]
    exact e1
   | some x2 =>
    have is2 : (D8 (wd W 2)).isSome = true := by rw [hr2]; rfl
    cases hr3 : D8 (wd W 3) with
    | none =>
     have is3 : (D8 (wd W 3)).isSome = false := by rw [hr3]; rfl
     simp only [i0, AP, AY, bind_ok, BN, g0, q1, decide_eq_true c1, AO, cond_true, i2, g2, d2, lC, lD, Am, Nat.zero_add, w1, Ae, i3, g3, d3, w2, is2, is3, DW, Bool.not_false, Bool.not_true, BU, beq_self_eq_true, DZ, CZ, EI]
     exact e1
    | some x3 =>
     have is3 : (D8 (wd W 3)).isSome = true := by rw [hr3]; rfl
     rw [hr2, hr3] at e2
     simp only [i0, AP, AY, bind_ok, BN, g0, q1, decide_eq_true c1, AO, cond_true, cond_false, i2, g2, d2, lC, lD, Am, Nat.zero_add, w1, Ae, i3, g3, d3, w2, is2, is3, DW, Bool.not_true, BU, beq_self_eq_true, DZ, CZ]
     exact e2
 · rw [if_neg c1]
   have e2 := lF n N hn hN hW cnt nm hc hnm hc9 ho h
   simp only [i0, AP, AY, bind_ok, BN, g0, q1, decide_eq_false c1, AO, cond_false]
   exact e2
theorem QL (n N : Nat) (hn : 100 ≤ n) (hN : 20 ≤ N) (hW : ∀ x ∈ W, x.length ≤ 60) (hl : W.length < 1000) (cnt nm : Nat) (hnm : nm < cnt) (hc9 : cnt < 10) (ho : o.names = []) (lG : wd W 0 = CW → cnt = 4) (h : RX s0 s r p wb W vv o nb nv) :
 JC.fin (st3 W cnt nm o) s0 (LH B55 (AV AB Ak n) N (.pointer (some ⟨r, 0, none⟩)) vv (.pointer (some ⟨p, 0, none⟩)) (.int .i64 (cnt : Int)) (.int .i64 (nm : Int)) s) := by
 rw [Zd B55 rfl]
 unfold st3
 by_cases c : W.length = cnt
 · rw [if_neg (fun hh => hh c)]
   have ci : (W.length : Int) = (cnt : Int) := by omega
   have e2 := k55_J4 n N hn hN hW cnt nm c hnm hc9 ho lG h
   simp only [h.hw.len_eq, AP, AY, bind_ok, DF, decide_eq_true ci, Bool.not_true, AO, cond_false]
   exact e2
 · rw [if_pos c]
   have ci : ¬ (W.length : Int) = (cnt : Int) := by omega
   have e1 := h.err 9 (by decide)
   simp only [h.hw.len_eq, AP, AY, bind_ok, DF, decide_eq_false ci, Bool.not_false, AO, cond_true, EI]
   exact e1
theorem ret5 {s : A8} {r : Nat} {c : List Value} (h : s.get r = some (.cells c 107 true)) (hc : c.length = 5) {s0 : A8} (hx : Ext s0 s) (hr : s0.nx ≤ r) (e : Int) (he : e ≠ 0) : JC.fin (.error e) s0 (R.bind (BD 11 (wSt s 5 (.agg ⟨Dk⟩) (.pointer (some ⟨r, 0, none⟩)))) fun r8 => (obR 33 (ob (CQ r8.2 5 (.pointer (some ⟨r, 0, none⟩))) fun x0 => ob (some (.int .i64 e)) fun x1 => some [x0, x1]) fun vs => .ok (CS vs, r8.2))) := by
 have ee : cellsOf (.agg ⟨Dk⟩) = Dk := rfl
 have w := Dv (s := s) (b := r) (o := 0) (n := 5) (v := .agg ⟨Dk⟩) h rfl rfl (by omega)
 rw [ee] at w
 have ed : c.take 0 ++ (Dk ++ c.drop (0 + 5)) = Dk := by rw [List.take_zero, List.drop_eq_nil_of_le (by omega), List.nil_append, List.append_nil]
 rw [ed] at w
 refine ⟨.tuple ⟨[.agg ⟨Dk⟩, .int .i64 e]⟩, s.put r (.cells Dk 107 true), ?_, ⟨hx.nx, fun i hi => ?_⟩, rfl, he⟩
 · rw [w]
   have l : CQ (s.put r (.cells Dk 107 true)) 5 (.pointer (some ⟨r, 0, none⟩)) = some (.agg ⟨Dk⟩) := Dw (by rw [EH (by rw [A8.get_put, if_pos rfl]) (by decide)]; rfl)
   simp only [Ae, bind_ok, l]; rfl
 · rw [A8.get_put, if_neg (by omega)]; exact hx.get i hi
theorem k55_J2 (n N : Nat) (hn : 100 ≤ n) (hN : 20 ≤ N) (hW : ∀ x ∈ W, x.length ≤ 60) (hl : W.length < 1000) (h0 : 1 ≤ W.length) (hx : Ext s0 s) (hrn : s0.nx ≤ r) (hrl : r < s.nx) (hr : ∃ c, s.get r = some (.cells c 107 true) ∧ c.length = 5) (hw : Ba s (some wb) 9 1 (W.map strOf) W.length vv) (hwn : s0.nx ≤ wb) (hrw : r ≠ wb) :
 JC.fin (st2 W) s0 (X6 B55 (AV AB Ak n) N (.pointer (some ⟨r, 0, none⟩)) vv s) := by
 obtain ⟨x, hx0⟩ := BX (show 0 < W.length by omega)
 have hd : wd W 0 = x := by unfold wd; rw [List.getD_eq_getElem?_getD, hx0]; rfl
 obtain ⟨b, e, ia⟩ := hw.iad 0 (by omega) .i64
 obtain rfl := Option.some.inj e
 have i0 : Az 1 vv (.int .i64 0) = some (.pointer (some ⟨wb, 0, none⟩)) := ia
 obtain ⟨b', e', g⟩ := hw.get (i := 0) (x := strOf x) (by rw [List.getElem?_map, hx0]; rfl)
 obtain rfl := Option.some.inj e'
 rw [← hd] at g
 have hwl := hw.lt rfl
 obtain ⟨s1, hs1⟩ : ∃ s1, s1 = s.new (.cells Dk 107 true) := ⟨_, rfl⟩
 have x1 : Ext s s1 := by rw [hs1]; exact (Ext.refl s).new _
 have n1 : s1.nx = s.nx + 1 := by rw [hs1]; rfl
 have hp1 : s1.get s.nx = some (.cells Dk 107 true) := by rw [hs1, A8.Aq, if_pos rfl]
 have ee : cellsOf (.agg ⟨[strOf (wd W 0), .slice none 0 0, .int .i64 0, .int .i64 0, .int .i64 0]⟩) = [strOf (wd W 0), .slice none 0 0, .int .i64 0, .int .i64 0, .int .i64 0] := rfl
 have w := Dv (s := s1) (b := s.nx) (o := 0) (n := 5) (v := .agg ⟨[strOf (wd W 0), .slice none 0 0, .int .i64 0, .int .i64 0, .int .i64 0]⟩) hp1 rfl rfl (by decide)
 rw [ee] at w
 have w : wSt s1 5 (.agg ⟨[strOf (wd W 0), .slice none 0 0, .int .i64 0, .int .i64 0, .int .i64 0]⟩) (.pointer (some ⟨s.nx, 0, none⟩)) = some (BO, s1.put s.nx (.cells [strOf (wd W 0), .slice none 0 0, .int .i64 0, .int .i64 0, .int .i64 0] 107 true)) := w
 obtain ⟨s2, hs2⟩ : ∃ s2, s2 = s1.put s.nx (.cells [strOf (wd W 0), .slice none 0 0, .int .i64 0, .int .i64 0, .int .i64 0] 107 true) := ⟨_, rfl⟩
 rw [← hs2] at w
 have n2 : s2.nx = s1.nx := by rw [hs2]; rfl
 have x2 : Ext s s2 := ⟨by omega, fun i hi => by rw [hs2, A8.get_put, if_neg (by omega)]; exact x1.get i hi⟩
 have hxn := hx.nx
 have h2 : RX s0 s2 r s.nx wb W vv ⟨wd W 0, [], 0, 0, 0⟩ none (.slice none 0 0) := by
  obtain ⟨c, hc1, hc2⟩ := hr
  exact ⟨hx.trans x2, hrn, hxn, hwn, by simp, by omega, by omega, by omega, hrw, by omega, by simp, by simp, by simp, ⟨c, (x2.get r hrl).trans hc1, hc2⟩, by rw [hs2, A8.get_put, if_pos rfl], hw.frame x2.nx (fun b e => x2.get b (hw.lt e)), ⟨rfl, rfl, rfl⟩⟩
 have i02 := h2.word 0 (by omega)
 have i0' : Az 1 vv (.int .i64 0) = some (.pointer (some ⟨wb, 0, none⟩)) := i02.1
 have q1 := eqW (wd W 0) Dq ⟨#[110, 101, 119]⟩ rfl
 have q2 := eqW (wd W 0) Ci ⟨#[115, 119, 97, 112]⟩ rfl
 have q3 := eqW (wd W 0) CW ⟨#[99, 97, 114, 100]⟩ rfl
 have q4 := eqW (wd W 0) Cj ⟨#[109, 101, 110, 100]⟩ rfl
 have q5 := eqW (wd W 0) Di ⟨#[117, 110, 100, 111]⟩ rfl
 have e11 : ob (fill [.string ⟨#[]⟩, .slice none 0 0, .int .i64 0, .int .i64 0, .int .i64 0] [(0, 1, strOf (wd W 0))]) (fun c => some (Value.agg ⟨c⟩)) = some (.agg ⟨[strOf (wd W 0), .slice none 0 0, .int .i64 0, .int .i64 0, .int .i64 0]⟩) := rfl
 have es1 : s.new (.cells [.string ⟨#[]⟩, .slice none 0 0, .int .i64 0, .int .i64 0, .int .i64 0] 107 true) = s1 := hs1.symm
 have ep : ptrTo s.nx = .pointer (some ⟨s.nx, 0, none⟩) := rfl
 rw [Zc B55 rfl]
 unfold st2
 by_cases c1 : wd W 0 = Dq
 · have t := QL n N hn hN hW hl 2 1 (by omega) (by omega) rfl (by rw [c1]; intro h; cases h) h2
   simp only [if_pos c1]
   simp only [i0, AP, AY, bind_ok, BN, g, e11, es1, ep, w, Ae, i02.2, q1, decide_eq_true c1, AO, cond_true]
   exact t
 · simp only [if_neg c1]
   by_cases c2 : wd W 0 = Ci
   · have t := QL n N hn hN hW hl 4 2 (by omega) (by omega) rfl (by intro _; rfl) h2
     simp only [if_pos c2]
     simp only [i0, AP, AY, bind_ok, BN, g, e11, es1, ep, w, Ae, i02.2, q1, q2, decide_eq_false c1, decide_eq_true c2, AO, cond_true, cond_false]
     exact t
   · simp only [if_neg c2]
     by_cases c3 : wd W 0 = CW
     · have t := QL n N hn hN hW hl 4 1 (by omega) (by omega) rfl (by intro _; rfl) h2
       simp only [if_pos c3]
       simp only [i0, AP, AY, bind_ok, BN, g, e11, es1, ep, w, Ae, i02.2, q1, q2, q3, decide_eq_false c1, decide_eq_false c2, decide_eq_true c3, AO, cond_true, cond_false]
       exact t
     · simp only [if_neg c3]
       by_cases c4 : wd W 0 = Cj
       · have t := QL n N hn hN hW hl 3 1 (by omega) (by omega) rfl (by intro h; exact (c3 h).elim) h2
         simp only [if_pos c4]
         simp only [i0, AP, AY, bind_ok, BN, g, e11, es1, ep, w, Ae, i02.2, q1, q2, q3, q4, decide_eq_false c1, decide_eq_false c2, decide_eq_false c3, decide_eq_true c4, AO, cond_true, cond_false]
         exact t
       · simp only [if_neg c4]
         by_cases c5 : wd W 0 = Di
         · have t := QL n N hn hN hW hl 1 0 (by omega) (by omega) rfl (by intro h; exact (c3 h).elim) h2
           simp only [if_pos c5]
           simp only [i0, AP, AY, bind_ok, BN, g, e11, es1, ep, w, Ae, i02.2, q1, q2, q3, q4, q5, decide_eq_false c1, decide_eq_false c2, decide_eq_false c3, decide_eq_false c4, decide_eq_true c5, AO, cond_true, cond_false]
           exact t
         · simp only [if_neg c5]
           have t := h2.err 10 (by decide)
           simp only [i0, AP, AY, bind_ok, BN, g, e11, es1, ep, w, Ae, i02.2, q1, q2, q3, q4, q5, decide_eq_false c1, decide_eq_false c2, decide_eq_false c3, decide_eq_false c4, decide_eq_false c5, AO, cond_false, EI]
           exact t
end
end Go.Im
set_option maxRecDepth 100000
set_option maxHeartbeats 4000000
namespace Go.Im
theorem QM : ∀ (l cur : List UInt8) (acc : List (List UInt8)) (W : List (List UInt8)), JI l cur acc = some W → acc.length < W.length ∧ W.length ≤ acc.length + l.length + 1
 | [], cur, acc, W, h => by
  unfold JI at h
  by_cases c : cur = []
  · rw [if_pos c] at h; cases h
  · rw [if_neg c] at h; rw [← Option.some.inj h]; simp
 | a :: l, cur, acc, W, h => by
  unfold JI at h
  by_cases c : 33 ≤ a.toNat ∧ a.toNat ≤ 126
  · rw [if_pos c] at h
    have := QM l (cur ++ [a]) acc W h
    simp; omega
  · rw [if_neg c] at h
    by_cases c2 : cur = [] ∨ a.toNat ≠ 32
    · rw [if_pos c2] at h; cases h
    · rw [if_neg c2] at h
      have := QM l [] (acc ++ [cur]) W h
      simp at this ⊢; omega
theorem LV : ∀ (l cur : List UInt8) (acc : List (List UInt8)) (W : List (List UInt8)), JI l cur acc = some W → ∀ m, (∀ x ∈ acc, x.length ≤ m) → cur.length + l.length ≤ m → ∀ x ∈ W, x.length ≤ m
 | [], cur, acc, W, h => by
  intro m ha hc
  unfold JI at h
  by_cases c : cur = []
  · rw [if_pos c] at h; cases h
  · rw [if_neg c] at h; rw [← Option.some.inj h]
    intro x hx
    rcases List.mem_append.1 hx with hx | hx
    · exact ha x hx
    · rw [List.mem_singleton.1 hx]; simpa using hc
 | a :: l, cur, acc, W, h => by
  intro m ha hc
  unfold JI at h
  simp at hc
  by_cases c : 33 ≤ a.toNat ∧ a.toNat ≤ 126
  · rw [if_pos c] at h
    exact LV l (cur ++ [a]) acc W h m ha (by simp; omega)
  · rw [if_neg c] at h
    by_cases c2 : cur = [] ∨ a.toNat ≠ 32
    · rw [if_pos c2] at h; cases h
    · rw [if_neg c2] at h
      refine LV l [] (acc ++ [cur]) W h m (fun x hx => ?_) (by simp; omega)
      rcases List.mem_append.1 hx with hx | hx
      · exact ha x hx
      · rw [List.mem_singleton.1 hx]; omega
theorem k55 (n : Nat) (hn : 200 ≤ n) (x : List UInt8) (hx : x.length < 1000000) (s : A8) : JC.fin (FZ x) s (AV AB Ak n (.fn 55) [.string (ofL x)] s) := by
 obtain ⟨m, rfl, _⟩ := Af (show 1 ≤ n by omega)
 rw [Ap 55 c55 rfl, f55_eq]
 obtain ⟨s1, hs1⟩ : ∃ s1, s1 = s.new (.cells Dk 107 true) := ⟨_, rfl⟩
 have x1 : Ext s s1 := by rw [hs1]; exact (Ext.refl s).new _
 have n1 : s1.nx = s.nx + 1 := by rw [hs1]; rfl
 have hp1 : s1.get s.nx = some (.cells Dk 107 true) := by rw [hs1, A8.Aq, if_pos rfl]
 have es1 : s.new (.cells [.string ⟨#[]⟩, .slice none 0 0, .int .i64 0, .int .i64 0, .int .i64 0] 107 true) = s1 := hs1.symm
 have ep : ptrTo s.nx = .pointer (some ⟨s.nx, 0, none⟩) := rfl
 unfold FZ
 by_cases c : 60 < x.length
 · have ci : (60 : Int) < (x.length : Int) := by omega
   rw [if_pos c]
   have t := ret5 hp1 rfl x1 (Nat.le_refl _) 20 (by decide)
   simp only [E8, CJ, BQ, decide_eq_true ci, cond_true, es1, ep, EI, AP, AY, bind_ok]
   exact t
 · have ci : ¬ (60 : Int) < (x.length : Int) := by omega
   rw [if_neg c]
   obtain ⟨v, s2, d, x2, post⟩ := k86 m x hx (by omega) s1
   have x12 := x1.trans x2
   have hr2 : s2.get s.nx = some (.cells Dk 107 true) := (x2.get _ (by omega)).trans hp1
   have x2n := x2.nx
   cases hW : JI x [] [] with
   | none =>
    rw [hW] at post
    obtain rfl : v = .tuple ⟨[.slice none 0 0, .bool false]⟩ := post
    have t := ret5 hr2 rfl x12 (Nat.le_refl _) 9 (by decide)
    simp only [E8, CJ, BQ, decide_eq_false ci, cond_false, es1, ep, Rn B55 rfl, d, bind_ok, Bg, List.getElem?_cons_zero, List.getElem?_cons_succ, AP, AY, DW, Bool.not_false, AO, cond_true, EI]
    exact t
   | some W =>
    rw [hW] at post
    obtain ⟨wb, vv, rfl, hA, hb⟩ := post
    have h1 := QM x [] [] W hW
    have h2 := LV x [] [] W hW 60 (by simp) (by simp; omega)
    have t := k55_J2 m m (by omega) (by omega) h2 (by have := h1.2; simp at this; omega) (by have := h1.1; simp at this; omega) x12 (Nat.le_refl _) (by omega) ⟨_, hr2, rfl⟩ hA (by omega) (by omega)
    simp only [E8, CJ, BQ, decide_eq_false ci, cond_false, es1, ep, Rn B55 rfl, d, bind_ok, Bg, List.getElem?_cons_zero, List.getElem?_cons_succ, AP, AY, DW, Bool.not_true, AO]
    exact t
theorem lH (b : UInt8) (l : List (List UInt8)) : pushB b l = match l with | [] => [[b]] | p :: r => (b :: p) :: r := by cases l <;> rfl
theorem LW : ∀ (l cur : List UInt8) (acc : List (List UInt8)) (last : Nat), (cur = [] ↔ last = 32) →
 JI l cur acc = if DI l last then some (acc ++ (match Bj 32 l with | [] => [cur] | p :: r => (cur ++ p) :: r)) else none
 | [], cur, acc, last, h => by
  unfold JI DI Bj
  by_cases c : cur = []
  · have := h.1 c; simp [c, this]
  · have : last ≠ 32 := fun e => c (h.2 e)
    simp [c, this]
 | a :: l, cur, acc, last, h => by
  unfold JI DI Bj
  have e32 : (32 : UInt8).toNat = 32 := rfl
  by_cases c : 33 ≤ a.toNat ∧ a.toNat ≤ 126
  · rw [if_pos c, LW l (cur ++ [a]) acc a.toNat ⟨fun e => by simp at e, fun e => by omega⟩]
    have c1 : ¬ a.toNat < 32 := by omega
    have c2 : ¬ 126 < a.toNat := by omega
    have c3 : ¬ a.toNat = 32 := by omega
    have c4 : Nat.beq a.toNat (32 : UInt8).toNat = false := by rw [e32]; exact IJ c3
    rw [c4]
    simp only [c1, c2, c3, decide_false, Bool.false_and, Bool.or_false, cond_false]
    rw [lH]
    cases Bj 32 l <;> simp
  · rw [if_neg c]
    by_cases c2 : cur = [] ∨ a.toNat ≠ 32
    · rw [if_pos c2]
      have : (decide (a.toNat < 32) || decide (126 < a.toNat) || (decide (a.toNat = 32) && decide (last = 32))) = true := by
       by_cases e : a.toNat = 32
       · rcases c2 with c2 | c2
         · simp [e, h.1 c2]
         · exact (c2 e).elim
       · have : a.toNat < 32 ∨ 126 < a.toNat := by omega
         simp [this]
      rw [this]
      simp
    · rw [if_neg c2]
      have e : a.toNat = 32 := Classical.not_not.1 fun e => c2 (.inr e)
      have hc : cur ≠ [] := fun e => c2 (.inl e)
      have hl : last ≠ 32 := fun e => hc (h.2 e)
      rw [LW l [] (acc ++ [cur]) a.toNat ⟨fun _ => e, fun _ => rfl⟩]
      have c4 : Nat.beq a.toNat (32 : UInt8).toNat = true := by rw [e32]; exact Gq e
      have : (decide (a.toNat < 32) || decide (126 < a.toNat) || (decide (a.toNat = 32) && decide (last = 32))) = false := by simp [e, hl]
      rw [this, c4]
      simp only [cond_false, cond_true]
      cases hsp : Bj 32 l with
      | nil => have := IZ 32 l; rw [hsp] at this; simp at this
      | cons p r => simp
theorem Xd (x : List UInt8) : JI x [] [] = if DI x 32 then some (Bj 32 x) else none := by
 rw [LW x [] [] 32 ⟨fun _ => rfl, fun _ => rfl⟩]
 cases hs : Bj 32 x with
 | nil => have := IZ 32 x; rw [hs] at this; simp at this
 | cons p r => simp
end Go.Im
set_option maxRecDepth 100000
set_option maxHeartbeats 4000000
namespace Go.Im
open Go.Lib
theorem J7 : ∀ (l : List UInt8) (v : Int), l.all H6 = false → FY l v = none
 | [], _, h => by simp at h
 | c :: l, v, h => by
  unfold FY
  by_cases d : c.toNat < 48 ∨ 57 < c.toNat
  · rw [if_pos d]
  · rw [if_neg d]
    have hc : H6 c = true := decide_eq_true (by omega)
    rw [List.all_cons, hc, Bool.true_and] at h
    exact J7 l _ h
theorem Jf : ∀ (l : List UInt8) (v : Int), l.all H6 = true → 1000000 ≤ v → FY l v = some v
 | [], _, _, _ => rfl
 | c :: l, v, h, hv => by
  rw [List.all_cons, Bool.and_eq_true] at h
  have hc : 48 ≤ c.toNat ∧ c.toNat ≤ 57 := of_decide_eq_true h.1
  unfold FY
  rw [if_neg (by omega), if_neg (by omega)]
  exact Jf l v h.2 hv
def Rel (acc : Nat) (v : Int) : Prop := (v = (acc : Int) ∧ acc < 1000000) ∨ (1000000 ≤ v ∧ 1000000 ≤ acc)
theorem Jg : ∀ (l : List UInt8) (acc : Nat) (v : Int), l.all H6 = true → Rel acc v → ∃ v', FY l v = some v' ∧ ((∃ u, parseUint10 acc l = .ok u ∧ Rel u v') ∨ (parseUint10 acc l = .range ∧ 1000000 ≤ v'))
 | [], acc, v, _, hr => ⟨v, rfl, .inl ⟨acc, rfl, hr⟩⟩
 | c :: l, acc, v, h, hr => by
  rw [List.all_cons, Bool.and_eq_true] at h
  have hc : 48 ≤ c.toNat ∧ c.toNat ≤ 57 := of_decide_eq_true h.1
  unfold FY parseUint10
  rw [if_neg (by omega), if_pos hc]
  by_cases b1 : 1844674407370955162 ≤ acc
  · rw [if_pos b1]
    have hv : 1000000 ≤ v := by rcases hr with hr | hr <;> omega
    rw [if_neg (by omega)]
    exact ⟨v, Jf l v h.2 hv, .inr ⟨rfl, hv⟩⟩
  · rw [if_neg b1]
    by_cases b2 : 18446744073709551616 ≤ acc * 10 + (c.toNat - 48)
    · rw [if_pos b2]
      have hv : 1000000 ≤ v := by rcases hr with hr | hr <;> omega
      rw [if_neg (by omega)]
      exact ⟨v, Jf l v h.2 hv, .inr ⟨rfl, hv⟩⟩
    · rw [if_neg b2]
      refine Jg l _ _ h.2 ?_
      rcases hr with hr | hr
      · rw [if_pos (by omega)]
        by_cases b3 : acc * 10 + (c.toNat - 48) < 1000000
        · exact .inl ⟨by omega, b3⟩
        · exact .inr ⟨by omega, by omega⟩
      · rw [if_neg (by omega)]
        exact .inr ⟨hr.1, by omega⟩
theorem aJ (d : List UInt8) : EW (45 :: d) [45] = d := by unfold EW LP; simp
theorem aK {c : UInt8} (l : List UInt8) (h : c ≠ 45) : EW (c :: l) [45] = c :: l := by unfold EW LP; simp [h]
theorem QN (d : List UInt8) (sg : Int) : (Fp d sg).isSome = (match d with | [] => false | c :: t => decide (c ≠ 48) && (c :: t).all H6) := by
 unfold Fp
 cases d with
 | nil => simp
 | cons c t =>
  by_cases c48 : c = 48
  · subst c48; simp
  · have h : ¬ (c :: t = [] ∨ (c :: t)[0]? = some 48) := by
     intro h
     rcases h with h | h
     · cases h
     · exact c48 (Option.some.inj h)
    rw [if_neg h]
    cases ha : (c :: t).all H6 with
    | false =>
     show _ = (decide (c ≠ 48) && (c :: t).all H6)
     rw [J7 _ _ ha, ha, Bool.and_false]; rfl
    | true =>
     obtain ⟨v', h1, _⟩ := Jg (c :: t) 0 0 ha (.inl ⟨rfl, by decide⟩)
     show _ = (decide (c ≠ 48) && (c :: t).all H6)
     rw [h1, ha, decide_eq_true c48]; rfl
theorem O5 {d : List UInt8} {sg n : Int} (h : Fp d sg = some n) : ∃ v, n = sg * v ∧ 0 ≤ v ∧ d ≠ [] ∧ ((∃ u, parseMag d = .ok u ∧ Rel u v) ∨ (parseMag d = .range ∧ 1000000 ≤ v)) ∧ d.all H6 = true := by
 unfold Fp at h
 by_cases c : d = [] ∨ d[0]? = some 48
 · rw [if_pos c] at h; cases h
 · rw [if_neg c] at h
   have hd : d ≠ [] := fun e => c (.inl e)
   cases ha : d.all H6 with
   | false => rw [J7 _ _ ha] at h; cases h
   | true =>
    obtain ⟨v', h1, h2⟩ := Jg d 0 0 ha (.inl ⟨rfl, by decide⟩)
    rw [h1] at h
    have h := Option.some.inj h
    have e : parseMag d = parseUint10 0 d := by unfold parseMag; rw [if_neg hd]
    refine ⟨v', h.symm, ?_, hd, by rw [e]; exact h2, rfl⟩
    rcases h2 with ⟨u, _, h2⟩ | ⟨_, h2⟩
    · rcases h2 with h2 | h2 <;> omega
    · omega
theorem NS {w : List UInt8} {n lo hi : Int} (h : ((Du w).2 = false ∧ (Du w).1 = n) ∨ ((Du w).2 = true ∧ (n < lo ∨ hi < n)) ∨ ((Du w).2 = false ∧ ((Du w).1 < lo ∧ n < lo ∨ hi < (Du w).1 ∧ hi < n))) :
 CU w lo hi = decide (lo ≤ n ∧ n ≤ hi) ∧ (lo ≤ n ∧ n ≤ hi → (Du w).1 = n) := by
 unfold CU
 cases ha : Du w with
 | mk z b =>
  rw [ha] at h
  dsimp only at h ⊢
  rcases h with ⟨rfl, rfl⟩ | ⟨rfl, h⟩ | ⟨rfl, h⟩
  · exact ⟨rfl, fun _ => rfl⟩
  · refine ⟨?_, fun hh => by omega⟩
    show false = _
    rw [decide_eq_false (by omega)]
  · refine ⟨?_, fun hh => by omega⟩
    show decide _ = _
    rw [decide_eq_false (by omega), decide_eq_false (by omega)]
theorem Vk (w : List UInt8) : decimal w = (D8 w).isSome ∧ ∀ n, D8 w = some n → ∀ lo hi : Int, -1000000 < lo → hi < 1000000 → CU w lo hi = decide (lo ≤ n ∧ n ≤ hi) ∧ (lo ≤ n ∧ n ≤ hi → (Du w).1 = n) := by
 by_cases c0 : w = [48]
 · subst c0
   refine ⟨rfl, fun n hn lo hi _ _ => ?_⟩
   have : n = 0 := by have : D8 [48] = some 0 := rfl; rw [this] at hn; exact (Option.some.inj hn).symm
   subst this
   exact NS (.inl ⟨rfl, rfl⟩)
 · have hdec : decimal w = (match EW w [45] with | [] => false | d :: t => decide (d ≠ 48) && (d :: t).all H6) := by unfold decimal; rw [decide_eq_false c0, Bool.false_or]; cases EW w [45] <;> rfl
   cases w with
   | nil => exact ⟨rfl, fun n hn => by have : D8 [] = none := rfl; rw [this] at hn; cases hn⟩
   | cons c l =>
    by_cases c45 : c = 45
    · subst c45
      have hr : D8 (45 :: l) = Fp l (-1) := by
       unfold D8
       rw [if_neg c0]
       split
       · rename_i d h; injection h with _ h; rw [h]
       · rename_i h; exact (h l rfl).elim
      rw [hr, hdec, aJ]
      refine ⟨(QN l (-1)).symm, fun n hn lo hi h1 h2 => ?_⟩
      obtain ⟨v, rfl, hv, hd, hp, _⟩ := O5 hn
      refine NS ?_
      have ea : Du (45 :: l) = match Lib.atoiAll (45 :: l) with | .ok n => (n, false) | .range => (Lib.atoiSat (45 :: l), true) | _ => (0, true) := rfl
      rw [ea, atoiAll_minus]
      rcases hp with ⟨u, hp, hr⟩ | ⟨hp, hr⟩
      · rw [hp]
        simp only [signed]
        by_cases b : 9223372036854775808 < u
        · rw [if_pos b]
          refine .inr (.inl ⟨rfl, ?_⟩)
          rcases hr with hr | hr <;> omega
        · rw [if_neg b]
          rcases hr with hr | hr
          · exact .inl ⟨rfl, by show -(u : Int) = -1 * v; omega⟩
          · exact .inr (.inr ⟨rfl, .inl ⟨by show -(u : Int) < lo; omega, by omega⟩⟩)
      · rw [hp]
        exact .inr (.inl ⟨rfl, by omega⟩)
    · have hr : D8 (c :: l) = Fp (c :: l) 1 := by
       unfold D8
       rw [if_neg c0]
       split
       · rename_i d h; injection h with h _; exact (c45 h).elim
       · rfl
      rw [hr, hdec, aK l c45]
      refine ⟨(QN (c :: l) 1).symm, fun n hn lo hi h1 h2 => ?_⟩
      obtain ⟨v, rfl, hv, hd, hp, hal⟩ := O5 hn
      refine NS ?_
      rw [List.all_cons, Bool.and_eq_true] at hal
      have hcd : 48 ≤ c.toNat ∧ c.toNat ≤ 57 := of_decide_eq_true hal.1
      have ea : Du (c :: l) = match Lib.atoiAll (c :: l) with | .ok n => (n, false) | .range => (Lib.atoiSat (c :: l), true) | _ => (0, true) := rfl
      rw [ea, atoiAll_plain c l (by omega) (by omega)]
      rcases hp with ⟨u, hp, hr⟩ | ⟨hp, hr⟩
      · rw [hp]
        simp only [signless]
        by_cases b : 9223372036854775808 ≤ u
        · rw [if_pos b]
          refine .inr (.inl ⟨rfl, ?_⟩)
          rcases hr with hr | hr <;> omega
        · rw [if_neg b]
          rcases hr with hr | hr
          · exact .inl ⟨rfl, by show (u : Int) = 1 * v; omega⟩
          · exact .inr (.inr ⟨rfl, .inr ⟨by show hi < (u : Int); omega, by omega⟩⟩)
      · rw [hp]
        exact .inr (.inl ⟨rfl, by omega⟩)
end Go.Im
set_option maxRecDepth 100000
set_option maxHeartbeats 4000000
namespace Go.Im
def EL : Ord → FC
 | .new a => ⟨Dq, [a], 0, 0, 0⟩
 | .swap a b k => ⟨Ci, [a, b], k, 0, 0⟩
 | .card a h d => ⟨CW, [a], 0, h, d⟩
 | .mend a k => ⟨Cj, [a], k, 0, 0⟩
 | .undo => ⟨Di, [], 0, 0, 0⟩
theorem lI : Dx Dq = some [78] := by unfold Dx Ec; rw [if_pos rfl]; rfl
theorem aN : Dx Ci = some [78, 78, 75] := by unfold Dx Ec; rw [if_neg (by decide), if_pos rfl]; rfl
theorem aO : Dx CW = some [78, 68, 68] := by unfold Dx Ec; rw [if_neg (by decide), if_neg (by decide), if_pos rfl]; rfl
theorem aP : Dx Cj = some [78, 75] := by unfold Dx Ec; rw [if_neg (by decide), if_neg (by decide), if_neg (by decide), if_pos rfl]; rfl
theorem aQ : Dx Di = some [] := by unfold Dx Ec; rw [if_neg (by decide), if_neg (by decide), if_neg (by decide), if_neg (by decide), if_pos rfl]; rfl
theorem aS {w : List UInt8} (h1 : w ≠ Dq) (h2 : w ≠ Ci) (h3 : w ≠ CW) (h4 : w ≠ Cj) (h5 : w ≠ Di) : Dx w = none := by unfold Dx Ec; rw [if_neg h1, if_neg h2, if_neg h3, if_neg h4, if_neg h5]; rfl
theorem H8 {W : List (List UInt8)} {fm : List UInt8} (h : Dx (wd W 0) = some fm) : FU W = if W.length ≠ fm.length + 1 then .error 9 else if CG decimal 68 fm (W.drop 1) then .error 9 else if CG nameB 78 fm (W.drop 1) then .error 8 else if CG isKind 75 fm (W.drop 1) then .error 10
 else if fm = [78, 68, 68] ∧ (CU (wd W 2) 0 7 && CU (wd W 3) (-300) 300) = false then .error 1 else .ok (Ez W) := by unfold FU; rw [h]
theorem kind_is (x : List UInt8) : isKind x = !decide (Ce x < 0) := by
 unfold isKind
 by_cases h : Ce x < 0
 · rw [decide_eq_false (by omega), decide_eq_true h]; rfl
 · rw [decide_eq_true (by omega), decide_eq_false h]; rfl
theorem lJ (W : List (List UInt8)) : st2 W = (FU W).map EL := by
 by_cases c1 : wd W 0 = Dq
 · have e : st2 W = st3 W 2 1 ⟨wd W 0, [], 0, 0, 0⟩ := by unfold st2; simp only [if_pos c1]
   rw [e, H8 (by rw [c1]; exact lI)]
   unfold st3
   by_cases hl : W.length = 2
   · obtain ⟨w, a, rfl⟩ := len2 hl
     obtain rfl : w = Dq := c1
     cases ha : nameB a <;> simp [st4, st6, st9, QK, CG, wd, ha, Ez, EL, Except.map, Dq, Ci, CW, Cj]
   · have : W.length ≠ [(78 : UInt8)].length + 1 := hl
     simp only [if_pos this, if_pos hl]; rfl
 · by_cases c2 : wd W 0 = Ci
   · have e : st2 W = st3 W 4 2 ⟨wd W 0, [], 0, 0, 0⟩ := by unfold st2; simp only [if_neg c1, if_pos c2]
     rw [e, H8 (by rw [c2]; exact aN)]
     unfold st3
     by_cases hl : W.length = 4
     · obtain ⟨w, a, b, k, rfl⟩ := len4 hl
       obtain rfl : w = Ci := c2
       have hk := kind_is k
       cases ha : nameB a <;> cases hb : nameB b <;> by_cases hc : Ce k < 0 <;> simp [st4, st6, st9, QK, CG, wd, ha, hb, hk, hc, Ez, EL, Except.map, Dq, Ci, CW, Cj]
     · have : W.length ≠ [(78 : UInt8), 78, 75].length + 1 := hl
       simp only [if_pos this, if_pos hl]; rfl
   · by_cases c3 : wd W 0 = CW
     · have e : st2 W = st3 W 4 1 ⟨wd W 0, [], 0, 0, 0⟩ := by unfold st2; simp only [if_neg c1, if_neg c2, if_pos c3]
       rw [e, H8 (by rw [c3]; exact aO)]
       unfold st3
       by_cases hl : W.length = 4
       · obtain ⟨w, a, b, d, rfl⟩ := len4 hl
         obtain rfl : w = CW := c3
         obtain ⟨b1, b2⟩ := Vk b
         obtain ⟨d1, d2⟩ := Vk d
         cases hb : D8 b with
         | none =>
          rw [hb] at b1
          simp [st4, CG, wd, hb, b1, Except.map, CW]
         | some n =>
          cases hd : D8 d with
          | none =>
           rw [hd] at d1
           simp [st4, CG, wd, hb, hd, d1, Except.map, CW]
          | some m =>
           rw [hb] at b1
           rw [hd] at d1
           obtain ⟨b3, b4⟩ := b2 n hb 0 7 (by decide) (by decide)
           obtain ⟨d3, d4⟩ := d2 m hd (-300) 300 (by decide) (by decide)
           cases ha : nameB a with
           | false => simp [st4, st6, CG, wd, hb, hd, b1, d1, ha, Except.map, CW]
           | true =>
            by_cases r1 : 0 ≤ n ∧ n ≤ 7
            · by_cases r2 : -300 ≤ m ∧ m ≤ 300
              · have b4 := b4 r1
                have d4 := d4 r2
                rw [decide_eq_true r1] at b3
                rw [decide_eq_true r2] at d3
                simp [st4, st6, st9, QK, CG, wd, hb, hd, b1, d1, b3, d3, b4, d4, ha, r1, r2, Ez, EL, Except.map, Dq, Ci, CW, Cj]
              · rw [decide_eq_true r1] at b3
                rw [decide_eq_false r2] at d3
                simp [st4, st6, st9, QK, CG, wd, hb, hd, b1, d1, b3, d3, ha, r1, r2, Ez, EL, Except.map, Dq, Ci, CW, Cj]
            · rw [decide_eq_false r1] at b3
              simp [st4, st6, st9, QK, CG, wd, hb, hd, b1, d1, b3, ha, r1, Ez, EL, Except.map, Dq, Ci, CW, Cj]
       · have : W.length ≠ [(78 : UInt8), 68, 68].length + 1 := hl
         simp only [if_pos this, if_pos hl]; rfl
     · by_cases c4 : wd W 0 = Cj
       · have e : st2 W = st3 W 3 1 ⟨wd W 0, [], 0, 0, 0⟩ := by unfold st2; simp only [if_neg c1, if_neg c2, if_neg c3, if_pos c4]
         rw [e, H8 (by rw [c4]; exact aP)]
         unfold st3
         by_cases hl : W.length = 3
         · obtain ⟨w, a, k, rfl⟩ := len3 hl
           obtain rfl : w = Cj := c4
           have hk := kind_is k
           cases ha : nameB a <;> by_cases hc : Ce k < 0 <;> simp [st4, st6, st9, QK, CG, wd, ha, hk, hc, Ez, EL, Except.map, Dq, Ci, CW, Cj]
         · have : W.length ≠ [(78 : UInt8), 75].length + 1 := hl
           simp only [if_pos this, if_pos hl]; rfl
       · by_cases c5 : wd W 0 = Di
         · have e : st2 W = st3 W 1 0 ⟨wd W 0, [], 0, 0, 0⟩ := by unfold st2; simp only [if_neg c1, if_neg c2, if_neg c3, if_neg c4, if_pos c5]
           rw [e, H8 (by rw [c5]; exact aQ)]
           unfold st3
           by_cases hl : W.length = 1
           · obtain ⟨w, rfl⟩ := len1 hl
             obtain rfl : w = Di := c5
             simp [st4, st6, st9, QK, CG, wd, Ez, EL, Except.map, Dq, Ci, CW, Cj, Di]
           · have : W.length ≠ ([] : List UInt8).length + 1 := hl
             simp only [if_pos this, if_pos hl]; rfl
         · have e : st2 W = .error 10 := by unfold st2; simp only [if_neg c1, if_neg c2, if_neg c3, if_neg c4, if_neg c5]
           have e2 : FU W = .error 10 := by unfold FU; rw [aS c1 c2 c3 c4 c5]
           rw [e, e2]; rfl
theorem SY (x : List UInt8) : FZ x = (EM x).map EL := by
 unfold FZ EM
 by_cases c : 60 < x.length
 · rw [if_pos c, if_pos c]; rfl
 · rw [if_neg c, if_neg c, Xd]
   by_cases w : DI x 32 = true
   · rw [if_pos w, if_pos w]; exact lJ _
   · rw [if_neg w, if_neg w]; rfl
end Go.Im
