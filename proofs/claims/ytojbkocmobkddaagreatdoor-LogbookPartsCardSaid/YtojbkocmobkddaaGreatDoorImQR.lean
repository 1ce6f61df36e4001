/- Questions to both books: a compass is asked (reference); the home of a part (both). -/
import Derived.Test.YtojbkocmobkddaaGreatDoorImRE
import Derived.Test.YtojbkocmobkddaaGreatDoorImPB
import Derived.Test.YtojbkocmobkddaaGreatDoorImQP
set_option linter.all false
set_option maxRecDepth 100000
set_option maxHeartbeats 4000000
namespace Go.Im
def UN (H : Hist) (x : List UInt8) : Value := if nameB x = false then .tuple ⟨[.int .i64 0, .int .i64 8]⟩ else if BF x (run H).comps 0 < 0 then .tuple ⟨[.int .i64 0, .int .i64 6]⟩ else .tuple ⟨[.int .i64 (BF x (run H).comps 0), .int .i64 0]⟩
section
variable {s : A8} {lb : Option Nat} {lv : Value} {H : Hist} {rb : Nat} {F : Nat → Prop}
theorem k61 (n : Nat) (hn : 2100 ≤ n) (x : List UInt8) (h : ED s rb H F lb lv) : Gives (AV AB Ak n (.fn 61) [.pointer (some ⟨rb, 0, none⟩), .string (ofL x)] s) s (UN H x) := by
 obtain ⟨m, rfl, _⟩ := Af (show 1 ≤ n by omega)
 have d85 := k85 m x (by omega) s
 have r1 : s.rd1 rb 1 = some lv := by rw [Ah h.hb]; rfl
 unfold UN
 rw [Ap 61 c61 rfl, f61_eq, k54 m (by omega) h]
 by_cases c : nameB x = false
 · refine ⟨s, ?_, .refl s⟩
   rw [if_pos c]
   simp only [bind_ok, AO, cond_false, NC B61 rfl, d85, c, DW, Bool.not_false, AP, AY, cond_true]
 · rw [if_neg c]
   have c : nameB x = true := by cases hh : nameB x with | true => rfl | false => exact (c hh).elim
   obtain ⟨v, s1, d59, x1, c1, c2, c3, c4, v1, v2, v3, v4, rfl, st, _⟩ := k59 m (by omega) H h.ok h.len lv s h.ln.rdL
   have hcl := h.ok.inv.Qe
   obtain ⟨s2, d92, x2⟩ := k92 m (by omega) x st (by omega)
   have d92 : AV AB Ak m (.fn 92) [.agg ⟨[v1, v2, v3, v4]⟩, .string (ofL x)] s1 = .ok (.int .i64 (BF x (run H).comps 0), s2) := d92
   refine ⟨s2, ?_, x1.trans x2⟩
   by_cases c2 : BF x (run H).comps 0 < 0
   · rw [if_pos c2]
     simp only [bind_ok, AO, cond_false, NC B61 rfl, d85, c, DW, Bool.not_true, AP, AY, cond_true, S9 B61 rfl, CB, Am, Nat.zero_add, BN, r1, d59, d92, BP, decide_eq_true c2]
   · rw [if_neg c2]
     simp only [bind_ok, AO, cond_false, NC B61 rfl, d85, c, DW, Bool.not_true, AP, AY, cond_true, S9 B61 rfl, CB, Am, Nat.zero_add, BN, r1, d59, d92, BP, decide_eq_false c2]
theorem k21 (n : Nat) (hn : 2100 ≤ n) (i : Int) (h : ED s rb H F lb lv) : Gives (AV AB Ak n (.fn 21) [.pointer (some ⟨rb, 0, none⟩), .int .i64 i] s) s (GI (run H) i) := by
 obtain ⟨m, rfl, _⟩ := Af (show 1 ≤ n by omega)
 have r1 : s.rd1 rb 1 = some lv := by rw [Ah h.hb]; rfl
 obtain ⟨v, s1, d59, x1, c1, c2, c3, c4, v1, v2, v3, v4, rfl, st, _⟩ := k59 m (by omega) H h.ok h.len lv s h.ln.rdL
 have inv := h.ok.inv
 have hpl := inv.QG
 have hlen := h.len
 obtain ⟨s2, hs2⟩ : ∃ s2, s2 = s1.new (.cells [.slice none 0 0, .slice none 0 0, .slice none 0 0, .slice none 0 0] 126 true) := ⟨_, rfl⟩
 have x2 : Ext s1 s2 := by rw [hs2]; exact (Ext.refl s1).new _
 have n2 : s2.nx = s1.nx + 1 := by rw [hs2]; rfl
 have hs : Bd [v1, v2, v3, v4] = true := DX (by
  intro v hv; simp only [List.mem_cons, List.not_mem_nil, or_false] at hv
  rcases hv with rfl | rfl | rfl | rfl
  · exact st.a1.simple
  · exact st.a2.simple
  · exact st.a3.simple
  · exact st.a4.simple)
 have w := Dv (s := s2) (b := s1.nx) (o := 0) (n := 4) (v := .agg ⟨[v1, v2, v3, v4]⟩) (by rw [hs2, A8.Aq, if_pos rfl]) rfl hs (by decide)
 obtain ⟨s3, hs3⟩ : ∃ s3, s3 = s2.put s1.nx (.cells [v1, v2, v3, v4] 126 true) := ⟨_, rfl⟩
 have w : wSt s2 4 (.agg ⟨[v1, v2, v3, v4]⟩) (.pointer (some ⟨s1.nx, 0, none⟩)) = some (BO, s3) := by rw [hs3]; exact w
 have x3 : Ext s1 s3 := ⟨by have : s3.nx = s2.nx := by rw [hs3]; rfl
                            omega, fun j hj => by rw [hs3, A8.get_put, if_neg (by omega)]; exact x2.get j hj⟩
 have ht : s3.get s1.nx = some (.cells [v1, v2, v3, v4] 126 true) := by rw [hs3, A8.get_put, if_pos rfl]
 have rt0 : s3.rd1 s1.nx 0 = some v1 := by rw [Ah ht]; rfl
 have rt1 : s3.rd1 s1.nx 1 = some v2 := by rw [Ah ht]; rfl
 have st3 := st.ext x3
 have ep : ptrTo s1.nx = .pointer (some ⟨s1.nx, 0, none⟩) := rfl
 have d58 := k58 m (by omega) i 1 ((run H).parts.length : Int) s3
 refine ⟨s3, ?_, x1.trans x3⟩
 unfold GI
 rw [Ap 21 c21 rfl, f21_eq, k54 m (by omega) h]
 by_cases c : 1 ≤ i ∧ i ≤ ((run H).parts.length : Int)
 · obtain ⟨k, hk⟩ : ∃ k, k = (i - 1).toNat := ⟨_, rfl⟩
   have hi : BK .i64 (i - 1) = (k : Int) := by rw [wrap64 (by omega)]; omega
   obtain ⟨p, hp⟩ := BX (show k < (run H).parts.length by omega)
   obtain ⟨kk, hkk⟩ := BX (show k < (runK H).length by rw [inv.inv.ML]; omega)
   obtain ⟨j, hj1, hj2⟩ := inv.inv.home p (List.mem_of_getElem? hp)
   obtain ⟨cc, hcc⟩ := BX hj2
   have hho : Dt (run H).parts k = (j : Int) := by unfold Dt; rw [hp]; exact hj1
   obtain ⟨b2, e2, ia2⟩ := st3.a2.iad k (by omega) .i64
   have hz : ((run H).parts.zip (runK H))[k]? = some (p, kk) := by rw [List.getElem?_zip_eq_some]; exact ⟨hp, hkk⟩
   obtain ⟨b2', e2', g2⟩ := st3.a2.get (i := k * 3 + 2) (x := .int .i64 (j : Int)) (by rw [flat_get Ic 3 _ k 2 _ (fun _ _ => rfl) hz (by decide), ← hj1]; rfl)
   obtain rfl : b2 = b2' := Option.some.inj (e2.symm.trans e2')
   obtain ⟨b1, e1, ia1⟩ := st3.a1.iad j hj2 .i64
   obtain ⟨b1', e1', g1⟩ := st3.a1.get (i := j) (x := strOf cc.name) (by rw [List.getElem?_map, hcc]; rfl)
   obtain rfl : b1 = b1' := Option.some.inj (e1.symm.trans e1')
   rw [Nat.mul_one] at ia1
   rw [if_pos c, ← hk, hho]
   have hnm : nameAt (run H).comps ((j : Int)).toNat = cc.name := by unfold nameAt; rw [show ((j : Int)).toNat = j from rfl, hcc]
   rw [hnm]
   simp only [bind_ok, AO, cond_false, cond_true, RV B21 rfl, CB, AP, AY, Am, Nat.zero_add, BN, r1, d59, ← hs2, ep, w, Ae, rt1, st3.a2.len_eq, d58, decide_eq_true c, DW, Bool.not_true, ZK B21 rfl, CO, rt0, Bc, Qb, hi, ia2, g2, ia1, g1]
 · rw [if_neg c]
   simp only [bind_ok, AO, cond_false, cond_true, RV B21 rfl, CB, AP, AY, Am, Nat.zero_add, BN, r1, d59, ← hs2, ep, w, Ae, rt1, st3.a2.len_eq, d58, decide_eq_false c, DW, Bool.not_false]
   rfl
end
end Go.Im
set_option maxRecDepth 100000
set_option maxHeartbeats 4000000
namespace Go.Im
section
variable {s : A8} {lb : Option Nat} {lv : Value} {H : Hist} {rb : Nat} {F : Nat → Prop}
theorem E9.trunc (h : E9 s lb lv H) {k : Nat} (hk : k ≤ H.length) : ∃ v', rSl s 9 1 none (some (.int .i64 (k : Int))) none lv = some v' ∧ RdL s v' ((H.take k).map (·.1)) := by
 rcases h with h | ⟨rfl, b, h2, h3, rfl, h5⟩
 · obtain ⟨v', e, hA⟩ := h.trunc (by decide) hk .i64
   refine ⟨v', e, Ba.rdL (base := lb) ?_⟩
   have e1 : (strsOf H).take (k * 1) = ((H.take k).map (·.1)).map strOf := by unfold strsOf; rw [Nat.mul_one, ← List.map_take, List.map_map]; rfl
   have e2 : ((H.take k).map (·.1)).length = k := by rw [List.length_map, List.length_take]; omega
   rw [← e1, e2]; exact hA
 · obtain rfl : k = 0 := by simpa using hk
   exact ⟨.slice (some ⟨b, 0, none⟩) 0 0, rfl, rfl, fun i x hx => by simp at hx⟩
theorem k19_J3 (self : Self) (N : Nat) {c1 c2 c3 c4 : Option Nat} {v1 v2 v3 v4 : Value} {O : Off} {K : List Nat} (st : Jh s c1 c2 c3 c4 O K v1 v2 v3 v4) (hI : En O K) {t : Nat} (ht : s.get t = some (.cells [v1, v2, v3, v4] 126 true)) {i : Int} (c : 1 ≤ i ∧ i ≤ (O.parts.length : Int)) (hpl : O.parts.length < 1000000) :
 Wx B19 self N (.int .i64 i) (.pointer (some ⟨t, 0, none⟩)) s = .ok (E5 O i, s) := by
 have rt0 : s.rd1 t 0 = some v1 := by rw [Ah ht]; rfl
 have rt1 : s.rd1 t 1 = some v2 := by rw [Ah ht]; rfl
 obtain ⟨k, hk⟩ : ∃ k, k = (i - 1).toNat := ⟨_, rfl⟩
 have hi : BK .i64 (i - 1) = (k : Int) := by rw [wrap64 (by omega)]; omega
 obtain ⟨p, hp⟩ := BX (show k < O.parts.length by omega)
 obtain ⟨kk, hkk⟩ := BX (show k < K.length by rw [hI.ML]; omega)
 obtain ⟨b2, e2, ia2⟩ := st.a2.iad k (by omega) .i64
 have hz : (O.parts.zip K)[k]? = some (p, kk) := by rw [List.getElem?_zip_eq_some]; exact ⟨hp, hkk⟩
 obtain ⟨b2', e2', g2⟩ := st.a2.get (i := k * 3 + 0) (x := .int .i64 p.1) (by rw [flat_get Ic 3 _ k 0 _ (fun _ _ => rfl) hz (by decide)]; rfl)
 obtain rfl : b2 = b2' := Option.some.inj (e2.symm.trans e2')
 have g2 : s.rd1 b2 (k * 3) = some (.int .i64 p.1) := g2
 unfold E5
 rw [if_pos c, ← hk, hp]
 dsimp only
 rw [ZH B19 rfl]
 by_cases cn : p.1 < 0
 · rw [if_pos cn]
   simp only [Am, Nat.zero_add, Nat.add_zero, AP, AY, bind_ok, BN, rt1, Qb, hi, ia2, g2, BP, decide_eq_true cn, AO, cond_true]
   rfl
 · rw [if_neg cn]
   obtain ⟨j, j1, j2, _, _⟩ := hI.uniq k p kk hp hkk (by omega)
   obtain ⟨cc, hcc⟩ := BX j2
   obtain ⟨b1, e1, ia1⟩ := st.a1.iad j j2 .i64
   obtain ⟨b1', e1', g1⟩ := st.a1.get (i := j) (x := strOf cc.name) (by rw [List.getElem?_map, hcc]; rfl)
   obtain rfl : b1 = b1' := Option.some.inj (e1.symm.trans e1')
   rw [Nat.mul_one] at ia1
   have hnm : nameAt O.comps ((j : Int)).toNat = cc.name := by unfold nameAt; rw [show ((j : Int)).toNat = j from rfl, hcc]
   rw [j1] at cn g2 ⊢
   rw [hnm]
   simp only [Am, Nat.zero_add, Nat.add_zero, AP, AY, bind_ok, BN, rt0, rt1, Qb, hi, ia2, g2, BP, decide_eq_false cn, AO, cond_false, cond_true, ZI B19 rfl, CO, Bc, ia1, g1]
theorem k19_J2 (m N : Nat) (hm : 2050 ≤ m) (serial : Int) (h : ED s rb H F lb lv) {k : Nat} (hkl : k ≤ H.length) : Gives (Wv B19 (AV AB Ak m) N (.pointer (some ⟨rb, 0, none⟩)) (.int .i64 serial) (.int .i64 (k : Int)) s) s (E5 (run (H.take k)) serial) := by
 have r1 : s.rd1 rb 1 = some lv := by rw [Ah h.hb]; rfl
 obtain ⟨v', sl, hR⟩ := h.ln.trunc hkl
 have hok := h.ok.take k
 have hlen := h.len
 obtain ⟨v, s1, d59, x1, c1, c2, c3, c4, v1, v2, v3, v4, rfl, st, _⟩ := k59 m (by omega) (H.take k) hok (by rw [List.length_take]; omega) v' s hR
 have inv := hok.inv
 have hpl := inv.QG
 have hl2 : (H.take k).length ≤ 200 := by rw [List.length_take]; omega
 obtain ⟨s2, hs2⟩ : ∃ s2, s2 = s1.new (.cells [.slice none 0 0, .slice none 0 0, .slice none 0 0, .slice none 0 0] 126 true) := ⟨_, rfl⟩
 have x2 : Ext s1 s2 := by rw [hs2]; exact (Ext.refl s1).new _
 have n2 : s2.nx = s1.nx + 1 := by rw [hs2]; rfl
 have hs : Bd [v1, v2, v3, v4] = true := DX (by
  intro v hv; simp only [List.mem_cons, List.not_mem_nil, or_false] at hv
  rcases hv with rfl | rfl | rfl | rfl
  · exact st.a1.simple
  · exact st.a2.simple
  · exact st.a3.simple
  · exact st.a4.simple)
 have w := Dv (s := s2) (b := s1.nx) (o := 0) (n := 4) (v := .agg ⟨[v1, v2, v3, v4]⟩) (by rw [hs2, A8.Aq, if_pos rfl]) rfl hs (by decide)
 obtain ⟨s3, hs3⟩ : ∃ s3, s3 = s2.put s1.nx (.cells [v1, v2, v3, v4] 126 true) := ⟨_, rfl⟩
 have w : wSt s2 4 (.agg ⟨[v1, v2, v3, v4]⟩) (.pointer (some ⟨s1.nx, 0, none⟩)) = some (BO, s3) := by rw [hs3]; exact w
 have n3 : s3.nx = s2.nx := by rw [hs3]; rfl
 have x3 : Ext s1 s3 := ⟨by omega, fun j hj => by rw [hs3, A8.get_put, if_neg (by omega)]; exact x2.get j hj⟩
 have ht : s3.get s1.nx = some (.cells [v1, v2, v3, v4] 126 true) := by rw [hs3, A8.get_put, if_pos rfl]
 have rt1 : s3.rd1 s1.nx 1 = some v2 := by rw [Ah ht]; rfl
 have st3 := st.ext x3
 have ep : ptrTo s1.nx = .pointer (some ⟨s1.nx, 0, none⟩) := rfl
 have d58' := k58 m (by omega) serial 1 ((run (H.take k)).parts.length : Int) s3
 refine ⟨s3, ?_, x1.trans x3⟩
 by_cases cs : 1 ≤ serial ∧ serial ≤ ((run (H.take k)).parts.length : Int)
 · have d3 := k19_J3 (AV AB Ak m) N st3 inv.inv ht cs (by omega)
   rw [RU B19 rfl]
   generalize B19 = B at d3 ⊢
   simp only [bind_ok, AO, cond_false, CB, AP, AY, Am, Nat.zero_add, BN, r1, sl, d59, ← hs2, ep, w, Ae, rt1, st3.a2.len_eq, d58', decide_eq_true cs, DW, Bool.not_true, d3]
 · unfold E5
   rw [if_neg cs, RU B19 rfl]
   generalize B19 = B
   simp only [bind_ok, AO, cond_true, CB, AP, AY, Am, Nat.zero_add, BN, r1, sl, d59, ← hs2, ep, w, Ae, rt1, st3.a2.len_eq, d58', decide_eq_false cs, DW, Bool.not_false]
   rfl
theorem k19_J1 (m N : Nat) (hm : 2050 ≤ m) (serial after : Int) (h : ED s rb H F lb lv) : Gives (Wu B19 (AV AB Ak m) N (.pointer (some ⟨rb, 0, none⟩)) (.int .i64 serial) (.int .i64 after) s) s (Fj H serial after) := by
 have r1 : s.rd1 rb 1 = some lv := by rw [Ah h.hb]; rfl
 have d58 := k58 m (by omega) after 0 (H.length : Int) s
 unfold Fj
 by_cases c : 0 ≤ after ∧ after ≤ (H.length : Int)
 · obtain ⟨k, hk⟩ : ∃ k, k = after.toNat := ⟨_, rfl⟩
   have ek : after = (k : Int) := by omega
   rw [if_neg (by omega), ← hk]
   subst ek
   obtain ⟨s1, d1, x1⟩ := k19_J2 m N hm serial h (k := k) (by omega)
   refine ⟨s1, ?_, x1⟩
   rw [RS B19 rfl]
   generalize B19 = B at d1 ⊢
   simp only [bind_ok, AO, cond_false, CB, AP, AY, Am, Nat.zero_add, BN, r1, h.ln.len, d58, decide_eq_true c, DW, Bool.not_true]
   exact d1
 · rw [if_pos (by omega)]
   refine ⟨s, ?_, .refl s⟩
   rw [RS B19 rfl]
   generalize B19 = B
   simp only [bind_ok, AO, cond_true, CB, AP, AY, Am, Nat.zero_add, BN, r1, h.ln.len, d58, decide_eq_false c, DW, Bool.not_false]
   rfl
theorem k19 (n : Nat) (hn : 2100 ≤ n) (serial after : Int) (h : ED s rb H F lb lv) : Gives (AV AB Ak n (.fn 19) [.pointer (some ⟨rb, 0, none⟩), .int .i64 serial, .int .i64 after] s) s (Fj H serial after) := by
 obtain ⟨m, rfl, _⟩ := Af (show 1 ≤ n by omega)
 obtain ⟨s1, d1, x1⟩ := k19_J1 m m (by omega) serial after h
 refine ⟨s1, ?_, x1⟩
 rw [Ap 19 c19 rfl, f19_eq, k54 m (by omega) h]
 generalize B19 = B at d1 ⊢
 simp only [bind_ok, AO, cond_false]
 exact d1
end
end Go.Im
set_option maxRecDepth 100000
set_option maxHeartbeats 4000000
namespace Go.Im
theorem k27_L2 (self : Self) (N : Nat) {s0 : A8} {t : Nat} {c1 c2 c3 c4 : Option Nat} {v1 v2 v3 v4 : Value} {O : Off} {K : List Nat} (hok : ∀ c ∈ O.comps, c.ok) {j : Nat} {c : Bo} (hj : O.comps[j]? = some c) : ∀ (d i f : Nat) (s : A8) (base : Option Nat) (v9 : Value), i + d = 8 → d < f → Ext s0 s → Jh s0 c1 c2 c3 c4 O K v1 v2 v3 v4 → s0.get t = some (.cells [v1, v2, v3, v4] 126 true) → t < s0.nx →
 Ba s base 44 2 ((Dy c i).flatMap Dj) (Dy c i).length v9 → (∀ b, base = some b → s0.nx ≤ b) →
 ∃ base' sv s', PW B27 self N f (.int .i64 (j : Int)) (.pointer (some ⟨t, 0, none⟩)) v9 (.int .i64 (i : Int)) s = .ok (.tuple ⟨[sv, .int .i64 0]⟩, s') ∧ Ext s0 s' ∧ Ba s' base' 44 2 ((ents c).flatMap Dj) (ents c).length sv ∧ (∀ b, base' = some b → s0.nx ≤ b) := by
 intro d
 induction d with
 | zero =>
  intro i f s base v9 hi hf x st ht htl hA hb
  obtain ⟨f, rfl, _⟩ := Af hf
  obtain rfl : i = 8 := by omega
  refine ⟨base, v9, s, ?_, x, hA, hb⟩
  rw [N8 B27 rfl]
  rfl
 | succ d ih =>
  intro i f s base v9 hi hf x st ht htl hA hb
  obtain ⟨f, rfl, _⟩ := Af hf
  have hi8 : i < 8 := by omega
  have hlt : (i : Int) < 8 := by omega
  have hw : BK .i64 ((i : Int) + 1) = ((i + 1 : Nat) : Int) := by rw [wrap64 (by omega)]; omega
  have hc := hok c (List.mem_of_getElem? hj)
  have hjl := BL hj
  have sx := st.ext x
  have htx : s.get t = some (.cells [v1, v2, v3, v4] 126 true) := (x.get t htl).trans ht
  have rt2 : s.rd1 t 2 = some v3 := by rw [Ah htx]; rfl
  have rt3 : s.rd1 t 3 = some v4 := by rw [Ah htx]; rfl
  obtain ⟨tt, htt⟩ := BX (show i < c.told.length by rw [hc.2.2]; exact hi8)
  obtain ⟨b4, e4, ia4⟩ := sx.a4.iad j hjl .i64
  obtain ⟨b4', e4', g4⟩ := sx.a4.get (i := j * 8 + i) (x := .bool tt) (by rw [flat_get JE 8 _ j i _ (fun a ha => by unfold JE; rw [List.length_map]; exact (hok a ha).2.2) hj hi8]; unfold JE; rw [List.getElem?_map, htt]; rfl)
  obtain rfl : b4 = b4' := Option.some.inj (e4.symm.trans e4')
  have ia4' : DL 8 1 (.pointer (some ⟨b4, j * 8, none⟩)) (.int .i64 (i : Int)) = some (.pointer (some ⟨b4, j * 8 + i, none⟩)) := by rw [EX _ _ _ _ _ _ hi8, Nat.mul_one]
  have hg : c.told.getD i false = tt := by rw [List.getD_eq_getElem?_getD, htt]; rfl
  cases tt with
  | false =>
   have e : Dy c (i + 1) = Dy c i := by rw [Dy, hg]; simp
   obtain ⟨base', sv, s', d1, r⟩ := ih (i + 1) f s base v9 (by omega) (by omega) x st ht htl (by rw [e]; exact hA) hb
   refine ⟨base', sv, s', ?_, r⟩
   rw [N8 B27 rfl]
   simp only [BQ, decide_eq_true hlt, cond_true, Rj B27 rfl, Am, Nat.zero_add, AP, AY, bind_ok, BN, rt3, ia4, ia4', g4, AO, cond_false, EJ, hw]
   exact d1
  | true =>
   have e : Dy c (i + 1) = Dy c i ++ [((i : Int), c.card.getD i 0)] := by rw [Dy, hg]; rfl
   have hel := J8 c i
   obtain ⟨cv, hcv⟩ := BX (show i < c.card.length by rw [hc.2.1]; exact hi8)
   have hgc : c.card.getD i 0 = cv := by rw [List.getD_eq_getElem?_getD, hcv]; rfl
   obtain ⟨b3, e3, ia3⟩ := sx.a3.iad j hjl .i64
   obtain ⟨b3', e3', g3⟩ := sx.a3.get (i := j * 8 + i) (x := .int .i64 cv) (by rw [flat_get JD 8 _ j i _ (fun a ha => by unfold JD; rw [List.length_map]; exact (hok a ha).2.1) hj hi8]; unfold JD; rw [List.getElem?_map, hcv]; rfl)
   obtain rfl : b3 = b3' := Option.some.inj (e3.symm.trans e3')
   have ia3' : DL 8 1 (.pointer (some ⟨b3, j * 8, none⟩)) (.int .i64 (i : Int)) = some (.pointer (some ⟨b3, j * 8 + i, none⟩)) := by rw [EX _ _ _ _ _ _ hi8, Nat.mul_one]
   obtain ⟨v', s2, b2, w, hA2, hb2, x2, n2, g2, hc2⟩ := Ya (by_ := 16) (news := Dj ((i : Int), cv)) x hA hb (by decide) (by omega) (by show _ < 9223372036854775808; omega) rfl rfl
   obtain ⟨base', sv, s', d1, r⟩ := ih (i + 1) f s2 b2 v' (by omega) (by omega) x2 st ht htl (by rw [e, hgc, List.flatMap_append, List.length_append]; exact hA2) hb2
   refine ⟨base', sv, s', ?_, r⟩
   have ef := Yb (i : Int) cv
   rw [N8 B27 rfl]
   simp only [BQ, decide_eq_true hlt, cond_true, Rj B27 rfl, Am, Nat.zero_add, AP, AY, bind_ok, BN, rt2, rt3, ia4, ia4', g4, ia3, ia3', g3, AO, ef, Vr, w, Ae, EJ, hw]
   exact d1
section
variable {s : A8} {lb : Option Nat} {lv : Value} {H : Hist} {rb : Nat} {F : Nat → Prop}
theorem k27 (n : Nat) (hn : 2200 ≤ n) (x : List UInt8) (h : ED s rb H F lb lv) : ∃ v s', AV AB Ak n (.fn 27) [.pointer (some ⟨rb, 0, none⟩), .string (ofL x)] s = .ok (v, s') ∧ Ext s s' ∧ MO 44 H x s v s' := by
 obtain ⟨m, rfl, _⟩ := Af (show 1 ≤ n by omega)
 obtain ⟨s1, d61, x1⟩ := k61 m (by omega) x h
 have h1 := h.ext x1
 have err : ∀ e : Int, e ≠ 0 → ET H x = e → AV AB Ak m (.fn 61) [.pointer (some ⟨rb, 0, none⟩), .string (ofL x)] s = .ok (.tuple ⟨[.int .i64 0, .int .i64 e]⟩, s1) → ∃ v s', AV AB Ak (m + 1) (.fn 27) [.pointer (some ⟨rb, 0, none⟩), .string (ofL x)] s = .ok (v, s') ∧ Ext s s' ∧ MO 44 H x s v s' := by
  intro e he ha d
  have c0 : Ef H x = [] := by unfold Ef; rw [if_neg (by rw [ha]; exact he)]
  refine ⟨_, s1, ?_, x1, none, .slice none 0 0, rfl, by rw [c0]; exact ⟨rfl, rfl, rfl⟩, by simp⟩
  rw [Ap 27 c27 rfl, jY, ha]
  simp only [d, bind_ok, Bg, List.getElem?_cons_zero, List.getElem?_cons_succ, AP, AY, DF, decide_eq_false he, Bool.not_false, AO, cond_true]
 unfold UN at d61
 by_cases c : nameB x = false
 · rw [if_pos c] at d61
   exact err 8 (by decide) (by unfold ET; rw [if_pos c]) d61
 · rw [if_neg c] at d61
   by_cases c2 : BF x (run H).comps 0 < 0
   · rw [if_pos c2] at d61
     exact err 6 (by decide) (by unfold ET; rw [if_neg c, if_pos c2]) d61
   · rw [if_neg c2] at d61
     obtain ⟨a1, a2, cc, a3, _⟩ := DJ c2
     rw [a1] at d61
     have ha : ET H x = 0 := by unfold ET; rw [if_neg c, if_neg c2]
     have hok := h.ok.inv.inv.ok
     have c0 : Ef H x = ents cc := by unfold Ef; rw [if_pos ha, a3]
     have r1 : s1.rd1 rb 1 = some lv := by rw [Ah h1.hb]; rfl
     obtain ⟨v, s2, d59, x2, c1', c2', c3', c4', v1, v2, v3, v4, rfl, st, _⟩ := k59 m (by omega) H h.ok h.len lv s1 h1.ln.rdL
     obtain ⟨s3, hs3⟩ : ∃ s3, s3 = s2.new (.cells [.slice none 0 0, .slice none 0 0, .slice none 0 0, .slice none 0 0] 126 true) := ⟨_, rfl⟩
     have x3 : Ext s2 s3 := by rw [hs3]; exact (Ext.refl s2).new _
     have n3 : s3.nx = s2.nx + 1 := by rw [hs3]; rfl
     have hs : Bd [v1, v2, v3, v4] = true := DX (by
      intro v hv; simp only [List.mem_cons, List.not_mem_nil, or_false] at hv
      rcases hv with rfl | rfl | rfl | rfl
      · exact st.a1.simple
      · exact st.a2.simple
      · exact st.a3.simple
      · exact st.a4.simple)
     have w := Dv (s := s3) (b := s2.nx) (o := 0) (n := 4) (v := .agg ⟨[v1, v2, v3, v4]⟩) (by rw [hs3, A8.Aq, if_pos rfl]) rfl hs (by decide)
     obtain ⟨s4, hs4⟩ : ∃ s4, s4 = s3.put s2.nx (.cells [v1, v2, v3, v4] 126 true) := ⟨_, rfl⟩
     have w : wSt s3 4 (.agg ⟨[v1, v2, v3, v4]⟩) (.pointer (some ⟨s2.nx, 0, none⟩)) = some (BO, s4) := by rw [hs4]; exact w
     have n4 : s4.nx = s3.nx := by rw [hs4]; rfl
     have x4 : Ext s2 s4 := ⟨by omega, fun j hj => by rw [hs4, A8.get_put, if_neg (by omega)]; exact x3.get j hj⟩
     have ht : s4.get s2.nx = some (.cells [v1, v2, v3, v4] 126 true) := by rw [hs4, A8.get_put, if_pos rfl]
     have x124 := (x1.trans x2).trans x4
     have x2n := (x1.trans x2).nx
     obtain ⟨base', sv, s5, d5, x5, hA, hb⟩ := k27_L2 (AV AB Ak m) m (s0 := s4) hok a3 8 0 m s4 none (.slice none 0 0) rfl (by omega) (.refl s4) (st.ext x4) ht (by omega) ⟨rfl, rfl, rfl⟩ (by simp)
     refine ⟨_, s5, ?_, x124.trans x5, base', sv, rfl, by rw [c0]; exact hA, fun b e => by have := hb b e; omega⟩
     have ep : ptrTo s2.nx = .pointer (some ⟨s2.nx, 0, none⟩) := rfl
     rw [Ap 27 c27 rfl, jY, ha]
     simp only [d61, bind_ok, Bg, List.getElem?_cons_zero, List.getElem?_cons_succ, AP, AY, DF, decide_true, Bool.not_true, AO, cond_false, ZV B27 rfl, CB, Am, Nat.zero_add, BN, r1, d59, ← hs3, ep, w, Ae]
     exact d5
end
theorem k25_L2 (m N : Nat) (hm : 1 ≤ m) {L : List (Int × Int)} (hL : L.length ≤ 8 ∧ ∀ p ∈ L, -300 ≤ p.1 ∧ p.1 ≤ 300 ∧ -300 ≤ p.2 ∧ p.2 ≤ 300) {base : Option Nat} {v : Value} {s : A8} (hA : Ba s base 44 2 (L.flatMap Dj) L.length v) : ∀ (d i f : Nat) (x : List UInt8), i + d = L.length → d < f → x.length < 1000000 + i * 44 →
 Tv B25 (AV AB Ak m) N f v (.string (ofL x)) (.int .i64 (i : Int)) s = .ok (.tuple ⟨[strOf (x ++ (L.drop i).flatMap H9), .int .i64 0]⟩, s) := by
 intro d
 induction d with
 | zero =>
  intro i f x hi hf hx
  obtain ⟨f, rfl, _⟩ := Af hf
  obtain rfl : i = L.length := by omega
  have : ¬ (L.length : Int) < (L.length : Int) := by omega
  rw [Rh B25 rfl, List.drop_length]
  simp only [hA.len_eq, AP, AY, bind_ok, BP, decide_eq_false this, AO, cond_false, List.flatMap_nil, List.append_nil, strOf]
 | succ d ih =>
  intro i f x hi hf hx
  obtain ⟨f, rfl, _⟩ := Af hf
  have hil : i < L.length := by omega
  obtain ⟨p, hp⟩ := BX hil
  have hlt : (i : Int) < (L.length : Int) := by omega
  have hw : BK .i64 ((i : Int) + 1) = ((i + 1 : Nat) : Int) := by rw [wrap64 (by omega)]; omega
  obtain ⟨b, hb, ia⟩ := hA.iad i hil .i64
  have hbl := hA.lt hb
  have gg : ∀ k y, k < 2 → (Dj p)[k]? = some y → s.rd1 b (i * 2 + k) = some y := fun k y hk hy => by
   obtain ⟨b', hb', g⟩ := hA.get (i := i * 2 + k) (x := y) (by rw [flat_get Dj 2 _ i k p (fun _ _ => rfl) hp hk, hy])
   obtain rfl : b = b' := Option.some.inj (hb.symm.trans hb')
   exact g
  have r0 : s.rd1 b (i * 2) = some (.int .i64 p.1) := gg 0 _ (by decide) rfl
  have r1 : s.rd1 b (i * 2 + 1) = some (.int .i64 p.2) := gg 1 _ (by decide) rfl
  have hpb := hL.2 p (List.mem_of_getElem? hp)
  have d1 := k45 m hm p.1 (by omega) s
  have d2 := k45 m hm p.2 (by omega) s
  have l1 := Gm p.1
  have l2 := Gm p.2
  have a1 := IE (Eo p.1) [32] (by simp; omega)
  have a2 := IE (Eo p.1 ++ [32]) (Eo p.2) (by simp; omega)
  have a3 := IE (Eo p.1 ++ [32] ++ Eo p.2) [10] (by simp; omega)
  have l3 := QW p
  have a4 := IE x (H9 p) (by have := hL.1; omega)
  have a4 : BJ .add (.string (ofL x)) (.string (ofL (Eo p.1 ++ [32] ++ Eo p.2 ++ [10]))) = some (.string (ofL (x ++ H9 p))) := a4
  have dd := ih (i + 1) f (x ++ H9 p) (by omega) (by omega) (by rw [List.length_append]; omega)
  have ec : L.drop i = p :: L.drop (i + 1) := drop_at hp
  have ck := CV (s := s) (b := b) (o := i * 2 + 1) (v := .int .i64 p.2) hbl (by show (Hy .i64 .i64 && eqF p.2 p.2) = true; rw [FN]; simp [DU])
  rw [Rh B25 rfl, ec, List.flatMap_cons, ← List.append_assoc]
  simp only [hA.len_eq, AP, AY, bind_ok, BP, decide_eq_true hlt, AO, cond_true, ZT B25 rfl, ia, Am, Nat.add_zero, CO, Bc, BN, r0, r1, d1, d2, lit32, Yc, a1, a2, a3, a4, ck, Bool.and_true, EJ, hw]
  exact dd
section
variable {s : A8} {lb : Option Nat} {lv : Value} {H : Hist} {rb : Nat} {F : Nat → Prop}
theorem k25 (n : Nat) (hn : 2300 ≤ n) (x : List UInt8) (h : ED s rb H F lb lv) : Gives (AV AB Ak n (.fn 25) [.pointer (some ⟨rb, 0, none⟩), .string (ofL x)] s) s (KC H x) := by
 obtain ⟨m, rfl, _⟩ := Af (show 1 ≤ n by omega)
 obtain ⟨v, s2, d27, x2, base, sv, rfl, hA, hb⟩ := k27 m (by omega) x h
 unfold KC
 rw [Ap 25 c25 rfl, f25_eq]
 by_cases ha : ET H x = 0
 · rw [if_pos ha]
   rw [ha] at d27
   have hx := Sm (O7 ha)
   have a1 := IE x [10] (by simp; omega)
   have hin := NV h.ok x
   have d3 := k25_L2 m m (by omega) hin hA (Ef H x).length 0 m (x ++ [10]) (by omega) (by omega) (by simp; omega)
   refine ⟨s2, ?_, x2⟩
   simp only [d27, bind_ok, Bg, List.getElem?_cons_zero, List.getElem?_cons_succ, AP, AY, DF, decide_true, Bool.not_true, AO, cond_false, ZR B25 rfl, Yc, a1]
   exact d3
 · rw [if_neg ha]
   refine ⟨s2, ?_, x2⟩
   simp only [d27, bind_ok, Bg, List.getElem?_cons_zero, List.getElem?_cons_succ, AP, AY, DF, decide_eq_false ha, Bool.not_false, AO, cond_true]
   rfl
end
end Go.Im
set_option maxRecDepth 100000
set_option maxHeartbeats 4000000
namespace Go.Im
section
variable {s : A8} {lb : Option Nat} {lv : Value} {H : Hist} {rb : Nat} {F : Nat → Prop}
theorem MP (m N f : Nat) (hm : 2100 ≤ m) (v4 : Value) (h : ED s rb H F lb lv) {q : Nat} {c : List Value} (hq : s.get q = some (.cells c 33 true)) (hc : c.length = 4) (hql : q < s.nx) (hqF : ¬ F q) (j k : Nat) (hj : j < (run H).comps.length) (hk : k < 4) :
 ∃ s', LG B23 (AV AB Ak m) N (f + 1) (.pointer (some ⟨rb, 0, none⟩)) v4 (.int .i64 (j : Int)) (.pointer (some ⟨q, 0, none⟩)) (.int .i64 (k : Int)) s = LG B23 (AV AB Ak m) N f (.pointer (some ⟨rb, 0, none⟩)) v4 (.int .i64 (j : Int)) (.pointer (some ⟨q, 0, none⟩)) (.int .i64 ((k + 1 : Nat) : Int)) s' ∧
  s'.get q = some (.cells (c.set k (iV ((partAt (run H).comps j k : Int) + 1))) 33 true) ∧ s.nx ≤ s'.nx ∧ (∀ i, i < s.nx → i ≠ q → s'.get i = s.get i) ∧ ED s' rb H F lb lv := by
 have r1 : s.rd1 rb 1 = some lv := by rw [Ah h.hb]; rfl
 have inv := h.ok.inv
 have hpl := inv.QG
 have hlen := h.len
 obtain ⟨v, s1, d59, x1, c1, c2, c3, c4, v1, v2, v3, v4', rfl, st, _⟩ := k59 m (by omega) H h.ok h.len lv s h.ln.rdL
 obtain ⟨s2, d62, x2⟩ := k62 m (by omega) (j : Int) (k : Int) st inv.inv.ML (by omega)
 rw [inv.inv.inIx hj hk] at d62
 have x12 := x1.trans x2
 have hq2 : s2.get q = some (.cells c 33 true) := (x12.get q hql).trans hq
 obtain ⟨t, t1, _⟩ := inv.inv.at_ j k hj hk
 have hpb := BL t1
 have w := KG (s := s2) (b := q) hq2 (o := k) (v := iV ((partAt (run H).comps j k : Int) + 1)) rfl (by omega)
 obtain ⟨s3, hs3⟩ : ∃ s3, s3 = s2.put q (.cells (c.set k (iV ((partAt (run H).comps j k : Int) + 1))) 33 true) := ⟨_, rfl⟩
 rw [← hs3] at w
 have g3 : ∀ i, i ≠ q → s3.get i = s2.get i := fun i hi => by rw [hs3, A8.get_put, if_neg hi]
 have n3 : s3.nx = s2.nx := by rw [hs3]; rfl
 have xn := x12.nx
 refine ⟨s3, ?_, by rw [hs3, A8.get_put, if_pos rfl], by omega, fun i hi hiq => by rw [g3 i hiq]; exact x12.get i hi, (h.ext x12).frame (by omega) fun i hi => g3 i fun e => hqF (by rw [← e]; exact hi)⟩
 have hlt : (k : Int) < 4 := by omega
 have ia : DL 4 1 (.pointer (some ⟨q, 0, none⟩)) (.int .i64 (k : Int)) = some (.pointer (some ⟨q, k, none⟩)) := by rw [EX _ _ _ _ _ _ hk, Nat.mul_one, Nat.zero_add]
 have hw : BK .i64 ((k : Int) + 1) = ((k + 1 : Nat) : Int) := by rw [wrap64 (by omega)]; omega
 have hw2 : BK .i64 ((partAt (run H).comps j k : Int) + 1) = (partAt (run H).comps j k : Int) + 1 := wrap64 (by omega)
 have w' : wSt s2 1 (.int .i64 ((partAt (run H).comps j k : Int) + 1)) (.pointer (some ⟨q, k, none⟩)) = some (BO, s3) := w
 rw [RZ B23 rfl]
 simp only [BQ, decide_eq_true hlt, cond_true, ZO B23 rfl, CB, AP, AY, bind_ok, Am, Nat.zero_add, BN, r1, d59, d62, PS, hw2, ia, w', Ae, EJ, hw]
end
end Go.Im
set_option maxRecDepth 100000
set_option maxHeartbeats 4000000
namespace Go.Im
section
variable {s : A8} {lb : Option Nat} {lv : Value} {H : Hist} {rb : Nat} {F : Nat → Prop}
theorem k23_L2 (m N f : Nat) (hm : 2100 ≤ m) (hf : 5 ≤ f) (h : ED s rb H F lb lv) {r q : Nat} (hq : s.get q = some (.cells EC 33 true)) (hr : s.get r = some (.cells EC 33 true)) (hrq : r ≠ q) (hql : q < s.nx) (hrl : r < s.nx) (hqF : ¬ F q) (j : Nat) (hj : j < (run H).comps.length) :
 ∃ s', LG B23 (AV AB Ak m) N f (.pointer (some ⟨rb, 0, none⟩)) (.pointer (some ⟨r, 0, none⟩)) (.int .i64 (j : Int)) (.pointer (some ⟨q, 0, none⟩)) (.int .i64 0) s = .ok (.tuple ⟨[.agg ⟨Hw (run H).comps j⟩, .int .i64 0]⟩, s') ∧ s.nx ≤ s'.nx ∧ (∀ i, i < s.nx → i ≠ q → i ≠ r → s'.get i = s.get i) := by
 obtain ⟨f, rfl⟩ : ∃ g, f = g + 5 := ⟨f - 5, by omega⟩
 obtain ⟨t1, e1, q1, m1, k1, r1⟩ := MP m N (f + 4) hm (.pointer (some ⟨r, 0, none⟩)) h hq rfl hql hqF j 0 hj (by decide)
 obtain ⟨t2, e2, q2, m2, k2, r2⟩ := MP m N (f + 3) hm (.pointer (some ⟨r, 0, none⟩)) r1 q1 rfl (by omega) hqF j 1 hj (by decide)
 obtain ⟨t3, e3, q3, m3, k3, r3⟩ := MP m N (f + 2) hm (.pointer (some ⟨r, 0, none⟩)) r2 q2 rfl (by omega) hqF j 2 hj (by decide)
 obtain ⟨t4, e4, q4, m4, k4, r4⟩ := MP m N (f + 1) hm (.pointer (some ⟨r, 0, none⟩)) r3 q3 rfl (by omega) hqF j 3 hj (by decide)
 have q4 : t4.get q = some (.cells (Hw (run H).comps j) 33 true) := q4
 have old : ∀ i, i < s.nx → i ≠ q → t4.get i = s.get i := fun i hi hne => by rw [k4 i (by omega) hne, k3 i (by omega) hne, k2 i (by omega) hne, k1 i (by omega) hne]
 have hr4 : t4.get r = some (.cells EC 33 true) := by rw [old r hrl hrq]; exact hr
 have ld : CQ t4 4 (.pointer (some ⟨q, 0, none⟩)) = some (.agg ⟨Hw (run H).comps j⟩) := Dw (by rw [EH q4 (by simp [Hw])]; rfl)
 obtain ⟨t5, w5, l5, _, n5, g5⟩ := w4 hr4 rfl (vs := Hw (run H).comps j) rfl rfl
 refine ⟨t5, ?_, by omega, fun i hi hiq hir => by rw [g5 i hir, old i hi hiq]⟩
 have last : LG B23 (AV AB Ak m) N (f + 1) (.pointer (some ⟨rb, 0, none⟩)) (.pointer (some ⟨r, 0, none⟩)) (.int .i64 (j : Int)) (.pointer (some ⟨q, 0, none⟩)) (.int .i64 ((3 + 1 : Nat) : Int)) t4 = .ok (.tuple ⟨[.agg ⟨Hw (run H).comps j⟩, .int .i64 0]⟩, t5) := by
  have hlt : decide (((3 + 1 : Nat) : Int) < 4) = false := rfl
  rw [RZ B23 rfl]
  simp only [BQ, hlt, cond_false, ld, AP, AY, bind_ok, w5, Ae, l5]
  rfl
 exact e1.trans (e2.trans (e3.trans (e4.trans last)))
theorem k23 (n : Nat) (hn : 2200 ≤ n) (x : List UInt8) (h : ED s rb H F lb lv) : Gives (AV AB Ak n (.fn 23) [.pointer (some ⟨rb, 0, none⟩), .string (ofL x)] s) s (Ib H x) := by
 obtain ⟨m, rfl, _⟩ := Af (show 1 ≤ n by omega)
 obtain ⟨s1, hs1⟩ : ∃ s1, s1 = s.new (.cells EC 33 true) := ⟨_, rfl⟩
 have x1 : Ext s s1 := by rw [hs1]; exact (Ext.refl s).new _
 have n1 : s1.nx = s.nx + 1 := by rw [hs1]; rfl
 have g1 : s1.get s.nx = some (.cells EC 33 true) := by rw [hs1, A8.Aq, if_pos rfl]
 have h1 := h.ext x1
 obtain ⟨s2, d61, x2⟩ := k61 m (by omega) x h1
 have x2n := x2.nx
 have h2 := h1.ext x2
 have g2 : s2.get s.nx = some (.cells EC 33 true) := (x2.get _ (by omega)).trans g1
 have es : s.new (.cells [.int .i64 0, .int .i64 0, .int .i64 0, .int .i64 0] 33 true) = s1 := hs1.symm
 have ep : ptrTo s.nx = .pointer (some ⟨s.nx, 0, none⟩) := rfl
 have err : ∀ e : Int, e ≠ 0 → AV AB Ak m (.fn 61) [.pointer (some ⟨rb, 0, none⟩), .string (ofL x)] s1 = .ok (.tuple ⟨[.int .i64 0, .int .i64 e]⟩, s2) → Gives (AV AB Ak (m + 1) (.fn 23) [.pointer (some ⟨rb, 0, none⟩), .string (ofL x)] s) s (.tuple ⟨[.agg ⟨EC⟩, .int .i64 e]⟩) := by
  intro e he d
  obtain ⟨s5, w5, l5, _, n5, g5⟩ := w4 g2 rfl (vs := EC) rfl rfl
  refine ⟨s5, ?_, ⟨by omega, fun i hi => by rw [g5 i (by omega), x2.get i (by omega)]; exact x1.get i hi⟩⟩
  rw [Ap 23 c23 rfl, jO]
  simp only [es, d, bind_ok, Bg, List.getElem?_cons_zero, List.getElem?_cons_succ, AP, AY, ep, Ae, DF, decide_eq_false he, Bool.not_false, AO, cond_true, Ve, w5, l5]
  rfl
 unfold Ib
 unfold UN at d61
 by_cases c : nameB x = false
 · rw [if_pos c] at d61 ⊢
   exact err 8 (by decide) d61
 · rw [if_neg c] at d61 ⊢
   by_cases c2 : BF x (run H).comps 0 < 0
   · rw [if_pos c2] at d61 ⊢
     exact err 6 (by decide) d61
   · rw [if_neg c2] at d61 ⊢
     obtain ⟨a1, a2, cc, a3, _⟩ := DJ c2
     rw [a1] at d61
     obtain ⟨j, hj⟩ : ∃ j, j = cix (run H).comps x := ⟨_, rfl⟩
     rw [← hj] at d61 a2 ⊢
     obtain ⟨s3, hs3⟩ : ∃ s3, s3 = s2.new (.cells EC 33 true) := ⟨_, rfl⟩
     have x3 : Ext s2 s3 := by rw [hs3]; exact (Ext.refl s2).new _
     have n3 : s3.nx = s2.nx + 1 := by rw [hs3]; rfl
     have g3 : s3.get s2.nx = some (.cells EC 33 true) := by rw [hs3, A8.Aq, if_pos rfl]
     have h3 := h2.ext x3
     have hF : ¬ F s2.nx := fun hh => by have := h.hi _ hh; omega
     have hFr : ¬ F s.nx := fun hh => by have := h.hi _ hh; omega
     obtain ⟨t5, e5, n5, g5⟩ := k23_L2 m m m (by omega) (by omega) h3 g3 ((x3.get _ (by omega)).trans g2) (by omega) (by omega) (by omega) hF j a2
     refine ⟨t5, ?_, ⟨by omega, fun i hi => by rw [g5 i (by omega) (by omega) (by omega), x3.get i (by omega), x2.get i (by omega)]; exact x1.get i hi⟩⟩
     have ep2 : ptrTo s2.nx = .pointer (some ⟨s2.nx, 0, none⟩) := rfl
     have es3 : s2.new (.cells [.int .i64 0, .int .i64 0, .int .i64 0, .int .i64 0] 33 true) = s3 := hs3.symm
     rw [Ap 23 c23 rfl, jO]
     simp only [es, d61, bind_ok, Bg, List.getElem?_cons_zero, List.getElem?_cons_succ, AP, AY, ep, DF, decide_true, Bool.not_true, AO, cond_false, ZN B23 rfl, es3, ep2]
     exact e5
end
end Go.Im
