/- The lines of a shift. -/
import Derived.Test.YtojbkocmobkddaaGreatDoorImQW
set_option linter.all false
set_option maxRecDepth 100000
set_option maxHeartbeats 4000000
namespace Go.Im
def DF (s : A8) (base : Option Nat) (v : Value) (M : List (List UInt8)) : Prop :=
 Bc s base 9 1 (M.map strOf) M.length v ∨ ∃ b, base = some b ∧ b < s.nx ∧ v = .slice (some ⟨b, 0, none⟩) M.length M.length ∧ s.get b = some (.cells (M.map strOf) 9 true)
theorem DF.lt {s : A8} {base : Option Nat} {v : Value} {M : List (List UInt8)} (h : DF s base v M) {b : Nat} (e : base = some b) : b < s.nx := by
 rcases h with h | ⟨b', e', h2, _⟩
 · exact h.lt e
 · rw [e'] at e; obtain rfl := Option.some.inj e; exact h2
theorem DF.frame {s s' : A8} {base : Option Nat} {v : Value} {M : List (List UInt8)} (h : DF s base v M) (hn : s.nx ≤ s'.nx) (hg : ∀ b, base = some b → s'.get b = s.get b) : DF s' base v M := by
 rcases h with h | ⟨b, e, h2, h3, h4⟩
 · exact .inl (h.frame hn hg)
 · exact .inr ⟨b, e, by omega, h3, (hg b e).trans h4⟩
theorem DF.rdS {s : A8} {base : Option Nat} {v : Value} {M : List (List UInt8)} (h : DF s base v M) : RdS s v M := by
 rcases h with h | ⟨b, e, h2, rfl, h4⟩
 · exact h.rdS
 · refine ⟨rfl, fun i x hx => ⟨b, h2, ?_, ?_⟩⟩
   · rw [Le _ _ _ _ _ _ _ (BA hx), Nat.mul_one, Nat.zero_add]
   · rw [Ag h4, List.getElem?_map, hx]; rfl
theorem DF.push {s0 s : A8} (x : Ext s0 s) {base : Option Nat} {v : Value} {M : List (List UInt8)} (h : DF s base v M) (hb : ∀ b, base = some b → s0.nx ≤ b) (hl : M.length < 1000000) (y : List UInt8) :
 ∃ v' s' base', Df (s.new (.cells [strOf y] 9 true)) 9 1 16 v (Bv 1 1 s.nx) = some (v', s') ∧ DF s' base' v' (M ++ [y]) ∧ (∀ b, base' = some b → s0.nx ≤ b) ∧ Ext s0 s' ∧ s.nx + 1 ≤ s'.nx := by
 have em : (M ++ [y]).map strOf = M.map strOf ++ [strOf y] := by simp
 rcases h with h | ⟨b, rfl, h2, rfl, h4⟩
 · obtain ⟨v', s', base', w, A, fb, xx, n, _, _⟩ := OH (by_ := 16) (news := [strOf y]) x h hb (by decide) (by omega) (by show _ < 9223372036854775808; omega) rfl rfl
   exact ⟨v', s', base', w, .inl (by rw [em, List.length_append]; exact A), fb, xx, n⟩
 · have xn := x.nx
   have hb0 := hb b rfl
   obtain ⟨s1, hs1⟩ : ∃ s1, s1 = s.new (.cells [strOf y] 9 true) := ⟨_, rfl⟩
   have n1 : s1.nx = s.nx + 1 := by rw [hs1]; rfl
   have x1 : Ext s s1 := by rw [hs1]; exact (Ext.refl s).new _
   have hsrc := fQ (s := s) (s' := s1) (cs := [strOf y]) (el := 9) (w := 1) hs1 rfl
   have g1 : s1.get b = some (.cells (M.map strOf) 9 true) := (x1.get b h2).trans h4
   have hrd : s1.rd b 0 (Nat.mul M.length 1) = some (M.map strOf) := by
    have : Nat.mul M.length 1 = M.length := Nat.mul_one _
    rw [this, Eb g1 (by simp), List.drop_zero, List.take_of_length_le (by simp)]
   have w : Df s1 9 1 16 (.slice (some ⟨b, 0, none⟩) M.length M.length) (Bv 1 1 s.nx) = some (Dc s1 9 (M.length + 1) (M.map strOf) [strOf y]) := by
    show ob (Cc s1 1 (Bv 1 1 s.nx)) (fun news => Ei s1 9 1 16 news (.slice (some ⟨b, 0, none⟩) M.length M.length)) = _
    rw [hsrc]
    show cond (Nat.beq 1 0) none (cond (Nat.ble (Nat.mul (Nat.add M.length (Nat.div [strOf y].length 1)) 16) 140737488355328 && Nat.blt (Nat.add M.length (Nat.div [strOf y].length 1)) UNK) (J4 s1 9 1 M.length M.length (Nat.div [strOf y].length 1) (Nat.add M.length (Nat.div [strOf y].length 1)) [strOf y] (some ⟨b, 0, none⟩)) none) = _
    have d : Nat.div [strOf y].length 1 = 1 := Nat.div_one 1
    have a1 : Nat.ble (Nat.mul (Nat.add M.length 1) 16) 140737488355328 = true := Aa.2 (by show (M.length + 1) * 16 ≤ _; omega)
    have a2 : Nat.blt (Nat.add M.length 1) UNK = true := Bh.2 (by show M.length + 1 < 9223372036854775808; omega)
    rw [d, a1, a2]
    show cond (Nat.blt M.length UNK) (cond (Nat.ble (M.length + 1) M.length) (Ju s1 ⟨b, 0, none⟩ 1 M.length M.length (M.length + 1) [strOf y]) (ob (s1.rd b 0 (Nat.mul M.length 1)) fun old => some (Dc s1 9 (M.length + 1) old [strOf y]))) (cond (Nat.beq M.length UNE) none (MG s1 ⟨b, 0, none⟩ 9 1 M.length (M.length + 1) [strOf y] (s1.get b))) = _
    have a3 : Nat.blt M.length UNK = true := Bh.2 (by show M.length < 9223372036854775808; omega)
    have a4 : Nat.ble (M.length + 1) M.length = false := by
     cases hh : Nat.ble (M.length + 1) M.length with
     | false => rfl
     | true => have := Aa.1 hh; omega
    rw [a3, a4, hrd]; rfl
   have x2 : Ext s1 (s1.new (.cells (M.map strOf ++ [strOf y]) 9 true)) := (Ext.refl s1).new _
   refine ⟨.slice (some ⟨s1.nx, 0, none⟩) (M.length + 1) UNK, s1.new (.cells (M.map strOf ++ [strOf y]) 9 true), some s1.nx, by rw [← hs1]; exact w, .inl ?_, fun b' e => by obtain rfl := Option.some.inj e; omega, x.trans (x1.trans x2), by show s.nx + 1 ≤ s1.nx + 1; omega⟩
   rw [em, List.length_append]
   exact ⟨rfl, by simp, M.map strOf ++ [strOf y], by rw [A8.Af, if_pos rfl], by rw [List.take_of_length_le (by simp)], by simp⟩
def nameOf (n : Nat) : List UInt8 := [[97, 100, 97], [98, 101, 110], [99, 121], [100, 97, 110], [101, 118, 97]].getD (n % 5) []
def kindOf (n : Nat) : List UInt8 := Eh (n % 4)
theorem Gs (n : Nat) : (nameOf n).length ≤ 3 := by
 unfold nameOf
 have : n % 5 < 5 := Nat.mod_lt _ (by decide)
 match n % 5, this with
 | 0, _ => decide
 | 1, _ => decide
 | 2, _ => decide
 | 3, _ => decide
 | 4, _ => decide
theorem k68 (n : Nat) (hn : 1 ≤ n) (z : Nat) (hz : z < 256) (s : A8) : Gives (AU AB Ah n (.fn 68) [.int .u8 (z : Int)] s) s (.string (ofL (nameOf z))) := by
 obtain ⟨m, rfl, _⟩ := Ae hn
 obtain ⟨s1, hs1⟩ : ∃ s1, s1 = s.new (.cells ([[97, 100, 97], [98, 101, 110], [99, 121], [100, 97, 110], [101, 118, 97]].map strOf) 9 true) := ⟨_, rfl⟩
 have x1 : Ext s s1 := by rw [hs1]; exact (Ext.refl s).new _
 have g1 : s1.get s.nx = some (.cells ([[97, 100, 97], [98, 101, 110], [99, 121], [100, 97, 110], [101, 118, 97]].map strOf) 9 true) := by rw [hs1, A8.Af, if_pos rfl]
 have w : BL .i64 (z : Int) = (z : Int) := wrap64 (by omega)
 have hm : z % 5 < 5 := Nat.mod_lt _ (by decide)
 have t : Int.tmod (z : Int) 5 = ((z % 5 : Nat) : Int) := by rw [Int.tmod_eq_emod_of_nonneg (by omega)]; omega
 have r : s1.rd1 s.nx (z % 5) = some (.string (ofL (nameOf z))) := by
  rw [Ag g1]
  unfold nameOf
  match z % 5, hm with
  | 0, _ => rfl
  | 1, _ => rfl
  | 2, _ => rfl
  | 3, _ => rfl
  | 4, _ => rfl
 refine ⟨s1, ?_, x1⟩
 have ef : ob (fill (zeros [.string ⟨#[]⟩] 5) [(0, 1, (.string ⟨#[97, 100, 97]⟩)), (1, 1, (.string ⟨#[98, 101, 110]⟩)), (2, 1, (.string ⟨#[99, 121]⟩)), (3, 1, (.string ⟨#[100, 97, 110]⟩)), (4, 1, (.string ⟨#[101, 118, 97]⟩))]) (fun c => some (CQ.cells c 9 true, Bv 5 5)) = some (.cells ([[97, 100, 97], [98, 101, 110], [99, 121], [100, 97, 110], [101, 118, 97]].map strOf) 9 true, Bv 5 5) := rfl
 have ia : BN 1 (Bv 5 5 s.nx) (.int .i64 ((z % 5 : Nat) : Int)) = some (.pointer (some ⟨s.nx, z % 5, none⟩)) := by
  show BN 1 (.slice (some ⟨s.nx, 0, none⟩) 5 5) _ = _
  rw [Le _ _ _ _ _ _ _ hm, Nat.mul_one, Nat.zero_add]
 rw [Au 68 c68 rfl, f68_eq, w, t]
 simp only [ef, Ad, BD, bind_ok, ← hs1, ia, CS, r]
theorem k36 (n : Nat) (hn : 1 ≤ n) (z : Nat) (hz : z < 256) (s : A8) : Gives (AU AB Ah n (.fn 36) [.int .u8 (z : Int)] s) s (.string (ofL (kindOf z))) := by
 obtain ⟨m, rfl, _⟩ := Ae hn
 obtain ⟨s1, hs1⟩ : ∃ s1, s1 = s.new (.cells ([QK, QL, needle, pivot].map strOf) 9 true) := ⟨_, rfl⟩
 have x1 : Ext s s1 := by rw [hs1]; exact (Ext.refl s).new _
 have g1 : s1.get s.nx = some (.cells ([QK, QL, needle, pivot].map strOf) 9 true) := by rw [hs1, A8.Af, if_pos rfl]
 have w : BL .i64 (z : Int) = (z : Int) := wrap64 (by omega)
 have hm : z % 4 < 4 := Nat.mod_lt _ (by decide)
 have t : Int.tmod (z : Int) 4 = ((z % 4 : Nat) : Int) := by rw [Int.tmod_eq_emod_of_nonneg (by omega)]; omega
 have r : s1.rd1 s.nx (z % 4) = some (.string (ofL (kindOf z))) := by
  rw [Ag g1]
  unfold kindOf Eh
  match z % 4, hm with
  | 0, _ => rfl
  | 1, _ => rfl
  | 2, _ => rfl
  | 3, _ => rfl
 refine ⟨s1, ?_, x1⟩
 have ef : ob (fill (zeros [.string ⟨#[]⟩] 4) [(0, 1, (.string ⟨#[98, 111, 119, 108]⟩)), (1, 1, (.string ⟨#[99, 97, 112]⟩)), (2, 1, (.string ⟨#[110, 101, 101, 100, 108, 101]⟩)), (3, 1, (.string ⟨#[112, 105, 118, 111, 116]⟩))]) (fun c => some (CQ.cells c 9 true, Bv 4 4)) = some (.cells ([QK, QL, needle, pivot].map strOf) 9 true, Bv 4 4) := rfl
 have ia : BN 1 (Bv 4 4 s.nx) (.int .i64 ((z % 4 : Nat) : Int)) = some (.pointer (some ⟨s.nx, z % 4, none⟩)) := by
  show BN 1 (.slice (some ⟨s.nx, 0, none⟩) 4 4) _ = _
  rw [Le _ _ _ _ _ _ _ hm, Nat.mul_one, Nat.zero_add]
 rw [Au 36 c36 rfl, f36_eq, w, t]
 simp only [ef, Ad, BD, bind_ok, ← hs1, ia, CS, r]
abbrev G6 := Nat × Nat × Nat × Nat
def qV (z : Nat) : Value := .int .u8 (z : Int)
def EJ (q : G6) : List Value := [qV q.1, qV q.2.1, qV q.2.2.1, qV q.2.2.2]
def G6.ok (q : G6) : Prop := q.1 < 256 ∧ q.2.1 < 256 ∧ q.2.2.1 < 256 ∧ q.2.2.2 < 256
structure RdQ (s : A8) (v : Value) (L : List G6) : Prop where
 len : Ce v = some (.int .i64 (L.length : Int))
 at_ : ∀ (i : Nat) (q : G6), L[i]? = some q → q.ok ∧ ∃ lb, lb < s.nx ∧ BN 4 v (.int .i64 (i : Int)) = some (.pointer (some ⟨lb, i * 4, none⟩)) ∧ s.rd lb (i * 4) 4 = some (EJ q)
theorem RdQ.ext {s s' : A8} {v : Value} {L : List G6} (h : RdQ s v L) (e : Ext s s') : RdQ s' v L := ⟨h.len, fun i x hx => by
 obtain ⟨h0, lb, h1, h2, h3⟩ := h.at_ i x hx
 refine ⟨h0, lb, Nat.lt_of_lt_of_le h1 e.nx, h2, ?_⟩
 have := e.get lb h1
 unfold A8.rd at h3 ⊢
 rw [this]; exact h3⟩
def CV : List UInt8 := [110, 101, 119, 32]
def Cj : List UInt8 := [115, 119, 97, 112, 32]
def G7 : List UInt8 := [99, 97, 114, 100, 32]
def Hz : List UInt8 := [109, 101, 110, 100, 32]
def ET (undo : Bool) (q : G6) : List UInt8 :=
 if q.1 % 12 < 2 then CV ++ nameOf q.2.1
 else if q.1 % 12 < 6 then ((((Cj ++ nameOf (q.2.1 % 3)) ++ [32]) ++ nameOf (q.2.2.1 % 4)) ++ [32]) ++ kindOf q.2.2.2
 else if q.1 % 12 < 8 then ((((G7 ++ nameOf (q.2.1 % 3)) ++ [32]) ++ F6 ((q.2.2.1 % 8 : Nat) : Int)) ++ [32]) ++ F6 ((q.2.2.2 : Int) - 128)
 else if q.1 % 12 < 10 ∨ undo = false then ((Hz ++ nameOf (q.2.1 % 3)) ++ [32]) ++ kindOf q.2.2.2
 else DY
def Dh (undo : Bool) (L : List G6) : List (List UInt8) := [CV ++ [97, 100, 97], CV ++ [98, 101, 110]] ++ (L.take 20).map (ET undo)
end Go.Im
set_option maxRecDepth 100000
set_option maxHeartbeats 4000000
namespace Go.Im
theorem gX (a k : Nat) (hk : 0 < k) : Az .rem (.int .u8 (a : Int)) (.int .u8 (k : Int)) = some (.int .u8 ((a % k : Nat) : Int)) := by
 rw [UY .u8 (a : Int) (k : Int) (by omega), Int.tmod_eq_emod_of_nonneg (by omega)]
 congr 2
theorem N9 (a k : Nat) (hk : 0 < k) : Az .rem (.int .i64 (a : Int)) (.int .i64 (k : Int)) = some (.int .i64 ((a % k : Nat) : Int)) := by
 rw [UY .i64 (a : Int) (k : Int) (by omega), Int.tmod_eq_emod_of_nonneg (by omega)]
 congr 2
theorem Nl (x : List UInt8) : ob (fill (zeros [.string ⟨#[]⟩] 1) [(0, 1, (.string (ofL x)))]) (fun c => some (CQ.cells c 9 true, Bv 1 1)) = some (.cells [strOf x] 9 true, Bv 1 1) := rfl
theorem Uw (z : Nat) : veq (qV z) (qV z) = true := by
 show (J9 .u8 .u8 && eqF (z : Int) (z : Int)) = true
 rw [DV, LV]; simp
section
variable {s0 s : A8} {q : Nat} {qd : G6} {base : Option Nat} {v5 : Value} {M : List (List UInt8)}
theorem k32_J3 (m N n1 : Nat) (hm : 3 ≤ m) (u : Bool) (v10 : Value) (i11 : Int) (i : Nat) (hi : i < 1000) (x : Ext s0 s) (hq : s.get q = some (.cells (EJ qd) 143 true)) (hql : q < s.nx) (ok : qd.ok) (hL : DF s base v5 M) (hb : ∀ b, base = some b → s0.nx ≤ b) (hM : M.length < 1000) :
 ∃ v5' s' base', Si B32 (AU AB Ah m) N n1 (.bool u) v5 (.pointer (some ⟨q, 0, none⟩)) v10 (.int .i64 i11) (.int .i64 (i : Int)) s = Fv B32 (AU AB Ah m) N n1 (.bool u) v5' v10 (.int .i64 i11) (.int .i64 ((i + 1 : Nat) : Int)) s' ∧ Ext s0 s' ∧ s.nx ≤ s'.nx ∧ DF s' base' v5' (M ++ [ET u qd]) ∧ (∀ b, base' = some b → s0.nx ≤ b) := by
 obtain ⟨a, b, c, d⟩ := qd
 obtain ⟨oa, ob', oc, od⟩ := ok
 simp only at oa ob' oc od
 have hw : BL .i64 ((i : Int) + 1) = ((i + 1 : Nat) : Int) := by rw [wrap64 (by omega)]; omega
 have rq : ∀ (t : A8), Ext s t → t.rd1 q 0 = some (.int .u8 (a : Int)) ∧ t.rd1 q 1 = some (.int .u8 (b : Int)) ∧ t.rd1 q 2 = some (.int .u8 (c : Int)) ∧ t.rd1 q 3 = some (.int .u8 (d : Int)) := fun t xt => by
  have g := (xt.get q hql).trans hq
  exact ⟨by rw [Ag g]; rfl, by rw [Ag g]; rfl, by rw [Ag g]; rfl, by rw [Ag g]; rfl⟩
 obtain ⟨r0, r1, r2, r3⟩ := rq s (.refl s)
 have i0 : Bo 4 1 (.pointer (some ⟨q, 0, none⟩)) (.int .i64 0) = some (.pointer (some ⟨q, 0, none⟩)) := rfl
 have i1 : Bo 4 1 (.pointer (some ⟨q, 0, none⟩)) (.int .i64 1) = some (.pointer (some ⟨q, 1, none⟩)) := rfl
 have i2 : Bo 4 1 (.pointer (some ⟨q, 0, none⟩)) (.int .i64 2) = some (.pointer (some ⟨q, 2, none⟩)) := rfl
 have i3 : Bo 4 1 (.pointer (some ⟨q, 0, none⟩)) (.int .i64 3) = some (.pointer (some ⟨q, 3, none⟩)) := rfl
 have wa : BL .i64 (a : Int) = (a : Int) := wrap64 (by omega)
 have wc : BL .i64 (c : Int) = (c : Int) := wrap64 (by omega)
 have wd' : BL .i64 (d : Int) = (d : Int) := wrap64 (by omega)
 have QB : Az .rem (.int .i64 (a : Int)) (.int .i64 12) = some (.int .i64 ((a % 12 : Nat) : Int)) := N9 a 12 (by decide)
 have WV : Az .rem (.int .u8 (b : Int)) (.int .u8 3) = some (.int .u8 ((b % 3 : Nat) : Int)) := gX b 3 (by decide)
 have rem4 : Az .rem (.int .u8 (c : Int)) (.int .u8 4) = some (.int .u8 ((c % 4 : Nat) : Int)) := gX c 4 (by decide)
 have rem8 : Az .rem (.int .i64 (c : Int)) (.int .i64 8) = some (.int .i64 ((c % 8 : Nat) : Int)) := N9 c 8 (by decide)
 obtain ⟨A, hA⟩ : ∃ A, A = a % 12 := ⟨_, rfl⟩
 rw [← hA] at QB
 have ck : ∀ (t : A8) (j : Nat) (z : Nat), Ext s t → Bz t (some (.pointer (some ⟨q, j, none⟩))) (some (.int .u8 (z : Int))) (.int .u8 (z : Int)) = true := fun t j z xt => CU (by have := xt.nx; omega) (Uw z)
 by_cases c1 : A < 2
 · -- a new compass
   obtain ⟨s1, d1, x1⟩ := k68 m (by omega) b (by omega) s
   have nl := Gs b
   have a1 := Dn CV (nameOf b) (by show 4 + _ ≤ _; omega)
   have x01 := x.trans x1
   obtain ⟨v5', s2, base', w, L2, fb, xx, n2⟩ := (hL.frame x1.nx fun b' e => x1.get b' (hL.lt e)).push x01 hb (by omega) (CV ++ nameOf b)
   refine ⟨v5', s2, base', ?_, xx, by have := x1.nx; omega, by rw [ET, ← hA, if_pos c1]; exact L2, fb⟩
   have l1 : (A : Int) < 2 := by omega
   have ls : (Value.string ⟨#[110, 101, 119, 32]⟩) = .string (ofL CV) := rfl
   rw [IC B32 rfl]
   simp only [i0, i1, Ad, BD, bind_ok, CS, r0, r1, Dw, wa, QB, Et, decide_eq_true l1, Ar, Du, d1, ls, a1, Nl, w, Aq, GN, hw]
 · have l1 : ¬ (A : Int) < 2 := by omega
   by_cases c2 : A < 6
   · -- a swap
     have l2 : (A : Int) < 6 := by omega
     obtain ⟨s1, d1, x1⟩ := k68 m (by omega) (b % 3) (by omega) s
     obtain ⟨s2, d2, x2⟩ := k68 m (by omega) (c % 4) (by omega) s1
     obtain ⟨s3, d3, x3⟩ := k36 m (by omega) d (by omega) s2
     have x02 := x1.trans x2
     have x03 := x02.trans x3
     obtain ⟨_, _, q2, _⟩ := rq s1 x1
     obtain ⟨_, _, _, q3⟩ := rq s2 x02
     obtain ⟨_, _, _, q31⟩ := rq s1 x1
     have nb := Gs (b % 3)
     have nc := Gs (c % 4)
     have nk : (kindOf d).length ≤ 6 := Jq _
     have a1 := Dn Cj (nameOf (b % 3)) (by show 5 + _ ≤ _; omega)
     have a2 := Dn (Cj ++ nameOf (b % 3)) [32] (by rw [List.length_append]; show 5 + _ + 1 ≤ _; omega)
     have a3 := Dn ((Cj ++ nameOf (b % 3)) ++ [32]) (nameOf (c % 4)) (by rw [List.length_append, List.length_append]; show 5 + _ + 1 + _ ≤ _; omega)
     have a4 := Dn (((Cj ++ nameOf (b % 3)) ++ [32]) ++ nameOf (c % 4)) [32] (by rw [List.length_append, List.length_append, List.length_append]; show 5 + _ + 1 + _ + 1 ≤ _; omega)
     have a5 := Dn ((((Cj ++ nameOf (b % 3)) ++ [32]) ++ nameOf (c % 4)) ++ [32]) (kindOf d) (by rw [List.length_append, List.length_append, List.length_append, List.length_append]; show 5 + _ + 1 + _ + 1 + _ ≤ _; omega)
     obtain ⟨v5', s4, base', w, L4, fb, xx, n4⟩ := (hL.frame x03.nx fun b' e => x03.get b' (hL.lt e)).push (x.trans x03) hb (by omega) (((((Cj ++ nameOf (b % 3)) ++ [32]) ++ nameOf (c % 4)) ++ [32]) ++ kindOf d)
     refine ⟨v5', s4, base', ?_, xx, by have := x03.nx; omega, by rw [ET, ← hA, if_neg c1, if_pos c2]; exact L4, fb⟩
     have ls : (Value.string ⟨#[115, 119, 97, 112, 32]⟩) = .string (ofL Cj) := rfl
     have b1 : Nat.ble s.nx s1.nx = true := Aa.2 x1.nx
     have b2 : Nat.ble s1.nx s2.nx = true := Aa.2 x2.nx
     have b3 : Nat.ble s2.nx s3.nx = true := Aa.2 x3.nx
     have b4 : Nat.ble s3.nx (s3.new (.cells [strOf (((((Cj ++ nameOf (b % 3)) ++ [32]) ++ nameOf (c % 4)) ++ [32]) ++ kindOf d)] 9 true)).nx = true := Aa.2 (by show s3.nx ≤ s3.nx + 1; omega)
     have b5 : Nat.ble (s3.new (.cells [strOf (((((Cj ++ nameOf (b % 3)) ++ [32]) ++ nameOf (c % 4)) ++ [32]) ++ kindOf d)] 9 true)).nx s4.nx = true := Aa.2 (by show s3.nx + 1 ≤ s4.nx; omega)
     rw [IC B32 rfl]
     simp only [i0, i1, i2, i3, Ad, BD, bind_ok, D8, C9, CS, r0, r1, r2, r3, Dw, wa, QB, Et, decide_eq_false l1, decide_eq_true l2, Ar, Du, Dv, WV, d1, ls, a1, Xf, a2, b1, q2, rem4, d2, a3, a4, b2, q3, q31, d3, a5, b3, Nl, b4, w, Aq, b5, ck s 2 c (.refl s), ck s1 2 c x1, ck s 3 d (.refl s), ck s1 3 d x1, ck s2 3 d x02, Bool.and_true, GN, hw]
   · have l2 : ¬ (A : Int) < 6 := by omega
     by_cases c3 : A < 8
     · -- a line of a card
       have l3 : (A : Int) < 8 := by omega
       obtain ⟨s1, d1, x1⟩ := k68 m (by omega) (b % 3) (by omega) s
       have d2 := k45 m (by omega) ((c % 8 : Nat) : Int) (by omega) s1
       have d3 := k45 m (by omega) ((d : Int) - 128) (by omega) s1
       obtain ⟨_, _, q2, q3⟩ := rq s1 x1
       have nb := Gs (b % 3)
       have nc := RS ((c % 8 : Nat) : Int)
       have nk := RS ((d : Int) - 128)
       have a1 := Dn G7 (nameOf (b % 3)) (by show 5 + _ ≤ _; omega)
       have a2 := Dn (G7 ++ nameOf (b % 3)) [32] (by rw [List.length_append]; show 5 + _ + 1 ≤ _; omega)
       have a3 := Dn ((G7 ++ nameOf (b % 3)) ++ [32]) (F6 ((c % 8 : Nat) : Int)) (by rw [List.length_append, List.length_append]; show 5 + _ + 1 + _ ≤ _; omega)
       have a4 := Dn (((G7 ++ nameOf (b % 3)) ++ [32]) ++ F6 ((c % 8 : Nat) : Int)) [32] (by rw [List.length_append, List.length_append, List.length_append]; show 5 + _ + 1 + _ + 1 ≤ _; omega)
       have a5 := Dn ((((G7 ++ nameOf (b % 3)) ++ [32]) ++ F6 ((c % 8 : Nat) : Int)) ++ [32]) (F6 ((d : Int) - 128)) (by rw [List.length_append, List.length_append, List.length_append, List.length_append]; show 5 + _ + 1 + _ + 1 + _ ≤ _; omega)
       obtain ⟨v5', s4, base', w, L4, fb, xx, n4⟩ := (hL.frame x1.nx fun b' e => x1.get b' (hL.lt e)).push (x.trans x1) hb (by omega) (((((G7 ++ nameOf (b % 3)) ++ [32]) ++ F6 ((c % 8 : Nat) : Int)) ++ [32]) ++ F6 ((d : Int) - 128))
       refine ⟨v5', s4, base', ?_, xx, by have := x1.nx; omega, by rw [ET, ← hA, if_neg c1, if_neg c2, if_pos c3]; exact L4, fb⟩
       have ls : (Value.string ⟨#[99, 97, 114, 100, 32]⟩) = .string (ofL G7) := rfl
       have b1 : Nat.ble s.nx s1.nx = true := Aa.2 x1.nx
       have b4 : Nat.ble s1.nx (s1.new (.cells [strOf (((((G7 ++ nameOf (b % 3)) ++ [32]) ++ F6 ((c % 8 : Nat) : Int)) ++ [32]) ++ F6 ((d : Int) - 128))] 9 true)).nx = true := Aa.2 (by show s1.nx ≤ s1.nx + 1; omega)
       have b5 : Nat.ble (s1.new (.cells [strOf (((((G7 ++ nameOf (b % 3)) ++ [32]) ++ F6 ((c % 8 : Nat) : Int)) ++ [32]) ++ F6 ((d : Int) - 128))] 9 true)).nx s4.nx = true := Aa.2 (by show s1.nx + 1 ≤ s4.nx; omega)
       have w128 : BL .i64 ((d : Int) - 128) = (d : Int) - 128 := wrap64 (by omega)
       rw [IC B32 rfl]
       simp only [i0, i1, i2, i3, Ad, BD, bind_ok, D8, C9, CS, r0, r1, r2, r3, Dw, wa, wc, wd', QB, Et, decide_eq_false l1, decide_eq_false l2, decide_eq_true l3, Ar, Du, Dv, WV, d1, ls, a1, Xf, a2, b1, q2, q3, rem8, d2, a3, a4, LW, w128, d3, a5, Nl, b4, w, Aq, b5, ck s 2 c (.refl s), ck s1 2 c x1, ck s 3 d (.refl s), ck s1 3 d x1, Bool.and_true, GN, hw]
     · have l3 : ¬ (A : Int) < 8 := by omega
       have mend : (A < 10 ∨ u = false) → ∀ (e58 : (A : Int) < 10 ∨ ¬ (A : Int) < 10), ∃ v5' s' base', Si B32 (AU AB Ah m) N n1 (.bool u) v5 (.pointer (some ⟨q, 0, none⟩)) v10 (.int .i64 i11) (.int .i64 (i : Int)) s = Fv B32 (AU AB Ah m) N n1 (.bool u) v5' v10 (.int .i64 i11) (.int .i64 ((i + 1 : Nat) : Int)) s' ∧ Ext s0 s' ∧ s.nx ≤ s'.nx ∧ DF s' base' v5' (M ++ [ET u (a, b, c, d)]) ∧ (∀ b, base' = some b → s0.nx ≤ b) := by
        intro hor e58
        obtain ⟨s1, d1, x1⟩ := k68 m (by omega) (b % 3) (by omega) s
        obtain ⟨s3, d3, x3⟩ := k36 m (by omega) d (by omega) s1
        have x03 := x1.trans x3
        obtain ⟨_, _, _, q3⟩ := rq s1 x1
        have nb := Gs (b % 3)
        have nk : (kindOf d).length ≤ 6 := Jq _
        have a1 := Dn Hz (nameOf (b % 3)) (by show 5 + _ ≤ _; omega)
        have a2 := Dn (Hz ++ nameOf (b % 3)) [32] (by rw [List.length_append]; show 5 + _ + 1 ≤ _; omega)
        have a3 := Dn ((Hz ++ nameOf (b % 3)) ++ [32]) (kindOf d) (by rw [List.length_append, List.length_append]; show 5 + _ + 1 + _ ≤ _; omega)
        obtain ⟨v5', s4, base', w, L4, fb, xx, n4⟩ := (hL.frame x03.nx fun b' e => x03.get b' (hL.lt e)).push (x.trans x03) hb (by omega) (((Hz ++ nameOf (b % 3)) ++ [32]) ++ kindOf d)
        refine ⟨v5', s4, base', ?_, xx, by have := x03.nx; omega, by rw [ET, ← hA, if_neg c1, if_neg c2, if_neg c3, if_pos hor]; exact L4, fb⟩
        have ls : (Value.string ⟨#[109, 101, 110, 100, 32]⟩) = .string (ofL Hz) := rfl
        have b1 : Nat.ble s.nx s1.nx = true := Aa.2 x1.nx
        have b3 : Nat.ble s1.nx s3.nx = true := Aa.2 x3.nx
        have b4 : Nat.ble s3.nx (s3.new (.cells [strOf (((Hz ++ nameOf (b % 3)) ++ [32]) ++ kindOf d)] 9 true)).nx = true := Aa.2 (by show s3.nx ≤ s3.nx + 1; omega)
        have b5 : Nat.ble (s3.new (.cells [strOf (((Hz ++ nameOf (b % 3)) ++ [32]) ++ kindOf d)] 9 true)).nx s4.nx = true := Aa.2 (by show s3.nx + 1 ≤ s4.nx; omega)
        have tf : (true == false) = false := rfl
        rw [IC B32 rfl]
        by_cases c10 : (A : Int) < 10
        · simp only [i0, i1, i2, i3, Ad, BD, bind_ok, D8, C9, CS, r0, r1, r2, r3, Dw, wa, QB, Et, decide_eq_false l1, decide_eq_false l2, decide_eq_false l3, decide_eq_true c10, Ar, Du, Dv, E8, tf, dH, LU, WV, d1, ls, a1, Xf, a2, b1, q3, d3, a3, b3, Nl, b4, w, Aq, b5, ck s 3 d (.refl s), ck s1 3 d x1, Bool.and_true, GN, hw]
        · have hu : u = false := by rcases hor with h | h; omega; exact h
          subst hu
          simp only [i0, i1, i2, i3, Ad, BD, bind_ok, D8, C9, CS, r0, r1, r2, r3, Dw, wa, QB, Et, decide_eq_false l1, decide_eq_false l2, decide_eq_false l3, decide_eq_false c10, Ar, Du, Dv, E8, beq_self_eq_true, Nb, Jh, Bool.not_false, Jg, WV, d1, ls, a1, Xf, a2, b1, q3, d3, a3, b3, Nl, b4, w, Aq, b5, ck s 3 d (.refl s), ck s1 3 d x1, Bool.and_true, GN, hw]
       by_cases hor : A < 10 ∨ u = false
       · exact mend hor (Classical.em _)
       · -- undo
         have c10 : ¬ (A : Int) < 10 := fun h => hor (.inl (by omega))
         have hu : u = true := by cases u with | true => rfl | false => exact (hor (.inr rfl)).elim
         subst hu
         obtain ⟨v5', s4, base', w, L4, fb, xx, n4⟩ := hL.push x hb (by omega) DY
         refine ⟨v5', s4, base', ?_, xx, by omega, by rw [ET, ← hA, if_neg c1, if_neg c2, if_neg c3, if_neg hor]; exact L4, fb⟩
         have ls : (Value.string ⟨#[117, 110, 100, 111]⟩) = .string (ofL DY) := rfl
         rw [IC B32 rfl]
         simp only [i0, Ad, BD, bind_ok, CS, r0, Dw, wa, QB, Et, decide_eq_false l1, decide_eq_false l2, decide_eq_false l3, decide_eq_false c10, Ar, Dv, E8, beq_self_eq_true, Nb, Jh, Bool.not_true, Jg, ls, Nl, w, Aq, GN, hw]
end
end Go.Im
set_option maxRecDepth 100000
set_option maxHeartbeats 4000000
namespace Go.Im
theorem k32_L1 (m N : Nat) (hm : 3 ≤ m) (u : Bool) {s0 : A8} {v0 : Value} {L : List G6} (hQ : RdQ s0 v0 L) : ∀ (d i f : Nat) (s : A8) (base : Option Nat) (v5 : Value), i + d = min L.length 20 → d < f → Ext s0 s →
 DF s base v5 ([CV ++ [97, 100, 97], CV ++ [98, 101, 110]] ++ (L.take i).map (ET u)) → (∀ b, base = some b → s0.nx ≤ b) →
 ∃ v' s' base', Fv B32 (AU AB Ah m) N f (.bool u) v5 v0 (.int .i64 (L.length : Int)) (.int .i64 (i : Int)) s = .ok (v', s') ∧ Ext s0 s' ∧ DF s' base' v' (Dh u L) ∧ (∀ b, base' = some b → s0.nx ≤ b) := by
 intro d
 have stop : ∀ (i f : Nat) (s : A8) (base : Option Nat) (v5 : Value), i = min L.length 20 → Ext s0 s → DF s base v5 ([CV ++ [97, 100, 97], CV ++ [98, 101, 110]] ++ (L.take i).map (ET u)) → (∀ b, base = some b → s0.nx ≤ b) →
  ∃ v' s' base', Fv B32 (AU AB Ah m) N (f + 1) (.bool u) v5 v0 (.int .i64 (L.length : Int)) (.int .i64 (i : Int)) s = .ok (v', s') ∧ Ext s0 s' ∧ DF s' base' v' (Dh u L) ∧ (∀ b, base' = some b → s0.nx ≤ b) := by
  intro i f s base v5 hi x hL hb
  have et : (L.take i).map (ET u) = (L.take 20).map (ET u) := by
   by_cases c : L.length ≤ 20
   · rw [List.take_of_length_le (by omega), List.take_of_length_le c]
   · have : i = 20 := by omega
     rw [this]
  rw [et] at hL
  by_cases c : i < L.length
  · have hi20 : i = 20 := by omega
    obtain ⟨q, hq⟩ := BU c
    obtain ⟨_, lb, hlb, ia, rd⟩ := (hQ.ext x).at_ i q hq
    have ld : DT s 4 (.pointer (some ⟨lb, i * 4, none⟩)) = some (.agg ⟨EJ q⟩) := Fz rd
    obtain ⟨s1, hs1⟩ : ∃ s1, s1 = s.new (.cells [.int .u8 0, .int .u8 0, .int .u8 0, .int .u8 0] 143 true) := ⟨_, rfl⟩
    have x1 : Ext s s1 := by rw [hs1]; exact (Ext.refl s).new _
    have n1 : s1.nx = s.nx + 1 := by rw [hs1]; rfl
    have w := Gq (s := s1) (b := s.nx) (c := [.int .u8 0, .int .u8 0, .int .u8 0, .int .u8 0]) (el := 143) (o := 0) (n := 4) (v := .agg ⟨EJ q⟩) (by rw [hs1, A8.Af, if_pos rfl]) rfl rfl (by decide)
    obtain ⟨s2, hs2⟩ : ∃ s2, s2 = s1.put s.nx (.cells (EJ q) 143 true) := ⟨_, rfl⟩
    have w : wSt s1 4 (.agg ⟨EJ q⟩) (.pointer (some ⟨s.nx, 0, none⟩)) = some (BX, s2) := by rw [hs2]; exact w
    have x2 : Ext s s2 := ⟨by rw [hs2]; show s.nx ≤ s1.nx; omega, fun j hj => by rw [hs2, A8.get_put, if_neg (by omega)]; exact x1.get j hj⟩
    refine ⟨v5, s2, base, ?_, x.trans x2, ?_, hb⟩
    · have l1 : (i : Int) < (L.length : Int) := by omega
      have l2 : ¬ (i : Int) < 20 := by omega
      have ep : ptrTo s.nx = .pointer (some ⟨s.nx, 0, none⟩) := rfl
      rw [MW B32 rfl]
      simp only [Bq, decide_eq_true l1, Du, Qu B32 rfl, ia, Ad, BD, bind_ok, ld, ← hs1, ep, w, Aq, decide_eq_false l2, Bool.not_false]
    · exact hL.frame x2.nx fun b e => x2.get b (hL.lt e)
  · refine ⟨v5, s, base, ?_, x, hL, hb⟩
    have l1 : ¬ (i : Int) < (L.length : Int) := by omega
    rw [MW B32 rfl]
    simp only [Bq, decide_eq_false l1, Dv]
 induction d with
 | zero =>
  intro i f s base v5 hi hf x hL hb
  obtain ⟨f, rfl, _⟩ := Ae hf
  exact stop i f s base v5 (by omega) x hL hb
 | succ d ih =>
  intro i f s base v5 hi hf x hL hb
  obtain ⟨f, rfl, _⟩ := Ae hf
  have hil : i < L.length := by omega
  have hi20 : i < 20 := by omega
  obtain ⟨q, hq⟩ := BU hil
  obtain ⟨okq, lb, hlb, ia, rd⟩ := (hQ.ext x).at_ i q hq
  have ld : DT s 4 (.pointer (some ⟨lb, i * 4, none⟩)) = some (.agg ⟨EJ q⟩) := Fz rd
  obtain ⟨s1, hs1⟩ : ∃ s1, s1 = s.new (.cells [.int .u8 0, .int .u8 0, .int .u8 0, .int .u8 0] 143 true) := ⟨_, rfl⟩
  have x1 : Ext s s1 := by rw [hs1]; exact (Ext.refl s).new _
  have n1 : s1.nx = s.nx + 1 := by rw [hs1]; rfl
  have w := Gq (s := s1) (b := s.nx) (c := [.int .u8 0, .int .u8 0, .int .u8 0, .int .u8 0]) (el := 143) (o := 0) (n := 4) (v := .agg ⟨EJ q⟩) (by rw [hs1, A8.Af, if_pos rfl]) rfl rfl (by decide)
  obtain ⟨s2, hs2⟩ : ∃ s2, s2 = s1.put s.nx (.cells (EJ q) 143 true) := ⟨_, rfl⟩
  have w : wSt s1 4 (.agg ⟨EJ q⟩) (.pointer (some ⟨s.nx, 0, none⟩)) = some (BX, s2) := by rw [hs2]; exact w
  have n2 : s2.nx = s1.nx := by rw [hs2]; rfl
  have x2 : Ext s s2 := ⟨by omega, fun j hj => by rw [hs2, A8.get_put, if_neg (by omega)]; exact x1.get j hj⟩
  have g2 : s2.get s.nx = some (.cells (EJ q) 143 true) := by rw [hs2, A8.get_put, if_pos rfl]
  obtain ⟨v', s3, base', e3, x3, n3, L3, b3⟩ := k32_J3 (s0 := s0) m N f hm u v0 (L.length : Int) i (by omega) (x.trans x2) g2 (by omega) okq (hL.frame x2.nx fun b e => x2.get b (hL.lt e)) hb (by simp; omega)
  have et : [CV ++ [97, 100, 97], CV ++ [98, 101, 110]] ++ (L.take i).map (ET u) ++ [ET u q] = [CV ++ [97, 100, 97], CV ++ [98, 101, 110]] ++ (L.take (i + 1)).map (ET u) := by
   rw [List.take_add_one, hq, List.append_assoc, List.map_append]; rfl
  rw [et] at L3
  obtain ⟨v'', s4, base4, e4, x4, r4⟩ := ih (i + 1) f s3 base' v' (by omega) (by omega) x3 L3 b3
  refine ⟨v'', s4, base4, ?_, x4, r4⟩
  have l1 : (i : Int) < (L.length : Int) := by omega
  have l2 : (i : Int) < 20 := by omega
  have ep : ptrTo s.nx = .pointer (some ⟨s.nx, 0, none⟩) := rfl
  rw [MW B32 rfl]
  simp only [Bq, decide_eq_true l1, Du, Qu B32 rfl, ia, Ad, BD, bind_ok, ld, ← hs1, ep, w, Aq, decide_eq_true l2, Bool.not_true, Dv]
  exact e3.trans e4
theorem k32 (n : Nat) (hn : 40 ≤ n) (u : Bool) {s : A8} {v0 : Value} {L : List G6} (hQ : RdQ s v0 L) : ∃ v' s' base', AU AB Ah n (.fn 32) [v0, .bool u] s = .ok (v', s') ∧ Ext s s' ∧ DF s' base' v' (Dh u L) ∧ (∀ b, base' = some b → s.nx ≤ b) := by
 obtain ⟨m, rfl, _⟩ := Ae (show 1 ≤ n by omega)
 obtain ⟨s1, hs1⟩ : ∃ s1, s1 = s.new (.cells [strOf (CV ++ [97, 100, 97]), strOf (CV ++ [98, 101, 110])] 9 true) := ⟨_, rfl⟩
 have x1 : Ext s s1 := by rw [hs1]; exact (Ext.refl s).new _
 have n1 : s1.nx = s.nx + 1 := by rw [hs1]; rfl
 have g1 : s1.get s.nx = some (.cells [strOf (CV ++ [97, 100, 97]), strOf (CV ++ [98, 101, 110])] 9 true) := by rw [hs1, A8.Af, if_pos rfl]
 obtain ⟨v', s2, base', e, x2, r⟩ := k32_L1 m m (by omega) u hQ (min L.length 20) 0 m s1 (some s.nx) (Bv 2 2 s.nx) (by omega) (by omega) x1 (.inr ⟨s.nx, rfl, by omega, rfl, g1⟩) (fun b e => by obtain rfl := Option.some.inj e; exact Nat.le_refl _)
 refine ⟨v', s2, base', ?_, x2, r⟩
 have e : Fv B32 (AU AB Ah m) m m (.bool u) (Bv 2 2 s.nx) v0 (.int .i64 (L.length : Int)) (.int .i64 0) s1 = .ok (v', s2) := e
 have ef : ob (fill (zeros [.string ⟨#[]⟩] 2) [(0, 1, (.string ⟨#[110, 101, 119, 32, 97, 100, 97]⟩)), (1, 1, (.string ⟨#[110, 101, 119, 32, 98, 101, 110]⟩))]) (fun c => some (CQ.cells c 9 true, Bv 2 2)) = some (.cells [strOf (CV ++ [97, 100, 97]), strOf (CV ++ [98, 101, 110])] 9 true, Bv 2 2) := rfl
 rw [Au 32 c32 rfl, f32_eq]
 simp only [ef, Ad, BD, bind_ok, ← hs1, hQ.len, e]
def CY : Hist → List (List UInt8) → Hist
 | H, [] => H
 | H, x :: l => CY (doH H x) l
def Fp : Hist → List (List UInt8) → List (List UInt8)
 | _, [] => []
 | H, x :: l => if Dk H x = 0 then x :: Fp (doH H x) l else Fp (doH H x) l
structure Own (s0 s : A8) (b : Nat) (H : Hist) (F : Nat → Prop) : Prop where
 k : KOk s
 x : Ext s0 s
 hb : BO s b H F
 fo : ∀ i, F i → s0.nx ≤ i
theorem Own.step {s0 s : A8} {b : Nat} {H : Hist} {F : Nat → Prop} (h : Own s0 s b H F) (n : Nat) (hn : 400 ≤ n) (x : List UInt8) :
 ∃ s' F', AU AB Ah n (.fn 16) [.pointer (some ⟨b, 0, none⟩), .string (ofL x)] s = .ok (.int .i64 (Dk H x), s') ∧ Own s0 s' b (doH H x) F' ∧ s.nx ≤ s'.nx ∧ (∀ i, i < s.nx → ¬ F i → s'.get i = s.get i) ∧ (∀ i, F' i → F i ∨ s.nx ≤ i) ∧ (∀ i, F' i → i < s'.nx) := by
 obtain ⟨s1, d16, b1, f1, k1⟩ := k16 n hn x h.k h.hb
 have xn := h.x.nx
 refine ⟨s1, _, d16, ⟨k1, ⟨by have := f1.nx; omega, fun i hi => by rw [f1.get i (by omega) (fun hh => by have := h.fo i hh; omega)]; exact h.x.get i hi⟩, b1, fun i hi => ?_⟩, f1.nx, f1.get, fun i hi => hi.1, fun i hi => hi.2⟩
 rcases hi.1 with h1 | h1
 · exact h.fo i h1
 · omega
theorem k31_L1 (m N : Nat) (hm : 400 ≤ m) {t0 : A8} (ht : 10 ≤ t0.nx) {v9 : Value} {M : List (List UInt8)} (hM : RdS t0 v9 M) (hMl : M.length < 1000000) {b : Nat} : ∀ (d i f : Nat) (s : A8) (H : Hist) (F : Nat → Prop) (base : Option Nat) (v5 : Value) (D : List (List UInt8)), i + d = M.length → d < f → Own t0 s b H F → Bc s base 9 1 (D.map strOf) D.length v5 → (∀ q, base = some q → t0.nx ≤ q ∧ ¬ F q) → D.length ≤ i →
 ∃ v' s' F', MS B31 (AU AB Ah m) N f (.pointer (some ⟨b, 0, none⟩)) v5 v9 (.int .i64 (M.length : Int)) (.int .i64 (i : Int)) s = .ok (.tuple ⟨[.pointer (some ⟨b, 0, none⟩), v']⟩, s') ∧ Own t0 s' b (CY H (M.drop i)) F' ∧ RdS s' v' (D ++ Fp H (M.drop i)) := by
 intro d
 induction d with
 | zero =>
  intro i f s H F base v5 D hi hf hO hA hb hD
  obtain ⟨f, rfl, _⟩ := Ae hf
  obtain rfl : i = M.length := by omega
  have : ¬ (M.length : Int) < (M.length : Int) := by omega
  refine ⟨v5, s, F, ?_, by rw [List.drop_length]; exact hO, by rw [List.drop_length]; simpa [Fp] using hA.rdS⟩
  rw [MV B31 rfl]
  simp only [Bq, decide_eq_false this, Dv, YM B31 rfl]
 | succ d ih =>
  intro i f s H F base v5 D hi hf hO hA hb hD
  obtain ⟨f, rfl, _⟩ := Ae hf
  have hil : i < M.length := by omega
  obtain ⟨y, hy⟩ := BU hil
  have hlt : (i : Int) < (M.length : Int) := by omega
  have hw : BL .i64 ((i : Int) + 1) = ((i + 1 : Nat) : Int) := by rw [wrap64 (by omega)]; omega
  obtain ⟨lb, _, ia, rd⟩ := (hM.ext hO.x).at_ i y hy
  obtain ⟨s1, F1, d16, O1, n1, g1, f1, l1⟩ := hO.step m hm y
  have A1 := hA.frame n1 fun q e => g1 q (hA.lt e) (hb q e).2
  have nF1 : ∀ q, base = some q → ¬ F1 q := fun q e hh => by
   rcases f1 q hh with h1 | h1
   · exact (hb q e).2 h1
   · have := hA.lt e; omega
  rw [drop_at hy]
  unfold strOf at rd
  by_cases c : Dk H y = 0
  · obtain ⟨v', s2, base', w, A2, fb, x2, n2, g2, hc2⟩ := OH (by_ := 16) (news := [strOf y]) O1.x A1 (fun q e => (hb q e).1) (by decide) (by omega) (by show _ < 9223372036854775808; omega) rfl rfl
    have em : D.map strOf ++ [strOf y] = (D ++ [y]).map strOf := by simp
    rw [em] at A2
    have O2 : Own t0 s2 b (doH H y) F1 := by
     obtain ⟨tag, o, cb, pb, lb', eb, E, lv, ev, hB⟩ := O1.hb
     refine ⟨?_, x2, ⟨tag, o, cb, pb, lb', eb, E, lv, ev, hB.frame (by omega) fun q hq => g2 q (l1 q hq) (fun e => nF1 q e hq)⟩, O1.fo⟩
     have k1 := O1.k
     have t10 := O1.x.nx
     have kn := k1.nx
     have gk : ∀ q, q < 10 → s2.get q = s1.get q := fun q hq => g2 q (by omega) (fun e => by have := (hb q e).1; omega)
     exact ⟨(gk 0 (by decide)).trans k1.k0, (gk 9 (by decide)).trans k1.k9, by omega⟩
    obtain ⟨v'', s3, F3, e3, O3, r3⟩ := ih (i + 1) f s2 (doH H y) F1 base' v' (D ++ [y]) (by omega) (by omega) O2 (by rw [List.length_append]; exact A2) (fun q e => ⟨fb q e, fun hh => by
     rcases hc2 q e with h1 | h1
     · exact nF1 q h1 hh
     · have := l1 q hh; omega⟩) (by simp; omega)
    refine ⟨v'', s3, F3, ?_, O3, ?_⟩
    · rw [MV B31 rfl]
      have w' : Df (s1.new (.cells [strOf y] 9 true)) 9 1 16 v5 (Bv 1 1 s1.nx) = some (v', s2) := w
      simp only [Bq, decide_eq_true hlt, Du, Qq B31 rfl, ia, Ad, BD, bind_ok, CS, rd, d16, PD, decide_eq_true c, Ar, Nl, w', Aq, GN, hw]
      exact e3
    · rw [Fp, if_pos c]
      have : D ++ y :: Fp (doH H y) (M.drop (i + 1)) = D ++ [y] ++ Fp (doH H y) (M.drop (i + 1)) := by simp
      rw [this]; exact r3
  · obtain ⟨v'', s3, F3, e3, O3, r3⟩ := ih (i + 1) f s1 (doH H y) F1 base v5 D (by omega) (by omega) O1 A1 (fun q e => ⟨(hb q e).1, nF1 q e⟩) (by omega)
    refine ⟨v'', s3, F3, ?_, O3, by rw [Fp, if_neg c]; exact r3⟩
    rw [MV B31 rfl]
    simp only [Bq, decide_eq_true hlt, Du, Qq B31 rfl, ia, Ad, BD, bind_ok, CS, rd, d16, PD, decide_eq_false c, Ar, Dv, GN, hw]
    exact e3
theorem k31 (n : Nat) {s : A8} (hk : KOk s) {v0 : Value} {M : List (List UInt8)} (hM : RdS s v0 M) (hn : M.length + 500 ≤ n) (hMl : M.length < 1000000) :
 ∃ v' s' F', AU AB Ah n (.fn 31) [v0] s = .ok (.tuple ⟨[.pointer (some ⟨s.nx + 1, 0, none⟩), v']⟩, s') ∧ Own s s' (s.nx + 1) (CY [] M) F' ∧ RdS s' v' (Fp [] M) := by
 obtain ⟨m, rfl, _⟩ := Ae (show 1 ≤ n by omega)
 obtain ⟨s1, d14, b14, x14⟩ := k14 m (by omega) s hk
 have O1 : Own s s1 (s.nx + 1) [] (grow (fun _ => False) s s1) := ⟨hk.ext x14, x14, b14, fun i hi => by
  rcases hi.1 with h1 | h1
  · exact h1.elim
  · exact h1⟩
 obtain ⟨v', s2, F2, e, O2, r2⟩ := k31_L1 m m (by omega) hk.nx hM hMl M.length 0 m s1 [] _ none (.slice none 0 0) [] (by omega) (by omega) O1 ⟨rfl, rfl, rfl⟩ (by simp) (Nat.le_refl _)
 rw [List.drop_zero] at O2 r2
 refine ⟨v', s2, F2, ?_, O2, by simpa using r2⟩
 have e : MS B31 (AU AB Ah m) m m (.pointer (some ⟨s.nx + 1, 0, none⟩)) (.slice none 0 0) v0 (.int .i64 (M.length : Int)) (.int .i64 0) s1 = .ok (.tuple ⟨[.pointer (some ⟨s.nx + 1, 0, none⟩), v']⟩, s2) := e
 rw [Au 31 c31 rfl, f31_eq]
 simp only [d14, bind_ok, hM.len, Ad, BD, e]
end Go.Im
set_option maxRecDepth 100000
set_option maxHeartbeats 4000000
namespace Go.Im
theorem Kr (c : UInt8) : ∀ (x p : List UInt8), BF c x = [p] → x = p
 | [], p, h => by
  have h : [[]] = [p] := h
  injection h
 | b :: l, p, h => by
  have h : cond (Nat.beq b.toNat c.toNat) ([] :: BF c l) (pushB b (BF c l)) = [p] := h
  cases hb : Nat.beq b.toNat c.toNat with
  | true =>
   rw [hb] at h
   have h : [] :: BF c l = [p] := h
   injection h with _ h2
   have := GZ c l
   rw [h2] at this
   simp at this
  | false =>
   rw [hb] at h
   have h : pushB b (BF c l) = [p] := h
   cases hs : BF c l with
   | nil => have := GZ c l; rw [hs] at this; simp at this
   | cons q r =>
    rw [hs] at h
    have h : (b :: q) :: r = [p] := h
    injection h with h1 h2
    subst h2
    rw [Kr c l q hs, h1]
theorem WW {W : List (List UInt8)} (h : Ez W = .ok .undo) : W = [DY] := by
 unfold Ez at h
 split at h
 · simp at h
 · rename_i fm hf
   by_cases hl : W.length ≠ fm.length + 1
   · rw [if_pos hl] at h; simp at h
   · rw [if_neg hl] at h
     have hl := Classical.not_not.1 hl
     by_cases h1 : Bg decimal 68 fm (W.drop 1) = true
     · rw [if_pos h1] at h; simp at h
     · rw [if_neg h1] at h
       by_cases h2 : Bg nameB 78 fm (W.drop 1) = true
       · rw [if_pos h2] at h; simp at h
       · rw [if_neg h2] at h
         by_cases h3 : Bg isKind 75 fm (W.drop 1) = true
         · rw [if_pos h3] at h; simp at h
         · rw [if_neg h3] at h
           by_cases h4 : fm = [78, 68, 68] ∧ (CZ (wd W 2) 0 7 && CZ (wd W 3) (-300) 300) = false
           · rw [if_pos h4] at h; simp at h
           · rw [if_neg h4] at h
             have h := (Except.ok.inj h).symm
             unfold G5 F7 at hf
             unfold HY at h
             by_cases c1 : wd W 0 = Fe
             · rw [if_pos c1] at h; cases h
             · rw [if_neg c1] at h hf
               by_cases c2 : wd W 0 = Dp
               · rw [if_pos c2] at h; cases h
               · rw [if_neg c2] at h hf
                 by_cases c3 : wd W 0 = G9
                 · rw [if_pos c3] at h; cases h
                 · rw [if_neg c3] at h hf
                   by_cases c4 : wd W 0 = J7
                   · rw [if_pos c4] at h; cases h
                   · rw [if_neg c4] at hf
                     by_cases c5 : wd W 0 = DY
                     · rw [if_pos c5] at hf
                       have hf := Option.some.inj hf
                       have hf : fm = [] := hf.symm
                       subst hf
                       obtain ⟨a, rfl⟩ := len1 hl
                       have c5 : a = DY := c5
                       rw [c5]
                     · rw [if_neg c5] at hf; cases hf
theorem WX {x : List UInt8} (h : DZ x = .ok .undo) : x = DY := by
 unfold DZ at h
 by_cases c : 60 < x.length
 · rw [if_pos c] at h; simp at h
 · rw [if_neg c] at h
   by_cases c2 : CJ x 32 = true
   · rw [if_pos c2] at h; exact Kr 32 x DY (WW h)
   · rw [if_neg c2] at h; simp at h
theorem Ux : DZ DY = .ok .undo := rfl
def Np : List (List UInt8) → List (List UInt8) → Option (List (List UInt8))
 | acc, [] => some acc
 | acc, x :: l => if x ≠ DY then Np (acc ++ [x]) l else if acc.length = 0 then none else Np (acc.take (acc.length - 1)) l
theorem Lu {H : Hist} {x : List UInt8} (h : Dk H x ≠ 0) : doH H x = H := by
 cases hr : DZ x with
 | error e => unfold doH; rw [hr]
 | ok ord =>
  by_cases hu : ord = .undo
  · subst hu
    have h2 : Dk H x = if H.length = 0 then 2 else 0 := by unfold Dk; rw [hr]
    by_cases c : H.length = 0
    · unfold doH; rw [hr]
      exact List.take_of_length_le (by omega)
    · rw [h2, if_neg c] at h; exact (h rfl).elim
  · rw [II hr hu] at h
    rw [Ir hr hu]
    by_cases c : (run H).check ord = 0
    · rw [if_pos c] at h ⊢
      by_cases c2 : H.length = 200
      · rw [if_pos c2]
      · rw [if_neg c2] at h; exact (h rfl).elim
    · rw [if_neg c]
theorem Jr {H : Hist} {x : List UInt8} (h : Dk H x = 0) : (x = DY ∧ H.length ≠ 0 ∧ doH H x = H.take (H.length - 1)) ∨ (x ≠ DY ∧ ∃ ord, doH H x = H ++ [(x, ord)]) := by
 cases hr : DZ x with
 | error e =>
  have : Dk H x = e := by unfold Dk; rw [hr]
  rw [this] at h
  subst h
  exfalso
  exact Yw hr
 | ok ord =>
  by_cases hu : ord = .undo
  · subst hu
    refine .inl ⟨WX hr, ?_, by unfold doH; rw [hr]⟩
    intro c
    have : Dk H x = 2 := by unfold Dk; rw [hr]; simp only [c, if_true]
    rw [this] at h; cases h
  · refine .inr ⟨fun e => ?_, ord, ?_⟩
    · rw [e, Ux] at hr; injection hr with hr; exact hu hr.symm
    · rw [II hr hu] at h
      rw [Ir hr hu]
      by_cases c : (run H).check ord = 0
      · rw [if_pos c] at h ⊢
        by_cases c2 : H.length = 200
        · rw [if_pos c2] at h; cases h
        · rw [if_neg c2]
      · rw [if_neg c] at h; exact (c h).elim
where
 Yw {x : List UInt8} (h : DZ x = .error 0) : False := by
  unfold DZ at h
  by_cases c : 60 < x.length
  · rw [if_pos c] at h; cases h
  · rw [if_neg c] at h
    by_cases c2 : CJ x 32 = true
    · rw [if_pos c2] at h
      unfold Ez at h
      split at h
      · cases h
      · split at h
        · cases h
        · split at h
          · cases h
          · split at h
            · cases h
            · split at h
              · cases h
              · split at h
                · cases h
                · cases h
    · rw [if_neg c2] at h; cases h
theorem Js : ∀ (M : List (List UInt8)) (H : Hist), Np (CO H) (Fp H M) = some (CO (CY H M))
 | [], H => rfl
 | x :: M, H => by
  rw [Fp, CY]
  by_cases c : Dk H x = 0
  · rw [if_pos c]
    have ll : (CO H).length = H.length := by unfold CO; rw [List.length_map]
    rcases Jr c with ⟨e, h0, e2⟩ | ⟨e, ord, e2⟩
    · rw [Np, if_neg (by rw [e]; simp), if_neg (by omega), e2]
      have : (CO H).take ((CO H).length - 1) = CO (H.take (H.length - 1)) := by rw [ll]; unfold CO; rw [List.map_take]
      rw [this]
      exact Js M _
    · rw [Np, if_pos e, e2]
      have : CO H ++ [x] = CO (H ++ [(x, ord)]) := by unfold CO; simp
      rw [this]
      exact Js M _
  · rw [if_neg c, Lu c]
    exact Js M H
theorem gY {H : Hist} (h : HOk H) {i : Nat} {x : List UInt8 × Ord} (hx : H[i]? = some x) (hl : H.length ≤ 200) : Dk (H.take i) x.1 = 0 ∧ doH (H.take i) x.1 = H.take (i + 1) := by
 obtain ⟨f, r⟩ := h i x hx
 have hu : x.2 ≠ .undo := fun e => by have := f.ok; rw [e] at this; exact this
 have hil := BA hx
 have n200 : (H.take i).length ≠ 200 := by rw [List.length_take]; omega
 rw [II r hu, Ir r hu, if_pos f.chk, if_pos f.chk, if_neg n200, if_neg n200]
 refine ⟨rfl, ?_⟩
 rw [List.take_add_one, hx]; rfl
theorem gZ {H : Hist} (h : HOk H) (hl : H.length ≤ 200) : ∀ (d i : Nat), i + d = H.length → CY (H.take i) ((CO H).drop i) = H ∧ Fp (H.take i) ((CO H).drop i) = (CO H).drop i
 | 0, i, hi => by
  have ll : (CO H).length = H.length := by unfold CO; rw [List.length_map]
  rw [List.drop_eq_nil_of_le (by omega), List.take_of_length_le (by omega)]
  exact ⟨rfl, rfl⟩
 | d + 1, i, hi => by
  obtain ⟨x, hx⟩ := BU (show i < H.length by omega)
  obtain ⟨e1, e2⟩ := gY h hx hl
  have hy : (CO H)[i]? = some x.1 := by unfold CO; rw [List.getElem?_map, hx]; rfl
  obtain ⟨r1, r2⟩ := gZ h hl d (i + 1) (by omega)
  rw [drop_at hy, CY, Fp, if_pos e1, e2, r1, r2]
  exact ⟨rfl, rfl⟩
theorem kH {H : Hist} (h : HOk H) (hl : H.length ≤ 200) : CY [] (CO H) = H ∧ Fp [] (CO H) = CO H := by
 have := gZ h hl H.length 0 (by omega)
 rwa [List.take_zero, List.drop_zero] at this
theorem QC : ∀ (M : List (List UInt8)) (H : Hist), HOk H → H.length ≤ 200 → HOk (CY H M) ∧ (CY H M).length ≤ 200
 | [], H, h, hl => ⟨h, hl⟩
 | x :: M, H, h, hl => by
  obtain ⟨a, b⟩ := Px h hl x
  exact QC M _ a b
theorem Jc (u : Bool) (L : List G6) : (Dh u L).length ≤ 22 := by unfold Dh; simp; omega
end Go.Im
set_option maxRecDepth 100000
set_option maxHeartbeats 4000000
namespace Go.Im
theorem eqS4 (a b c d : Int) : IQ (.a 4) true (.agg ⟨[iV a, iV b, iV c, iV d]⟩) (.agg ⟨[iV a, iV b, iV c, iV d]⟩) = some (.bool false) := by
 have q : ∀ z : Int, Gf (iV z) (iV z) = some true := fun z => by
  show cond (J9 .i64 .i64) (some (eqF z z)) none = _
  rw [DV, LV, decide_eq_true rfl]; rfl
 show ob (ob (Gf (iV a) (iV a)) fun r => cond r (ob (Gf (iV b) (iV b)) fun r => cond r (ob (Gf (iV c) (iV c)) fun r => cond r (ob (Gf (iV d) (iV d)) fun r => cond r (some true) (some false)) (some false)) (some false)) (some false)) (fun r => some (Value.bool (cond true (!r) r))) = _
 rw [q, q, q, q]; rfl
section
variable {b o b' o' : Nat} {H : Hist} {F F' : Nat → Prop} {tag tag' : Nat → Nat} {cb pb lb eb cb' pb' lb' eb' : Option Nat} {E E' : List Nat} {lv ev lv' ev' : Value}
end
end Go.Im
set_option maxRecDepth 100000
set_option maxHeartbeats 4000000
namespace Go.Im
theorem k13S (n : Nat) (hn : 1 ≤ n) (s : A8) (h : KOk s) : AU AB Ah n (.fn 13) [] s = .ok (.bool true, s) := by
 obtain ⟨m, rfl, _⟩ := Ae hn
 rw [Ji 13 .works rfl]
 show Aw _ (cond (Ku s) (some (Value.bool true, s)) none) = _
 have e : Ku s = true := by
  show (Rj (s.get 0) && Rk (s.get 9)) = true
  rw [h.k0, h.k9]
  decide +kernel
 rw [e]; rfl
structure Two (s : A8) (b b2 : Nat) (H : Hist) (F F2 : Nat → Prop) : Prop where
 k : KOk s
 hb : BO s b H F
 hb2 : BO s b2 H F2
 ap : ∀ i, F i → ¬ F2 i
theorem Two.step {s : A8} {b b2 : Nat} {H : Hist} {F F2 : Nat → Prop} (h : Two s b b2 H F F2) (n : Nat) (hn : 400 ≤ n) (x : List UInt8) :
 ∃ s1 s2 F' F2', AU AB Ah n (.fn 16) [.pointer (some ⟨b, 0, none⟩), .string (ofL x)] s = .ok (.int .i64 (Dk H x), s1) ∧ AU AB Ah n (.fn 16) [.pointer (some ⟨b2, 0, none⟩), .string (ofL x)] s1 = .ok (.int .i64 (Dk H x), s2) ∧
  Two s2 b b2 (doH H x) F' F2' ∧ s.nx ≤ s2.nx ∧ (∀ i, i < s.nx → ¬ F i → ¬ F2 i → s2.get i = s.get i) ∧ (∀ i, F' i → F i ∨ s.nx ≤ i) ∧ (∀ i, F2' i → F2 i ∨ s.nx ≤ i) := by
 obtain ⟨s1, d1, b1, f1, k1⟩ := k16 n hn x h.k h.hb
 have b2' := h.hb2.frame f1 (fun i hi hF => h.ap i hF hi)
 obtain ⟨s2, d2, b3, f2, k2⟩ := k16 n hn x k1 b2'
 have n1 := f1.nx
 have n2 := f2.nx
 refine ⟨s1, s2, _, _, d1, d2, ⟨k2, b1.frame f2 ?_, b3, ?_⟩, by omega, ?_, fun i hi => hi.1, fun i hi => ?_⟩
 · intro i hi hG
   rcases hi.1 with h1 | h1
   · exact h.ap i h1 hG
   · have := h.hb2.hi i hG; omega
 · intro i hi hj
   rcases hj.1 with h2 | h2
   · rcases hi.1 with h1 | h1
     · exact h.ap i h1 h2
     · have := h.hb2.hi i h2; omega
   · have := hi.2; omega
 · intro i hi h1 h2
   rw [f2.get i (by omega) h2]; exact f1.get i hi h1
 · rcases hi.1 with h1 | h1
   · exact .inl h1
   · exact .inr (by omega)
end Go.Im
