/- The lines of a shift. -/
import Derived.Test.YtojbkocmobkddaaGreatDoorImQW
set_option linter.all false
set_option maxRecDepth 100000
set_option maxHeartbeats 4000000
namespace Go.Im
def EI (s : AA) (base : Option Nat) (v : Value) (M : List (List UInt8)) : Prop :=
 BX s base 9 1 (M.map strOf) M.length v ∨ ∃ b, base = some b ∧ b < s.nx ∧ v = .slice (some ⟨b, 0, none⟩) M.length M.length ∧ s.get b = some (.cells (M.map strOf) 9 true)
theorem EI.lt {s : AA} {base : Option Nat} {v : Value} {M : List (List UInt8)} (h : EI s base v M) {b : Nat} (e : base = some b) : b < s.nx := by
 rcases h with h | ⟨b', e', h2, _⟩
 · exact h.lt e
 · rw [e'] at e; obtain rfl := Option.some.inj e; exact h2
theorem EI.frame {s s' : AA} {base : Option Nat} {v : Value} {M : List (List UInt8)} (h : EI s base v M) (hn : s.nx ≤ s'.nx) (hg : ∀ b, base = some b → s'.get b = s.get b) : EI s' base v M := by
 rcases h with h | ⟨b, e, h2, h3, h4⟩
 · exact .inl (h.frame hn hg)
 · exact .inr ⟨b, e, by omega, h3, (hg b e).trans h4⟩
theorem EI.rdS {s : AA} {base : Option Nat} {v : Value} {M : List (List UInt8)} (h : EI s base v M) : RdS s v M := by
 rcases h with h | ⟨b, e, h2, rfl, h4⟩
 · exact h.rdS
 · refine ⟨rfl, fun i x hx => ⟨b, h2, ?_, ?_⟩⟩
   · rw [Gh _ _ _ _ _ _ _ (BK hx), Nat.mul_one, Nat.zero_add]
   · rw [Ai h4, List.getElem?_map, hx]; rfl
theorem EI.push {s0 s : AA} (x : Ext s0 s) {base : Option Nat} {v : Value} {M : List (List UInt8)} (h : EI s base v M) (hb : ∀ b, base = some b → s0.nx ≤ b) (hl : M.length < 1000000) (y : List UInt8) :
 ∃ v' s' base', FC (s.new (.cells [strOf y] 9 true)) 9 1 16 v (Bo 1 1 s.nx) = some (v', s') ∧ EI s' base' v' (M ++ [y]) ∧ (∀ b, base' = some b → s0.nx ≤ b) ∧ Ext s0 s' ∧ s.nx + 1 ≤ s'.nx := by
 have em : (M ++ [y]).map strOf = M.map strOf ++ [strOf y] := by simp
 rcases h with h | ⟨b, rfl, h2, rfl, h4⟩
 · obtain ⟨v', s', base', w, A, fb, xx, n, _, _⟩ := MZ (by_ := 16) (news := [strOf y]) x h hb (by decide) (by omega) (by show _ < 9223372036854775808; omega) rfl rfl
   exact ⟨v', s', base', w, .inl (by rw [em, List.length_append]; exact A), fb, xx, n⟩
 · have xn := x.nx
   have hb0 := hb b rfl
   obtain ⟨s1, hs1⟩ : ∃ s1, s1 = s.new (.cells [strOf y] 9 true) := ⟨_, rfl⟩
   have n1 : s1.nx = s.nx + 1 := by rw [hs1]; rfl
   have x1 : Ext s s1 := by rw [hs1]; exact (Ext.refl s).new _
   have hsrc := XU (s := s) (s' := s1) (cs := [strOf y]) (el := 9) (w := 1) hs1 rfl
   have g1 : s1.get b = some (.cells (M.map strOf) 9 true) := (x1.get b h2).trans h4
   have hrd : s1.rd b 0 (Nat.mul M.length 1) = some (M.map strOf) := by
    have : Nat.mul M.length 1 = M.length := Nat.mul_one _
    rw [this, ED g1 (by simp), List.drop_zero, List.take_of_length_le (by simp)]
   have w : FC s1 9 1 16 (.slice (some ⟨b, 0, none⟩) M.length M.length) (Bo 1 1 s.nx) = some (Dt s1 9 (M.length + 1) (M.map strOf) [strOf y]) := by
    show ob (DL s1 1 (Bo 1 1 s.nx)) (fun news => Dw s1 9 1 16 news (.slice (some ⟨b, 0, none⟩) M.length M.length)) = _
    rw [hsrc]
    show cond (Nat.beq 1 0) none (cond (Nat.ble (Nat.mul (Nat.add M.length (Nat.div [strOf y].length 1)) 16) 140737488355328 && Nat.blt (Nat.add M.length (Nat.div [strOf y].length 1)) UNK) (Hq s1 9 1 M.length M.length (Nat.div [strOf y].length 1) (Nat.add M.length (Nat.div [strOf y].length 1)) [strOf y] (some ⟨b, 0, none⟩)) none) = _
    have d : Nat.div [strOf y].length 1 = 1 := Nat.div_one 1
    have a1 : Nat.ble (Nat.mul (Nat.add M.length 1) 16) 140737488355328 = true := Ae.2 (by show (M.length + 1) * 16 ≤ _; omega)
    have a2 : Nat.blt (Nat.add M.length 1) UNK = true := Bq.2 (by show M.length + 1 < 9223372036854775808; omega)
    rw [d, a1, a2]
    show cond (Nat.blt M.length UNK) (cond (Nat.ble (M.length + 1) M.length) (KQ s1 ⟨b, 0, none⟩ 1 M.length M.length (M.length + 1) [strOf y]) (ob (s1.rd b 0 (Nat.mul M.length 1)) fun old => some (Dt s1 9 (M.length + 1) old [strOf y]))) (cond (Nat.beq M.length UNE) none (ND s1 ⟨b, 0, none⟩ 9 1 M.length (M.length + 1) [strOf y] (s1.get b))) = _
    have a3 : Nat.blt M.length UNK = true := Bq.2 (by show M.length < 9223372036854775808; omega)
    have a4 : Nat.ble (M.length + 1) M.length = false := by
     cases hh : Nat.ble (M.length + 1) M.length with
     | false => rfl
     | true => have := Ae.1 hh; omega
    rw [a3, a4, hrd]; rfl
   have x2 : Ext s1 (s1.new (.cells (M.map strOf ++ [strOf y]) 9 true)) := (Ext.refl s1).new _
   refine ⟨.slice (some ⟨s1.nx, 0, none⟩) (M.length + 1) UNK, s1.new (.cells (M.map strOf ++ [strOf y]) 9 true), some s1.nx, by rw [← hs1]; exact w, .inl ?_, fun b' e => by obtain rfl := Option.some.inj e; omega, x.trans (x1.trans x2), by show s.nx + 1 ≤ s1.nx + 1; omega⟩
   rw [em, List.length_append]
   exact ⟨rfl, by simp, M.map strOf ++ [strOf y], by rw [AA.Ak, if_pos rfl], by rw [List.take_of_length_le (by simp)], by simp⟩
def nameOf (n : Nat) : List UInt8 := [[97, 100, 97], [98, 101, 110], [99, 121], [100, 97, 110], [101, 118, 97]].getD (n % 5) []
def kindOf (n : Nat) : List UInt8 := JX (n % 4)
theorem HY (n : Nat) : (nameOf n).length ≤ 3 := by
 unfold nameOf
 have : n % 5 < 5 := Nat.mod_lt _ (by decide)
 match n % 5, this with
 | 0, _ => decide
 | 1, _ => decide
 | 2, _ => decide
 | 3, _ => decide
 | 4, _ => decide
theorem k68 (n : Nat) (hn : 1 ≤ n) (z : Nat) (hz : z < 256) (s : AA) : Gives (AU AL Aj n (.fn 68) [.int .u8 (z : Int)] s) s (.string (ofL (nameOf z))) := by
 obtain ⟨m, rfl, _⟩ := Ac hn
 obtain ⟨s1, hs1⟩ : ∃ s1, s1 = s.new (.cells ([[97, 100, 97], [98, 101, 110], [99, 121], [100, 97, 110], [101, 118, 97]].map strOf) 9 true) := ⟨_, rfl⟩
 have x1 : Ext s s1 := by rw [hs1]; exact (Ext.refl s).new _
 have g1 : s1.get s.nx = some (.cells ([[97, 100, 97], [98, 101, 110], [99, 121], [100, 97, 110], [101, 118, 97]].map strOf) 9 true) := by rw [hs1, AA.Ak, if_pos rfl]
 have w : Az .i64 (z : Int) = (z : Int) := wrap64 (by omega)
 have hm : z % 5 < 5 := Nat.mod_lt _ (by decide)
 have t : Int.tmod (z : Int) 5 = ((z % 5 : Nat) : Int) := by rw [Int.tmod_eq_emod_of_nonneg (by omega)]; omega
 have r : s1.rd1 s.nx (z % 5) = some (.string (ofL (nameOf z))) := by
  rw [Ai g1]
  unfold nameOf
  match z % 5, hm with
  | 0, _ => rfl
  | 1, _ => rfl
  | 2, _ => rfl
  | 3, _ => rfl
  | 4, _ => rfl
 refine ⟨s1, ?_, x1⟩
 have ef : ob (fill (zeros [.string ⟨#[]⟩] 5) [(0, 1, (.string ⟨#[97, 100, 97]⟩)), (1, 1, (.string ⟨#[98, 101, 110]⟩)), (2, 1, (.string ⟨#[99, 121]⟩)), (3, 1, (.string ⟨#[100, 97, 110]⟩)), (4, 1, (.string ⟨#[101, 118, 97]⟩))]) (fun c => some (CX.cells c 9 true, Bo 5 5)) = some (.cells ([[97, 100, 97], [98, 101, 110], [99, 121], [100, 97, 110], [101, 118, 97]].map strOf) 9 true, Bo 5 5) := rfl
 have ia : BR 1 (Bo 5 5 s.nx) (.int .i64 ((z % 5 : Nat) : Int)) = some (.pointer (some ⟨s.nx, z % 5, none⟩)) := by
  show BR 1 (.slice (some ⟨s.nx, 0, none⟩) 5 5) _ = _
  rw [Gh _ _ _ _ _ _ _ hm, Nat.mul_one, Nat.zero_add]
 rw [Ap 68 c68 rfl, f68_eq, w, t]
 simp only [ef, AY, Aq, bind_ok, ← hs1, ia, CO, r]
theorem k36 (n : Nat) (hn : 1 ≤ n) (z : Nat) (hz : z < 256) (s : AA) : Gives (AU AL Aj n (.fn 36) [.int .u8 (z : Int)] s) s (.string (ofL (kindOf z))) := by
 obtain ⟨m, rfl, _⟩ := Ac hn
 obtain ⟨s1, hs1⟩ : ∃ s1, s1 = s.new (.cells ([Qy, Qz, needle, pivot].map strOf) 9 true) := ⟨_, rfl⟩
 have x1 : Ext s s1 := by rw [hs1]; exact (Ext.refl s).new _
 have g1 : s1.get s.nx = some (.cells ([Qy, Qz, needle, pivot].map strOf) 9 true) := by rw [hs1, AA.Ak, if_pos rfl]
 have w : Az .i64 (z : Int) = (z : Int) := wrap64 (by omega)
 have hm : z % 4 < 4 := Nat.mod_lt _ (by decide)
 have t : Int.tmod (z : Int) 4 = ((z % 4 : Nat) : Int) := by rw [Int.tmod_eq_emod_of_nonneg (by omega)]; omega
 have r : s1.rd1 s.nx (z % 4) = some (.string (ofL (kindOf z))) := by
  rw [Ai g1]
  unfold kindOf JX
  match z % 4, hm with
  | 0, _ => rfl
  | 1, _ => rfl
  | 2, _ => rfl
  | 3, _ => rfl
 refine ⟨s1, ?_, x1⟩
 have ef : ob (fill (zeros [.string ⟨#[]⟩] 4) [(0, 1, (.string ⟨#[98, 111, 119, 108]⟩)), (1, 1, (.string ⟨#[99, 97, 112]⟩)), (2, 1, (.string ⟨#[110, 101, 101, 100, 108, 101]⟩)), (3, 1, (.string ⟨#[112, 105, 118, 111, 116]⟩))]) (fun c => some (CX.cells c 9 true, Bo 4 4)) = some (.cells ([Qy, Qz, needle, pivot].map strOf) 9 true, Bo 4 4) := rfl
 have ia : BR 1 (Bo 4 4 s.nx) (.int .i64 ((z % 4 : Nat) : Int)) = some (.pointer (some ⟨s.nx, z % 4, none⟩)) := by
  show BR 1 (.slice (some ⟨s.nx, 0, none⟩) 4 4) _ = _
  rw [Gh _ _ _ _ _ _ _ hm, Nat.mul_one, Nat.zero_add]
 rw [Ap 36 c36 rfl, f36_eq, w, t]
 simp only [ef, AY, Aq, bind_ok, ← hs1, ia, CO, r]
abbrev Ja := Nat × Nat × Nat × Nat
def qV (z : Nat) : Value := .int .u8 (z : Int)
def EW (q : Ja) : List Value := [qV q.1, qV q.2.1, qV q.2.2.1, qV q.2.2.2]
def Ja.ok (q : Ja) : Prop := q.1 < 256 ∧ q.2.1 < 256 ∧ q.2.2.1 < 256 ∧ q.2.2.2 < 256
structure RdQ (s : AA) (v : Value) (L : List Ja) : Prop where
 len : CZ v = some (.int .i64 (L.length : Int))
 at_ : ∀ (i : Nat) (q : Ja), L[i]? = some q → q.ok ∧ ∃ lb, lb < s.nx ∧ BR 4 v (.int .i64 (i : Int)) = some (.pointer (some ⟨lb, i * 4, none⟩)) ∧ s.rd lb (i * 4) 4 = some (EW q)
theorem RdQ.ext {s s' : AA} {v : Value} {L : List Ja} (h : RdQ s v L) (e : Ext s s') : RdQ s' v L := ⟨h.len, fun i x hx => by
 obtain ⟨h0, lb, h1, h2, h3⟩ := h.at_ i x hx
 refine ⟨h0, lb, Nat.lt_of_lt_of_le h1 e.nx, h2, ?_⟩
 have := e.get lb h1
 unfold AA.rd at h3 ⊢
 rw [this]; exact h3⟩
def F9 : List UInt8 := [110, 101, 119, 32]
def Ic : List UInt8 := [115, 119, 97, 112, 32]
def Ie : List UInt8 := [99, 97, 114, 100, 32]
def Jz : List UInt8 := [109, 101, 110, 100, 32]
def He (undo : Bool) (q : Ja) : List UInt8 :=
 if q.1 % 12 < 2 then F9 ++ nameOf q.2.1
 else if q.1 % 12 < 6 then ((((Ic ++ nameOf (q.2.1 % 3)) ++ [32]) ++ nameOf (q.2.2.1 % 4)) ++ [32]) ++ kindOf q.2.2.2
 else if q.1 % 12 < 8 then ((((Ie ++ nameOf (q.2.1 % 3)) ++ [32]) ++ BO ((q.2.2.1 % 8 : Nat) : Int)) ++ [32]) ++ BO ((q.2.2.2 : Int) - 128)
 else if q.1 % 12 < 10 ∨ undo = false then ((Jz ++ nameOf (q.2.1 % 3)) ++ [32]) ++ kindOf q.2.2.2
 else EJ
def G5 (undo : Bool) (L : List Ja) : List (List UInt8) := [F9 ++ [97, 100, 97], F9 ++ [98, 101, 110]] ++ (L.take 20).map (He undo)
end Go.Im
set_option maxRecDepth 100000
set_option maxHeartbeats 4000000
namespace Go.Im
theorem remU8 (a k : Nat) (hk : 0 < k) : BG .rem (.int .u8 (a : Int)) (.int .u8 (k : Int)) = some (.int .u8 ((a % k : Nat) : Int)) := by
 rw [Pj .u8 (a : Int) (k : Int) (by omega), Int.tmod_eq_emod_of_nonneg (by omega)]
 congr 2
theorem Xj (a k : Nat) (hk : 0 < k) : BG .rem (.int .i64 (a : Int)) (.int .i64 (k : Int)) = some (.int .i64 ((a % k : Nat) : Int)) := by
 rw [Pj .i64 (a : Int) (k : Int) (by omega), Int.tmod_eq_emod_of_nonneg (by omega)]
 congr 2
theorem Qb (x : List UInt8) : ob (fill (zeros [.string ⟨#[]⟩] 1) [(0, 1, (.string (ofL x)))]) (fun c => some (CX.cells c 9 true, Bo 1 1)) = some (.cells [strOf x] 9 true, Bo 1 1) := rfl
theorem veqU8 (z : Nat) : veq (qV z) (qV z) = true := by
 show (Hg .u8 .u8 && eqF (z : Int) (z : Int)) = true
 rw [DK, KF]; simp
section
variable {s0 s : AA} {q : Nat} {qd : Ja} {base : Option Nat} {v5 : Value} {M : List (List UInt8)}
theorem k32_J3 (m N n1 : Nat) (hm : 3 ≤ m) (u : Bool) (v10 : Value) (i11 : Int) (i : Nat) (hi : i < 1000) (x : Ext s0 s) (hq : s.get q = some (.cells (EW qd) 143 true)) (hql : q < s.nx) (ok : qd.ok) (hL : EI s base v5 M) (hb : ∀ b, base = some b → s0.nx ≤ b) (hM : M.length < 1000) :
 ∃ v5' s' base', UF B32 (AU AL Aj m) N n1 (.bool u) v5 (.pointer (some ⟨q, 0, none⟩)) v10 (.int .i64 i11) (.int .i64 (i : Int)) s = GN B32 (AU AL Aj m) N n1 (.bool u) v5' v10 (.int .i64 i11) (.int .i64 ((i + 1 : Nat) : Int)) s' ∧ Ext s0 s' ∧ s.nx ≤ s'.nx ∧ EI s' base' v5' (M ++ [He u qd]) ∧ (∀ b, base' = some b → s0.nx ≤ b) := by
 obtain ⟨a, b, c, d⟩ := qd
 obtain ⟨oa, ob', oc, od⟩ := ok
 simp only at oa ob' oc od
 have hw : Az .i64 ((i : Int) + 1) = ((i + 1 : Nat) : Int) := by rw [wrap64 (by omega)]; omega
 have rq : ∀ (t : AA), Ext s t → t.rd1 q 0 = some (.int .u8 (a : Int)) ∧ t.rd1 q 1 = some (.int .u8 (b : Int)) ∧ t.rd1 q 2 = some (.int .u8 (c : Int)) ∧ t.rd1 q 3 = some (.int .u8 (d : Int)) := fun t xt => by
  have g := (xt.get q hql).trans hq
  exact ⟨by rw [Ai g]; rfl, by rw [Ai g]; rfl, by rw [Ai g]; rfl, by rw [Ai g]; rfl⟩
 obtain ⟨r0, r1, r2, r3⟩ := rq s (.refl s)
 have i0 : CY 4 1 (.pointer (some ⟨q, 0, none⟩)) (.int .i64 0) = some (.pointer (some ⟨q, 0, none⟩)) := rfl
 have i1 : CY 4 1 (.pointer (some ⟨q, 0, none⟩)) (.int .i64 1) = some (.pointer (some ⟨q, 1, none⟩)) := rfl
 have i2 : CY 4 1 (.pointer (some ⟨q, 0, none⟩)) (.int .i64 2) = some (.pointer (some ⟨q, 2, none⟩)) := rfl
 have i3 : CY 4 1 (.pointer (some ⟨q, 0, none⟩)) (.int .i64 3) = some (.pointer (some ⟨q, 3, none⟩)) := rfl
 have wa : Az .i64 (a : Int) = (a : Int) := wrap64 (by omega)
 have wc : Az .i64 (c : Int) = (c : Int) := wrap64 (by omega)
 have wd' : Az .i64 (d : Int) = (d : Int) := wrap64 (by omega)
 have Qc : BG .rem (.int .i64 (a : Int)) (.int .i64 12) = some (.int .i64 ((a % 12 : Nat) : Int)) := Xj a 12 (by decide)
 have rem3 : BG .rem (.int .u8 (b : Int)) (.int .u8 3) = some (.int .u8 ((b % 3 : Nat) : Int)) := remU8 b 3 (by decide)
 have rem4 : BG .rem (.int .u8 (c : Int)) (.int .u8 4) = some (.int .u8 ((c % 4 : Nat) : Int)) := remU8 c 4 (by decide)
 have rem8 : BG .rem (.int .i64 (c : Int)) (.int .i64 8) = some (.int .i64 ((c % 8 : Nat) : Int)) := Xj c 8 (by decide)
 obtain ⟨A, hA⟩ : ∃ A, A = a % 12 := ⟨_, rfl⟩
 rw [← hA] at Qc
 have ck : ∀ (t : AA) (j : Nat) (z : Nat), Ext s t → CW t (some (.pointer (some ⟨q, j, none⟩))) (some (.int .u8 (z : Int))) (.int .u8 (z : Int)) = true := fun t j z xt => Cm (by have := xt.nx; omega) (veqU8 z)
 by_cases c1 : A < 2
 · -- a new compass
   obtain ⟨s1, d1, x1⟩ := k68 m (by omega) b (by omega) s
   have nl := HY b
   have a1 := Cc F9 (nameOf b) (by show 4 + _ ≤ _; omega)
   have x01 := x.trans x1
   obtain ⟨v5', s2, base', w, L2, fb, xx, n2⟩ := (hL.frame x1.nx fun b' e => x1.get b' (hL.lt e)).push x01 hb (by omega) (F9 ++ nameOf b)
   refine ⟨v5', s2, base', ?_, xx, by have := x1.nx; omega, by rw [He, ← hA, if_pos c1]; exact L2, fb⟩
   have l1 : (A : Int) < 2 := by omega
   have ls : (Value.string ⟨#[110, 101, 119, 32]⟩) = .string (ofL F9) := rfl
   rw [Ip B32 rfl]
   simp only [i0, i1, AY, Aq, bind_ok, CO, r0, r1, Ez, wa, Qc, Dk, decide_eq_true l1, Af, DV, d1, ls, a1, Qb, w, BF, Eb, hw]
 · have l1 : ¬ (A : Int) < 2 := by omega
   by_cases c2 : A < 6
   · -- a swap
     have l2 : (A : Int) < 6 := by omega
     obtain ⟨s1, d1, x1⟩ := k68 m (by omega) (b % 3) (by omega) s
     obtain ⟨s2, d2, x2⟩ := k68 m (by omega) (c % 4) (by omega) s1
     obtain ⟨s3, d3, x3⟩ := k36 m (by omega) d (by omega) s2
     have x02 := x1.trans x2
     have x03 := x02.trans x3
     obtain ⟨_, _, q2, _⟩ := rq s1 x1
     obtain ⟨_, _, _, q3⟩ := rq s2 x02
     obtain ⟨_, _, _, q31⟩ := rq s1 x1
     have nb := HY (b % 3)
     have nc := HY (c % 4)
     have nk : (kindOf d).length ≤ 6 := Nr _
     have a1 := Cc Ic (nameOf (b % 3)) (by show 5 + _ ≤ _; omega)
     have a2 := Cc (Ic ++ nameOf (b % 3)) [32] (by rw [List.length_append]; show 5 + _ + 1 ≤ _; omega)
     have a3 := Cc ((Ic ++ nameOf (b % 3)) ++ [32]) (nameOf (c % 4)) (by rw [List.length_append, List.length_append]; show 5 + _ + 1 + _ ≤ _; omega)
     have a4 := Cc (((Ic ++ nameOf (b % 3)) ++ [32]) ++ nameOf (c % 4)) [32] (by rw [List.length_append, List.length_append, List.length_append]; show 5 + _ + 1 + _ + 1 ≤ _; omega)
     have a5 := Cc ((((Ic ++ nameOf (b % 3)) ++ [32]) ++ nameOf (c % 4)) ++ [32]) (kindOf d) (by rw [List.length_append, List.length_append, List.length_append, List.length_append]; show 5 + _ + 1 + _ + 1 + _ ≤ _; omega)
     obtain ⟨v5', s4, base', w, L4, fb, xx, n4⟩ := (hL.frame x03.nx fun b' e => x03.get b' (hL.lt e)).push (x.trans x03) hb (by omega) (((((Ic ++ nameOf (b % 3)) ++ [32]) ++ nameOf (c % 4)) ++ [32]) ++ kindOf d)
     refine ⟨v5', s4, base', ?_, xx, by have := x03.nx; omega, by rw [He, ← hA, if_neg c1, if_pos c2]; exact L4, fb⟩
     have ls : (Value.string ⟨#[115, 119, 97, 112, 32]⟩) = .string (ofL Ic) := rfl
     have b1 : Nat.ble s.nx s1.nx = true := Ae.2 x1.nx
     have b2 : Nat.ble s1.nx s2.nx = true := Ae.2 x2.nx
     have b3 : Nat.ble s2.nx s3.nx = true := Ae.2 x3.nx
     have b4 : Nat.ble s3.nx (s3.new (.cells [strOf (((((Ic ++ nameOf (b % 3)) ++ [32]) ++ nameOf (c % 4)) ++ [32]) ++ kindOf d)] 9 true)).nx = true := Ae.2 (by show s3.nx ≤ s3.nx + 1; omega)
     have b5 : Nat.ble (s3.new (.cells [strOf (((((Ic ++ nameOf (b % 3)) ++ [32]) ++ nameOf (c % 4)) ++ [32]) ++ kindOf d)] 9 true)).nx s4.nx = true := Ae.2 (by show s3.nx + 1 ≤ s4.nx; omega)
     rw [Ip B32 rfl]
     simp only [i0, i1, i2, i3, AY, Aq, bind_ok, DJ, CQ, CO, r0, r1, r2, r3, Ez, wa, Qc, Dk, decide_eq_false l1, decide_eq_true l2, Af, DV, Dq, rem3, d1, ls, a1, TJ, a2, b1, q2, rem4, d2, a3, a4, b2, q3, q31, d3, a5, b3, Qb, b4, w, BF, b5, ck s 2 c (.refl s), ck s1 2 c x1, ck s 3 d (.refl s), ck s1 3 d x1, ck s2 3 d x02, Bool.and_true, Eb, hw]
   · have l2 : ¬ (A : Int) < 6 := by omega
     by_cases c3 : A < 8
     · -- a line of a card
       have l3 : (A : Int) < 8 := by omega
       obtain ⟨s1, d1, x1⟩ := k68 m (by omega) (b % 3) (by omega) s
       have d2 := k45 m (by omega) ((c % 8 : Nat) : Int) (by omega) s1
       have d3 := k45 m (by omega) ((d : Int) - 128) (by omega) s1
       obtain ⟨_, _, q2, q3⟩ := rq s1 x1
       have nb := HY (b % 3)
       have nc := DZ ((c % 8 : Nat) : Int)
       have nk := DZ ((d : Int) - 128)
       have a1 := Cc Ie (nameOf (b % 3)) (by show 5 + _ ≤ _; omega)
       have a2 := Cc (Ie ++ nameOf (b % 3)) [32] (by rw [List.length_append]; show 5 + _ + 1 ≤ _; omega)
       have a3 := Cc ((Ie ++ nameOf (b % 3)) ++ [32]) (BO ((c % 8 : Nat) : Int)) (by rw [List.length_append, List.length_append]; show 5 + _ + 1 + _ ≤ _; omega)
       have a4 := Cc (((Ie ++ nameOf (b % 3)) ++ [32]) ++ BO ((c % 8 : Nat) : Int)) [32] (by rw [List.length_append, List.length_append, List.length_append]; show 5 + _ + 1 + _ + 1 ≤ _; omega)
       have a5 := Cc ((((Ie ++ nameOf (b % 3)) ++ [32]) ++ BO ((c % 8 : Nat) : Int)) ++ [32]) (BO ((d : Int) - 128)) (by rw [List.length_append, List.length_append, List.length_append, List.length_append]; show 5 + _ + 1 + _ + 1 + _ ≤ _; omega)
       obtain ⟨v5', s4, base', w, L4, fb, xx, n4⟩ := (hL.frame x1.nx fun b' e => x1.get b' (hL.lt e)).push (x.trans x1) hb (by omega) (((((Ie ++ nameOf (b % 3)) ++ [32]) ++ BO ((c % 8 : Nat) : Int)) ++ [32]) ++ BO ((d : Int) - 128))
       refine ⟨v5', s4, base', ?_, xx, by have := x1.nx; omega, by rw [He, ← hA, if_neg c1, if_neg c2, if_pos c3]; exact L4, fb⟩
       have ls : (Value.string ⟨#[99, 97, 114, 100, 32]⟩) = .string (ofL Ie) := rfl
       have b1 : Nat.ble s.nx s1.nx = true := Ae.2 x1.nx
       have b4 : Nat.ble s1.nx (s1.new (.cells [strOf (((((Ie ++ nameOf (b % 3)) ++ [32]) ++ BO ((c % 8 : Nat) : Int)) ++ [32]) ++ BO ((d : Int) - 128))] 9 true)).nx = true := Ae.2 (by show s1.nx ≤ s1.nx + 1; omega)
       have b5 : Nat.ble (s1.new (.cells [strOf (((((Ie ++ nameOf (b % 3)) ++ [32]) ++ BO ((c % 8 : Nat) : Int)) ++ [32]) ++ BO ((d : Int) - 128))] 9 true)).nx s4.nx = true := Ae.2 (by show s1.nx + 1 ≤ s4.nx; omega)
       have w128 : Az .i64 ((d : Int) - 128) = (d : Int) - 128 := wrap64 (by omega)
       rw [Ip B32 rfl]
       simp only [i0, i1, i2, i3, AY, Aq, bind_ok, DJ, CQ, CO, r0, r1, r2, r3, Ez, wa, wc, wd', Qc, Dk, decide_eq_false l1, decide_eq_false l2, decide_eq_true l3, Af, DV, Dq, rem3, d1, ls, a1, TJ, a2, b1, q2, q3, rem8, d2, a3, a4, Gy, w128, d3, a5, Qb, b4, w, BF, b5, ck s 2 c (.refl s), ck s1 2 c x1, ck s 3 d (.refl s), ck s1 3 d x1, Bool.and_true, Eb, hw]
     · have l3 : ¬ (A : Int) < 8 := by omega
       have mend : (A < 10 ∨ u = false) → ∀ (e58 : (A : Int) < 10 ∨ ¬ (A : Int) < 10), ∃ v5' s' base', UF B32 (AU AL Aj m) N n1 (.bool u) v5 (.pointer (some ⟨q, 0, none⟩)) v10 (.int .i64 i11) (.int .i64 (i : Int)) s = GN B32 (AU AL Aj m) N n1 (.bool u) v5' v10 (.int .i64 i11) (.int .i64 ((i + 1 : Nat) : Int)) s' ∧ Ext s0 s' ∧ s.nx ≤ s'.nx ∧ EI s' base' v5' (M ++ [He u (a, b, c, d)]) ∧ (∀ b, base' = some b → s0.nx ≤ b) := by
        intro hor e58
        obtain ⟨s1, d1, x1⟩ := k68 m (by omega) (b % 3) (by omega) s
        obtain ⟨s3, d3, x3⟩ := k36 m (by omega) d (by omega) s1
        have x03 := x1.trans x3
        obtain ⟨_, _, _, q3⟩ := rq s1 x1
        have nb := HY (b % 3)
        have nk : (kindOf d).length ≤ 6 := Nr _
        have a1 := Cc Jz (nameOf (b % 3)) (by show 5 + _ ≤ _; omega)
        have a2 := Cc (Jz ++ nameOf (b % 3)) [32] (by rw [List.length_append]; show 5 + _ + 1 ≤ _; omega)
        have a3 := Cc ((Jz ++ nameOf (b % 3)) ++ [32]) (kindOf d) (by rw [List.length_append, List.length_append]; show 5 + _ + 1 + _ ≤ _; omega)
        obtain ⟨v5', s4, base', w, L4, fb, xx, n4⟩ := (hL.frame x03.nx fun b' e => x03.get b' (hL.lt e)).push (x.trans x03) hb (by omega) (((Jz ++ nameOf (b % 3)) ++ [32]) ++ kindOf d)
        refine ⟨v5', s4, base', ?_, xx, by have := x03.nx; omega, by rw [He, ← hA, if_neg c1, if_neg c2, if_neg c3, if_pos hor]; exact L4, fb⟩
        have ls : (Value.string ⟨#[109, 101, 110, 100, 32]⟩) = .string (ofL Jz) := rfl
        have b1 : Nat.ble s.nx s1.nx = true := Ae.2 x1.nx
        have b3 : Nat.ble s1.nx s3.nx = true := Ae.2 x3.nx
        have b4 : Nat.ble s3.nx (s3.new (.cells [strOf (((Jz ++ nameOf (b % 3)) ++ [32]) ++ kindOf d)] 9 true)).nx = true := Ae.2 (by show s3.nx ≤ s3.nx + 1; omega)
        have b5 : Nat.ble (s3.new (.cells [strOf (((Jz ++ nameOf (b % 3)) ++ [32]) ++ kindOf d)] 9 true)).nx s4.nx = true := Ae.2 (by show s3.nx + 1 ≤ s4.nx; omega)
        have tf : (true == false) = false := rfl
        rw [Ip B32 rfl]
        by_cases c10 : (A : Int) < 10
        · simp only [i0, i1, i2, i3, AY, Aq, bind_ok, DJ, CQ, CO, r0, r1, r2, r3, Ez, wa, Qc, Dk, decide_eq_false l1, decide_eq_false l2, decide_eq_false l3, decide_eq_true c10, Af, DV, Dq, Cb, tf, OE, I5, rem3, d1, ls, a1, TJ, a2, b1, q3, d3, a3, b3, Qb, b4, w, BF, b5, ck s 3 d (.refl s), ck s1 3 d x1, Bool.and_true, Eb, hw]
        · have hu : u = false := by rcases hor with h | h; omega; exact h
          subst hu
          simp only [i0, i1, i2, i3, AY, Aq, bind_ok, DJ, CQ, CO, r0, r1, r2, r3, Ez, wa, Qc, Dk, decide_eq_false l1, decide_eq_false l2, decide_eq_false l3, decide_eq_false c10, Af, DV, Dq, Cb, beq_self_eq_true, I4, Dx, Bool.not_false, Ea, rem3, d1, ls, a1, TJ, a2, b1, q3, d3, a3, b3, Qb, b4, w, BF, b5, ck s 3 d (.refl s), ck s1 3 d x1, Bool.and_true, Eb, hw]
       by_cases hor : A < 10 ∨ u = false
       · exact mend hor (Classical.em _)
       · -- undo
         have c10 : ¬ (A : Int) < 10 := fun h => hor (.inl (by omega))
         have hu : u = true := by cases u with | true => rfl | false => exact (hor (.inr rfl)).elim
         subst hu
         obtain ⟨v5', s4, base', w, L4, fb, xx, n4⟩ := hL.push x hb (by omega) EJ
         refine ⟨v5', s4, base', ?_, xx, by omega, by rw [He, ← hA, if_neg c1, if_neg c2, if_neg c3, if_neg hor]; exact L4, fb⟩
         have ls : (Value.string ⟨#[117, 110, 100, 111]⟩) = .string (ofL EJ) := rfl
         rw [Ip B32 rfl]
         simp only [i0, AY, Aq, bind_ok, CO, r0, Ez, wa, Qc, Dk, decide_eq_false l1, decide_eq_false l2, decide_eq_false l3, decide_eq_false c10, Af, Dq, Cb, beq_self_eq_true, I4, Dx, Bool.not_true, Ea, ls, Qb, w, BF, Eb, hw]
end
end Go.Im
set_option maxRecDepth 100000
set_option maxHeartbeats 4000000
namespace Go.Im
theorem k32_L1 (m N : Nat) (hm : 3 ≤ m) (u : Bool) {s0 : AA} {v0 : Value} {L : List Ja} (hQ : RdQ s0 v0 L) : ∀ (d i f : Nat) (s : AA) (base : Option Nat) (v5 : Value), i + d = min L.length 20 → d < f → Ext s0 s →
 EI s base v5 ([F9 ++ [97, 100, 97], F9 ++ [98, 101, 110]] ++ (L.take i).map (He u)) → (∀ b, base = some b → s0.nx ≤ b) →
 ∃ v' s' base', GN B32 (AU AL Aj m) N f (.bool u) v5 v0 (.int .i64 (L.length : Int)) (.int .i64 (i : Int)) s = .ok (v', s') ∧ Ext s0 s' ∧ EI s' base' v' (G5 u L) ∧ (∀ b, base' = some b → s0.nx ≤ b) := by
 intro d
 have stop : ∀ (i f : Nat) (s : AA) (base : Option Nat) (v5 : Value), i = min L.length 20 → Ext s0 s → EI s base v5 ([F9 ++ [97, 100, 97], F9 ++ [98, 101, 110]] ++ (L.take i).map (He u)) → (∀ b, base = some b → s0.nx ≤ b) →
  ∃ v' s' base', GN B32 (AU AL Aj m) N (f + 1) (.bool u) v5 v0 (.int .i64 (L.length : Int)) (.int .i64 (i : Int)) s = .ok (v', s') ∧ Ext s0 s' ∧ EI s' base' v' (G5 u L) ∧ (∀ b, base' = some b → s0.nx ≤ b) := by
  intro i f s base v5 hi x hL hb
  have et : (L.take i).map (He u) = (L.take 20).map (He u) := by
   by_cases c : L.length ≤ 20
   · rw [List.take_of_length_le (by omega), List.take_of_length_le c]
   · have : i = 20 := by omega
     rw [this]
  rw [et] at hL
  by_cases c : i < L.length
  · have hi20 : i = 20 := by omega
    obtain ⟨q, hq⟩ := Bv c
    obtain ⟨_, lb, hlb, ia, rd⟩ := (hQ.ext x).at_ i q hq
    have ld : DY s 4 (.pointer (some ⟨lb, i * 4, none⟩)) = some (.agg ⟨EW q⟩) := Eh rd
    obtain ⟨s1, hs1⟩ : ∃ s1, s1 = s.new (.cells [.int .u8 0, .int .u8 0, .int .u8 0, .int .u8 0] 143 true) := ⟨_, rfl⟩
    have x1 : Ext s s1 := by rw [hs1]; exact (Ext.refl s).new _
    have n1 : s1.nx = s.nx + 1 := by rw [hs1]; rfl
    have w := Fj (s := s1) (b := s.nx) (c := [.int .u8 0, .int .u8 0, .int .u8 0, .int .u8 0]) (el := 143) (o := 0) (n := 4) (v := .agg ⟨EW q⟩) (by rw [hs1, AA.Ak, if_pos rfl]) rfl rfl (by decide)
    obtain ⟨s2, hs2⟩ : ∃ s2, s2 = s1.put s.nx (.cells (EW q) 143 true) := ⟨_, rfl⟩
    have w : wSt s1 4 (.agg ⟨EW q⟩) (.pointer (some ⟨s.nx, 0, none⟩)) = some (Bl, s2) := by rw [hs2]; exact w
    have x2 : Ext s s2 := ⟨by rw [hs2]; show s.nx ≤ s1.nx; omega, fun j hj => by rw [hs2, AA.get_put, if_neg (by omega)]; exact x1.get j hj⟩
    refine ⟨v5, s2, base, ?_, x.trans x2, ?_, hb⟩
    · have l1 : (i : Int) < (L.length : Int) := by omega
      have l2 : ¬ (i : Int) < 20 := by omega
      have ep : ptrTo s.nx = .pointer (some ⟨s.nx, 0, none⟩) := rfl
      rw [NT B32 rfl]
      simp only [BP, decide_eq_true l1, DV, SC B32 rfl, ia, AY, Aq, bind_ok, ld, ← hs1, ep, w, BF, decide_eq_false l2, Bool.not_false]
    · exact hL.frame x2.nx fun b e => x2.get b (hL.lt e)
  · refine ⟨v5, s, base, ?_, x, hL, hb⟩
    have l1 : ¬ (i : Int) < (L.length : Int) := by omega
    rw [NT B32 rfl]
    simp only [BP, decide_eq_false l1, Dq]
 induction d with
 | zero =>
  intro i f s base v5 hi hf x hL hb
  obtain ⟨f, rfl, _⟩ := Ac hf
  exact stop i f s base v5 (by omega) x hL hb
 | succ d ih =>
  intro i f s base v5 hi hf x hL hb
  obtain ⟨f, rfl, _⟩ := Ac hf
  have hil : i < L.length := by omega
  have hi20 : i < 20 := by omega
  obtain ⟨q, hq⟩ := Bv hil
  obtain ⟨okq, lb, hlb, ia, rd⟩ := (hQ.ext x).at_ i q hq
  have ld : DY s 4 (.pointer (some ⟨lb, i * 4, none⟩)) = some (.agg ⟨EW q⟩) := Eh rd
  obtain ⟨s1, hs1⟩ : ∃ s1, s1 = s.new (.cells [.int .u8 0, .int .u8 0, .int .u8 0, .int .u8 0] 143 true) := ⟨_, rfl⟩
  have x1 : Ext s s1 := by rw [hs1]; exact (Ext.refl s).new _
  have n1 : s1.nx = s.nx + 1 := by rw [hs1]; rfl
  have w := Fj (s := s1) (b := s.nx) (c := [.int .u8 0, .int .u8 0, .int .u8 0, .int .u8 0]) (el := 143) (o := 0) (n := 4) (v := .agg ⟨EW q⟩) (by rw [hs1, AA.Ak, if_pos rfl]) rfl rfl (by decide)
  obtain ⟨s2, hs2⟩ : ∃ s2, s2 = s1.put s.nx (.cells (EW q) 143 true) := ⟨_, rfl⟩
  have w : wSt s1 4 (.agg ⟨EW q⟩) (.pointer (some ⟨s.nx, 0, none⟩)) = some (Bl, s2) := by rw [hs2]; exact w
  have n2 : s2.nx = s1.nx := by rw [hs2]; rfl
  have x2 : Ext s s2 := ⟨by omega, fun j hj => by rw [hs2, AA.get_put, if_neg (by omega)]; exact x1.get j hj⟩
  have g2 : s2.get s.nx = some (.cells (EW q) 143 true) := by rw [hs2, AA.get_put, if_pos rfl]
  obtain ⟨v', s3, base', e3, x3, n3, L3, b3⟩ := k32_J3 (s0 := s0) m N f hm u v0 (L.length : Int) i (by omega) (x.trans x2) g2 (by omega) okq (hL.frame x2.nx fun b e => x2.get b (hL.lt e)) hb (by simp; omega)
  have et : [F9 ++ [97, 100, 97], F9 ++ [98, 101, 110]] ++ (L.take i).map (He u) ++ [He u q] = [F9 ++ [97, 100, 97], F9 ++ [98, 101, 110]] ++ (L.take (i + 1)).map (He u) := by
   rw [List.take_add_one, hq, List.append_assoc, List.map_append]; rfl
  rw [et] at L3
  obtain ⟨v'', s4, base4, e4, x4, r4⟩ := ih (i + 1) f s3 base' v' (by omega) (by omega) x3 L3 b3
  refine ⟨v'', s4, base4, ?_, x4, r4⟩
  have l1 : (i : Int) < (L.length : Int) := by omega
  have l2 : (i : Int) < 20 := by omega
  have ep : ptrTo s.nx = .pointer (some ⟨s.nx, 0, none⟩) := rfl
  rw [NT B32 rfl]
  simp only [BP, decide_eq_true l1, DV, SC B32 rfl, ia, AY, Aq, bind_ok, ld, ← hs1, ep, w, BF, decide_eq_true l2, Bool.not_true, Dq]
  exact e3.trans e4
theorem k32 (n : Nat) (hn : 40 ≤ n) (u : Bool) {s : AA} {v0 : Value} {L : List Ja} (hQ : RdQ s v0 L) : ∃ v' s' base', AU AL Aj n (.fn 32) [v0, .bool u] s = .ok (v', s') ∧ Ext s s' ∧ EI s' base' v' (G5 u L) ∧ (∀ b, base' = some b → s.nx ≤ b) := by
 obtain ⟨m, rfl, _⟩ := Ac (show 1 ≤ n by omega)
 obtain ⟨s1, hs1⟩ : ∃ s1, s1 = s.new (.cells [strOf (F9 ++ [97, 100, 97]), strOf (F9 ++ [98, 101, 110])] 9 true) := ⟨_, rfl⟩
 have x1 : Ext s s1 := by rw [hs1]; exact (Ext.refl s).new _
 have n1 : s1.nx = s.nx + 1 := by rw [hs1]; rfl
 have g1 : s1.get s.nx = some (.cells [strOf (F9 ++ [97, 100, 97]), strOf (F9 ++ [98, 101, 110])] 9 true) := by rw [hs1, AA.Ak, if_pos rfl]
 obtain ⟨v', s2, base', e, x2, r⟩ := k32_L1 m m (by omega) u hQ (min L.length 20) 0 m s1 (some s.nx) (Bo 2 2 s.nx) (by omega) (by omega) x1 (.inr ⟨s.nx, rfl, by omega, rfl, g1⟩) (fun b e => by obtain rfl := Option.some.inj e; exact Nat.le_refl _)
 refine ⟨v', s2, base', ?_, x2, r⟩
 have e : GN B32 (AU AL Aj m) m m (.bool u) (Bo 2 2 s.nx) v0 (.int .i64 (L.length : Int)) (.int .i64 0) s1 = .ok (v', s2) := e
 have ef : ob (fill (zeros [.string ⟨#[]⟩] 2) [(0, 1, (.string ⟨#[110, 101, 119, 32, 97, 100, 97]⟩)), (1, 1, (.string ⟨#[110, 101, 119, 32, 98, 101, 110]⟩))]) (fun c => some (CX.cells c 9 true, Bo 2 2)) = some (.cells [strOf (F9 ++ [97, 100, 97]), strOf (F9 ++ [98, 101, 110])] 9 true, Bo 2 2) := rfl
 rw [Ap 32 c32 rfl, f32_eq]
 simp only [ef, AY, Aq, bind_ok, ← hs1, hQ.len, e]
def Yn : Hist → List (List UInt8) → Hist
 | H, [] => H
 | H, x :: l => Yn (doH H x) l
def N8 : Hist → List (List UInt8) → List (List UInt8)
 | _, [] => []
 | H, x :: l => if Ed H x = 0 then x :: N8 (doH H x) l else N8 (doH H x) l
structure Own (s0 s : AA) (b : Nat) (H : Hist) (F : Nat → Prop) : Prop where
 k : KOk s
 x : Ext s0 s
 hb : CU s b H F
 fo : ∀ i, F i → s0.nx ≤ i
theorem Own.step {s0 s : AA} {b : Nat} {H : Hist} {F : Nat → Prop} (h : Own s0 s b H F) (n : Nat) (hn : 400 ≤ n) (x : List UInt8) :
 ∃ s' F', AU AL Aj n (.fn 16) [.pointer (some ⟨b, 0, none⟩), .string (ofL x)] s = .ok (.int .i64 (Ed H x), s') ∧ Own s0 s' b (doH H x) F' ∧ s.nx ≤ s'.nx ∧ (∀ i, i < s.nx → ¬ F i → s'.get i = s.get i) ∧ (∀ i, F' i → F i ∨ s.nx ≤ i) ∧ (∀ i, F' i → i < s'.nx) := by
 obtain ⟨s1, d16, b1, f1, k1⟩ := k16 n hn x h.k h.hb
 have xn := h.x.nx
 refine ⟨s1, _, d16, ⟨k1, ⟨by have := f1.nx; omega, fun i hi => by rw [f1.get i (by omega) (fun hh => by have := h.fo i hh; omega)]; exact h.x.get i hi⟩, b1, fun i hi => ?_⟩, f1.nx, f1.get, fun i hi => hi.1, fun i hi => hi.2⟩
 rcases hi.1 with h1 | h1
 · exact h.fo i h1
 · omega
theorem k31_L1 (m N : Nat) (hm : 400 ≤ m) {t0 : AA} (ht : 10 ≤ t0.nx) {v9 : Value} {M : List (List UInt8)} (hM : RdS t0 v9 M) (hMl : M.length < 1000000) {b : Nat} : ∀ (d i f : Nat) (s : AA) (H : Hist) (F : Nat → Prop) (base : Option Nat) (v5 : Value) (D : List (List UInt8)), i + d = M.length → d < f → Own t0 s b H F → BX s base 9 1 (D.map strOf) D.length v5 → (∀ q, base = some q → t0.nx ≤ q ∧ ¬ F q) → D.length ≤ i →
 ∃ v' s' F', NR B31 (AU AL Aj m) N f (.pointer (some ⟨b, 0, none⟩)) v5 v9 (.int .i64 (M.length : Int)) (.int .i64 (i : Int)) s = .ok (.tuple ⟨[.pointer (some ⟨b, 0, none⟩), v']⟩, s') ∧ Own t0 s' b (Yn H (M.drop i)) F' ∧ RdS s' v' (D ++ N8 H (M.drop i)) := by
 intro d
 induction d with
 | zero =>
  intro i f s H F base v5 D hi hf hO hA hb hD
  obtain ⟨f, rfl, _⟩ := Ac hf
  obtain rfl : i = M.length := by omega
  have : ¬ (M.length : Int) < (M.length : Int) := by omega
  refine ⟨v5, s, F, ?_, by rw [List.drop_length]; exact hO, by rw [List.drop_length]; simpa [N8] using hA.rdS⟩
  rw [NS B31 rfl]
  simp only [BP, decide_eq_false this, Dq, ZW B31 rfl]
 | succ d ih =>
  intro i f s H F base v5 D hi hf hO hA hb hD
  obtain ⟨f, rfl, _⟩ := Ac hf
  have hil : i < M.length := by omega
  obtain ⟨y, hy⟩ := Bv hil
  have hlt : (i : Int) < (M.length : Int) := by omega
  have hw : Az .i64 ((i : Int) + 1) = ((i + 1 : Nat) : Int) := by rw [wrap64 (by omega)]; omega
  obtain ⟨lb, _, ia, rd⟩ := (hM.ext hO.x).at_ i y hy
  obtain ⟨s1, F1, d16, O1, n1, g1, f1, l1⟩ := hO.step m hm y
  have A1 := hA.frame n1 fun q e => g1 q (hA.lt e) (hb q e).2
  have nF1 : ∀ q, base = some q → ¬ F1 q := fun q e hh => by
   rcases f1 q hh with h1 | h1
   · exact (hb q e).2 h1
   · have := hA.lt e; omega
  rw [drop_at hy]
  unfold strOf at rd
  by_cases c : Ed H y = 0
  · obtain ⟨v', s2, base', w, A2, fb, x2, n2, g2, hc2⟩ := MZ (by_ := 16) (news := [strOf y]) O1.x A1 (fun q e => (hb q e).1) (by decide) (by omega) (by show _ < 9223372036854775808; omega) rfl rfl
    have em : D.map strOf ++ [strOf y] = (D ++ [y]).map strOf := by simp
    rw [em] at A2
    have O2 : Own t0 s2 b (doH H y) F1 := by
     obtain ⟨tag, o, cb, pb, lb', eb, E, lv, ev, hB⟩ := O1.hb
     refine ⟨?_, x2, ⟨tag, o, cb, pb, lb', eb, E, lv, ev, hB.frame (by omega) fun q hq => g2 q (l1 q hq) (fun e => nF1 q e hq)⟩, O1.fo⟩
     have k1 := O1.k
     have t10 := O1.x.nx
     have kn := k1.nx
     have gk : ∀ q, q < 10 → s2.get q = s1.get q := fun q hq => g2 q (by omega) (fun e => by have := (hb q e).1; omega)
     exact ⟨(gk 0 (by decide)).trans k1.k0, (gk 9 (by decide)).trans k1.k9, by omega⟩
    obtain ⟨v'', s3, F3, e3, O3, r3⟩ := ih (i + 1) f s2 (doH H y) F1 base' v' (D ++ [y]) (by omega) (by omega) O2 (by rw [List.length_append]; exact A2) (fun q e => ⟨fb q e, fun hh => by
     rcases hc2 q e with h1 | h1
     · exact nF1 q h1 hh
     · have := l1 q hh; omega⟩) (by simp; omega)
    refine ⟨v'', s3, F3, ?_, O3, ?_⟩
    · rw [NS B31 rfl]
      have w' : FC (s1.new (.cells [strOf y] 9 true)) 9 1 16 v5 (Bo 1 1 s1.nx) = some (v', s2) := w
      simp only [BP, decide_eq_true hlt, DV, SB B31 rfl, ia, AY, Aq, bind_ok, CO, rd, d16, Jp, decide_eq_true c, Af, Qb, w', BF, Eb, hw]
      exact e3
    · rw [N8, if_pos c]
      have : D ++ y :: N8 (doH H y) (M.drop (i + 1)) = D ++ [y] ++ N8 (doH H y) (M.drop (i + 1)) := by simp
      rw [this]; exact r3
  · obtain ⟨v'', s3, F3, e3, O3, r3⟩ := ih (i + 1) f s1 (doH H y) F1 base v5 D (by omega) (by omega) O1 A1 (fun q e => ⟨(hb q e).1, nF1 q e⟩) (by omega)
    refine ⟨v'', s3, F3, ?_, O3, by rw [N8, if_neg c]; exact r3⟩
    rw [NS B31 rfl]
    simp only [BP, decide_eq_true hlt, DV, SB B31 rfl, ia, AY, Aq, bind_ok, CO, rd, d16, Jp, decide_eq_false c, Af, Dq, Eb, hw]
    exact e3
theorem k31 (n : Nat) {s : AA} (hk : KOk s) {v0 : Value} {M : List (List UInt8)} (hM : RdS s v0 M) (hn : M.length + 500 ≤ n) (hMl : M.length < 1000000) :
 ∃ v' s' F', AU AL Aj n (.fn 31) [v0] s = .ok (.tuple ⟨[.pointer (some ⟨s.nx + 1, 0, none⟩), v']⟩, s') ∧ Own s s' (s.nx + 1) (Yn [] M) F' ∧ RdS s' v' (N8 [] M) := by
 obtain ⟨m, rfl, _⟩ := Ac (show 1 ≤ n by omega)
 obtain ⟨s1, d14, b14, x14⟩ := k14 m (by omega) s hk
 have O1 : Own s s1 (s.nx + 1) [] (grow (fun _ => False) s s1) := ⟨hk.ext x14, x14, b14, fun i hi => by
  rcases hi.1 with h1 | h1
  · exact h1.elim
  · exact h1⟩
 obtain ⟨v', s2, F2, e, O2, r2⟩ := k31_L1 m m (by omega) hk.nx hM hMl M.length 0 m s1 [] _ none (.slice none 0 0) [] (by omega) (by omega) O1 ⟨rfl, rfl, rfl⟩ (by simp) (Nat.le_refl _)
 rw [List.drop_zero] at O2 r2
 refine ⟨v', s2, F2, ?_, O2, by simpa using r2⟩
 have e : NR B31 (AU AL Aj m) m m (.pointer (some ⟨s.nx + 1, 0, none⟩)) (.slice none 0 0) v0 (.int .i64 (M.length : Int)) (.int .i64 0) s1 = .ok (.tuple ⟨[.pointer (some ⟨s.nx + 1, 0, none⟩), v']⟩, s2) := e
 rw [Ap 31 c31 rfl, f31_eq]
 simp only [d14, bind_ok, hM.len, AY, Aq, e]
end Go.Im
set_option maxRecDepth 100000
set_option maxHeartbeats 4000000
namespace Go.Im
theorem Qk (c : UInt8) : ∀ (x p : List UInt8), BJ c x = [p] → x = p
 | [], p, h => by
  have h : [[]] = [p] := h
  injection h
 | b :: l, p, h => by
  have h : cond (Nat.beq b.toNat c.toNat) ([] :: BJ c l) (pushB b (BJ c l)) = [p] := h
  cases hb : Nat.beq b.toNat c.toNat with
  | true =>
   rw [hb] at h
   have h : [] :: BJ c l = [p] := h
   injection h with _ h2
   have := Fp c l
   rw [h2] at this
   simp at this
  | false =>
   rw [hb] at h
   have h : pushB b (BJ c l) = [p] := h
   cases hs : BJ c l with
   | nil => have := Fp c l; rw [hs] at this; simp at this
   | cons q r =>
    rw [hs] at h
    have h : (b :: q) :: r = [p] := h
    injection h with h1 h2
    subst h2
    rw [Qk c l q hs, h1]
theorem Xq {W : List (List UInt8)} (h : GI W = .ok .undo) : W = [EJ] := by
 unfold GI at h
 split at h
 · simp at h
 · rename_i fm hf
   by_cases hl : W.length ≠ fm.length + 1
   · rw [if_pos hl] at h; simp at h
   · rw [if_neg hl] at h
     have hl := Classical.not_not.1 hl
     by_cases h1 : Cj decimal 68 fm (W.drop 1) = true
     · rw [if_pos h1] at h; simp at h
     · rw [if_neg h1] at h
       by_cases h2 : Cj nameB 78 fm (W.drop 1) = true
       · rw [if_pos h2] at h; simp at h
       · rw [if_neg h2] at h
         by_cases h3 : Cj isKind 75 fm (W.drop 1) = true
         · rw [if_pos h3] at h; simp at h
         · rw [if_neg h3] at h
           by_cases h4 : fm = [78, 68, 68] ∧ (CS (wd W 2) 0 7 && CS (wd W 3) (-300) 300) = false
           · rw [if_pos h4] at h; simp at h
           · rw [if_neg h4] at h
             have h := (Except.ok.inj h).symm
             unfold IW FZ at hf
             unfold I9 at h
             by_cases c1 : wd W 0 = MQ
             · rw [if_pos c1] at h; cases h
             · rw [if_neg c1] at h hf
               by_cases c2 : wd W 0 = FT
               · rw [if_pos c2] at h; cases h
               · rw [if_neg c2] at h hf
                 by_cases c3 : wd W 0 = GV
                 · rw [if_pos c3] at h; cases h
                 · rw [if_neg c3] at h hf
                   by_cases c4 : wd W 0 = JW
                   · rw [if_pos c4] at h; cases h
                   · rw [if_neg c4] at hf
                     by_cases c5 : wd W 0 = EJ
                     · rw [if_pos c5] at hf
                       have hf := Option.some.inj hf
                       have hf : fm = [] := hf.symm
                       subst hf
                       obtain ⟨a, rfl⟩ := len1 hl
                       have c5 : a = EJ := c5
                       rw [c5]
                     · rw [if_neg c5] at hf; cases hf
theorem Xr {x : List UInt8} (h : Dz x = .ok .undo) : x = EJ := by
 unfold Dz at h
 by_cases c : 60 < x.length
 · rw [if_pos c] at h; simp at h
 · rw [if_neg c] at h
   by_cases c2 : DI x 32 = true
   · rw [if_pos c2] at h; exact Qk 32 x EJ (Xq h)
   · rw [if_neg c2] at h; simp at h
theorem OO : Dz EJ = .ok .undo := rfl
theorem aj {H : Hist} {x : List UInt8} (h : Ed H x = 0) : (x = EJ ∧ H.length ≠ 0 ∧ doH H x = H.take (H.length - 1)) ∨ (x ≠ EJ ∧ ∃ ord, doH H x = H ++ [(x, ord)]) := by
 cases hr : Dz x with
 | error e =>
  have : Ed H x = e := by unfold Ed; rw [hr]
  rw [this] at h
  subst h
  exfalso
  exact ak hr
 | ok ord =>
  by_cases hu : ord = .undo
  · subst hu
    refine .inl ⟨Xr hr, ?_, by unfold doH; rw [hr]⟩
    intro c
    have : Ed H x = 2 := by unfold Ed; rw [hr]; simp only [c, if_true]
    rw [this] at h; cases h
  · refine .inr ⟨fun e => ?_, ord, ?_⟩
    · rw [e, OO] at hr; injection hr with hr; exact hu hr.symm
    · rw [Nl hr hu] at h
      rw [Uf hr hu]
      by_cases c : (run H).check ord = 0
      · rw [if_pos c] at h ⊢
        by_cases c2 : H.length = 200
        · rw [if_pos c2] at h; cases h
        · rw [if_neg c2]
      · rw [if_neg c] at h; exact (c h).elim
where
 ak {x : List UInt8} (h : Dz x = .error 0) : False := by
  unfold Dz at h
  by_cases c : 60 < x.length
  · rw [if_pos c] at h; cases h
  · rw [if_neg c] at h
    by_cases c2 : DI x 32 = true
    · rw [if_pos c2] at h
      unfold GI at h
      split at h
      · cases h
      · split at h
        · cases h
        · split at h
          · cases h
          · split at h
            · cases h
            · split at h
              · cases h
              · split at h
                · cases h
                · cases h
    · rw [if_neg c2] at h; cases h
theorem kZ {H : Hist} (h : HOk H) {i : Nat} {x : List UInt8 × Ord} (hx : H[i]? = some x) (hl : H.length ≤ 200) : Ed (H.take i) x.1 = 0 ∧ doH (H.take i) x.1 = H.take (i + 1) := by
 obtain ⟨f, r⟩ := h i x hx
 have hu : x.2 ≠ .undo := fun e => by have := f.ok; rw [e] at this; exact this
 have hil := BK hx
 have n200 : (H.take i).length ≠ 200 := by rw [List.length_take]; omega
 rw [Nl r hu, Uf r hu, if_pos f.chk, if_pos f.chk, if_neg n200, if_neg n200]
 refine ⟨rfl, ?_⟩
 rw [List.take_add_one, hx]; rfl
theorem Ql (u : Bool) (L : List Ja) : (G5 u L).length ≤ 22 := by unfold G5; simp; omega
end Go.Im
set_option maxRecDepth 100000
set_option maxHeartbeats 4000000
namespace Go.Im
theorem l7 (x : List UInt8) : BG .neq (strOf x) (strOf x) = some (.bool false) := by
 have : BG .neq (strOf x) (strOf x) = some (.bool (!decide (x = x))) := by unfold strOf; rw [Jq]; rfl
 rw [this]; simp
theorem eqS4 (a b c d : Int) : GY (.a 4) true (.agg ⟨[iV a, iV b, iV c, iV d]⟩) (.agg ⟨[iV a, iV b, iV c, iV d]⟩) = some (.bool false) := by
 have q : ∀ z : Int, Gq (iV z) (iV z) = some true := fun z => by
  show cond (Hg .i64 .i64) (some (eqF z z)) none = _
  rw [DK, KF, decide_eq_true rfl]; rfl
 show ob (ob (Gq (iV a) (iV a)) fun r => cond r (ob (Gq (iV b) (iV b)) fun r => cond r (ob (Gq (iV c) (iV c)) fun r => cond r (ob (Gq (iV d) (iV d)) fun r => cond r (some true) (some false)) (some false)) (some false)) (some false)) (fun r => some (Value.bool (cond true (!r) r))) = _
 rw [q, q, q, q]; rfl
theorem ask_ok {H : Hist} (h : HOk H) {x : List UInt8} (hx : x ∈ nms (run H).comps) : nameB x = true ∧ ¬ BZ x (run H).comps 0 < 0 ∧ FW H x = 0 := by
 have a := h.names.ok x hx
 have b : ¬ BZ x (run H).comps 0 < 0 := fun hh => Jv hh hx
 refine ⟨a, b, ?_⟩
 unfold FW
 rw [if_neg (by rw [a]; decide), if_neg b]
section
variable {b o b' o' : Nat} {H : Hist} {F F' : Nat → Prop} {tag tag' : Nat → Nat} {cb pb lb eb cb' pb' lb' eb' : Option Nat} {E E' : List Nat} {lv ev lv' ev' : Value}
theorem k44_L2 (m N : Nat) (hm : 400 ≤ m) {t0 : AA} (h : CV t0 b H F tag o cb pb lb eb E lv ev) (h' : CV t0 b' H F' tag' o' cb' pb' lb' eb' E' lv' ev') {v : Value} (hv : RdS t0 v (nms (run H).comps)) : ∀ (d i f : Nat) (s : AA), i + d = (nms (run H).comps).length → d < f → Ext t0 s →
 Gives (Px B44 (AU AL Aj m) N f (.pointer (some ⟨b, 0, none⟩)) (.pointer (some ⟨b', 0, none⟩)) v (.int .i64 ((nms (run H).comps).length : Int)) (.int .i64 (i : Int)) s) t0 (.bool true) := by
 intro d
 have hl8 : (nms (run H).comps).length ≤ 8 := by unfold nms; rw [List.length_map]; exact h.ok.inv.Nk
 induction d with
 | zero =>
  intro i f s hi hf x
  obtain ⟨f, rfl, _⟩ := Ac hf
  obtain rfl : i = (nms (run H).comps).length := by omega
  have : ¬ ((nms (run H).comps).length : Int) < ((nms (run H).comps).length : Int) := by omega
  refine ⟨s, ?_, x⟩
  rw [SH B44 rfl]
  simp only [BP, decide_eq_false this, Dq]
 | succ d ih =>
  intro i f s hi hf x
  obtain ⟨f, rfl, _⟩ := Ac hf
  have hil : i < (nms (run H).comps).length := by omega
  obtain ⟨y, hy⟩ := Bv hil
  have hlt : (i : Int) < ((nms (run H).comps).length : Int) := by omega
  have hw : Az .i64 ((i : Int) + 1) = ((i + 1 : Nat) : Int) := by rw [wrap64 (by omega)]; omega
  obtain ⟨lb, _, ia, rd⟩ := (hv.ext x).at_ i y hy
  obtain ⟨nb, nf, na⟩ := ask_ok h.ok (List.mem_of_getElem? hy)
  have ep : MW H y = .tuple ⟨[.agg ⟨Oi (run H).comps (cix (run H).comps y)⟩, .int .i64 0]⟩ := by unfold MW; rw [if_neg (by rw [nb]; decide), if_neg nf]
  have ef : Oj H y = .tuple ⟨[strOf (Vp y (GR H y)), .int .i64 0]⟩ := by unfold Oj; rw [if_pos na]
  obtain ⟨p0, p1, p2, p3, es⟩ : ∃ p0 p1 p2 p3, Oi (run H).comps (cix (run H).comps y) = [iV p0, iV p1, iV p2, iV p3] := ⟨_, _, _, _, rfl⟩
  rw [es] at ep
  obtain ⟨s1, d1, x1⟩ := k22 m (by omega) y (h.ext x)
  have x01 := x.trans x1
  obtain ⟨s2, hs2⟩ : ∃ s2, s2 = s1.new (.cells Fa 33 true) := ⟨_, rfl⟩
  have y2 : Ext s1 s2 := by rw [hs2]; exact (Ext.refl s1).new _
  have n2 : s2.nx = s1.nx + 1 := by rw [hs2]; rfl
  obtain ⟨s3, w3, l3, g3, n3, f3⟩ := w4 (s := s2) (q := s1.nx) (c := Fa) (by rw [hs2, AA.Ak, if_pos rfl]) rfl (vs := [iV p0, iV p1, iV p2, iV p3]) rfl rfl
  have x3 : Ext s1 s3 := ⟨by omega, fun i hi => by rw [f3 i (by omega)]; exact y2.get i hi⟩
  have x03 := x01.trans x3
  obtain ⟨s4, d4, x4⟩ := k22 m (by omega) y (h'.ext x03)
  have x04 := x03.trans x4
  obtain ⟨s5, hs5⟩ : ∃ s5, s5 = s4.new (.cells Fa 33 true) := ⟨_, rfl⟩
  have y5 : Ext s4 s5 := by rw [hs5]; exact (Ext.refl s4).new _
  have n5 : s5.nx = s4.nx + 1 := by rw [hs5]; rfl
  obtain ⟨s6, w6, l6, g6, n6, f6⟩ := w4 (s := s5) (q := s4.nx) (c := Fa) (by rw [hs5, AA.Ak, if_pos rfl]) rfl (vs := [iV p0, iV p1, iV p2, iV p3]) rfl rfl
  have x6 : Ext s4 s6 := ⟨by omega, fun i hi => by rw [f6 i (by omega)]; exact y5.get i hi⟩
  have x06 := x04.trans x6
  obtain ⟨s7, d7, x7⟩ := k24 m (by omega) y (h.ext x06)
  have x07 := x06.trans x7
  obtain ⟨s8, d8, x8⟩ := k24 m (by omega) y (h'.ext x07)
  have x08 := x07.trans x8
  obtain ⟨s9, d9, x9⟩ := ih (i + 1) f s8 (by omega) (by omega) x08
  refine ⟨s9, ?_, x9⟩
  have xa : Ext s3 s8 := ((x4.trans x6).trans x7).trans x8
  have xb : Ext s6 s8 := x7.trans x8
  have ge3 : s8.get s1.nx = some (.cells [iV p0, iV p1, iV p2, iV p3] 33 true) := (xa.get _ (by omega)).trans g3
  have ge6 : s8.get s4.nx = some (.cells [iV p0, iV p1, iV p2, iV p3] 33 true) := (xb.get _ (by omega)).trans g6
  have ld3 : DY s8 4 (.pointer (some ⟨s1.nx, 0, none⟩)) = some (.agg ⟨[iV p0, iV p1, iV p2, iV p3]⟩) := Eh (by rw [ED ge3 (by simp)]; rfl)
  have ld6 : DY s8 4 (.pointer (some ⟨s4.nx, 0, none⟩)) = some (.agg ⟨[iV p0, iV p1, iV p2, iV p3]⟩) := Eh (by rw [ED ge6 (by simp)]; rfl)
  have es2 : s1.new (.cells [.int .i64 0, .int .i64 0, .int .i64 0, .int .i64 0] 33 true) = s2 := hs2.symm
  have es5 : s4.new (.cells [.int .i64 0, .int .i64 0, .int .i64 0, .int .i64 0] 33 true) = s5 := hs5.symm
  have e1 : ptrTo s1.nx = .pointer (some ⟨s1.nx, 0, none⟩) := rfl
  have e4 : ptrTo s4.nx = .pointer (some ⟨s4.nx, 0, none⟩) := rfl
  have eqq := eqS4 p0 p1 p2 p3
  rw [ep] at d1 d4
  rw [ef] at d7 d8
  unfold strOf at rd
  rw [SH B44 rfl]
  simp only [BP, decide_eq_true hlt, DV, Zf B44 rfl, ia, AY, Aq, bind_ok, CO, rd, d1, d4, d7, d8, Bc, List.getElem?_cons_zero, List.getElem?_cons_succ, es2, es5, e1, e4, w3, w6, BF, DF, decide_true, Bool.not_true, Cb, beq_self_eq_true, I4, Ea, ld3, ld6, eqq, l7, Af, Dq, Eb, hw]
  exact d9
theorem k44 (n : Nat) (hn : 60010 ≤ n) {s : AA} (hK : KOk s) (h : CV s b H F tag o cb pb lb eb E lv ev) (h' : CV s b' H F' tag' o' cb' pb' lb' eb' E' lv' ev') : Gives (AU AL Aj n (.fn 44) [.pointer (some ⟨b, 0, none⟩), .pointer (some ⟨b', 0, none⟩)] s) s (.bool true) := by
 obtain ⟨m, rfl, _⟩ := Ac (show 1 ≤ n by omega)
 have hl8 : (nms (run H).comps).length ≤ 8 := by unfold nms; rw [List.length_map]; exact h.ok.inv.Nk
 have hlen := h.len
 have hll : (AZ H).length = H.length := by unfold AZ; rw [List.length_map]
 obtain ⟨v1, s1, d1, x1, r1⟩ := k33 m (by omega) h
 obtain ⟨v2, s2, d2, x2, r2⟩ := k33 m (by omega) (h'.ext x1)
 have x02 := x1.trans x2
 have d3 := k43 m (by omega) (r1.ext x2) r2 (by omega)
 obtain ⟨v4, s4, d4, x4, r4⟩ := k41 m (by omega) (h.ext x02)
 have x04 := x02.trans x4
 obtain ⟨v5, s5, d5, x5, r5⟩ := k41 m (by omega) (h'.ext x04)
 have x05 := x04.trans x5
 have d6 := k43 m (by omega) (r4.ext x5) r5 (by omega)
 obtain ⟨s7, d7, x7⟩ := k42 m (by omega) (h.ext x05)
 have x07 := x05.trans x7
 obtain ⟨s8, d8, x8⟩ := k42 m (by omega) (h'.ext x07)
 have x08 := x07.trans x8
 obtain ⟨s9, d9, x9⟩ := k30 m (by omega) (h.ext x08)
 have x09 := x08.trans x9
 obtain ⟨s10, d10, x10⟩ := k30 m (by omega) (h'.ext x09)
 have x010 := x09.trans x10
 obtain ⟨v11, s11, d11, x11, r11⟩ := k29 m (by omega) (hK.ext x010) (h.ext x010)
 have x011 := x010.trans x11
 obtain ⟨v12, s12, d12, x12, r12⟩ := k29 m (by omega) (hK.ext x011) (h'.ext x011)
 have x012 := x011.trans x12
 have len : (JM H (H8 (run H))).length < 1000 := by
  unfold JM
  rw [List.length_map]
  have lk : ∀ k, k < 4 → (swk (run H) k).length ≤ 64 := fun k hk => by
   unfold swk Uj
   rw [List.length_map]
   have := QY (homesOf (run H) k).length (List.range (homesOf (run H) k).length) (homesOf (run H) k) (h.ok.homes hk) rfl (by simp)
   rw [List.length_range, CP] at this
   have h8 : (run H).comps.length * (run H).comps.length ≤ 8 * 8 := Nat.mul_le_mul h.ok.inv.Nk h.ok.inv.Nk
   rw [CP]; omega
  have := lk 0 (by decide); have := lk 1 (by decide); have := lk 2 (by decide); have := lk 3 (by decide)
  unfold H8; simp; omega
 have d13 := k43 m (by omega) (r11.ext x12) r12 (by omega)
 have x1b : Ext s1 s12 := (((((((((x2.trans x4).trans x5).trans x7).trans x8).trans x9).trans x10).trans x11).trans x12))
 obtain ⟨s14, d14, x14⟩ := k44_L2 m m (by omega) (h.ext x012) (h'.ext x012) (r1.ext x1b) (nms (run H).comps).length 0 m s12 (by omega) (by omega) (.refl s12)
 refine ⟨s14, ?_, x012.trans x14⟩
 have d14 : Px B44 (AU AL Aj m) m m (.pointer (some ⟨b, 0, none⟩)) (.pointer (some ⟨b', 0, none⟩)) v1 (.int .i64 ((nms (run H).comps).length : Int)) (.int .i64 0) s12 = .ok (.bool true, s14) := d14
 have dj : X3 B44 (AU AL Aj m) m (.pointer (some ⟨b, 0, none⟩)) (.pointer (some ⟨b', 0, none⟩)) v1 s12 = .ok (.bool true, s14) := by
  rw [Ze B44 rfl]
  simp only [r1.len, AY, Aq, bind_ok, d14]
 rw [Ap 44 c44 rfl, f44_eq]
 simp only [d1, d2, d3, bind_ok, Dx, Bool.not_true, AY, Aq, Cb, beq_self_eq_true, I4, d4, d5, d6, Ea, d7, d8, l7, d9, d10, DF, decide_true, d11, d12, d13, Af, Dq, dj]
end
end Go.Im
set_option maxRecDepth 100000
set_option maxHeartbeats 4000000
namespace Go.Im
theorem k13S (n : Nat) (hn : 1 ≤ n) (s : AA) (h : KOk s) : AU AL Aj n (.fn 13) [] s = .ok (.bool true, s) := by
 obtain ⟨m, rfl, _⟩ := Ac hn
 rw [Gp 13 .works rfl]
 show BI _ (cond (Lc s) (some (Value.bool true, s)) none) = _
 have e : Lc s = true := by
  show (TW (s.get 0) && TY (s.get 9)) = true
  rw [h.k0, h.k9]
  decide +kernel
 rw [e]; rfl
structure Two (s : AA) (b b2 : Nat) (H : Hist) (F F2 : Nat → Prop) : Prop where
 k : KOk s
 hb : CU s b H F
 hb2 : CU s b2 H F2
 ap : ∀ i, F i → ¬ F2 i
theorem Two.step {s : AA} {b b2 : Nat} {H : Hist} {F F2 : Nat → Prop} (h : Two s b b2 H F F2) (n : Nat) (hn : 400 ≤ n) (x : List UInt8) :
 ∃ s1 s2 F' F2', AU AL Aj n (.fn 16) [.pointer (some ⟨b, 0, none⟩), .string (ofL x)] s = .ok (.int .i64 (Ed H x), s1) ∧ AU AL Aj n (.fn 16) [.pointer (some ⟨b2, 0, none⟩), .string (ofL x)] s1 = .ok (.int .i64 (Ed H x), s2) ∧
  Two s2 b b2 (doH H x) F' F2' ∧ s.nx ≤ s2.nx ∧ (∀ i, i < s.nx → ¬ F i → ¬ F2 i → s2.get i = s.get i) ∧ (∀ i, F' i → F i ∨ s.nx ≤ i) ∧ (∀ i, F2' i → F2 i ∨ s.nx ≤ i) := by
 obtain ⟨s1, d1, b1, f1, k1⟩ := k16 n hn x h.k h.hb
 have b2' := h.hb2.frame f1 (fun i hi hF => h.ap i hF hi)
 obtain ⟨s2, d2, b3, f2, k2⟩ := k16 n hn x k1 b2'
 have n1 := f1.nx
 have n2 := f2.nx
 refine ⟨s1, s2, _, _, d1, d2, ⟨k2, b1.frame f2 ?_, b3, ?_⟩, by omega, ?_, fun i hi => hi.1, fun i hi => ?_⟩
 · intro i hi hG
   rcases hi.1 with h1 | h1
   · exact h.ap i h1 hG
   · have := h.hb2.hi i hG; omega
 · intro i hi hj
   rcases hj.1 with h2 | h2
   · rcases hi.1 with h1 | h1
     · exact h.ap i h1 h2
     · have := h.hb2.hi i h2; omega
   · have := hi.2; omega
 · intro i hi h1 h2
   rw [f2.get i (by omega) h2]; exact f1.get i hi h1
 · rcases hi.1 with h1 | h1
   · exact .inl h1
   · exact .inr (by omega)
end Go.Im
