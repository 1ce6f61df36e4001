/- A file that is read (program): its lines. -/
import Derived.Test.YtojbkocmobkddaaGreatDoorImQT
import Derived.Test.YtojbkocmobkddaaGreatDoorImEC
import Derived.Test.YtojbkocmobkddaaGreatDoorImQP
set_option linter.all false
set_option maxRecDepth 100000
set_option maxHeartbeats 4000000
namespace Go.Im
def EC (x y : List UInt8) : Bool := decide (y.length ≤ x.length ∧ x.drop (x.length - y.length) = y)
def Bz (x y : List UInt8) : List UInt8 := if EC x y then x.take (x.length - y.length) else x
theorem k95 (x y : ByteArray) (n : Nat) (hn : 1 ≤ n) (hx : (toL x).length < 1000000000) (s : AA) : AU AL Aj n (.fn 95) [.string x, .string y] s = .ok (.bool (EC (toL x) (toL y)), s) := by
 obtain ⟨m, rfl, _⟩ := Ac hn
 rw [Ap 95 c95 rfl, f95_eq]
 unfold EC
 by_cases h : (toL y).length ≤ (toL x).length
 · have h1 : ¬ ((toL x).length : Int) < ((toL y).length : Int) := by omega
   have w : Az .i64 (((toL x).length : Int) - ((toL y).length : Int)) = (((toL x).length - (toL y).length : Nat) : Int) := by rw [wrap64 (by omega)]; omega
   have f := I7 x .i64 (show (toL x).length - (toL y).length ≤ (toL x).length by omega)
   have lx : Hl (.string x) = some (.int .i64 ((toL x).length : Int)) := rfl
   have ly : Hl (.string y) = some (.int .i64 ((toL y).length : Int)) := rfl
   have o1 : Int.ofNat (toL x).length = ((toL x).length : Int) := rfl
   have o2 : Int.ofNat (toL y).length = ((toL y).length : Int) := rfl
   simp only [o1, o2, BP, decide_eq_false h1, Bool.not_false, beq_self_eq_true, I4, bind_ok, lx, ly, AY, Aq, Gy, w, f, EO, Bj, I5]
   simp [h]
 · have h1 : ((toL x).length : Int) < ((toL y).length : Int) := by omega
   have o1 : Int.ofNat (toL x).length = ((toL x).length : Int) := rfl
   have o2 : Int.ofNat (toL y).length = ((toL y).length : Int) := rfl
   have z : (false == true) = false := rfl
   simp only [o1, o2, BP, decide_eq_true h1, Bool.not_true, z, OE, bind_ok, Ea, AY, Aq]
   simp [h]
theorem k63 (x y : ByteArray) (n : Nat) (hn : 2 ≤ n) (hx : (toL x).length < 1000000000) (s : AA) : AU AL Aj n (.fn 63) [.string x, .string y] s = .ok (.bool (EC (toL x) (toL y)), s) := by
 obtain ⟨m, rfl, hm⟩ := Ac hn
 rw [Ap 63 c63 rfl, f63_eq, k95 x y m hm hx]; rfl
theorem k98 (x y : ByteArray) (n : Nat) (hn : 2 ≤ n) (hx : (toL x).length < 1000000000) (s : AA) : AU AL Aj n (.fn 98) [.string x, .string y] s = .ok (.string (ofL (Bz (toL x) (toL y))), s) := by
 obtain ⟨m, rfl, hm⟩ := Ac hn
 rw [Ap 98 c98 rfl, f98_eq, k95 x y m hm hx]
 unfold Bz
 cases h : EC (toL x) (toL y) with
 | false => rfl
 | true =>
  have h1 : (toL y).length ≤ (toL x).length := by
   unfold EC at h; exact (of_decide_eq_true h).1
  have w : Az .i64 (Int.sub (Int.ofNat (toL x).length) (Int.ofNat (toL y).length)) = (((toL x).length - (toL y).length : Nat) : Int) := by
   show Az .i64 (((toL x).length : Int) - ((toL y).length : Int)) = _
   rw [wrap64 (by omega)]; omega
  have f := KH x .i64 (show (toL x).length - (toL y).length ≤ (toL x).length by omega)
  simp only [bind_ok, Af, DV, w, f, AY, Aq, if_true]
theorem k65 (x y : ByteArray) (n : Nat) (hn : 3 ≤ n) (hx : (toL x).length < 1000000000) (s : AA) : AU AL Aj n (.fn 65) [.string x, .string y] s = .ok (.string (ofL (Bz (toL x) (toL y))), s) := by
 obtain ⟨m, rfl, hm⟩ := Ac hn
 rw [Ap 65 c65 rfl, f65_eq, k98 x y m hm hx]; rfl
theorem k106 (x y : ByteArray) (n : Nat) (hn : 2 ≤ n) (s : AA) : AU AL Aj n (.fn 106) [.string x, .string y] s = .ok (.tuple ⟨[.string (if Ef (toL x) (toL y) = true then ofL ((toL x).drop (toL y).length) else x), .bool (Ef (toL x) (toL y))]⟩, s) := by
 obtain ⟨m, rfl, hm⟩ := Ac hn
 rw [Ap 106 c106 rfl, lU, k133 x y m hm]
 cases h : Ef (toL x) (toL y) with
 | false => simp only [bind_ok, Dx, Bool.not_false, AY, Aq, Af, DV]; rfl
 | true =>
  have h1 : (toL y).length ≤ (toL x).length := by
   unfold Ef at h; exact (of_decide_eq_true h).1
  have o2 : Int.ofNat (toL y).length = ((toL y).length : Int) := rfl
  simp only [bind_ok, Dx, Bool.not_true, AY, Aq, Af, Dq, XD B106 rfl, o2, I7 x .i64 h1]; rfl
theorem k77 (x y : ByteArray) (n : Nat) (hn : 3 ≤ n) (s : AA) : AU AL Aj n (.fn 77) [.string x, .string y] s = .ok (.tuple ⟨[.string (if Ef (toL x) (toL y) = true then ofL ((toL x).drop (toL y).length) else x), .bool (Ef (toL x) (toL y))]⟩, s) := by
 obtain ⟨m, rfl, hm⟩ := Ac hn
 rw [Ap 77 c77 rfl, f77_eq, k106 x y m hm]; rfl
def Hf (x : List UInt8) : Except Int (List (List UInt8)) := if 16000 < x.length then .error 20 else if EC x [10] = false then .error 19 else .ok (BJ 10 (Bz x [10]))
theorem oH (x : List UInt8) (hx : x.length < 1000000000) {e : Int} (h : Hf x = .error e) (n : Nat) (hn : 4 ≤ n) (s : AA) : e ≠ 0 ∧ AU AL Aj n (.fn 76) [.string (ofL x)] s = .ok (.tuple ⟨[.slice none 0 0, .int .i64 e]⟩, s) := by
 obtain ⟨m, rfl, hm⟩ := Ac hn
 unfold Hf at h
 rw [Ap 76 c76 rfl, jh]
 have o1 : Int.ofNat (toL (ofL x)).length = (x.length : Int) := rfl
 by_cases c : 16000 < x.length
 · rw [if_pos c] at h
   obtain rfl := Except.error.inj h
   have cc : (16000 : Int) < (x.length : Int) := by omega
   refine ⟨by decide, ?_⟩
   simp only [o1, BP, decide_eq_true cc, DV]
 · rw [if_neg c] at h
   have cc : ¬ (16000 : Int) < (x.length : Int) := by omega
   by_cases c2 : EC x [10] = false
   · rw [if_pos c2] at h
     obtain rfl := Except.error.inj h
     refine ⟨by decide, ?_⟩
     have d := k63 (ofL x) (ofL [10]) m (by omega) hx s
     rw [Bj, Bj, c2] at d
     simp only [o1, BP, decide_eq_false cc, Dq, Kr, d, bind_ok, Dx, Bool.not_false, AY, Aq, Af, DV]
   · rw [if_neg c2] at h; cases h
theorem k76_ok (x : List UInt8) (hx : x.length < 1000000000) {L : List (List UInt8)} (h : Hf x = .ok L) (n : Nat) (hn : 4 ≤ n) (s : AA) :
 ∃ v s', AU AL Aj n (.fn 76) [.string (ofL x)] s = .ok (.tuple ⟨[v, .int .i64 0]⟩, s') ∧ Ext s s' ∧ v = .slice (some ⟨s.nx, 0, none⟩) L.length L.length ∧ s'.get s.nx = some (.cells (L.map strOf) 9 true) ∧ s.nx < s'.nx := by
 obtain ⟨m, rfl, hm⟩ := Ac hn
 unfold Hf at h
 by_cases c : 16000 < x.length
 · rw [if_pos c] at h; cases h
 · rw [if_neg c] at h
   by_cases c2 : EC x [10] = false
   · rw [if_pos c2] at h; cases h
   · rw [if_neg c2] at h
     obtain rfl := Except.ok.inj h
     have c2 : EC x [10] = true := by simpa using c2
     have cc : ¬ (16000 : Int) < (x.length : Int) := by omega
     have o1 : Int.ofNat (toL (ofL x)).length = (x.length : Int) := rfl
     have d := k63 (ofL x) (ofL [10]) m (by omega) hx s
     rw [Bj, Bj, c2] at d
     have d65 := k65 (ofL x) (ofL [10]) m (by omega) hx s
     rw [Bj, Bj] at d65
     have tl : (Bz x [10]).length ≤ x.length := by
      unfold Bz; rw [if_pos c2, List.length_take]; omega
     have d105 := k105 (ofL (Bz x [10])) (by rw [Bj]; omega) 10 m (by omega) s
     rw [Bj] at d105
     have d105 : AU AL Aj m (.fn 105) [.string (ofL (Bz x [10])), .string (ofL [10])] s = .ok (Bo (BJ 10 (Bz x [10])).length (BJ 10 (Bz x [10])).length s.nx, s.new (.cells ((BJ 10 (Bz x [10])).map strOf) 9 true)) := d105
     refine ⟨_, s.new (.cells ((BJ 10 (Bz x [10])).map strOf) 9 true), ?_, (Ext.refl s).new _, rfl, by rw [AA.Ak, if_pos rfl], Nat.lt_succ_self _⟩
     rw [Ap 76 c76 rfl, jh]
     simp only [o1, BP, decide_eq_false cc, Dq, Kr, d, bind_ok, Dx, Bool.not_true, AY, Aq, Af, Zr B76 rfl, d65, d105]
     rfl
end Go.Im
set_option maxRecDepth 100000
set_option maxHeartbeats 4000000
namespace Go.Im
def KA : Hist → List (List UInt8) → Except Int Hist
 | H, [] => .ok H
 | H, y :: l => if y = EJ then .error 5 else if Ed H y ≠ 0 then .error (Ed H y) else KA (doH H y) l
def D6 (L : List (List UInt8)) : List UInt8 := L.getD (L.length - 1) []
def sumW (L : List (List UInt8)) : List UInt8 := (D6 L).drop 4
def TL (L : List (List UInt8)) : Bool := decide (2 ≤ L.length) && decide (L.getD 0 [] = DX ++ BO ((L.length : Int) - 2)) && Ef (D6 L) Gl && decimal (sumW L) && CS (sumW L) 0 9972
def Qd (x : List UInt8) (L : List (List UInt8)) : Except Int Hist := if TL L = false then .error 9 else if BO (DW (Bz x (D6 L ++ [10])) 0) ≠ sumW L then .error 18 else KA [] ((L.drop 1).take (L.length - 2))
def N9 (x : List UInt8) : Except Int Hist := match Hf x with
 | .error e => .error e
 | .ok L => Qd x L
def Gm (r : Except Int Hist) (s : AA) (z : R (Value × AA)) : Prop := match r with
 | .error e => e ≠ 0 ∧ ∃ s', z = .ok (.tuple ⟨[.pointer none, .int .i64 e]⟩, s') ∧ Ext s s' ∧ KOk s'
 | .ok H => ∃ b s' F, z = .ok (.tuple ⟨[.pointer (some ⟨b, 0, none⟩), .int .i64 0]⟩, s') ∧ Ext s s' ∧ KOk s' ∧ CU s' b H F
theorem Xk (m N : Nat) (hm : 400 ≤ m) {t0 : AA} {b : Nat} {v72 : Value} {M : List (List UInt8)} {q : Nat} (hMl : M.length < 1000000) (hq : q < t0.nx)
 (hp : ∀ (i : Nat), i < M.length → BR 1 v72 (.int .i64 (i : Int)) = some (.pointer (some ⟨q, 1 + i, none⟩))) (hr : ∀ (i : Nat) (y : List UInt8), M[i]? = some y → t0.rd1 q (1 + i) = some (strOf y)) :
 ∀ (d i f : Nat) (s : AA) (H : Hist) (F : Nat → Prop), i + d = M.length → d < f → Own t0 s b H F →
 Gm (KA H (M.drop i)) t0 (NU B47 (AU AL Aj m) N f (.pointer (some ⟨b, 0, none⟩)) v72 (.int .i64 (M.length : Int)) (.int .i64 (i : Int)) s) := by
 intro d
 induction d with
 | zero =>
  intro i f s H F hi hf hO
  obtain ⟨f, rfl, _⟩ := Ac hf
  obtain rfl : i = M.length := by omega
  have : ¬ (M.length : Int) < (M.length : Int) := by omega
  rw [List.drop_length]
  refine ⟨b, s, F, ?_, hO.x, hO.k, hO.hb⟩
  rw [KJ B47 rfl]
  simp only [BP, decide_eq_false this, Dq]
 | succ d ih =>
  intro i f s H F hi hf hO
  obtain ⟨f, rfl, _⟩ := Ac hf
  have hil : i < M.length := by omega
  obtain ⟨y, hy⟩ := Bv hil
  have hlt : (i : Int) < (M.length : Int) := by omega
  have hw : Az .i64 ((i : Int) + 1) = ((i + 1 : Nat) : Int) := by rw [wrap64 (by omega)]; omega
  have ia := hp i hil
  have rd : s.rd1 q (1 + i) = some (strOf y) := by
   have := hr i y hy; have g := hO.x.get q hq; unfold AA.rd1 at this ⊢; rw [g]; exact this
  unfold strOf at rd
  have lu : (Value.string ⟨#[117, 110, 100, 111]⟩) = .string (ofL EJ) := rfl
  have qq : BG .eql (.string (ofL y)) (.string (ofL EJ)) = some (.bool (decide (y = EJ))) := by rw [EO, Bj, Bj]
  rw [drop_at hy, KA]
  by_cases c : y = EJ
  · rw [if_pos c]
    refine ⟨by decide, s, ?_, hO.x, hO.k⟩
    rw [KJ B47 rfl]
    simp only [BP, decide_eq_true hlt, DV, NW B47 rfl, ia, AY, Aq, bind_ok, CO, rd, lu, qq, decide_eq_true c, Af]
  · rw [if_neg c]
    obtain ⟨s1, F1, d16, O1, _⟩ := hO.step m hm y
    by_cases c2 : Ed H y = 0
    · rw [if_neg (by simp [c2])]
      have r := ih (i + 1) f s1 (doH H y) F1 (by omega) (by omega) O1
      have e : NU B47 (AU AL Aj m) N (f + 1) (.pointer (some ⟨b, 0, none⟩)) v72 (.int .i64 (M.length : Int)) (.int .i64 (i : Int)) s = NU B47 (AU AL Aj m) N f (.pointer (some ⟨b, 0, none⟩)) v72 (.int .i64 (M.length : Int)) (.int .i64 ((i + 1 : Nat) : Int)) s1 := by
       rw [KJ B47 rfl]
       simp only [BP, decide_eq_true hlt, DV, NW B47 rfl, ia, AY, Aq, bind_ok, CO, rd, lu, qq, decide_eq_false c, Af, Dq, SL B47 rfl, d16, DF, decide_eq_true c2, Bool.not_true, Eb, hw]
      rw [e]; exact r
    · rw [if_pos c2]
      refine ⟨c2, s1, ?_, O1.x, O1.k⟩
      rw [KJ B47 rfl]
      simp only [BP, decide_eq_true hlt, DV, NW B47 rfl, ia, AY, Aq, bind_ok, CO, rd, lu, qq, decide_eq_false c, Af, Dq, SL B47 rfl, d16, DF, decide_eq_false c2, Bool.not_false]
end Go.Im
set_option maxRecDepth 100000
set_option maxHeartbeats 4000000
namespace Go.Im
theorem oI (t : AA) (q n : Nat) (h : n < 1000000) : rSl t 9 1 (some (.int .i64 1)) (some (.int .i64 ((n + 1 : Nat) : Int))) none (.slice (some ⟨q, 0, none⟩) (n + 2) (n + 2)) = some (.slice (some ⟨q, 1, none⟩) n (n + 1)) := by
 show cond (Nat.blt (n + 2) UNK) (ob (cond (Nat.ble (n + 1) (n + 2)) (some (n + 1)) none) fun h' => ob (cond (Nat.ble 1 h') (some 1) none) fun l' => some (slAt ⟨q, 0, none⟩ 1 l' h' (n + 2) (Nat.sub (n + 2) l'))) _ = _
 have a1 : Nat.blt (n + 2) UNK = true := Bq.2 (by show n + 2 < 9223372036854775808; omega)
 have a2 : Nat.ble (n + 1) (n + 2) = true := Ae.2 (by omega)
 have a3 : Nat.ble 1 (n + 1) = true := Ae.2 (by omega)
 rw [a1, a2]
 show (ob (cond (Nat.ble 1 (n + 1)) (some 1) none) fun l' => some (slAt ⟨q, 0, none⟩ 1 l' (n + 1) (n + 2) (Nat.sub (n + 2) l'))) = _
 rw [a3]
 show some (Value.slice (some (cond (Nat.beq (n + 2) 1) ⟨q, 0, none⟩ (Fb ⟨q, 0, none⟩ (Nat.mul 1 1)))) (Nat.sub (n + 1) 1) (Nat.sub (n + 2) 1)) = _
 have a4 : Nat.beq (n + 2) 1 = false := Hr (by omega)
 rw [a4]
 rfl
section
variable {m q n : Nat} {s : AA} {x : List UInt8} {L : List (List UInt8)}
theorem Xl (hm : 60000 ≤ m) (hk : KOk s) (hg : s.get q = some (.cells (L.map strOf) 9 true)) (hq : q < s.nx) (hn : L.length = n + 2) (hl : L.length < 20000) :
 Gm (KA [] ((L.drop 1).take (L.length - 2))) s (UJ B47 (AU AL Aj m) m (.slice (some ⟨q, 0, none⟩) L.length L.length) (.int .i64 (n : Int)) s) := by
 obtain ⟨s1, d14, b14, x14⟩ := k14 m (by omega) s hk
 obtain ⟨M, hM⟩ : ∃ M, M = (L.drop 1).take (L.length - 2) := ⟨_, rfl⟩
 have Ml : M.length = n := by rw [hM, List.length_take, List.length_drop]; omega
 have O1 : Own s s1 (s.nx + 1) [] (grow (fun _ => False) s s1) := ⟨hk.ext x14, x14, b14, fun i hi => by
  rcases hi.1 with h1 | h1
  · exact h1.elim
  · exact h1⟩
 have r := Xk m m (by omega) (v72 := .slice (some ⟨q, 1, none⟩) n (n + 1)) (M := M) (by omega) hq (fun i hi => by rw [Gh _ _ _ _ _ _ _ (by omega), Nat.mul_one]) (fun i y hy => by
  have hi := aY hy
  rw [hM, List.getElem?_take, List.getElem?_drop] at hy
  rw [Ai hg, List.getElem?_map]
  split at hy
  · rw [hy]; rfl
  · cases hy) M.length 0 m s1 [] _ (by omega) (by omega) O1
 rw [List.drop_zero, hM] at r
 rw [← hM, Ml] at r
 have w : Az .i64 (Int.add (n : Int) 1) = ((n + 1 : Nat) : Int) := by show Az .i64 ((n : Int) + 1) = _; rw [wrap64 (by omega)]; omega
 have rs := oI s1 q n (by omega)
 have lr : CZ (.slice (some ⟨q, 1, none⟩) n (n + 1)) = some (.int .i64 (n : Int)) := rfl
 rw [← hM]
 rw [hn, Zh B47 rfl]
 simp only [d14, bind_ok, w, rs, AY, Aq, lr]
 exact r
where
 aY {α : Type} {l : List α} {i : Nat} {x : α} (h : l[i]? = some x) : i < l.length := by
  by_cases c : i < l.length
  · exact c
  · rw [List.getElem?_eq_none (by omega)] at h; cases h
theorem kY (hn : L.length = n + 2) : L[n + 1]? = some (D6 L) := by
 unfold D6
 rw [List.getD_eq_getElem?_getD, show L.length - 1 = n + 1 by omega, List.getElem?_eq_getElem (by omega)]
 rfl
theorem Xm (hm : 60000 ≤ m) (hk : KOk s) (hg : s.get q = some (.cells (L.map strOf) 9 true)) (hq : q < s.nx) (hn : L.length = n + 2) (hl : L.length < 20000) (hx : x.length ≤ 16000) (hll : (D6 L).length ≤ 16000) :
 Gm (if BO (DW (Bz x (D6 L ++ [10])) 0) ≠ sumW L then .error 18 else KA [] ((L.drop 1).take (L.length - 2))) s (Pz B47 (AU AL Aj m) m (.string (ofL x)) (.slice (some ⟨q, 0, none⟩) L.length L.length) (.int .i64 (n : Int)) (.string (ofL (D6 L))) (.string (ofL (sumW L))) s) := by
 have a1 := Cc (D6 L) [10] (by show _ + 1 ≤ _; omega)
 have tl : (Bz x (D6 L ++ [10])).length ≤ x.length := by
  unfold Bz
  by_cases c : EC x (D6 L ++ [10]) = true
  · rw [if_pos c, List.length_take]; omega
  · rw [if_neg c]; omega
 have d65 := k65 (ofL x) (ofL (D6 L ++ [10])) m (by omega) (by rw [Bj]; omega) s
 rw [Bj, Bj] at d65
 have d74 := k74 m (Bz x (D6 L ++ [10])) (by omega) (by omega) s
 have ck := Jw (Bz x (D6 L ++ [10])) 0 (by decide)
 have d45 := k45 m (by omega) (DW (Bz x (D6 L ++ [10])) 0) (by omega) s
 have qq : BG .neq (.string (ofL (BO (DW (Bz x (D6 L ++ [10])) 0)))) (.string (ofL (sumW L))) = some (.bool (!decide (BO (DW (Bz x (D6 L ++ [10])) 0) = sumW L))) := by rw [Jq, Bj, Bj]
 by_cases c : BO (DW (Bz x (D6 L ++ [10])) 0) = sumW L
 · rw [if_neg (by simp [c])]
   have r := Xl hm hk hg hq hn hl
   have e : Pz B47 (AU AL Aj m) m (.string (ofL x)) (.slice (some ⟨q, 0, none⟩) L.length L.length) (.int .i64 (n : Int)) (.string (ofL (D6 L))) (.string (ofL (sumW L))) s = UJ B47 (AU AL Aj m) m (.slice (some ⟨q, 0, none⟩) L.length L.length) (.int .i64 (n : Int)) s := by
    rw [SK B47 rfl]
    simp only [Kr, a1, AY, Aq, bind_ok, d65, d74, d45, qq, decide_eq_true c, Bool.not_true, Af, Dq]
   rw [e]; exact r
 · rw [if_pos c]
   refine ⟨by decide, s, ?_, .refl s, hk⟩
   rw [SK B47 rfl]
   simp only [Kr, a1, AY, Aq, bind_ok, d65, d74, d45, qq, decide_eq_false c, Bool.not_false, Af, DV]
end
end Go.Im
set_option maxRecDepth 100000
set_option maxHeartbeats 4000000
namespace Go.Im
theorem Gm.pre {r : Except Int Hist} {s s1 : AA} {z : R (Value × AA)} (x : Ext s s1) (h : Gm r s1 z) : Gm r s z := by
 cases r with
 | error e => obtain ⟨h0, s', h1, h2, h3⟩ := h; exact ⟨h0, s', h1, x.trans h2, h3⟩
 | ok H => obtain ⟨b, s', F, h1, h2, h3, h4⟩ := h; exact ⟨b, s', F, h1, x.trans h2, h3, h4⟩
section
variable {m q n : Nat} {s : AA} {x : List UInt8} {L : List (List UInt8)}
theorem Xn (hm : 60000 ≤ m) (hk : KOk s) (hg : s.get q = some (.cells (L.map strOf) 9 true)) (hq : q < s.nx) (hn : L.length = n + 2) (hl : L.length < 20000) (hx : x.length ≤ 16000) (hll : (D6 L).length ≤ 16000) :
 Gm (if (Ef (D6 L) Gl && decimal (sumW L) && CS (sumW L) 0 9972) = false then .error 9 else if BO (DW (Bz x (D6 L ++ [10])) 0) ≠ sumW L then .error 18 else KA [] ((L.drop 1).take (L.length - 2))) s
  (Py B47 (AU AL Aj m) m (.string (ofL x)) (.slice (some ⟨q, 0, none⟩) L.length L.length) (.int .i64 (n : Int)) s) := by
 have w : Az .i64 (Int.add (n : Int) 1) = ((n + 1 : Nat) : Int) := by show Az .i64 ((n : Int) + 1) = _; rw [wrap64 (by omega)]; omega
 have ia : BR 1 (.slice (some ⟨q, 0, none⟩) L.length L.length) (.int .i64 ((n + 1 : Nat) : Int)) = some (.pointer (some ⟨q, n + 1, none⟩)) := by rw [Gh _ _ _ _ _ _ _ (by omega), Nat.mul_one, Nat.zero_add]
 have rd : s.rd1 q (n + 1) = some (.string (ofL (D6 L))) := by rw [Ai hg, List.getElem?_map, kY hn]; rfl
 have d77 := k77 (ofL (D6 L)) (ofL Gl) m (by omega) s
 rw [Bj, Bj] at d77
 have ls : (Value.string ⟨#[115, 117, 109, 32]⟩) = .string (ofL Gl) := rfl
 have z : (false == true) = false := rfl
 have z2 : (true == false) = false := rfl
 cases c1 : Ef (D6 L) Gl with
 | false =>
  rw [c1] at d77
  refine ⟨by decide, s, ?_, .refl s, hk⟩
  rw [KI B47 rfl]
  simp only [w, ia, AY, Aq, bind_ok, CO, rd, ls, d77, Bc, List.getElem?_cons_zero, List.getElem?_cons_succ, Dx, Bool.not_false, Cb, z2, OE, I5, Af, DV]
 | true =>
  rw [c1, if_pos rfl] at d77
  have d77 : AU AL Aj m (.fn 77) [.string (ofL (D6 L)), .string (ofL Gl)] s = .ok (.tuple ⟨[.string (ofL (sumW L)), .bool true]⟩, s) := d77
  have sl : (sumW L).length ≤ 16000 := by unfold sumW; rw [List.length_drop]; omega
  obtain ⟨s1, d78, x1⟩ := k78 (ofL (sumW L)) m (by rw [Bj]; omega) s
  rw [Bj] at d78
  cases c2 : decimal (sumW L) with
  | false =>
   rw [c2] at d78
   refine ⟨by decide, s1, ?_, x1, hk.ext x1⟩
   rw [KI B47 rfl]
   simp only [w, ia, AY, Aq, bind_ok, CO, rd, ls, d77, Bc, List.getElem?_cons_zero, List.getElem?_cons_succ, Dx, Bool.not_true, Bool.not_false, Cb, beq_self_eq_true, I4, d78, Ea, z2, OE, I5, Af, DV]
  | true =>
   rw [c2] at d78
   obtain ⟨s2, d79, x2⟩ := k79 (ofL (sumW L)) (by rw [Bj]; omega) 0 9972 m (by omega) s1
   rw [Bj] at d79
   have x02 := x1.trans x2
   cases c3 : CS (sumW L) 0 9972 with
   | false =>
    rw [c3] at d79
    refine ⟨by decide, s2, ?_, x02, hk.ext x02⟩
    rw [KI B47 rfl]
    simp only [w, ia, AY, Aq, bind_ok, CO, rd, ls, d77, Bc, List.getElem?_cons_zero, List.getElem?_cons_succ, Dx, Bool.not_true, Bool.not_false, Cb, beq_self_eq_true, I4, d78, d79, Ea, Af, DV]
   | true =>
    rw [c3] at d79
    have r := Xm (m := m) (x := x) hm (hk.ext x02) ((x02.get q hq).trans hg) (Nat.lt_of_lt_of_le hq x02.nx) hn hl hx hll
    have e : Py B47 (AU AL Aj m) m (.string (ofL x)) (.slice (some ⟨q, 0, none⟩) L.length L.length) (.int .i64 (n : Int)) s = Pz B47 (AU AL Aj m) m (.string (ofL x)) (.slice (some ⟨q, 0, none⟩) L.length L.length) (.int .i64 (n : Int)) (.string (ofL (D6 L))) (.string (ofL (sumW L))) s2 := by
     rw [KI B47 rfl]
     simp only [w, ia, AY, Aq, bind_ok, CO, rd, ls, d77, Bc, List.getElem?_cons_zero, List.getElem?_cons_succ, Dx, Bool.not_true, Cb, beq_self_eq_true, I4, d78, d79, Ea, Af, Dq]
    rw [e]
    exact r.pre x02
theorem Xo (hm : 60000 ≤ m) (hk : KOk s) (hg : s.get q = some (.cells (L.map strOf) 9 true)) (hq : q < s.nx) (h0 : 0 < L.length) (hl : L.length < 20000) (hx : x.length ≤ 16000) (hll : (D6 L).length ≤ 16000) (hl0 : (L.getD 0 []).length ≤ 16000) :
 Gm (Qd x L) s (UH B47 (AU AL Aj m) m (.string (ofL x)) (.slice (some ⟨q, 0, none⟩) L.length L.length) s) := by
 have lv : CZ (.slice (some ⟨q, 0, none⟩) L.length L.length) = some (.int .i64 (L.length : Int)) := rfl
 have w : Az .i64 ((L.length : Int) - 2) = (L.length : Int) - 2 := wrap64 (by omega)
 have z2 : (true == false) = false := rfl
 unfold Qd TL
 by_cases c : 2 ≤ L.length
 · obtain ⟨n, hn⟩ : ∃ n, L.length = n + 2 := ⟨L.length - 2, by omega⟩
   have en : (L.length : Int) - 2 = (n : Int) := by omega
   have lt : ¬ (n : Int) < 0 := by omega
   have wn : Az .i64 (n : Int) = (n : Int) := wrap64 (by omega)
   obtain ⟨y, hy⟩ := Bv h0
   have gy : L.getD 0 [] = y := by rw [List.getD_eq_getElem?_getD, hy]; rfl
   have ia : BR 1 (.slice (some ⟨q, 0, none⟩) L.length L.length) (.int .i64 0) = some (.pointer (some ⟨q, 0, none⟩)) := by
    have := Gh 1 q 0 L.length L.length 0 .i64 h0; simpa using this
   have rd : s.rd1 q 0 = some (.string (ofL y)) := by rw [Ai hg, List.getElem?_map, hy]; rfl
   have d45 := k45 m (by omega) (n : Int) (by omega) s
   have i1 := DZ (n : Int)
   have a1 := Cc DX (BO (n : Int)) (by show 10 + _ ≤ _; omega)
   have lc : (Value.string ⟨#[99, 111, 109, 112, 97, 115, 115, 101, 115, 32]⟩) = .string (ofL DX) := rfl
   have qq : BG .neq (.string (ofL y)) (.string (ofL (DX ++ BO (n : Int)))) = some (.bool (!decide (y = DX ++ BO (n : Int)))) := by rw [Jq, Bj, Bj]
   have ck : CW s (some (.pointer (some ⟨q, 0, none⟩))) (some (.string (ofL y))) (.string (ofL y)) = true := Cm hq (nR y)
   rw [gy, en, decide_eq_true c, Bool.true_and]
   by_cases c2 : y = DX ++ BO (n : Int)
   · rw [decide_eq_true c2, Bool.true_and]
     have r := Xn (m := m) (x := x) hm hk hg hq hn hl hx hll
     have e : UH B47 (AU AL Aj m) m (.string (ofL x)) (.slice (some ⟨q, 0, none⟩) L.length L.length) s = Py B47 (AU AL Aj m) m (.string (ofL x)) (.slice (some ⟨q, 0, none⟩) L.length L.length) (.int .i64 (n : Int)) s := by
      rw [NV B47 rfl]
      simp only [lv, AY, Aq, bind_ok, DJ, CQ, Gy, en, wn, Dk, decide_eq_false lt, Cb, beq_self_eq_true, I4, ia, CO, rd, d45, lc, a1, qq, decide_eq_true c2, Bool.not_true, Ea, iU, ck, Bool.and_true, DV, Af, Dq]
     rw [e]; exact r
   · rw [decide_eq_false c2, Bool.false_and, Bool.false_and, Bool.false_and]
     refine ⟨by decide, s, ?_, .refl s, hk⟩
     rw [NV B47 rfl]
     simp only [lv, AY, Aq, bind_ok, DJ, CQ, Gy, en, wn, Dk, decide_eq_false lt, Cb, beq_self_eq_true, I4, ia, CO, rd, d45, lc, a1, qq, decide_eq_false c2, Bool.not_false, Ea, iU, ck, Bool.and_true, DV, Af]
 · rw [decide_eq_false c, Bool.false_and, Bool.false_and, Bool.false_and, Bool.false_and]
   have lt : (L.length : Int) - 2 < 0 := by omega
   refine ⟨by decide, s, ?_, .refl s, hk⟩
   rw [NV B47 rfl]
   simp only [lv, AY, Aq, bind_ok, DJ, CQ, Gy, w, Dk, decide_eq_true lt, Cb, z2, OE, I5, chkG_f, DV, Af]
end
theorem k47 (n : Nat) (hn : 60001 ≤ n) (x : List UInt8) (hx : x.length < 1000000) {s : AA} (hk : KOk s) : Gm (N9 x) s (AU AL Aj n (.fn 47) [.string (ofL x)] s) := by
 obtain ⟨m, rfl, _⟩ := Ac (show 1 ≤ n by omega)
 rw [Ap 47 c47 rfl, f47_eq]
 unfold N9
 cases hL : Hf x with
 | error e =>
  obtain ⟨h0, d⟩ := oH x (by omega) hL m (by omega) s
  refine ⟨h0, s, ?_, .refl s, hk⟩
  simp only [d, bind_ok, Bc, List.getElem?_cons_zero, List.getElem?_cons_succ, AY, Aq, DF, decide_eq_false h0, Bool.not_false, Af, DV]
 | ok L =>
  obtain ⟨v, s1, d, x1, rfl, g, lt⟩ := k76_ok x (by omega) hL m (by omega) s
  have hLs : x.length ≤ 16000 ∧ L = BJ 10 (Bz x [10]) := by
   unfold Hf at hL
   by_cases c : 16000 < x.length
   · rw [if_pos c] at hL; cases hL
   · rw [if_neg c] at hL
     by_cases c2 : EC x [10] = false
     · rw [if_pos c2] at hL; cases hL
     · rw [if_neg c2] at hL; exact ⟨by omega, (Except.ok.inj hL).symm⟩
  obtain ⟨h16, eL⟩ := hLs
  have tl : (Bz x [10]).length ≤ x.length := by
   unfold Bz
   by_cases c : EC x [10] = true
   · rw [if_pos c, List.length_take]; omega
   · rw [if_neg c]; omega
  have h0 : 0 < L.length := by rw [eL]; exact Fp _ _
  obtain ⟨p1, p2⟩ := LM 10 (Bz x [10])
  rw [← eL] at p1 p2
  have at_ : ∀ i, (L.getD i []).length ≤ 16000 := fun i => by
   rw [List.getD_eq_getElem?_getD]
   cases hi : L[i]? with
   | none => exact Nat.zero_le _
   | some y => have := p1 y (List.mem_of_getElem? hi); show y.length ≤ _; omega
  have r := Xo (m := m) (x := x) (by omega) (hk.ext x1) g lt h0 (by omega) h16 (at_ _) (at_ 0)
  simp only [d, bind_ok, Bc, List.getElem?_cons_zero, List.getElem?_cons_succ, AY, Aq, DF, decide_true, Bool.not_true, Af, Dq]
  exact r.pre x1
end Go.Im
set_option maxRecDepth 100000
set_option maxHeartbeats 4000000
namespace Go.Im
theorem II (c b : UInt8) (l : List UInt8) : BJ c (b :: l) = if b = c then [] :: BJ c l else pushB b (BJ c l) := by
 show cond (Nat.beq b.toNat c.toNat) ([] :: BJ c l) (pushB b (BJ c l)) = _
 by_cases h : b = c
 · subst h; rw [if_pos rfl, Ej rfl]; rfl
 · have : b.toNat ≠ c.toNat := fun e => h (UInt8.toNat_inj.1 e)
   rw [if_neg h, Hr this]; rfl
theorem Um (c : UInt8) (x : List UInt8) : ∃ p r, BJ c x = p :: r := by
 have := Fp c x
 cases h : BJ c x with
 | nil => rw [h] at this; exact absurd this (by decide)
 | cons p r => exact ⟨p, r, rfl⟩
theorem Qe (c : UInt8) : ∀ x : List UInt8, C9 [c] (BJ c x) = x
 | [] => rfl
 | b :: l => by
  have ih := Qe c l
  obtain ⟨p, r, e⟩ := Um c l
  rw [II]
  rw [e] at ih ⊢
  by_cases h : b = c
  · rw [if_pos h]
    show [] ++ ([c] ++ C9 [c] (p :: r)) = _
    rw [ih, h]; rfl
  · rw [if_neg h]
    show C9 [c] ((b :: p) :: r) = _
    cases r with
    | nil => have ih : p = l := ih; rw [← ih]; rfl
    | cons q r => have ih : p ++ ([c] ++ C9 [c] (q :: r)) = l := ih; rw [← ih]; rfl
theorem LX (c : UInt8) (r : List UInt8) : ∀ p : List UInt8, c ∉ p → BJ c (p ++ c :: r) = p :: BJ c r
 | [], _ => by rw [List.nil_append, II, if_pos rfl]
 | b :: p, h => by
  have h1 : ¬ b = c := fun e => h (by rw [e]; exact List.mem_cons_self)
  rw [List.cons_append, II, if_neg h1, LX c r p fun e => h (List.mem_cons_of_mem _ e)]; rfl
theorem OM (c : UInt8) : ∀ p : List UInt8, c ∉ p → BJ c p = [p]
 | [], _ => rfl
 | b :: p, h => by
  have h1 : ¬ b = c := fun e => h (by rw [e]; exact List.mem_cons_self)
  rw [II, if_neg h1, OM c p fun e => h (List.mem_cons_of_mem _ e)]; rfl
theorem Qg (c : UInt8) : ∀ L : List (List UInt8), L ≠ [] → (∀ y ∈ L, c ∉ y) → BJ c (C9 [c] L) = L
 | [], h, _ => (h rfl).elim
 | [p], _, h => OM c p (h p (by simp))
 | p :: q :: l, _, h => by
  have ih := Qg c (q :: l) (by simp) fun y hy => h y (List.mem_cons_of_mem _ hy)
  show BJ c (p ++ ([c] ++ C9 [c] (q :: l))) = _
  show BJ c (p ++ c :: C9 [c] (q :: l)) = _
  rw [LX c _ p (h p (by simp)), ih]
theorem Ns (c : UInt8) (z : List UInt8) : ∀ (p : List UInt8) (l : List (List UInt8)), C9 [c] (p :: l ++ [z]) = C9 [c] (p :: l) ++ c :: z
 | p, [] => rfl
 | p, q :: l => by
  have ih := Ns c z q l
  show p ++ ([c] ++ C9 [c] (q :: l ++ [z])) = p ++ ([c] ++ C9 [c] (q :: l)) ++ c :: z
  rw [ih, List.append_assoc, List.append_assoc]
theorem Qh (x y : List UInt8) : EC (x ++ y) y = true := by
 unfold EC
 rw [decide_eq_true_eq]
 refine ⟨by rw [List.length_append]; omega, ?_⟩
 rw [List.length_append, Nat.add_sub_cancel, List.drop_left]
theorem KC (x y : List UInt8) : Bz (x ++ y) y = x := by
 unfold Bz
 rw [if_pos (Qh x y), List.length_append, Nat.add_sub_cancel, List.take_left]
theorem aZ {x y : List UInt8} (h : EC x y = true) : x = Bz x y ++ y := by
 unfold Bz
 rw [if_pos h]
 unfold EC at h
 have := (of_decide_eq_true h).2
 conv => lhs; rw [← List.take_append_drop (x.length - y.length) x, this]
def Vw (z : Nat) : Bool := decimal (BO (z : Int)) && (BO (z : Int)).all (fun b => !(Nat.beq b.toNat 10)) && (match Ec (BO (z : Int)) with | (w, e) => decide (w = (z : Int)) && !e)
theorem oJ : ((List.range 100).all fun a => (List.range 100).all fun b => Vw (100 * a + b)) = true := by kernel_rfl
theorem Xp {z : Nat} (h : z < 10000) : Vw z = true := by
 have h1 := List.all_eq_true.1 oJ (z / 100) (List.mem_range.2 (by omega))
 have h2 := List.all_eq_true.1 h1 (z % 100) (List.mem_range.2 (by omega))
 rwa [show 100 * (z / 100) + z % 100 = z by omega] at h2
theorem oK {z : Nat} (h : z < 10000) : decimal (BO (z : Int)) = true := by
 have := Xp h; unfold Vw at this; simp only [Bool.and_eq_true] at this; exact this.1.1
theorem Qi {z : Nat} (h : z < 10000) : (10 : UInt8) ∉ BO (z : Int) := by
 have := Xp h; unfold Vw at this; simp only [Bool.and_eq_true] at this
 intro hm
 have := List.all_eq_true.1 this.1.2 _ hm
 exact absurd this (by decide)
theorem Qj {z : Nat} (h : z < 10000) : Ec (BO (z : Int)) = ((z : Int), false) := by
 have := Xp h; unfold Vw at this; simp only [Bool.and_eq_true] at this
 have := this.2
 cases hz : Ec (BO (z : Int)) with
 | mk w e =>
  rw [hz] at this
  simp only [Bool.and_eq_true, decide_eq_true_eq, Bool.not_eq_true'] at this
  rw [this.1, this.2]
theorem oL {a b : Nat} (ha : a < 10000) (hb : b < 10000) (h : BO (a : Int) = BO (b : Int)) : a = b := by
 have h1 := Qj ha
 rw [h, Qj hb] at h1
 have := (Prod.mk.inj h1).1
 omega
theorem num_in {z : Nat} (h : z < 9973) : CS (BO (z : Int)) 0 9972 = true := by
 unfold CS
 rw [Qj (by omega)]
 exact decide_eq_true ⟨by omega, by omega⟩
end Go.Im
set_option maxRecDepth 100000
set_option maxHeartbeats 4000000
namespace Go.Im
theorem Qm : ∀ (x : List UInt8) (last : Nat), DI x last = true → (10 : UInt8) ∉ x
 | [], _, _ => by simp
 | c :: l, last, h => by
  rw [DI] at h
  intro hm
  cases hc : (decide (c.toNat < 32) || decide (126 < c.toNat) || (decide (c.toNat = 32) && decide (last = 32))) with
  | true => rw [hc] at h; cases h
  | false =>
   rw [hc] at h
   rcases List.mem_cons.1 hm with e | e
   · rw [← e] at hc; simp at hc
   · exact Qm l _ h e
theorem oO {x : List UInt8} {o : Ord} (h : Dz x = .ok o) : (10 : UInt8) ∉ x := by
 unfold Dz at h
 by_cases c : 60 < x.length
 · rw [if_pos c] at h; cases h
 · rw [if_neg c] at h
   cases c2 : DI x 32 with
   | false => rw [c2] at h; cases h
   | true => exact Qm x 32 c2
theorem Vx {H : Hist} (h : HOk H) : ∀ y ∈ AZ H, (10 : UInt8) ∉ y := by
 intro y hy
 obtain ⟨x, hx, rfl⟩ := List.mem_map.1 hy
 obtain ⟨i, hi⟩ := List.getElem?_of_mem hx
 exact oO (h i x hi).2
theorem ku {H : Hist} (h : HOk H) {i : Nat} {x : List UInt8 × Ord} (hx : H[i]? = some x) : x.1 ≠ EJ := by
 obtain ⟨f, r⟩ := h i x hx
 intro e
 rw [e, OO] at r
 injection r with r
 have := f.ok
 rw [← r] at this; exact this
theorem Iw (H : Hist) : (AZ H).length = H.length := by unfold AZ; rw [List.length_map]
theorem Vy : ∀ (l : List (List UInt8)) (H H' : Hist), HOk H → H.length ≤ 200 → KA H l = .ok H' → HOk H' ∧ H'.length ≤ 200 ∧ AZ H' = AZ H ++ l
 | [], H, H', h, hl, e => by
  obtain rfl := Except.ok.inj (show Except.ok H = Except.ok H' from e)
  exact ⟨h, hl, by simp⟩
 | y :: l, H, H', h, hl, e => by
  rw [KA] at e
  by_cases c : y = EJ
  · rw [if_pos c] at e; cases e
  · rw [if_neg c] at e
    by_cases c2 : Ed H y = 0
    · rw [if_neg (by simp [c2])] at e
      obtain ⟨h1, l1⟩ := doH_ok h hl y
      obtain ⟨a1, a2, a3⟩ := Vy l _ H' h1 l1 e
      rcases aj c2 with ⟨u, _⟩ | ⟨_, ord, d⟩
      · exact (c u).elim
      · refine ⟨a1, a2, ?_⟩
        rw [a3, d]; unfold AZ; simp
    · rw [if_pos c2] at e; cases e
theorem Qn {H : Hist} (h : HOk H) (hl : H.length ≤ 200) : ∀ (d i : Nat), i + d = H.length → KA (H.take i) ((AZ H).drop i) = .ok H
 | 0, i, hi => by
  have ll := Iw H
  rw [List.drop_eq_nil_of_le (by omega), List.take_of_length_le (by omega)]; rfl
 | d + 1, i, hi => by
  obtain ⟨x, hx⟩ := Bv (show i < H.length by omega)
  obtain ⟨e1, e2⟩ := kZ h hx hl
  have hy : (AZ H)[i]? = some x.1 := by unfold AZ; rw [List.getElem?_map, hx]; rfl
  rw [drop_at hy, KA, if_neg (ku h hx), if_neg (by simp [e1]), e2]
  exact Qn h hl d (i + 1) (by omega)
theorem TM {x : List UInt8} {H : Hist} (h : N9 x = .ok H) : HOk H ∧ H.length ≤ 200 ∧ Ba (AZ H) = x := by
 unfold N9 at h
 cases hL : Hf x with
 | error e => rw [hL] at h; cases h
 | ok L =>
  rw [hL] at h
  have h : Qd x L = .ok H := h
  have hx : EC x [10] = true ∧ L = BJ 10 (Bz x [10]) := by
   unfold Hf at hL
   by_cases c : 16000 < x.length
   · rw [if_pos c] at hL; cases hL
   · rw [if_neg c] at hL
     by_cases c2 : EC x [10] = false
     · rw [if_pos c2] at hL; cases hL
     · rw [if_neg c2] at hL; exact ⟨by simpa using c2, (Except.ok.inj hL).symm⟩
  obtain ⟨sx, eL⟩ := hx
  have jx := Qe 10 (Bz x [10])
  rw [← eL] at jx
  have ex := aZ sx
  rw [← jx] at ex
  unfold Qd at h
  cases fb : TL L with
  | false => rw [fb] at h; cases h
  | true =>
   rw [fb, if_neg (by decide)] at h
   unfold TL at fb
   simp only [Bool.and_eq_true, decide_eq_true_eq] at fb
   obtain ⟨⟨⟨⟨f1, f2⟩, f3⟩, f4⟩, f5⟩ := fb
   by_cases c : BO (DW (Bz x (D6 L ++ [10])) 0) = sumW L
   · rw [if_neg (by simp [c])] at h
     obtain ⟨M, hM⟩ : ∃ M, M = (L.drop 1).take (L.length - 2) := ⟨_, rfl⟩
     have Ml : M.length = L.length - 2 := by rw [hM, List.length_take, List.length_drop]; omega
     rw [← hM] at h
     obtain ⟨a1, a2, a3⟩ := Vy M [] H HOk.nil (by decide) h
     have a3 : AZ H = M := a3
     refine ⟨a1, a2, ?_⟩
     have shape : L = (DX ++ BO (M.length : Int)) :: M ++ [D6 L] := by
      cases L with
      | nil => exact absurd f1 (by decide)
      | cons y R =>
       have yy : y = DX ++ BO (M.length : Int) := by
        have : (y :: R).getD 0 [] = y := rfl
        rw [this] at f2
        rw [f2, Ml]
        congr 2
        simp only [List.length_cons] at f1 ⊢
        omega
       have RR : R = M ++ [D6 (y :: R)] := by
        have rl : 1 ≤ R.length := by simp only [List.length_cons] at f1; omega
        have e1 : M = R.take (R.length - 1) := by rw [hM]; simp
        have e2 : D6 (y :: R) = R.getD (R.length - 1) [] := by
         unfold D6
         rw [List.length_cons, Nat.add_sub_cancel]
         obtain ⟨k, hk⟩ : ∃ k, R.length = k + 1 := ⟨R.length - 1, by omega⟩
         rw [hk]; rfl
        have e3 : [R.getD (R.length - 1) []] = R.drop (R.length - 1) := by
         rw [List.drop_eq_getElem_cons (show R.length - 1 < R.length by omega), List.drop_eq_nil_of_le (by omega), List.getD_eq_getElem?_getD, List.getElem?_eq_getElem (by omega)]; rfl
        rw [e2, e3, e1, List.take_append_drop]
       rw [← yy]
       show y :: R = y :: (M ++ [D6 (y :: R)])
       rw [← RR]
     have last : D6 L = Gl ++ sumW L := by
      unfold Ef at f3
      have := (of_decide_eq_true f3).2
      unfold sumW
      conv => lhs; rw [← List.take_append_drop 4 (D6 L)]
      exact congrArg (· ++ (D6 L).drop 4) this
     have jl : C9 [10] L = BN M ++ D6 L := by
      conv => lhs; rw [shape]
      rw [Ns]
      unfold BN
      rw [List.append_assoc]; rfl
     rw [jl, List.append_assoc] at ex
     have tb : Bz x (D6 L ++ [10]) = BN M := by
      conv => lhs; rw [ex]
      exact KC _ _
     rw [tb] at c
     rw [a3]
     unfold Ba
     rw [c, List.append_assoc (BN M), ← last, List.append_assoc, ← ex]
   · rw [if_pos c] at h; cases h
end Go.Im
set_option maxRecDepth 100000
set_option maxHeartbeats 4000000
namespace Go.Im
def ckN (L : List (List UInt8)) : Nat := (DW (BN L) 0).toNat
theorem Xt (L : List (List UInt8)) : DW (BN L) 0 = (ckN L : Int) ∧ ckN L < 9973 := by
 have := Jw (BN L) 0 (by decide)
 unfold ckN
 omega
theorem Qo : (10 : UInt8) ∉ DX := by decide
theorem Yo : (10 : UInt8) ∉ Gl := by decide
theorem Qp {a b : List UInt8} (ha : (10 : UInt8) ∉ a) (hb : (10 : UInt8) ∉ b) : (10 : UInt8) ∉ a ++ b := fun h => by
 rcases List.mem_append.1 h with h | h
 · exact ha h
 · exact hb h
theorem JO {H : Hist} (h : HOk H) (hl : H.length ≤ 200) : (Ba (AZ H)).length ≤ 16000 := by
 have sm := Jy h
 have ll := Iw H
 have i1 := DZ ((AZ H).length : Int)
 have i2 := DZ (DW (BN (AZ H)) 0)
 have s1 := KO (k := 60) ((DX ++ BO ((AZ H).length : Int)) :: AZ H) (fun x hx => by
  rcases List.mem_cons.1 hx with rfl | hx
  · rw [List.length_append]; show 10 + _ ≤ _; omega
  · exact sm x hx)
 have s2 := LW [10] ((DX ++ BO ((AZ H).length : Int)) :: AZ H)
 rw [List.length_cons] at s1 s2
 have e1 : [(10 : UInt8)].length = 1 := rfl
 rw [e1] at s2
 unfold Ba BN
 unfold BN at i2
 simp only [List.length_append]
 have e2 : Gl.length = 4 := rfl
 rw [e1, e2]
 have : ((AZ H).length + 1) * (60 + 1) ≤ 201 * 61 := Nat.mul_le_mul (by omega) (Nat.le_refl _)
 omega
theorem Ig (L : List (List UInt8)) : Ba L = C9 [10] ((DX ++ BO (L.length : Int)) :: L ++ [Gl ++ BO (ckN L : Int)]) ++ [10] := by
 rw [Ns]
 unfold Ba
 rw [(Xt L).1]
 unfold BN
 simp [List.append_assoc]
theorem TN {H : Hist} (h : HOk H) (hl : H.length ≤ 200) : N9 (Ba (AZ H)) = .ok H := by
 have ll := Iw H
 have sz := JO h hl
 obtain ⟨c1, c2⟩ := Xt (AZ H)
 obtain ⟨ls, hls⟩ : ∃ ls, ls = Gl ++ BO (ckN (AZ H) : Int) := ⟨_, rfl⟩
 obtain ⟨L, hL⟩ : ∃ L, L = (DX ++ BO ((AZ H).length : Int)) :: AZ H ++ [ls] := ⟨_, rfl⟩
 have form := Ig (AZ H)
 rw [← hls, ← hL] at form
 have no : ∀ y ∈ L, (10 : UInt8) ∉ y := by
  intro y hy
  rw [hL] at hy
  simp only [List.cons_append, List.mem_cons, List.mem_append, List.not_mem_nil, or_false] at hy
  rcases hy with rfl | hy | rfl
  · exact Qp Qo (Qi (by omega))
  · exact Vx h y hy
  · rw [hls]; exact Qp Yo (Qi (by omega))
 have sp := Qg 10 L (by rw [hL]; simp) no
 have Ll : L.length = H.length + 2 := by rw [hL]; simp [ll]
 have lr : Hf (Ba (AZ H)) = .ok L := by
  unfold Hf
  rw [if_neg (by omega), form, Qh, if_neg (by decide), KC, sp]
 have last : D6 L = ls := by
  unfold D6
  rw [List.getD_eq_getElem?_getD, Ll, hL, List.getElem?_append_right (by simp [ll])]
  simp [ll]
 have sw : sumW L = BO (ckN (AZ H) : Int) := by
  unfold sumW; rw [last, hls]; rfl
 have fb : TL L = true := by
  unfold TL
  simp only [Bool.and_eq_true, decide_eq_true_eq]
  refine ⟨⟨⟨⟨by omega, ?_⟩, ?_⟩, ?_⟩, ?_⟩
  · have e0 : L.getD 0 [] = DX ++ BO ((AZ H).length : Int) := by rw [hL]; rfl
    rw [e0, ll, Ll]
    congr 2
    omega
  · rw [last, hls]
    unfold Ef
    exact decide_eq_true ⟨by rw [List.length_append]; omega, by rw [List.take_left]⟩
  · rw [sw]; exact oK (by omega)
  · rw [sw]; exact num_in c2
 have tb : Bz (Ba (AZ H)) (D6 L ++ [10]) = BN (AZ H) := by
  rw [last, hls]
  have : Ba (AZ H) = BN (AZ H) ++ ((Gl ++ BO (ckN (AZ H) : Int)) ++ [10]) := by
   unfold Ba; rw [c1]; simp [List.append_assoc]
  rw [this]; exact KC _ _
 have mid : (L.drop 1).take (L.length - 2) = AZ H := by
  rw [hL]
  show ((AZ H) ++ [ls]).take _ = _
  rw [← hL, Ll, Nat.add_sub_cancel, ← ll, List.take_left]
 unfold N9
 rw [lr]
 show Qd (Ba (AZ H)) L = _
 unfold Qd
 rw [fb, if_neg (by decide), tb, sw, c1, if_neg (by simp), mid]
 have := Qn h hl H.length 0 (by omega)
 rwa [List.take_zero, List.drop_zero] at this
theorem Vz {x : List UInt8} (h : (10 : UInt8) ∉ x) : x.count 10 = 0 := List.count_eq_zero.2 h
theorem Qq : ∀ (p : List UInt8) (l : List (List UInt8)), (∀ y ∈ p :: l, (10 : UInt8) ∉ y) → (C9 [10] (p :: l)).count 10 = l.length
 | p, [], h => Vz (h p (by simp))
 | p, q :: l, h => by
  have ih := Qq q l fun y hy => h y (List.mem_cons_of_mem _ hy)
  show (p ++ ([10] ++ C9 [10] (q :: l))).count 10 = _
  rw [List.count_append, List.count_append, ih, Vz (h p (by simp)), List.length_cons]
  show 0 + (1 + l.length) = _
  omega
theorem Qu {H : Hist} (h : HOk H) (hl : H.length ≤ 200) : (Ba (AZ H)).count 10 = H.length + 2 := by
 have ll := Iw H
 obtain ⟨_, c2⟩ := Xt (AZ H)
 rw [Ig, List.count_append, List.cons_append, Qq]
 · simp [ll]
 · intro y hy
   simp only [List.mem_cons, List.mem_append, List.not_mem_nil, or_false] at hy
   rcases hy with rfl | hy | rfl
   · exact Qp Qo (Qi (by omega))
   · exact Vx h y hy
   · exact Qp Yo (Qi (by omega))
theorem TP {H : Hist} (hl : H.length ≤ 200) (r : List UInt8) : (BJ 10 (Ba (AZ H) ++ r)).head? = some (DX ++ BO (H.length : Int)) := by
 have ll := Iw H
 have e : ∃ t, Ba (AZ H) ++ r = (DX ++ BO (H.length : Int)) ++ 10 :: t := by
  rw [Ig, ll]
  cases hL : AZ H with
  | nil => exact ⟨_, by simp [C9, List.append_assoc]; rfl⟩
  | cons y l => exact ⟨_, by simp [C9, List.append_assoc]; rfl⟩
 obtain ⟨t, e⟩ := e
 rw [e, LX 10 t _ (Qp Qo (Qi (by omega)))]; rfl
theorem W9 {H H' : Hist} (h : HOk H) (hl : H.length ≤ 200) {k : Nat} (hk : k < (Ba (AZ H)).length) : N9 ((Ba (AZ H)).take k) ≠ .ok H' := by
 intro hr
 obtain ⟨h', l', e⟩ := TM hr
 have tk := List.take_append_drop k (Ba (AZ H))
 have hd := TP l' ((Ba (AZ H)).drop k)
 have hd0 := TP hl []
 rw [e, tk] at hd
 rw [List.append_nil, hd] at hd0
 have hh := List.append_cancel_left (Option.some.inj hd0)
 have nn := oL (by omega) (by omega) hh
 have cc := Qu h hl
 have cc' := Qu h' l'
 rw [e] at cc'
 rw [← tk, List.count_append, cc'] at cc
 have dz : ((Ba (AZ H)).drop k).count 10 = 0 := by omega
 have nm := List.count_eq_zero.1 dz
 apply nm
 have fe : ∃ t, Ba (AZ H) = t ++ [10] := ⟨_, rfl⟩
 obtain ⟨t, ft⟩ := fe
 rw [ft] at hk ⊢
 rw [List.length_append] at hk
 have e1 : [(10 : UInt8)].length = 1 := rfl
 rw [List.drop_append_of_le_length (by omega)]
 exact List.mem_append_right _ (by simp)
end Go.Im
set_option maxRecDepth 100000
set_option maxHeartbeats 4000000
namespace Go.Im
theorem k46_L1 (self : Self) (N : Nat) (x : List UInt8) (hx : x.length < 1000000) (s : AA) : ∀ (d i f : Nat) (z : Int), i + d = x.length → d < f → 0 ≤ z ∧ z < 9973 → UG B46 self N f (.string (ofL x)) (.int .i64 z) (.int .i64 (x.length : Int)) (.int .i64 (i : Int)) s = .ok (.int .i64 (DW (x.drop i) z), s) := by
 intro d
 induction d with
 | zero =>
  intro i f z hi hf hz
  obtain ⟨f, rfl, _⟩ := Ac hf
  obtain rfl : i = x.length := by omega
  have : ¬ (x.length : Int) < (x.length : Int) := by omega
  rw [SI B46 rfl, List.drop_length]
  simp only [BP, decide_eq_false this, Dq, DW]
 | succ d ih =>
  intro i f z hi hf hz
  obtain ⟨f, rfl, _⟩ := Ac hf
  obtain ⟨y, hy⟩ := Bv (show i < x.length by omega)
  have hlt : (i : Int) < (x.length : Int) := by omega
  have hw : Az .i64 ((i : Int) + 1) = ((i + 1 : Nat) : Int) := by rw [wrap64 (by omega)]; omega
  have yb : y.toNat < 256 := y.toBitVec.isLt
  have w1 : Az .i64 (z * 31) = 31 * z := by rw [wrap64 (by omega)]; omega
  have w2 : Az .i64 (y.toNat : Int) = (y.toNat : Int) := wrap64 (by omega)
  have w3 : Az .i64 (31 * z + (y.toNat : Int)) = 31 * z + (y.toNat : Int) := wrap64 (by omega)
  have m2 : 0 ≤ (31 * z + (y.toNat : Int)) % 9973 ∧ (31 * z + (y.toNat : Int)) % 9973 < 9973 := ⟨Int.emod_nonneg _ (by decide), Int.emod_lt_of_pos _ (by decide)⟩
  have e := ih (i + 1) f ((31 * z + (y.toNat : Int)) % 9973) (by omega) (by omega) m2
  have q := iZ .i64 (31 * z + (y.toNat : Int)) 9973 (by decide)
  rw [Int.tdiv_eq_ediv_of_nonneg (by omega)] at q
  have w4 : Az .i64 ((31 * z + (y.toNat : Int)) / 9973) = (31 * z + (y.toNat : Int)) / 9973 := wrap64 (by omega)
  rw [w4] at q
  have w5 : Az .i64 ((31 * z + (y.toNat : Int)) / 9973 * 9973) = (31 * z + (y.toNat : Int)) / 9973 * 9973 := wrap64 (by omega)
  have w6 : Az .i64 (31 * z + (y.toNat : Int) - (31 * z + (y.toNat : Int)) / 9973 * 9973) = (31 * z + (y.toNat : Int)) % 9973 := by rw [wrap64 (by omega)]; omega
  have p := KG (ofL x) .i64 i
  rw [Bj, hy] at p
  have p : JQ (.string (ofL x)) (.int .i64 (i : Int)) = some (.int .u8 (y.toNat : Int)) := p
  rw [SI B46 rfl, drop_at hy]
  simp only [BP, decide_eq_true hlt, DV, Zg B46 rfl, p, AY, Aq, bind_ok, Ez, w2, imul, w1, Io, w3, q, iY, w5, Gy, w6, Eb, hw, e, DW]
theorem k46 (n : Nat) (x : List UInt8) (hn : x.length + 3 ≤ n) (hx : x.length < 1000000) (s : AA) : AU AL Aj n (.fn 46) [.string (ofL x)] s = .ok (.int .i64 (DW x 0), s) := by
 obtain ⟨m, rfl, _⟩ := Ac (show 1 ≤ n by omega)
 have e := k46_L1 (AU AL Aj m) m x hx s x.length 0 m 0 (by omega) (by omega) (by decide)
 rw [List.drop_zero] at e
 rw [Ap 46 c46 rfl, f46_eq]
 exact e
def NC (L : List (List UInt8)) : List UInt8 := L.flatMap fun y => y ++ [10]
theorem TQ : ∀ (p : List UInt8) (l : List (List UInt8)), C9 [10] (p :: l) ++ [10] = p ++ [10] ++ NC l
 | p, [] => by show p ++ [10] = p ++ [10] ++ []; rw [List.append_nil]
 | p, q :: l => by
  have ih := TQ q l
  show p ++ ([10] ++ C9 [10] (q :: l)) ++ [10] = _
  rw [List.append_assoc, List.append_assoc, ih]
  show p ++ ([10] ++ (q ++ [10] ++ NC l)) = p ++ [10] ++ (q ++ [10] ++ NC l)
  rw [List.append_assoc p]
theorem au (L : List (List UInt8)) : BN L = DX ++ BO (L.length : Int) ++ [10] ++ NC L := TQ _ _
theorem Xu (m N : Nat) {t0 : AA} {D : List (List UInt8)} {v7 v35 : Value} {i1 i2 : Int} {x9 : ByteArray} (hD : RdS t0 v35 D) (hDl : D.length ≤ 200) (hs : ∀ y ∈ D, y.length ≤ 60) : ∀ (d i f : Nat) (acc : List UInt8), i + d = D.length → d < f → acc.length ≤ 100 + 61 * i →
 Pn B11 (AU AL Aj m) N f (.int .u16 i1) (.int .u8 i2) v7 (.string x9) (.string (ofL acc)) v35 (.int .i64 (D.length : Int)) (.int .i64 (i : Int)) t0 = U8 B11 (AU AL Aj m) N (.int .u16 i1) (.int .u8 i2) v7 (.string x9) (.string (ofL (acc ++ NC (D.drop i)))) t0 := by
 intro d
 induction d with
 | zero =>
  intro i f acc hi hf ha
  obtain ⟨f, rfl, _⟩ := Ac hf
  obtain rfl : i = D.length := by omega
  have : ¬ (D.length : Int) < (D.length : Int) := by omega
  rw [Rt B11 rfl, List.drop_length]
  have e : acc ++ NC [] = acc := List.append_nil _
  rw [e]
  simp only [BP, decide_eq_false this, Dq]
 | succ d ih =>
  intro i f acc hi hf ha
  obtain ⟨f, rfl, _⟩ := Ac hf
  obtain ⟨y, hy⟩ := Bv (show i < D.length by omega)
  have hlt : (i : Int) < (D.length : Int) := by omega
  have hw : Az .i64 ((i : Int) + 1) = ((i + 1 : Nat) : Int) := by rw [wrap64 (by omega)]; omega
  have yl := hs y (List.mem_of_getElem? hy)
  obtain ⟨lb, _, ia, rd⟩ := hD.at_ i y hy
  unfold strOf at rd
  have a1 := Cc y [10] (by show _ + 1 ≤ _; omega)
  have a2 := Cc acc (y ++ [10]) (by rw [List.length_append]; show _ + (_ + 1) ≤ _; omega)
  have e := ih (i + 1) f (acc ++ (y ++ [10])) (by omega) (by omega) (by simp only [List.length_append]; show _ + (_ + 1) ≤ _; omega)
  have e2 : acc ++ NC (D.drop i) = acc ++ (y ++ [10]) ++ NC (D.drop (i + 1)) := by
   rw [drop_at hy]
   show acc ++ ((y ++ [10]) ++ NC (D.drop (i + 1))) = _
   rw [← List.append_assoc]
  rw [Rt B11 rfl, e2, ← e]
  simp only [BP, decide_eq_true hlt, DV, ZL B11 rfl, ia, AY, Aq, bind_ok, CO, rd, Kr, a1, a2, Eb, hw]
end Go.Im
set_option maxRecDepth 100000
set_option maxHeartbeats 4000000
namespace Go.Im
theorem xorU8 (a : Nat) (b : Int) : ∃ z : Nat, z < 256 ∧ BG .xor (.int .u8 (a : Int)) (.int .u8 b) = some (.int .u8 (z : Int)) := by
 have h : BG .xor (.int .u8 (a : Int)) (.int .u8 b) = some (.int .u8 (IntKind.u8.wrap (BitVec.ofInt IntKind.u8.bits (a : Int) ^^^ BitVec.ofInt IntKind.u8.bits b).toNat)) := by
  show cond (Hg .u8 .u8) _ none = _
  rw [DK]; rfl
 rw [h, wrap_u8]
 refine ⟨((BitVec.ofInt IntKind.u8.bits (a : Int) ^^^ BitVec.ofInt IntKind.u8.bits b).toNat) % 256, Nat.mod_lt _ (by decide), ?_⟩
 congr 2
theorem byte1 (z : Nat) : ob (fill (zeros [.int .u8 0] 1) [(0, 1, (.int .u8 (z : Int)))]) (fun c => some (CX.cells c 5 true, Bo 1 1)) = some (.cells [.int .u8 (z : Int)] 5 true, Bo 1 1) := rfl
theorem oQ (s : AA) (z : Nat) : Nu (s.new (.cells [.int .u8 (z : Int)] 5 true)) (.slice (some ⟨s.nx, 0, none⟩) 1 1) = some (.string (ofL [UInt8.ofNat z])) := by
 show ob ((s.new (.cells [.int .u8 (z : Int)] 5 true)).rd s.nx 0 1) (fun l => ob (bytesOf l) fun bs => some (Value.string (ofL bs))) = _
 rw [ED (c := [.int .u8 (z : Int)]) (by rw [AA.Ak, if_pos rfl]) (Nat.le_refl 1)]
 rfl
theorem Yp (l c b : Nat) : Bo l c b = .slice (some ⟨b, 0, none⟩) l c := (rfl)
theorem Xv (b : Nat) : GY .p false (.pointer (some ⟨b, 0, none⟩)) (.pointer none) = some (.bool false) ∧ GY .p true (.pointer (some ⟨b, 0, none⟩)) (.pointer none) = some (.bool true) ∧ GY .p false (.pointer none) (.pointer none) = some (.bool true) := ⟨rfl, rfl, rfl⟩
theorem CU.at42 {s : AA} {b : Nat} {H : Hist} {F : Nat → Prop} (h : CU s b H F) (n : Nat) (hn : 60001 ≤ n) : Gives (AU AL Aj n (.fn 42) [.pointer (some ⟨b, 0, none⟩)] s) s (strOf (Ba (AZ H))) := by
 obtain ⟨tag, o, cb, pb, lb, eb, E, lv, ev, hB⟩ := h
 exact k42 n hn hB
theorem Xw (m : Nat) (hm : 60010 ≤ m) {s : AA} (hk : KOk s) {x : List UInt8} (hx : x.length ≤ 16000) {k : Nat} (hkx : k < x.length) (i2 : Int) :
 ∃ s', Wy B11 (AU AL Aj m) m (.int .u8 i2) (.string (ofL x)) (.int .i64 (k : Int)) s = .ok (.bool true, s') := by
 obtain ⟨y, hy⟩ := Bv hkx
 have p := KG (ofL x) .i64 k
 rw [Bj, hy] at p
 have p : JQ (.string (ofL x)) (.int .i64 (k : Int)) = some (.int .u8 (y.toNat : Int)) := p
 have w : Az .i64 ((k : Int) + 1) = ((k + 1 : Nat) : Int) := by rw [wrap64 (by omega)]; omega
 have t1 := KH (ofL x) .i64 (show k ≤ (toL (ofL x)).length by rw [Bj]; omega)
 have t2 := I7 (ofL x) .i64 (show k + 1 ≤ (toL (ofL x)).length by rw [Bj]; omega)
 rw [Bj] at t1 t2
 obtain ⟨z, hz, xr⟩ := xorU8 y.toNat (Az .u8 (1 + Int.tmod i2 127))
 obtain ⟨s1, hs1⟩ : ∃ s1, s1 = s.new (.cells [.int .u8 (z : Int)] 5 true) := ⟨_, rfl⟩
 have x1 : Ext s s1 := by rw [hs1]; exact (Ext.refl s).new _
 have b1 : Nat.ble s.nx s1.nx = true := Ae.2 x1.nx
 have bs := oQ s z
 rw [← hs1] at bs
 have tl : (x.take k).length ≤ 16000 := by rw [List.length_take]; omega
 have dl : (x.drop (k + 1)).length ≤ 16000 := by rw [List.length_drop]; omega
 have a1 := Cc (x.take k) [UInt8.ofNat z] (by show _ + 1 ≤ _; omega)
 have a2 := Cc (x.take k ++ [UInt8.ofNat z]) (x.drop (k + 1)) (by rw [List.length_append]; show _ + 1 + _ ≤ _; omega)
 obtain ⟨g, hg⟩ : ∃ g, g = x.take k ++ [UInt8.ofNat z] ++ x.drop (k + 1) := ⟨_, rfl⟩
 rw [← hg] at a2
 have gl : g.length < 1000000 := by rw [hg, List.length_append, List.length_append]; show _ + 1 + _ < _; omega
 have r := k47 m (by omega) g gl (hk.ext x1)
 have zt : (true == false) = false := rfl
 have zf : (false == true) = false := rfl
 rw [ZN B11 rfl]
 cases hr : N9 g with
 | error e =>
  rw [hr] at r
  obtain ⟨e0, s2, d47, x2, k2⟩ := r
  have d13 := k13S m (by omega) s2 k2
  refine ⟨s2, ?_⟩
  simp only [t1, p, xr, byte1, Yp, ← hs1, b1, bs, a1, Eb, w, t2, a2, AY, Aq, bind_ok, DJ, CQ, DV, d47, Bc, List.getElem?_cons_zero, List.getElem?_cons_succ, DF, decide_eq_false e0, Bool.not_false, Cb, beq_self_eq_true, I4, (Xv 0).2.2, I5, zt, ZK, OE, d13]
 | ok H =>
  rw [hr] at r
  obtain ⟨b, s2, F, d47, x2, k2, B2⟩ := r
  obtain ⟨_, _, ft⟩ := TM hr
  obtain ⟨s3, d42, x3⟩ := B2.at42 m (by omega)
  rw [ft] at d42
  unfold strOf at d42
  have d13 := k13S m (by omega) s3 (k2.ext x3)
  have q : BG .eql (.string (ofL g)) (.string (ofL g)) = some (.bool true) := by rw [EO]; simp
  refine ⟨s3, ?_⟩
  simp only [t1, p, xr, byte1, Yp, ← hs1, b1, bs, a1, Eb, w, t2, a2, AY, Aq, bind_ok, DJ, CQ, DV, d47, Bc, List.getElem?_cons_zero, List.getElem?_cons_succ, DF, Jp, decide_true, Bool.not_true, Cb, zf, OE, Ea, beq_self_eq_true, I4, (Xv b).2.1, I5, d42, q, d13]
end Go.Im
set_option maxRecDepth 100000
set_option maxHeartbeats 4000000
namespace Go.Im
theorem Xx (m : Nat) (hm : 60010 ≤ m) {s : AA} (hk : KOk s) {H : Hist} (h : HOk H) (hl : H.length ≤ 200) {a : Nat} (ha : a < 65536) (i2 : Int) :
 ∃ s', Wx B11 (AU AL Aj m) m (.int .u16 (a : Int)) (.int .u8 i2) (.string (ofL (Ba (AZ H)))) s = .ok (.bool true, s') := by
 have sz := JO h hl
 obtain ⟨x, hx⟩ : ∃ x, x = Ba (AZ H) := ⟨_, rfl⟩
 obtain ⟨k, hk'⟩ : ∃ k, k = a % (x.length + 1) := ⟨_, rfl⟩
 have kl : k < x.length + 1 := by rw [hk']; exact Nat.mod_lt _ (by omega)
 rw [← hx] at sz ⊢
 have w1 : Az .i64 (a : Int) = (a : Int) := wrap64 (by omega)
 have w2 : Az .i64 (Int.add (x.length : Int) 1) = ((x.length + 1 : Nat) : Int) := by
  show Az .i64 ((x.length : Int) + 1) = _
  rw [wrap64 (by omega)]; omega
 have rm : BG .rem (.int .i64 (a : Int)) (.int .i64 ((x.length + 1 : Nat) : Int)) = some (.int .i64 (k : Int)) := by rw [hk']; exact Xj a (x.length + 1) (by omega)
 have t1 := KH (ofL x) .i64 (show k ≤ (toL (ofL x)).length by rw [Bj]; omega)
 rw [Bj] at t1
 have tl : (x.take k).length ≤ 16000 := by rw [List.length_take]; omega
 have r := k47 m (by omega) (x.take k) (by omega) hk
 have lx : Hl (.string (ofL x)) = some (.int .i64 (x.length : Int)) := rfl
 have o1 : Int.ofNat (toL (ofL x)).length = (x.length : Int) := rfl
 have zf : (false == true) = false := rfl
 by_cases c : k < x.length
 · cases hr : N9 (x.take k) with
   | ok H' => rw [hx] at hr c; exact (W9 h hl c hr).elim
   | error e =>
    rw [hr] at r
    obtain ⟨e0, s1, d47, x1, k1⟩ := r
    obtain ⟨s', d⟩ := Xw m hm k1 sz c i2
    refine ⟨s', ?_⟩
    have ne : ¬ (k : Int) = (x.length : Int) := by omega
    rw [Ru B11 rfl]
    simp only [w1, w2, rm, AY, Aq, bind_ok, t1, d47, Bc, List.getElem?_cons_zero, List.getElem?_cons_succ, Jp, decide_eq_false e0, Cb, zf, OE, Ea, Af, Dq, Rw B11 rfl, o1, KF, decide_eq_false ne]
    exact d
 · have ke : k = x.length := by omega
   have tk : x.take k = x := by rw [ke]; exact List.take_length
   rw [tk] at r t1
   rw [hx, TN h hl, ← hx] at r
   obtain ⟨b, s1, F, d47, x1, k1, _⟩ := r
   have d13 := k13S m (by omega) s1 k1
   refine ⟨s1, ?_⟩
   have ne : (k : Int) = (x.length : Int) := by omega
   have nl : ¬ (k : Int) < (x.length : Int) := by omega
   rw [Ru B11 rfl]
   simp only [w1, w2, rm, AY, Aq, bind_ok, t1, d47, Bc, List.getElem?_cons_zero, List.getElem?_cons_succ, Jp, decide_true, Cb, beq_self_eq_true, I4, lx, Dk, decide_eq_false nl, I5, Af, Dq, Rw B11 rfl, o1, KF, decide_eq_true ne, DV, d13]
theorem Xy (m : Nat) (hm : 60010 ≤ m) {s : AA} (hk : KOk s) {H : Hist} {b : Nat} {F : Nat → Prop} (B : CU s b H F) {a : Nat} (ha : a < 65536) (i2 : Int) :
 ∃ s', U8 B11 (AU AL Aj m) m (.int .u16 (a : Int)) (.int .u8 i2) (.pointer (some ⟨b, 0, none⟩)) (.string (ofL (Ba (AZ H)))) (.string (ofL (BN (AZ H)))) s = .ok (.bool true, s') := by
 have h := B.ok
 have hl := B.len
 have sz := JO h hl
 have bl : (BN (AZ H)).length ≤ 16000 := by
  have : Ba (AZ H) = BN (AZ H) ++ (Gl ++ (BO (DW (BN (AZ H)) 0) ++ [10])) := by unfold Ba; simp [List.append_assoc]
  rw [this, List.length_append] at sz; omega
 have d46 := k46 m (BN (AZ H)) (by omega) (by omega) s
 have ck := Jw (BN (AZ H)) 0 (by decide)
 have d45 := k45 m (by omega) (DW (BN (AZ H)) 0) (by omega) s
 have il := DZ (DW (BN (AZ H)) 0)
 have ls : (Value.string ⟨#[115, 117, 109, 32]⟩) = .string (ofL Gl) := rfl
 have a1 := Cc Gl (BO (DW (BN (AZ H)) 0)) (by show 4 + _ ≤ _; omega)
 have a2 := Cc (Gl ++ BO (DW (BN (AZ H)) 0)) [10] (by rw [List.length_append]; show 4 + _ + 1 ≤ _; omega)
 have a3 := Cc (BN (AZ H)) (Gl ++ BO (DW (BN (AZ H)) 0) ++ [10]) (by simp only [List.length_append]; show _ + (4 + _ + 1) ≤ _; omega)
 have ef : BN (AZ H) ++ (Gl ++ BO (DW (BN (AZ H)) 0) ++ [10]) = Ba (AZ H) := by unfold Ba; simp [List.append_assoc]
 rw [ef] at a3
 have r := k47 m (by omega) (Ba (AZ H)) (by omega) hk
 rw [TN h hl] at r
 obtain ⟨b', s1, F', d47, x1, k1, B'⟩ := r
 obtain ⟨tag, o, cb, pb, lb, eb, E, lv, ev, hB⟩ := B.frame (Fr.of_ext x1 (fun _ => False)) (fun _ _ h => h)
 obtain ⟨tag', o', cb', pb', lb', eb', E', lv', ev', hB'⟩ := B'
 obtain ⟨s2, d44, x2⟩ := k44 m (by omega) k1 hB hB'
 obtain ⟨s', d⟩ := Xx m hm (k1.ext x2) h hl ha i2
 have q : BG .neq (.string (ofL (Ba (AZ H)))) (.string (ofL (Ba (AZ H)))) = some (.bool false) := by rw [Jq]; simp
 refine ⟨s', ?_⟩
 rw [ZM B11 rfl]
 simp only [d46, bind_ok, d45, ls, a1, AY, Aq, Kr, a2, a3, d47, Bc, List.getElem?_cons_zero, List.getElem?_cons_succ, q, Cb, beq_self_eq_true, I4, DF, decide_true, Bool.not_true, Ea, (Xv b').1, d44, Dx, Af, Dq]
 exact d
end Go.Im
set_option maxRecDepth 100000
set_option maxHeartbeats 4000000
namespace Go.Im
theorem oU (n : Nat) (hn : 60100 ≤ n) {s0 : AA} (hk : KOk s0) {v0 : Value} {L : List Ja} (hQ : RdQ s0 v0 L) {a : Nat} (ha : a < 65536) (i2 : Int) :
 ∃ s', AU AL Aj n (.fn 11) [v0, .int .u16 (a : Int), .int .u8 i2] s0 = .ok (.bool true, s') := by
 obtain ⟨m, rfl, _⟩ := Ac (show 1 ≤ n by omega)
 obtain ⟨va, s1, ba, d32, x1, La, fa⟩ := k32 m (by omega) true hQ
 have len1 := Ql true L
 obtain ⟨vd, s2, F, d31, O, _⟩ := k31 m (hk.ext x1) La.rdS (by omega) (by omega)
 obtain ⟨H, hH⟩ : ∃ H, H = Yn [] (G5 true L) := ⟨_, rfl⟩
 rw [← hH] at O
 have ok := O.hb.ok
 have hl := O.hb.len
 have ll := Iw H
 obtain ⟨s3, d42, x3⟩ := O.hb.at42 m (by omega)
 unfold strOf at d42
 have B3 := O.hb.frame (Fr.of_ext x3 (fun _ => False)) (fun _ _ h => h)
 have B3' := B3
 obtain ⟨tag, o, cb, pb, lb, eb, E, lv, ev, hB3⟩ := B3'
 obtain ⟨v4, s4, d41, x4, r4⟩ := k41 m (by omega) hB3
 obtain ⟨v5, s5, d41', x5, r5⟩ := k41 m (by omega) (hB3.ext x4)
 have B5 := B3.frame (Fr.of_ext (x4.trans x5) (fun _ => False)) (fun _ _ h => h)
 have k5 := ((O.k.ext x3).ext x4).ext x5
 have d45 := k45 m (by omega) ((AZ H).length : Int) (by omega) s4
 have il := DZ ((AZ H).length : Int)
 have lc : (Value.string ⟨#[99, 111, 109, 112, 97, 115, 115, 101, 115, 32]⟩) = .string (ofL DX) := rfl
 have a1 := Cc DX (BO ((AZ H).length : Int)) (by show 10 + _ ≤ _; omega)
 have a2 := Cc (DX ++ BO ((AZ H).length : Int)) [10] (by rw [List.length_append]; show 10 + _ + 1 ≤ _; omega)
 have e := Xu m m (v7 := .pointer (some ⟨s1.nx + 1, 0, none⟩)) (i1 := (a : Int)) (i2 := i2) (x9 := ofL (Ba (AZ H))) r5 (by omega) (Jy ok) (AZ H).length 0 m (DX ++ BO ((AZ H).length : Int) ++ [10]) (by omega) (by omega) (by simp only [List.length_append]; show 10 + _ + 1 ≤ _; omega)
 rw [List.drop_zero, ← au] at e
 obtain ⟨s', d⟩ := Xy m (by omega) k5 B5 ha i2
 have e : Pn B11 (AU AL Aj m) m m (.int .u16 (a : Int)) (.int .u8 i2) (.pointer (some ⟨s1.nx + 1, 0, none⟩)) (.string (ofL (Ba (AZ H)))) (.string (ofL (DX ++ BO ((AZ H).length : Int) ++ [10]))) v5 (.int .i64 ((AZ H).length : Int)) (.int .i64 0) s5 = .ok (.bool true, s') := e.trans d
 refine ⟨s', ?_⟩
 rw [Ap 11 c11 rfl, f11_eq]
 simp only [d32, d31, bind_ok, Bc, List.getElem?_cons_zero, List.getElem?_cons_succ, AY, Aq, d42, d41, r4.len, d45, lc, a1, Kr, a2, d41', r5.len, e]
end Go.Im
