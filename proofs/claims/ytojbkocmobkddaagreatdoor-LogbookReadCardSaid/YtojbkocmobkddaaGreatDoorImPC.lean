/- Contracts on the ideal machine (1): what is read of lines: functions that turn nothing. -/
import Derived.Test.YtojbkocmobkddaaGreatDoorImEL
import Derived.Test.YtojbkocmobkddaaGreatDoorImEQ0
import Derived.Test.YtojbkocmobkddaaGreatDoorImEQ1
import Derived.Test.YtojbkocmobkddaaGreatDoorImEQ2
import Derived.Test.YtojbkocmobkddaaGreatDoorImEQ3
import Derived.Test.YtojbkocmobkddaaGreatDoorImKT1
import Derived.Lib.TrimUEq
set_option linter.all false
set_option maxRecDepth 100000
namespace Go.Im
structure Ext (s s' : AA) : Prop where
 nx : s.nx ≤ s'.nx
 get : ∀ b, b < s.nx → s'.get b = s.get b
theorem Ext.refl (s : AA) : Ext s s := ⟨Nat.le_refl _, fun _ _ => rfl⟩
theorem Ext.trans {a b c : AA} (h : Ext a b) (k : Ext b c) : Ext a c := ⟨Nat.le_trans h.nx k.nx, fun i hi => (k.get i (Nat.lt_of_lt_of_le hi h.nx)).trans (h.get i hi)⟩
theorem Ext.new {a b : AA} (h : Ext a b) (o : CX) : Ext a (b.new o) := ⟨by have := h.nx; simp; omega, fun i hi => by
 rw [AA.Ak, if_neg (by have := h.nx; omega)]; exact h.get i hi⟩
theorem Ext.put {a b : AA} (h : Ext a b) {r : Nat} (hr : a.nx ≤ r) (o : CX) : Ext a (b.put r o) := ⟨h.nx, fun i hi => by
 rw [AA.get_put, if_neg (by omega)]; exact h.get i hi⟩
def Gives (x : R (Value × AA)) (s : AA) (v : Value) : Prop := ∃ s', x = .ok (v, s') ∧ Ext s s'
theorem Gives.mk {x : R (Value × AA)} {s s' : AA} {v : Value} (h : x = .ok (v, s')) (e : Ext s s') : Gives x s v := ⟨s', h, e⟩
theorem Ap (f : Nat) (F : BL) (h : Aj f = some (.code F)) {n : Nat} {args : List Value} {s : AA} : AU AL Aj (n + 1) (.fn f) args s = EL AL (AU AL Aj n) n F args s := Wu h
theorem Ac {d n : Nat} (h : d + 1 ≤ n) : ∃ m, n = m + 1 ∧ d ≤ m := ⟨n - 1, by omega, by omega⟩
theorem Oe {s : ByteArray} {i : Nat} {b : UInt8} (h : (toL s)[i]? = some b) (hb : b.toNat < 128) : JY s i = (b.toNat, 1) := by
 unfold JY
 rw [Eu, h]
 have : Nat.blt b.toNat 128 = true := Bq.2 hb
 show cond (Nat.blt b.toNat 128) _ _ = _
 rw [this]; rfl
theorem aA (s : ByteArray) (i : Nat) (h : 128 ≤ (s.get! i).toNat) : 128 ≤ (Utf8.decode s i).1 ∧ 1 ≤ (Utf8.decode s i).2 := by
 have e : (s.get! (i + 0)).toNat = (s.get! i).toNat := rfl
 unfold Utf8.decode
 simp only [e]
 rw [if_neg (by omega)]
 split
 · split
   · exact ⟨by simpa using ‹_ ≥ 0x80›, by simp⟩
   · exact ⟨by decide, by decide⟩
 · split
   · split
     · next h1 =>
       have h1 := (Bool.and_eq_true _ _ ▸ h1 : _ ∧ _).1
       refine ⟨?_, by simp⟩
       have := of_decide_eq_true h1
       simp only; omega
     · exact ⟨by decide, by decide⟩
   · split
     · split
       · next h1 =>
         have h1 := (Bool.and_eq_true _ _ ▸ h1 : _ ∧ _).1
         refine ⟨?_, by simp⟩
         have := of_decide_eq_true h1
         simp only; omega
       · exact ⟨by decide, by decide⟩
     · exact ⟨by decide, by decide⟩
theorem nP {s : ByteArray} {i : Nat} {b : UInt8} (h : (toL s)[i]? = some b) : s.get! i = b := by
 have hi := (List.getElem?_eq_some_iff.1 h)
 obtain ⟨hl, he⟩ := hi
 have hsz : i < s.data.size := by simpa [toL] using hl
 show s.data[i]! = b
 rw [getElem!_pos s.data i hsz]
 rw [← he]; simp [toL]
theorem Yc {s : ByteArray} {i : Nat} {b : UInt8} (h : (toL s)[i]? = some b) (hb : 128 ≤ b.toNat) : 128 ≤ (JY s i).1 ∧ 1 ≤ (JY s i).2 := by
 rw [YP s i (List.getElem?_eq_some_iff.1 h).1]
 exact aA s i (by rw [nP h]; exact hb)
@[simp] theorem UU (s : AA) (b : Nat) : Uw s (.pointer (some ⟨b, 0, none⟩)) = Uu s b (s.get b) := (rfl)
theorem MO {s : AA} {b : Nat} {t : ByteArray} {p : Nat} (h : s.get b = some (.iter t p)) (hp : p < (toL t).length) :
 Uu s b (s.get b) = some (.tuple ⟨[.bool true, .int .i64 (p : Int), .int .i32 ((JY t p).1 : Int)]⟩, s.put b (.iter t (p + (JY t p).2))) := by
 rw [h]
 show cond (Nat.blt p (toL t).length) _ _ = _
 rw [Bq.2 hp]; rfl
theorem Js {s : AA} {b : Nat} {t : ByteArray} {p : Nat} (h : s.get b = some (.iter t p)) (hp : ¬ p < (toL t).length) : Uu s b (s.get b) = some (.tuple ⟨[.bool false]⟩, s) := by
 rw [h]
 show cond (Nat.blt p (toL t).length) _ _ = _
 have : Nat.blt p (toL t).length = false := by
  cases hb : Nat.blt p (toL t).length with
  | false => rfl
  | true => exact absurd (Bq.1 hb) hp
 rw [this]; rfl
@[simp] theorem aRng_s (x : ByteArray) : Us (.string x) = some (.iter x 0, ptrTo) := (rfl)
@[simp] theorem Iq (b : Nat) : ptrTo b = .pointer (some ⟨b, 0, none⟩) := (rfl)
def Ef (x y : List UInt8) : Bool := decide (y.length ≤ x.length ∧ x.take y.length = y)
theorem k133 (x y : ByteArray) (n : Nat) (hn : 1 ≤ n) (s : AA) : AU AL Aj n (.fn 133) [.string x, .string y] s = .ok (.bool (Ef (toL x) (toL y)), s) := by
 obtain ⟨m, rfl, _⟩ := Ac hn
 rw [Ap 133 c133 rfl, mQ]
 unfold Ef
 by_cases h : (toL y).length ≤ (toL x).length
 · have h1 : ¬ (toL x).length < (toL y).length := by omega
   simp [h, h1, KH]
 · have h1 : (toL x).length < (toL y).length := by omega
   simp [h, h1]
def I8 (x y : List UInt8) : List UInt8 := if Ef x y then x.drop y.length else x
theorem k134 (x y : ByteArray) (n : Nat) (hn : 2 ≤ n) (s : AA) : AU AL Aj n (.fn 134) [.string x, .string y] s = .ok (.string (ofL (I8 (toL x) (toL y))), s) := by
 obtain ⟨m, rfl, hm⟩ := Ac hn
 rw [Ap 134 c134 rfl, mV, k133 x y m hm]
 unfold I8
 cases h : Ef (toL x) (toL y) with
 | false => simp
 | true =>
  have h1 : (toL y).length ≤ (toL x).length := by
   unfold Ef at h; exact (of_decide_eq_true h).1
  simp [I7, h1]
theorem k107 (x y : ByteArray) (n : Nat) (hn : 3 ≤ n) (s : AA) : AU AL Aj n (.fn 107) [.string x, .string y] s = .ok (.string (ofL (I8 (toL x) (toL y))), s) := by
 obtain ⟨m, rfl, hm⟩ := Ac hn
 rw [Ap 107 c107 rfl, lV, k134 x y m hm]
 simp
def Yd (b : UInt8) : Bool := decide (48 ≤ b.toNat ∧ b.toNat ≤ 57)
theorem k109 (c : Int) (n : Nat) (hn : 1 ≤ n) (s : AA) : AU AL Aj n (.fn 109) [.int .i32 c] s = .ok (.bool (decide (c < 48 ∨ 57 < c)), s) := by
 obtain ⟨m, rfl, _⟩ := Ac hn
 rw [Ap 109 c109 rfl, lX]
 by_cases h : c < 48 <;> simp [h]
theorem aB (x : ByteArray) (n : Nat) (hn : 1 ≤ n) : ∀ (k p f : Nat) (s : AA) (b : Nat), (toL x).length - p ≤ k → k < f → s.get b = some (.iter x p) → p ≤ (toL x).length →
 ∃ s' v, Oc WI (AU AL Aj n) n f (.func (.func 109) #[] #[]) (.bool true) (.pointer (some ⟨b, 0, none⟩)) s = .ok (.int .i64 v, s') ∧ (∀ i, i ≠ b → s'.get i = s.get i) ∧ s'.nx = s.nx ∧
  (decide (0 ≤ v) = !((toL x).drop p).all Yd) := by
 intro k
 induction k with
 | zero =>
  intro p f s b hk hf hs hp
  obtain ⟨f, rfl, _⟩ := Ac hf
  refine ⟨s, -1, ?_, fun _ _ => rfl, rfl, ?_⟩
  · rw [QE WI rfl]
    simp [Js hs (by omega)]
  · rw [List.drop_eq_nil_of_le (by omega)]; simp
 | succ k ih =>
  intro p f s b hk hf hs hp
  obtain ⟨f, rfl, _⟩ := Ac hf
  rw [QE WI rfl]
  by_cases hlt : p < (toL x).length
  · obtain ⟨c, hc⟩ : ∃ c, (toL x)[p]? = some c := ⟨_, List.getElem?_eq_getElem hlt⟩
    have hdrop : (toL x).drop p = c :: (toL x).drop (p + 1) := by
     rw [List.drop_eq_getElem_cons hlt]
     congr 1
     rw [List.getElem?_eq_getElem hlt] at hc
     exact Option.some.inj hc
    by_cases hd : Yd c = true
    · have hd' : 48 ≤ c.toNat ∧ c.toNat ≤ 57 := of_decide_eq_true hd
      have hdec := Oe hc (by omega)
      obtain ⟨s', v, h1, h2, h3, h4⟩ := ih (p + 1) f (s.put b (.iter x (p + 1))) b (by omega) (by omega) (by rw [AA.get_put, if_pos rfl]) (by omega)
      refine ⟨s', v, ?_, fun i hi => ?_, h3, ?_⟩
      · have hr : ¬ ((c.toNat : Int) < 48 ∨ 57 < (c.toNat : Int)) := by omega
        simp only [UU, MO hs hlt, BF, bind_ok, Bc]
        simp [QF WI rfl, k109 _ n hn, hdec, hr, h1]
      · rw [h2 i hi, AA.get_put, if_neg hi]
      · rw [h4, hdrop]; simp [hd]
    · have hnd : ¬ (48 ≤ c.toNat ∧ c.toNat ≤ 57) := fun e => hd (decide_eq_true e)
      have hr : ((JY x p).1 : Int) < 48 ∨ 57 < ((JY x p).1 : Int) := by
       by_cases h8 : c.toNat < 128
       · rw [Oe hc h8]; simp only; omega
       · have := (Yc hc (by omega)).1; omega
      refine ⟨s.put b (.iter x (p + (JY x p).2)), p, ?_, fun i hi => by rw [AA.get_put, if_neg hi], rfl, ?_⟩
      · simp only [UU, MO hs hlt, BF, bind_ok, Bc]
        simp [QF WI rfl, k109 _ n hn, hr]
      · rw [hdrop]; simp [hd]
  · refine ⟨s, -1, ?_, fun _ _ => rfl, rfl, ?_⟩
    · simp [Js hs hlt]
    · rw [List.drop_eq_nil_of_le (by omega)]; simp
theorem k108 (x : ByteArray) (n : Nat) (hn : (toL x).length + 5 ≤ n) (s : AA) : Gives (AU AL Aj n (.fn 108) [.string x, .func (.func 109) #[] #[]] s) s (.bool (!(toL x).all Yd)) := by
 obtain ⟨n, rfl⟩ : ∃ m, n = m + 3 := ⟨n - 3, by omega⟩
 obtain ⟨s', v, h1, h2, h3, h4⟩ := aB x n (by omega) (toL x).length 0 n (s.new (.iter x 0)) s.nx (by omega) (by omega) (by rw [AA.Ak, if_pos rfl]) (by omega)
 refine ⟨s', ?_, ?_, ?_⟩
 · rw [Ap 108 c108 rfl, lW, Ap 135 c135 rfl, mW, Ap 153 OW rfl, mY]
   simp only [List.drop_zero] at h4
   simp [h1, h4]
 · rw [h3]; simp
 · intro i hi
   rw [h2 i (by omega), AA.Ak, if_neg (by omega)]
def decimal (x : List UInt8) : Bool :=
 decide (x = [48]) || (match I8 x [45] with | [] => false | d :: t => decide (d ≠ 48) && (d :: t).all Yd)
theorem QI (x y : List UInt8) : (I8 x y).length ≤ x.length := by
 unfold I8; split
 · simp
 · exact Nat.le_refl _
theorem k78 (x : ByteArray) (n : Nat) (hn : (toL x).length + 6 ≤ n) (s : AA) : Gives (AU AL Aj n (.fn 78) [.string x] s) s (.bool (decimal (toL x))) := by
 obtain ⟨n, rfl⟩ : ∃ m, n = m + 1 := ⟨n - 1, by omega⟩
 have hl := QI (toL x) [45]
 obtain ⟨s', h1, h2⟩ := k108 (ofL (I8 (toL x) [45])) n (by simp; omega) s
 refine ⟨s', ?_, h2⟩
 rw [Ap 78 c78 rfl, f78_eq, k107 x _ n (by omega)]
 simp only [toL_mk, Bj] at h1 ⊢
 simp only [bind_ok, h1]
 unfold decimal
 by_cases h0 : toL x = [48]
 · simp [h0]
 · cases ht : I8 (toL x) [45] with
   | nil => simp [h0]
   | cons d t =>
    have hc : ((d.toNat : Int) = 48) ↔ d = 48 := by
     constructor
     · intro h; exact UInt8.toNat_inj.1 (by show d.toNat = 48; omega)
     · intro h; subst h; rfl
    by_cases hd : d = 48
    · simp [h0, hd]
    · have : ¬ (d.toNat : Int) = 48 := fun e => hd (hc.1 e)
      simp [h0, hd, this]
end Go.Im
set_option maxRecDepth 100000
namespace Go.Im
theorem Gp (f : Nat) (p : Prim) (h : Aj f = some (.Jc p)) {n : Nat} {args : List Value} {s : AA} : AU AL Aj (n + 1) (.fn f) args s = BI (f + 20000) (Ii p args s) := Wv h
theorem k84 (x : ByteArray) (hx : (toL x).length ≤ 281474976710656) (n : Nat) (hn : 1 ≤ n) (s : AA) :
 (∃ z, Ec (toL x) = (z, false) ∧ AU AL Aj n (.fn 84) [.string x] s = .ok (.tuple ⟨[.int .i64 z, .nilIface]⟩, s)) ∨
 (∃ z, Ec (toL x) = (z, true) ∧ AU AL Aj n (.fn 84) [.string x] s = .ok (.tuple ⟨[.int .i64 z, .iface 209 (.pointer (some ⟨s.nx, 0, none⟩))]⟩, s.new .dead)) := by
 obtain ⟨m, rfl, _⟩ := Ac hn
 rw [Gp 84 (.atoi 209) rfl]
 have hb : Nat.ble (toL x).length 281474976710656 = true := Ae.2 hx
 cases h : Ec (toL x) with
 | mk z b =>
  cases b with
  | false =>
   refine .inl ⟨z, rfl, ?_⟩
   unfold Ii
   simp only [hb, h, cond_true]
   rfl
  | true =>
   refine .inr ⟨z, rfl, ?_⟩
   unfold Ii
   simp only [hb, h, cond_true]
   rfl
def CS (x : List UInt8) (lo hi : Int) : Bool := match Ec x with
 | (z, false) => decide (lo ≤ z ∧ z ≤ hi)
 | (_, true) => false
theorem k79 (x : ByteArray) (hx : (toL x).length ≤ 281474976710656) (lo hi : Int) (n : Nat) (hn : 2 ≤ n) (s : AA) : Gives (AU AL Aj n (.fn 79) [.string x, .int .i64 lo, .int .i64 hi] s) s (.bool (CS (toL x) lo hi)) := by
 obtain ⟨m, rfl, hm⟩ := Ac hn
 unfold CS
 rcases k84 x hx m hm s with ⟨z, h1, h2⟩ | ⟨z, h1, h2⟩
 · refine ⟨s, ?_, .refl s⟩
   rw [Ap 79 c79 rfl, ji, h2, h1]
   by_cases hl : lo ≤ z <;> simp [hl]
 · refine ⟨s.new .dead, ?_, (Ext.refl s).new _⟩
   rw [Ap 79 c79 rfl, ji, h2, h1]
   simp
theorem k115 (x : ByteArray) (hx : (toL x).length ≤ 281474976710656) (n : Nat) (hn : 2 ≤ n) (s : AA) : Gives (AU AL Aj n (.fn 115) [.string x] s) s (.int .i64 (Ec (toL x)).1) := by
 obtain ⟨m, rfl, hm⟩ := Ac hn
 rcases k84 x hx m hm s with ⟨z, h1, h2⟩ | ⟨z, h1, h2⟩
 · refine ⟨s, ?_, .refl s⟩
   rw [Ap 115 WH rfl, YU, h2, h1]
   simp
 · refine ⟨s.new .dead, ?_, (Ext.refl s).new _⟩
   rw [Ap 115 WH rfl, YU, h2, h1]
   simp
def isLow (b : UInt8) : Bool := decide (97 ≤ b.toNat ∧ b.toNat ≤ 122)
theorem k111 (c : Int) (n : Nat) (hn : 1 ≤ n) (s : AA) : AU AL Aj n (.fn 111) [.int .u8 c] s = .ok (.bool (decide (c < 97 ∨ 122 < c)), s) := by
 obtain ⟨m, rfl, _⟩ := Ac hn
 rw [Ap 111 c111 rfl, lZ]
 by_cases h : c < 97 <;> simp [h]
@[simp] theorem Og (b o len cap i : Nat) (k : IntKind) (h : i < len) : BR 1 (.slice (some ⟨b, o, none⟩) len cap) (.int k (i : Int)) = some (.pointer (some ⟨b, o + i, none⟩)) := by
 show cond (Nat.blt i len) (some (Value.pointer (some (Fb ⟨b, o, none⟩ (Nat.mul i 1))))) none = _
 rw [Bq.2 h]
 show some (Value.pointer (some ⟨b, o + i * 1, none⟩)) = _
 rw [Nat.mul_one]
theorem Gh (w b o len cap i : Nat) (k : IntKind) (h : i < len) : BR w (.slice (some ⟨b, o, none⟩) len cap) (.int k (i : Int)) = some (.pointer (some ⟨b, o + i * w, none⟩)) := by
 show cond (Nat.blt i len) (some (Value.pointer (some (Fb ⟨b, o, none⟩ (Nat.mul i w))))) none = _
 rw [Bq.2 h]; rfl
theorem UW (l : List UInt8) (i : Nat) : (Di l)[i]? = l[i]?.map fun b => .int .u8 (b.toNat : Int) := by unfold Di; rw [List.getElem?_map]; rfl
theorem aC (l : List UInt8) (hl : l.length < 9223372036854775807) (n : Nat) (hn : 1 ≤ n) (s : AA) (b el cap : Nat) (hs : s.get b = some (.cells (Di l) el true)) : ∀ (k p f : Nat), l.length - p ≤ k → k < f → p ≤ l.length →
 ∃ v : Int, ML V8 (AU AL Aj n) n f (.slice (some ⟨b, 0, none⟩) l.length cap) (.func (.func 111) #[] #[]) (.int .i64 (l.length : Int)) (.int .i64 (p : Int)) s = .ok (.int .i64 v, s) ∧
  (decide (0 ≤ v) = !(l.drop p).all isLow) := by
 intro k
 induction k with
 | zero =>
  intro p f hk hf hp
  obtain ⟨f, rfl, _⟩ := Ac hf
  refine ⟨-1, ?_, ?_⟩
  · rw [QC V8 rfl]
    have : ¬ (p : Int) < (l.length : Int) := by omega
    simp [this]
  · rw [List.drop_eq_nil_of_le (by omega)]; simp
 | succ k ih =>
  intro p f hk hf hp
  obtain ⟨f, rfl, _⟩ := Ac hf
  rw [QC V8 rfl]
  by_cases hlt : p < l.length
  · obtain ⟨c, hc⟩ : ∃ c, l[p]? = some c := ⟨_, List.getElem?_eq_getElem hlt⟩
    have hdrop : l.drop p = c :: l.drop (p + 1) := by
     rw [List.drop_eq_getElem_cons hlt]
     congr 1
     rw [List.getElem?_eq_getElem hlt] at hc
     exact Option.some.inj hc
    have h0 : (p : Int) < (l.length : Int) := by omega
    have hrd : s.rd1 b p = some (.int .u8 (c.toNat : Int)) := by rw [Ai hs, UW, hc]; rfl
    by_cases hd : isLow c = true
    · have hd' : 97 ≤ c.toNat ∧ c.toNat ≤ 122 := of_decide_eq_true hd
      obtain ⟨v, h1, h2⟩ := ih (p + 1) f (by omega) (by omega) (by omega)
      refine ⟨v, ?_, ?_⟩
      · have hr : ¬ ((c.toNat : Int) < 97 ∨ 122 < (c.toNat : Int)) := by omega
        have hw : Az .i64 ((p : Int) + 1) = ((p + 1 : Nat) : Int) := by rw [wrap64 (by omega)]; omega
        simp [h0, QD V8 rfl, Og, hlt, hrd, k111 _ n hn, hr, hw]
        simpa using h1
      · rw [h2, hdrop]; simp [hd]
    · have hnd : ¬ (97 ≤ c.toNat ∧ c.toNat ≤ 122) := fun e => hd (decide_eq_true e)
      have hr : (c.toNat : Int) < 97 ∨ 122 < (c.toNat : Int) := by omega
      refine ⟨p, ?_, ?_⟩
      · simp [h0, QD V8 rfl, Og, hlt, hrd, k111 _ n hn, hr]
      · rw [hdrop]; simp [hd]
  · have h0 : ¬ (p : Int) < (l.length : Int) := by omega
    refine ⟨-1, ?_, ?_⟩
    · simp [h0]
    · rw [List.drop_eq_nil_of_le (by omega)]; simp
def nameB (x : List UInt8) : Bool := decide (0 < x.length ∧ x.length ≤ 6) && x.all isLow
theorem k82 (x : ByteArray) (n : Nat) (hn : 20 ≤ n) (s : AA) : Gives (AU AL Aj n (.fn 82) [.string x] s) s (.bool (nameB (toL x))) := by
 obtain ⟨n, rfl⟩ : ∃ m, n = m + 3 := ⟨n - 3, by omega⟩
 rw [show n + 3 = (n + 2) + 1 from rfl, Ap 82 c82 rfl, f82_eq]
 unfold nameB
 by_cases h0 : 0 < (toL x).length
 · by_cases h6 : (toL x).length ≤ 6
   · have g0 : (0 : Int) < ((toL x).length : Int) := by omega
     have g6 : ((toL x).length : Int) ≤ 6 := by omega
     obtain ⟨v, h1, h2⟩ := aC (toL x) (by omega) n (by omega) (s.new (.cells (Di (toL x)) 5 true)) s.nx 5 UNK (by rw [AA.Ak, if_pos rfl]) (toL x).length 0 n (by omega) (by omega) (by omega)
     refine ⟨s.new (.cells (Di (toL x)) 5 true), ?_, (Ext.refl s).new _⟩
     rw [List.drop_zero] at h2
     have hs : Ur 5 (.string x) = some (.cells (Di (toL x)) 5 true, Bo (toL x).length UNK) := rfl
     have hsl : Bo (toL x).length UNK s.nx = .slice (some ⟨s.nx, 0, none⟩) (toL x).length UNK := rfl
     have h1' : ML V8 (AU AL Aj n) n n (.slice (some ⟨s.nx, 0, none⟩) (toL x).length UNK) (.func (.func 111) #[] #[]) (.int .i64 ((toL x).length : Int)) (.int .i64 0) (s.new (.cells (Di (toL x)) 5 true)) = .ok (.int .i64 v, s.new (.cells (Di (toL x)) 5 true)) := h1
     simp [g0, g6, h0, h6, hs, hsl, Ap 110 c110 rfl, lY, Ap 136 OV rfl, mX, h1', h2]
   · have g0 : (0 : Int) < ((toL x).length : Int) := by omega
     have g6 : ¬ ((toL x).length : Int) ≤ 6 := by omega
     refine ⟨s, ?_, .refl s⟩
     simp [g0, g6, h0, h6]
 · have g0 : ¬ (0 : Int) < ((toL x).length : Int) := by omega
   refine ⟨s, ?_, .refl s⟩
   simp [g0, h0]
end Go.Im
set_option maxRecDepth 100000
namespace Go.Im
structure KOk (s : AA) : Prop where
 k0 : s.get 0 = some (.cells [.slice (some ⟨9, 0, none⟩) 4 4] 22 false)
 k9 : s.get 9 = some (.cells kindsL 9 false)
 nx : 10 ≤ s.nx
theorem KOk.ext {s s' : AA} (h : KOk s) (e : Ext s s') : KOk s' := ⟨(e.get 0 (by have := h.nx; omega)).trans h.k0, (e.get 9 (by have := h.nx; omega)).trans h.k9, Nat.le_trans h.nx e.nx⟩
def Qy : List UInt8 := [98, 111, 119, 108]
def Qz : List UInt8 := [99, 97, 112]
def needle : List UInt8 := [110, 101, 101, 100, 108, 101]
def pivot : List UInt8 := [112, 105, 118, 111, 116]
def Dy (x : List UInt8) : Int := if x = Qy then 0 else if x = Qz then 1 else if x = needle then 2 else if x = pivot then 3 else -1
theorem QJ (x : ByteArray) (n : Nat) (hn : 7 ≤ n) (s : AA) (h : KOk s) : AU AL Aj n (.fn 117) [.slice (some ⟨9, 0, none⟩) 4 4, .string x] s = .ok (.int .i64 (Dy (toL x)), s) := by
 obtain ⟨n, rfl⟩ : ∃ m, n = m + 6 := ⟨n - 6, by omega⟩
 have hr0 : s.rd1 9 0 = some (strOf Qy) := by rw [Ai h.k9]; rfl
 have hr1 : s.rd1 9 1 = some (strOf Qz) := by rw [Ai h.k9]; rfl
 have hr2 : s.rd1 9 2 = some (strOf needle) := by rw [Ai h.k9]; rfl
 have hr3 : s.rd1 9 3 = some (strOf pivot) := by rw [Ai h.k9]; rfl
 have i0 : BR 1 (.slice (some ⟨9, 0, none⟩) 4 4) (.int .i64 0) = some (.pointer (some ⟨9, 0, none⟩)) := rfl
 have i1 : BR 1 (.slice (some ⟨9, 0, none⟩) 4 4) (.int .i64 1) = some (.pointer (some ⟨9, 1, none⟩)) := rfl
 have i2 : BR 1 (.slice (some ⟨9, 0, none⟩) 4 4) (.int .i64 2) = some (.pointer (some ⟨9, 2, none⟩)) := rfl
 have i3 : BR 1 (.slice (some ⟨9, 0, none⟩) 4 4) (.int .i64 3) = some (.pointer (some ⟨9, 3, none⟩)) := rfl
 have w0 : Az .i64 (0 + 1) = 1 := by decide
 have w1 : Az .i64 (1 + 1) = 2 := by decide
 have w2 : Az .i64 (2 + 1) = 3 := by decide
 have w3 : Az .i64 (3 + 1) = 4 := by decide
 rw [show n + 6 = (n + 5) + 1 from rfl, Ap 117 c117 rfl, lq]
 unfold Dy
 simp only [Pm, AY, Aq, bind_ok]
 rw [show n + 5 = (n + 4) + 1 from rfl, Gz Oy rfl]
 simp only [BP, Int.ofNat_eq_natCast]
 simp only [JG Oy rfl, i0, AY, Aq, bind_ok, CO, hr0, strOf, EO, Bj, Af, Eb, w0]
 by_cases e0 : toL x = Qy
 · simp [e0]
 rw [show n + 4 = (n + 3) + 1 from rfl, Gz Oy rfl]
 simp only [JG Oy rfl, i1, AY, Aq, bind_ok, CO, hr1, strOf, EO, Bj, Af, Eb, w1, BP]
 by_cases e1 : toL x = Qz
 · simp [e1, Qy, Qz]
 rw [show n + 3 = (n + 2) + 1 from rfl, Gz Oy rfl]
 simp only [JG Oy rfl, i2, AY, Aq, bind_ok, CO, hr2, strOf, EO, Bj, Af, Eb, w2, BP]
 by_cases e2 : toL x = needle
 · simp [e2, Qy, Qz, needle]
 rw [show n + 2 = (n + 1) + 1 from rfl, Gz Oy rfl]
 simp only [JG Oy rfl, i3, AY, Aq, bind_ok, CO, hr3, strOf, EO, Bj, Af, Eb, w3, BP]
 by_cases e3 : toL x = pivot
 · simp [e3, Qy, Qz, needle, pivot]
 rw [Gz Oy rfl]
 simp [e0, e1, e2, e3]
theorem k90 (x : ByteArray) (n : Nat) (hn : 8 ≤ n) (s : AA) (h : KOk s) : AU AL Aj n (.fn 90) [.slice (some ⟨9, 0, none⟩) 4 4, .string x] s = .ok (.bool (decide (0 ≤ Dy (toL x))), s) := by
 obtain ⟨m, rfl, hm⟩ := Ac hn
 rw [Ap 90 c90 rfl, f90_eq, QJ x m hm s h]
 simp
theorem Ve {s : AA} (h : KOk s) : rLd s (.pointer (some ⟨0, 0, none⟩)) = some (.slice (some ⟨9, 0, none⟩) 4 4) := by rw [CO, Ai h.k0]; rfl
theorem k89 (x : ByteArray) (n : Nat) (hn : 9 ≤ n) (s : AA) (h : KOk s) : AU AL Aj n (.fn 89) [.string x] s = .ok (.bool (decide (0 ≤ Dy (toL x))), s) := by
 obtain ⟨m, rfl, hm⟩ := Ac hn
 rw [Ap 89 c89 rfl, f89_eq]
 simp [Ve h, k90 x m hm s h]
theorem k116 (x : ByteArray) (n : Nat) (hn : 8 ≤ n) (s : AA) (h : KOk s) : AU AL Aj n (.fn 116) [.string x] s = .ok (.int .i64 (Dy (toL x)), s) := by
 obtain ⟨m, rfl, hm⟩ := Ac hn
 rw [Ap 116 c116 rfl, lg]
 simp [Ve h, QJ x m hm s h]
def DI : List UInt8 → Nat → Bool
 | [], last => decide (last ≠ 32)
 | c :: l, last => cond (decide (c.toNat < 32) || decide (126 < c.toNat) || (decide (c.toNat = 32) && decide (last = 32))) false (DI l c.toNat)
theorem k105 (x : ByteArray) (hx : (toL x).length < 4294967281) (c : UInt8) (n : Nat) (hn : 1 ≤ n) (s : AA) : AU AL Aj n (.fn 105) [.string x, .string ⟨#[c]⟩] s =
 .ok (Bo (BJ c (toL x)).length (BJ c (toL x)).length s.nx, s.new (.cells ((BJ c (toL x)).map strOf) 9 true)) := by
 obtain ⟨m, rfl, _⟩ := Ac hn
 rw [Gp 105 (.split 9) rfl]
 have hb : Nat.blt (toL x).length 4294967281 = true := Bq.2 hx
 unfold Ii
 simp only [hb, cond_true]
 rfl
def Ir (x : List UInt8) (good : Bool) (s : AA) (v : Value) (s' : AA) : Prop :=
 match good with
 | true => ∃ b, s.nx ≤ b ∧ b < s'.nx ∧ v = .tuple ⟨[.slice (some ⟨b, 0, none⟩) (BJ 32 x).length (BJ 32 x).length, .bool true]⟩ ∧ s'.get b = some (.cells ((BJ 32 x).map strOf) 9 true)
 | false => ∃ a l c, v = .tuple ⟨[.slice a l c, .bool false]⟩
theorem jw (x : ByteArray) (hx : (toL x).length < 4294967281) (n : Nat) (hn : 1 ≤ n) (nx : Nat) : ∀ (k p last f : Nat) (s : AA) (b : Nat), (toL x).length - p ≤ k → k < f → s.get b = some (.iter x p) → p ≤ (toL x).length → b < s.nx → nx ≤ b → last < 1000000000 →
 ∃ s' v, Q8 B83 (AU AL Aj n) n f (.string x) (.int .i32 (last : Int)) (.pointer (some ⟨b, 0, none⟩)) s = .ok (v, s') ∧ (∀ i, i < nx → s'.get i = s.get i) ∧ s.nx ≤ s'.nx ∧
  Ir (toL x) (DI ((toL x).drop p) last) s v s' := by
 intro k
 have fin : ∀ (last f : Nat) (s : AA) (b : Nat), s.get b = some (.iter x (toL x).length) → b < s.nx → nx ≤ b → last < 1000000000 → ∃ s' v, Q8 B83 (AU AL Aj n) n (f + 1) (.string x) (.int .i32 (last : Int)) (.pointer (some ⟨b, 0, none⟩)) s = .ok (v, s') ∧ (∀ i, i < nx → s'.get i = s.get i) ∧ s.nx ≤ s'.nx ∧
  Ir (toL x) (DI [] last) s v s' := by
  intro last f s b hs hb hnx hla
  have hk := k105 x hx 32 n hn s
  refine ⟨s.new (.cells ((BJ 32 (toL x)).map strOf) 9 true), .tuple ⟨[Bo (BJ 32 (toL x)).length (BJ 32 (toL x)).length s.nx, .bool (!decide (last = 32))]⟩, ?_, fun i hi => by rw [AA.Ak, if_neg (by omega)], by simp, ?_⟩
  · rw [Si B83 rfl]
    simp [Js hs (by omega), Zt B83 rfl, hk]
    omega
  · unfold DI
    by_cases e : last = 32
    · simp only [e, ne_eq, not_true_eq_false, decide_false, decide_true, Bool.not_true]
      exact ⟨_, _, _, rfl⟩
    · simp [e, Ir]
      exact ⟨s.nx, Nat.le_refl _, by omega, rfl, by rw [AA.Ak, if_pos rfl]⟩
 induction k with
 | zero =>
  intro p last f s b hk hf hs hp hb hnx hla
  obtain ⟨f, rfl, _⟩ := Ac hf
  have : p = (toL x).length := by omega
  subst this
  rw [List.drop_length]
  exact fin last f s b hs hb hnx hla
 | succ k ih =>
  intro p last f s b hk hf hs hp hb hnx hla
  obtain ⟨f, rfl, _⟩ := Ac hf
  by_cases hlt : p < (toL x).length
  · obtain ⟨c, hc⟩ : ∃ c, (toL x)[p]? = some c := ⟨_, List.getElem?_eq_getElem hlt⟩
    have hdrop : (toL x).drop p = c :: (toL x).drop (p + 1) := by
     rw [List.drop_eq_getElem_cons hlt]
     congr 1
     rw [List.getElem?_eq_getElem hlt] at hc
     exact Option.some.inj hc
    rw [Si B83 rfl]
    simp only [UU, MO hs hlt, BF, bind_ok, Bc]
    have bad : ∀ r : Nat, (r < 32 ∨ 126 < r ∨ (r = 32 ∧ last = 32)) → (JY x p).1 = r → ∃ s' v, XA B83 (AU AL Aj n) n f (.string x) (.int .i32 (last : Int)) (.pointer (some ⟨b, 0, none⟩)) (.tuple ⟨[.bool true, .int .i64 (p : Int), .int .i32 ((JY x p).1 : Int)]⟩) (s.put b (.iter x (p + (JY x p).2))) = .ok (v, s') ∧ (∀ i, i < nx → s'.get i = s.get i) ∧ s.nx ≤ s'.nx ∧ Ir (toL x) false s v s' := by
     intro r hr he
     refine ⟨s.put b (.iter x (p + (JY x p).2)), _, ?_, fun i hi => by rw [AA.get_put, if_neg (by omega)], Nat.le_refl _, ⟨none, 0, 0, rfl⟩⟩
     rw [Na B83 rfl, he]
     rcases hr with h | h | ⟨h, h2⟩
     · have : (r : Int) < 32 := by omega
       simp [this]
     · have h1 : ¬ (r : Int) < 32 := by omega
       have h2 : (126 : Int) < (r : Int) := by omega
       simp [h1, h2]
     · subst h; subst h2; simp
    by_cases h8 : c.toNat < 128
    · have hdec := Oe hc h8
      by_cases hbad : c.toNat < 32 ∨ 126 < c.toNat ∨ (c.toNat = 32 ∧ last = 32)
      · obtain ⟨s', v, g1, g2, g3, g4⟩ := bad c.toNat hbad (by rw [hdec])
        refine ⟨s', v, by simpa using g1, g2, g3, ?_⟩
        rw [hdrop]
        have : DI (c :: (toL x).drop (p + 1)) last = false := by
         unfold DI
         rcases hbad with h | h | ⟨h, h2⟩
         · simp [h]
         · simp [h]
         · simp [h, h2]
        rw [this]; exact g4
      · obtain ⟨s', v, g1, g2, g3, g4⟩ := ih (p + 1) c.toNat f (s.put b (.iter x (p + 1))) b (by omega) (by omega) (by rw [AA.get_put, if_pos rfl]) (by omega) hb hnx (by omega)
        refine ⟨s', v, ?_, fun i hi => by rw [g2 i hi, AA.get_put, if_neg (by omega)], g3, ?_⟩
        · have h1 : ¬ (c.toNat : Int) < 32 := by omega
          have h2 : ¬ (126 : Int) < (c.toNat : Int) := by omega
          rw [hdec]
          by_cases h3 : c.toNat = 32
          · have h4 : ¬ (last : Int) = 32 := by omega
            have h5 : (c.toNat : Int) = 32 := by omega
            rw [h3] at g1
            simp [Na B83 rfl, h3, h4]
            simpa using g1
          · have h5 : ¬ (c.toNat : Int) = 32 := by omega
            simp [Na B83 rfl, h1, h2, h5, g1]
        · rw [hdrop]
          have : DI (c :: (toL x).drop (p + 1)) last = DI ((toL x).drop (p + 1)) c.toNat := by
           rw [DI]
           have a1 : ¬ c.toNat < 32 := by omega
           have a2 : ¬ 126 < c.toNat := by omega
           have a3 : ¬ (c.toNat = 32 ∧ last = 32) := by omega
           have a4 : (decide (c.toNat < 32) || decide (126 < c.toNat) || (decide (c.toNat = 32) && decide (last = 32))) = false := by
            by_cases e1 : c.toNat = 32
            · have e2 : ¬ last = 32 := fun e => a3 ⟨e1, e⟩
              simp [e1, e2]
            · simp [a1, a2, e1]
           rw [a4]; rfl
          rw [this]; exact g4
    · have hge := (Yc hc (by omega)).1
      obtain ⟨s', v, g1, g2, g3, g4⟩ := bad _ (.inr (.inl (by omega))) rfl
      refine ⟨s', v, by simpa using g1, g2, g3, ?_⟩
      rw [hdrop]
      have : DI (c :: (toL x).drop (p + 1)) last = false := by
       have : 126 < c.toNat := by omega
       unfold DI; simp [this]
      rw [this]; exact g4
  · have : p = (toL x).length := by omega
    subst this
    rw [List.drop_length]
    exact fin last f s b hs hb hnx hla
theorem k83 (x : ByteArray) (hx : (toL x).length < 4294967281) (n : Nat) (hn : (toL x).length + 3 ≤ n) (s : AA) : ∃ s' v, AU AL Aj n (.fn 83) [.string x] s = .ok (v, s') ∧ Ext s s' ∧ Ir (toL x) (DI (toL x) 32) s v s' := by
 obtain ⟨m, rfl, hm⟩ := Ac (d := (toL x).length + 2) hn
 obtain ⟨s', v, h1, h2, h3, h4⟩ := jw x hx m (by omega) s.nx (toL x).length 0 32 m (s.new (.iter x 0)) s.nx (by omega) (by omega) (by rw [AA.Ak, if_pos rfl]) (by omega) (by simp) (Nat.le_refl _) (by decide)
 refine ⟨s', v, ?_, ⟨by have : s.nx + 1 ≤ s'.nx := h3; omega, fun i hi => by rw [h2 i hi, AA.Ak, if_neg (by omega)]⟩, ?_⟩
 · rw [Ap 83 c83 rfl, f83_eq]
   simp
   simpa using h1
 · rw [List.drop_zero] at h4
   cases hw : DI (toL x) 32 with
   | false => rw [hw] at h4; exact h4
   | true =>
    rw [hw] at h4
    obtain ⟨b, g1, g2⟩ := h4
    exact ⟨b, by have : s.nx + 1 ≤ b := g1; omega, g2⟩
end Go.Im
set_option maxRecDepth 100000
namespace Go.Im
theorem Ye {s : AA} {b : Nat} {c : List Value} {el : Nat} (h : s.get b = some (.cells c el true)) {o : Nat} {vs : List Value} (hv : Bh vs = true) (hl : o + vs.length ≤ c.length) :
 s.wr b o vs = some (s.put b (.cells (c.take o ++ (vs ++ c.drop (o + vs.length))) el true)) := by
 unfold AA.wr
 rw [h]
 show cond (Bh vs) (putCells s b el (splice c o vs)) none = _
 rw [hv]
 unfold splice
 have : Nat.ble (Nat.add o vs.length) c.length = true := Ae.2 hl
 rw [this]; rfl
theorem Fj {s : AA} {b : Nat} {c : List Value} {el : Nat} (h : s.get b = some (.cells c el true)) {o n : Nat} {v : Value} (hn : (cellsOf v).length = n) (hv : Bh (cellsOf v) = true) (hl : o + n ≤ c.length) :
 wSt s n v (.pointer (some ⟨b, o, none⟩)) = some (Bl, s.put b (.cells (c.take o ++ (cellsOf v ++ c.drop (o + n))) el true)) := by
 show cond (Nat.beq (cellsOf v).length n) (ob (s.wr b o (cellsOf v)) fun s' => some (Bl, s')) none = _
 rw [Ej hn, Ye h hv (by omega), hn]
 rfl
def Cj (p : List UInt8 → Bool) (letter : Nat) : List UInt8 → List (List UInt8) → Bool
 | c :: f, x :: w => (decide (c.toNat = letter) && !p x) || Cj p letter f w
 | _, _ => false
def Right (self : Self) (g : Nat) (p : List UInt8 → Bool) (w : List (List UInt8)) : Prop := ∀ (x : List UInt8), x ∈ w → ∀ t : AA, KOk t → Gives (self (.fn g) [strOf x] t) t (.bool (p x))
theorem jy (n g : Nat) (p : List UInt8 → Bool) (letter : Nat) (fm : ByteArray) (hfm : ∀ c ∈ toL fm, c.toNat < 128) (W : List (List UInt8)) (hW : W.length = (toL fm).length + 1) (hlen : W.length < 1000000) (hr : Right (AU AL Aj n) g p W) (nx wb wp cap : Nat) :
 ∀ (k q f : Nat) (s : AA) (b : Nat), (toL fm).length - q ≤ k → k < f → s.get b = some (.iter fm q) → q ≤ (toL fm).length → b < s.nx → nx ≤ b → wb < nx → wp < nx → KOk s →
  s.get wb = some (.cells (W.map strOf) 9 true) → s.get wp = some (.cells [.slice (some ⟨wb, 0, none⟩) W.length cap] 22 true) → 10 ≤ nx →
 ∃ s', UM B88 (AU AL Aj n) n f (.int .i32 (letter : Int)) (.func (.func g) #[] #[]) (.pointer (some ⟨wp, 0, none⟩)) (.pointer (some ⟨b, 0, none⟩)) s = .ok (.bool (Cj p letter ((toL fm).drop q) (W.drop (q + 1))), s') ∧ (∀ i, i < nx → s'.get i = s.get i) ∧ s.nx ≤ s'.nx := by
 intro k
 induction k with
 | zero =>
  intro q f s b hk hf hs hq hb hnx hwb hwp hK h1 h2 h10
  obtain ⟨f, rfl, _⟩ := Ac hf
  refine ⟨s, ?_, fun _ _ => rfl, Nat.le_refl _⟩
  rw [Sj B88 rfl]
  rw [List.drop_eq_nil_of_le (by omega : (toL fm).length ≤ q)]
  simp [Js hs (by omega), Cj]
 | succ k ih =>
  intro q f s b hk hf hs hq hb hnx hwb hwp hK h1 h2 h10
  obtain ⟨f, rfl, _⟩ := Ac hf
  rw [Sj B88 rfl]
  by_cases hlt : q < (toL fm).length
  · obtain ⟨c, hc⟩ : ∃ c, (toL fm)[q]? = some c := ⟨_, List.getElem?_eq_getElem hlt⟩
    have hdrop : (toL fm).drop q = c :: (toL fm).drop (q + 1) := by
     rw [List.drop_eq_getElem_cons hlt]
     congr 1
     rw [List.getElem?_eq_getElem hlt] at hc
     exact Option.some.inj hc
    obtain ⟨x, hx⟩ : ∃ x, W[q + 1]? = some x := ⟨_, List.getElem?_eq_getElem (by omega)⟩
    have XG : W.drop (q + 1) = x :: W.drop (q + 2) := by
     rw [List.drop_eq_getElem_cons (by omega)]
     congr 1
     rw [List.getElem?_eq_getElem (by omega)] at hx
     exact Option.some.inj hx
    have hdec := Oe hc (hfm c (List.mem_of_getElem? hc))
    simp only [UU, MO hs hlt, BF, bind_ok, Bc, hdec]
    obtain ⟨s1, hs1⟩ : ∃ s1, s1 = s.put b (.iter fm (q + 1)) := ⟨_, rfl⟩
    have g1 : ∀ i, i < nx → s1.get i = s.get i := fun i hi => by rw [hs1, AA.get_put, if_neg (by omega)]
    have hb1 : s1.get b = some (.iter fm (q + 1)) := by rw [hs1, AA.get_put, if_pos rfl]
    have hK1 : KOk s1 := ⟨(g1 0 (by omega)).trans hK.k0, (g1 9 (by omega)).trans hK.k9, by rw [hs1]; exact hK.nx⟩
    have hn1 : s1.nx = s.nx := by rw [hs1]; rfl
    rw [← hs1]
    by_cases hcl : c.toNat = letter
    · have e1 : (c.toNat : Int) = (letter : Int) := by omega
      have hrd1 : s1.rd1 wp 0 = some (.slice (some ⟨wb, 0, none⟩) W.length cap) := by rw [Ai ((g1 wp hwp).trans h2)]; rfl
      have hrd2 : s1.rd1 wb (q + 1) = some (strOf x) := by rw [Ai ((g1 wb hwb).trans h1), List.getElem?_map, hx]; rfl
      obtain ⟨s2, c1, c2⟩ := hr x (List.mem_of_getElem? hx) s1 hK1
      have hw : Az .i64 ((q : Int) + 1) = (q : Int) + 1 := wrap64 (by omega)
      have hi : BR 1 (.slice (some ⟨wb, 0, none⟩) W.length cap) (.int .i64 ((q : Int) + 1)) = some (.pointer (some ⟨wb, q + 1, none⟩)) := by
       rw [show ((q : Int) + 1) = ((q + 1 : Nat) : Int) by omega, Og _ _ _ _ _ _ (by omega), Nat.zero_add]
      cases hp : p x with
      | false =>
       refine ⟨s2, ?_, fun i hi => (c2.get i (by omega)).trans (g1 i hi), by have := c2.nx; omega⟩
       rw [hdrop, XG]
       rw [hp] at c1
       simp [Nb B88 rfl, e1, hrd1, hw, hi, hrd2, c1, Cj, hcl, hp]
      | true =>
       obtain ⟨s', d1, d2, d3⟩ := ih (q + 1) f s2 b (by omega) (by omega) ((c2.get b (by omega)).trans hb1) (by omega) (by have := c2.nx; omega) hnx hwb hwp (hK1.ext c2) (by rw [c2.get wb (by omega), g1 wb hwb]; exact h1) (by rw [c2.get wp (by omega), g1 wp hwp]; exact h2) h10
       refine ⟨s', ?_, fun i hi => by rw [d2 i hi, c2.get i (by omega), g1 i hi], by have := c2.nx; omega⟩
       rw [hdrop, XG]
       rw [hp] at c1
       simp [Nb B88 rfl, e1, hrd1, hw, hi, hrd2, c1, Cj, hcl, hp, d1]
    · have e1 : ¬ (c.toNat : Int) = (letter : Int) := by omega
      obtain ⟨s', d1, d2, d3⟩ := ih (q + 1) f s1 b (by omega) (by omega) hb1 (by omega) (by omega) hnx hwb hwp hK1 ((g1 wb hwb).trans h1) ((g1 wp hwp).trans h2) h10
      refine ⟨s', ?_, fun i hi => by rw [d2 i hi, g1 i hi], by omega⟩
      rw [hdrop, XG]
      simp [Nb B88 rfl, e1, Cj, hcl, d1]
  · refine ⟨s, ?_, fun _ _ => rfl, Nat.le_refl _⟩
    rw [List.drop_eq_nil_of_le (by omega : (toL fm).length ≤ q)]
    simp [Js hs hlt, Cj]
theorem k88 (n g : Nat) (p : List UInt8 → Bool) (letter : Nat) (fm : List UInt8) (hfm : ∀ c ∈ fm, c.toNat < 128) (W : List (List UInt8)) (hW : W.length = fm.length + 1) (hlen : W.length < 1000000) (hn : fm.length + 1 ≤ n) (hr : Right (AU AL Aj n) g p W)
 (wb wp cp cap : Nat) (ofv : Value) (s : AA) (hwb : wb < s.nx) (hwp : wp < s.nx) (hK : KOk s) (h1 : s.get wb = some (.cells (W.map strOf) 9 true)) (h2 : s.get wp = some (.cells [.slice (some ⟨wb, 0, none⟩) W.length cap] 22 true))
 (h3 : s.get cp = some (.cells [strOf fm, ofv] 164 true)) :
 Gives (AU AL Aj (n + 1) (.fn 88) [.int .i32 (letter : Int), .func (.func g) #[] #[], .pointer (some ⟨cp, 0, none⟩), .pointer (some ⟨wp, 0, none⟩)] s) s (.bool (Cj p letter fm (W.drop 1))) := by
 have hnx := hK.nx
 obtain ⟨s1, hs1⟩ : ∃ s1, s1 = s.new (.iter (ofL fm) 0) := ⟨_, rfl⟩
 have g1 : ∀ i, i < s.nx → s1.get i = s.get i := fun i hi => by rw [hs1, AA.Ak, if_neg (by omega)]
 obtain ⟨s', d1, d2, d3⟩ := jy n g p letter (ofL fm) hfm W hW hlen hr s.nx wb wp cap fm.length 0 n s1 s.nx (by simp) (by omega) (by rw [hs1, AA.Ak, if_pos rfl]) (by omega) (by rw [hs1]; simp) (Nat.le_refl _) hwb hwp
  ⟨(g1 0 (by omega)).trans hK.k0, (g1 9 (by omega)).trans hK.k9, by rw [hs1]; simp; omega⟩ ((g1 wb hwb).trans h1) ((g1 wp hwp).trans h2) hnx
 refine ⟨s', ?_, by rw [hs1] at d3; simp at d3; omega, fun i hi => (d2 i hi).trans (g1 i hi)⟩
 have hrd : s.rd1 cp 0 = some (strOf fm) := by rw [Ai h3]; rfl
 rw [Ap 88 c88 rfl, f88_eq]
 simp only [Bj, List.drop_zero] at d1
 have hrs : Us (strOf fm) = some (.iter (ofL fm) 0, ptrTo) := rfl
 simp [hrd, hrs, ← hs1, d1]
end Go.Im
set_option maxRecDepth 100000
namespace Go.Im
def MQ : List UInt8 := [110, 101, 119]
def FT : List UInt8 := [115, 119, 97, 112]
def GV : List UInt8 := [99, 97, 114, 100]
def JW : List UInt8 := [109, 101, 110, 100]
def EJ : List UInt8 := [117, 110, 100, 111]
def fnV (f : Nat) : Value := .func (.func f) #[] #[]
def clV (f p : Nat) : Value := .func (.func f) ⟨[]⟩ ⟨[.pointer (some ⟨p, 0, none⟩)]⟩
def FZ (w : List UInt8) (p1 p2 : Nat) : Option (List UInt8 × Value) :=
 if w = MQ then some ([78], fnV 118) else if w = FT then some ([78, 78, 75], clV 119 p2) else if w = GV then some ([78, 68, 68], clV 120 p1) else if w = JW then some ([78, 75], clV 121 p2) else if w = EJ then some ([], fnV 122) else none
def RD (o : Option (List UInt8 × Value)) : Value := match o with
 | some (form, of_) => .tuple ⟨[.agg ⟨[strOf form, of_]⟩, .bool true]⟩
 | none => .tuple ⟨[.agg ⟨[.string ⟨#[]⟩, .nilFunc]⟩, .bool false]⟩
theorem k87 (x : ByteArray) (n : Nat) (hn : 1 ≤ n) (s : AA) : ∃ s', AU AL Aj n (.fn 87) [.string x] s = .ok (RD (FZ (toL x) (s.nx + 1) (s.nx + 2)), s') ∧ Ext s s' ∧ s'.nx = s.nx + 3 ∧
 s'.get (s.nx + 1) = some (.cells [fnV 115] 80 true) ∧ s'.get (s.nx + 2) = some (.cells [fnV 116] 80 true) := by
 obtain ⟨m, rfl, _⟩ := Ac hn
 rw [Ap 87 c87 rfl, f87_eq]
 have h1 : wSt ((s.new (.cells [.string ⟨#[]⟩, .nilFunc] 164 true)).new (.cells [.nilFunc] 80 true)) 1 (fnV 115) (.pointer (some ⟨s.nx + 1, 0, none⟩)) =
  some (Bl, ((s.new (.cells [.string ⟨#[]⟩, .nilFunc] 164 true)).new (.cells [.nilFunc] 80 true)).put (s.nx + 1) (.cells [fnV 115] 80 true)) :=
  Fj (c := [.nilFunc]) (by rw [AA.Ak]; simp) rfl rfl (by decide)
 obtain ⟨s1, hs1⟩ : ∃ s1, s1 = ((s.new (.cells [.string ⟨#[]⟩, .nilFunc] 164 true)).new (.cells [.nilFunc] 80 true)).put (s.nx + 1) (.cells [fnV 115] 80 true) := ⟨_, rfl⟩
 have n1 : s1.nx = s.nx + 2 := by rw [hs1]; rfl
 rw [← hs1] at h1
 have h2 : wSt (s1.new (.cells [.nilFunc] 80 true)) 1 (fnV 116) (.pointer (some ⟨s1.nx, 0, none⟩)) = some (Bl, (s1.new (.cells [.nilFunc] 80 true)).put s1.nx (.cells [fnV 116] 80 true)) :=
  Fj (c := [.nilFunc]) (by rw [AA.Ak]; simp) rfl rfl (by decide)
 obtain ⟨s2, hs2⟩ : ∃ s2, s2 = (s1.new (.cells [.nilFunc] 80 true)).put s1.nx (.cells [fnV 116] 80 true) := ⟨_, rfl⟩
 rw [← hs2] at h2
 have n2 : s2.nx = s.nx + 3 := by rw [hs2]; show s1.nx + 1 = _; omega
 have g0 : s2.get s.nx = some (.cells [.string ⟨#[]⟩, .nilFunc] 164 true) := by
  rw [hs2, AA.get_put, if_neg (by omega), AA.Ak, if_neg (by omega), hs1, AA.get_put, if_neg (by omega), AA.Ak, if_neg (by simp), AA.Ak, if_pos rfl]
 have g1 : s2.get (s.nx + 1) = some (.cells [fnV 115] 80 true) := by
  rw [hs2, AA.get_put, if_neg (by omega), AA.Ak, if_neg (by omega), hs1, AA.get_put, if_pos rfl]
 have g2 : s2.get (s.nx + 2) = some (.cells [fnV 116] 80 true) := by
  rw [hs2, AA.get_put, if_pos (by omega)]
 have gold : ∀ b, b < s.nx → s2.get b = s.get b := fun b hb => by
  rw [hs2, AA.get_put, if_neg (by omega), AA.Ak, if_neg (by omega), hs1, AA.get_put, if_neg (by omega), AA.Ak, if_neg (by simp; omega), AA.Ak, if_neg (by omega)]
 have fin : ∀ a b : Value, Bh [a, b] = true → ∃ s3, wSt s2 2 (.agg ⟨[a, b]⟩) (.pointer (some ⟨s.nx, 0, none⟩)) = some (Bl, s3) ∧ DY s3 2 (.pointer (some ⟨s.nx, 0, none⟩)) = some (.agg ⟨[a, b]⟩) ∧
  Ext s s3 ∧ s3.nx = s.nx + 3 ∧ s3.get (s.nx + 1) = some (.cells [fnV 115] 80 true) ∧ s3.get (s.nx + 2) = some (.cells [fnV 116] 80 true) := by
  intro a b hab
  have := Fj (v := .agg ⟨[a, b]⟩) (n := 2) (o := 0) g0 rfl hab (by decide)
  refine ⟨_, this, ?_, ⟨by show s.nx ≤ s2.nx; omega, fun i hi => by rw [AA.get_put, if_neg (by omega)]; exact gold i hi⟩, n2, by rw [AA.get_put, if_neg (by omega)]; exact g1, by rw [AA.get_put, if_neg (by omega)]; exact g2⟩
  show ob (AA.rd _ s.nx 0 2) _ = _
  rw [ED (by rw [AA.get_put, if_pos rfl]) (by simp [cellsOf])]
  rfl
 have e1 : (s.new (.cells [.string ⟨#[]⟩, .nilFunc] 164 true)).nx = s.nx + 1 := rfl
 simp only [Iq, e1]
 simp only [show (Value.func (.func 115) #[] #[]) = fnV 115 from rfl, show (Value.func (.func 116) #[] #[]) = fnV 116 from rfl, h1, h2, BF, bind_ok, YS]
 unfold FZ
 by_cases c1 : toL x = MQ
 · obtain ⟨s3, a1, a2, a3⟩ := fin (strOf [78]) (fnV 118) rfl
   refine ⟨s3, ?_, a3⟩
   have e : ob (fill [.string ⟨#[]⟩, .nilFunc] [(0, 1, .string ⟨#[78]⟩), (1, 1, .func (.func 118) #[] #[])]) (fun c => some (Value.agg ⟨c⟩)) = some (.agg ⟨[strOf [78], fnV 118]⟩) := rfl
   have d : decide (toL x = toL ⟨#[110, 101, 119]⟩) = true := decide_eq_true c1
   simp only [d, cond_true, e, AY, Aq, bind_ok, a1, BF, a2, Ep]
   simp [c1, RD, Dc]
 by_cases c2 : toL x = FT
 · obtain ⟨s3, a1, a2, a3⟩ := fin (strOf [78, 78, 75]) (clV 119 (s.nx + 2)) rfl
   refine ⟨s3, ?_, a3⟩
   have e : ob (fill [.string ⟨#[]⟩, .nilFunc] [(0, 1, .string ⟨#[78, 78, 75]⟩), (1, 1, .func (.func 119) ⟨[]⟩ ⟨[.pointer (some ⟨s1.nx, 0, none⟩)]⟩)]) (fun c => some (Value.agg ⟨c⟩)) = some (.agg ⟨[strOf [78, 78, 75], clV 119 (s.nx + 2)]⟩) := by rw [n1]; rfl
   have d1 : decide (toL x = toL ⟨#[110, 101, 119]⟩) = false := decide_eq_false c1
   have d : decide (toL x = toL ⟨#[115, 119, 97, 112]⟩) = true := decide_eq_true c2
   simp only [d1, d, cond_true, cond_false, e, AY, Aq, bind_ok, a1, BF, a2, Ep]
   simp [c2, RD, Dc, FT, MQ]
 by_cases c3 : toL x = GV
 · obtain ⟨s3, a1, a2, a3⟩ := fin (strOf [78, 68, 68]) (clV 120 (s.nx + 1)) rfl
   refine ⟨s3, ?_, a3⟩
   have e : ob (fill [.string ⟨#[]⟩, .nilFunc] [(0, 1, .string ⟨#[78, 68, 68]⟩), (1, 1, .func (.func 120) ⟨[]⟩ ⟨[.pointer (some ⟨s.nx + 1, 0, none⟩)]⟩)]) (fun c => some (Value.agg ⟨c⟩)) = some (.agg ⟨[strOf [78, 68, 68], clV 120 (s.nx + 1)]⟩) := rfl
   have d1 : decide (toL x = toL ⟨#[110, 101, 119]⟩) = false := decide_eq_false c1
   have d2 : decide (toL x = toL ⟨#[115, 119, 97, 112]⟩) = false := decide_eq_false c2
   have d : decide (toL x = toL ⟨#[99, 97, 114, 100]⟩) = true := decide_eq_true c3
   simp only [d1, d2, d, cond_true, cond_false, e, AY, Aq, bind_ok, a1, BF, a2, Ep]
   simp [c3, RD, Dc, FT, MQ, GV]
 by_cases c4 : toL x = JW
 · obtain ⟨s3, a1, a2, a3⟩ := fin (strOf [78, 75]) (clV 121 (s.nx + 2)) rfl
   refine ⟨s3, ?_, a3⟩
   have e : ob (fill [.string ⟨#[]⟩, .nilFunc] [(0, 1, .string ⟨#[78, 75]⟩), (1, 1, .func (.func 121) ⟨[]⟩ ⟨[.pointer (some ⟨s1.nx, 0, none⟩)]⟩)]) (fun c => some (Value.agg ⟨c⟩)) = some (.agg ⟨[strOf [78, 75], clV 121 (s.nx + 2)]⟩) := by rw [n1]; rfl
   have d1 : decide (toL x = toL ⟨#[110, 101, 119]⟩) = false := decide_eq_false c1
   have d2 : decide (toL x = toL ⟨#[115, 119, 97, 112]⟩) = false := decide_eq_false c2
   have d3 : decide (toL x = toL ⟨#[99, 97, 114, 100]⟩) = false := decide_eq_false c3
   have d : decide (toL x = toL ⟨#[109, 101, 110, 100]⟩) = true := decide_eq_true c4
   simp only [d1, d2, d3, d, cond_true, cond_false, e, AY, Aq, bind_ok, a1, BF, a2, Ep]
   simp [c4, RD, Dc, FT, MQ, GV, JW]
 have d1 : decide (toL x = toL ⟨#[110, 101, 119]⟩) = false := decide_eq_false c1
 have d2 : decide (toL x = toL ⟨#[115, 119, 97, 112]⟩) = false := decide_eq_false c2
 have d3 : decide (toL x = toL ⟨#[99, 97, 114, 100]⟩) = false := decide_eq_false c3
 have d4 : decide (toL x = toL ⟨#[109, 101, 110, 100]⟩) = false := decide_eq_false c4
 by_cases c5 : toL x = EJ
 · obtain ⟨s3, a1, a2, a3⟩ := fin (strOf []) (fnV 122) rfl
   refine ⟨s3, ?_, a3⟩
   have e : ob (fill [.string ⟨#[]⟩, .nilFunc] [(0, 1, .string ⟨#[]⟩), (1, 1, .func (.func 122) #[] #[])]) (fun c => some (Value.agg ⟨c⟩)) = some (.agg ⟨[strOf [], fnV 122]⟩) := rfl
   have d : decide (toL x = toL ⟨#[117, 110, 100, 111]⟩) = true := decide_eq_true c5
   simp only [d1, d2, d3, d4, d, cond_true, cond_false, e, AY, Aq, bind_ok, a1, BF, a2, Ep]
   simp [c5, RD, Dc, FT, MQ, GV, JW, EJ]
 · obtain ⟨s3, a1, a2, a3⟩ := fin (.string ⟨#[]⟩) .nilFunc rfl
   refine ⟨s3, ?_, a3⟩
   have e : ob (fill [.string ⟨#[]⟩, .nilFunc] []) (fun c => some (Value.agg ⟨c⟩)) = some (.agg ⟨[.string ⟨#[]⟩, .nilFunc]⟩) := rfl
   have d : decide (toL x = toL ⟨#[117, 110, 100, 111]⟩) = false := decide_eq_false c5
   simp only [d1, d2, d3, d4, d, cond_true, cond_false, e, AY, Aq, bind_ok, a1, BF, a2, Ep]
   simp [c1, c2, c3, c4, c5, RD, Dc]
end Go.Im
set_option maxRecDepth 100000
namespace Go.Im
theorem Cm {s : AA} {b o : Nat} {v : Value} (hb : b < s.nx) (hv : veq v v = true) : CW s (some (.pointer (some ⟨b, o, none⟩))) (some v) v = true := by
 show cond (Nat.blt b s.nx) (veq v v) false = true
 rw [Bq.2 hb]; exact hv
@[simp] theorem nR (l : List UInt8) : veq (strOf l) (strOf l) = true := by show eqL _ _ = true; simp
@[simp] theorem veq_fn (f : Nat) : veq (fnV f) (fnV f) = true := by show (Nat.beq f f && Ih [] [] && Ih [] []) = true; simp [Ih]
structure Words (s : AA) (wb cap : Nat) (W : List (List UInt8)) : Prop where
 lt : wb < s.nx
 cells : s.get wb = some (.cells (W.map strOf) 9 true)
 len : W.length < 1000000
section
variable {s : AA} {wb cap : Nat} {W : List (List UInt8)}
theorem Words.ext {s' : AA} (h : Words s wb cap W) (e : Ext s s') : Words s' wb cap W := ⟨Nat.lt_of_lt_of_le h.lt e.nx, (e.get wb h.lt).trans h.cells, h.len⟩
theorem Words.rd (h : Words s wb cap W) {i : Nat} {x : List UInt8} (hx : W[i]? = some x) : s.rd1 wb i = some (strOf x) := by rw [Ai h.cells, List.getElem?_map, hx]; rfl
theorem Words.at (i : Nat) (hi : i < W.length) : BR 1 (.slice (some ⟨wb, 0, none⟩) W.length cap) (.int .i64 (i : Int)) = some (.pointer (some ⟨wb, i, none⟩)) := by rw [Og _ _ _ _ _ _ hi, Nat.zero_add]
end
theorem FU {α : Type} {l : List α} {i : Nat} {x : α} (h : l[i]? = some x) : i < l.length := (List.getElem?_eq_some_iff.1 h).1
theorem k118 (n : Nat) (hn : 1 ≤ n) (s : AA) (wb cap : Nat) (W : List (List UInt8)) (hW : Words s wb cap W) (a : List UInt8) (h1 : W[1]? = some a) :
 AU AL Aj n (.fn 118) [.slice (some ⟨wb, 0, none⟩) W.length cap] s = .ok (.iface 186 (.pointer (some ⟨s.nx, 0, none⟩)), s.new (.cells [strOf a] 188 true)) := by
 obtain ⟨m, rfl, _⟩ := Ac hn
 rw [Ap 118 c118 rfl, mD]
 have i1 := Words.at (wb := wb) (cap := cap) (W := W) 1 (FU h1)
 have r1 := hW.rd h1
 have e : ob (fill [.string ⟨#[]⟩] [(0, 1, strOf a)]) (fun c => some (Value.agg ⟨c⟩)) = some (.agg ⟨[strOf a]⟩) := rfl
 simp only [Int.cast_ofNat_Int] at i1
 simp [i1, r1, e, cellsOf]
theorem k119 (n : Nat) (hn : 9 ≤ n) (s : AA) (hK : KOk s) (wb cap p : Nat) (W : List (List UInt8)) (hW : Words s wb cap W) (a b c : List UInt8) (h1 : W[1]? = some a) (h2 : W[2]? = some b) (h3 : W[3]? = some c) (hp : s.get p = some (.cells [fnV 116] 80 true)) :
 AU AL Aj n (.fn 119) [.slice (some ⟨wb, 0, none⟩) W.length cap, .pointer (some ⟨p, 0, none⟩)] s = .ok (.iface 189 (.pointer (some ⟨s.nx, 0, none⟩)), s.new (.cells [strOf a, strOf b, .int .i64 (Dy c)] 191 true)) := by
 obtain ⟨m, rfl, hm⟩ := Ac hn
 rw [Ap 119 c119 rfl, mF]
 have i1 := Words.at (wb := wb) (cap := cap) (W := W) 1 (FU h1)
 have i2 := Words.at (wb := wb) (cap := cap) (W := W) 2 (FU h2)
 have i3 := Words.at (wb := wb) (cap := cap) (W := W) 3 (FU h3)
 have r1 := hW.rd h1
 have r2 := hW.rd h2
 have r3 := hW.rd h3
 have rp : s.rd1 p 0 = some (fnV 116) := by rw [Ai hp]; rfl
 have hk := k116 (ofL c) m (by omega) s hK
 have hk : AU AL Aj m (.fn 116) [strOf c] s = .ok (.int .i64 (Dy c), s) := hk
 have cv : E8 (AU AL Aj m) [strOf c] s (fnV 116) = AU AL Aj m (.fn 116) [strOf c] s := by unfold fnV; simp
 have e : ob (fill [.string ⟨#[]⟩, .string ⟨#[]⟩, .int .i64 0] [(0, 1, strOf a), (1, 1, strOf b), (2, 1, .int .i64 (Dy c))]) (fun c => some (Value.agg ⟨c⟩)) = some (.agg ⟨[strOf a, strOf b, .int .i64 (Dy c)]⟩) := rfl
 simp only [Int.cast_ofNat_Int] at i1 i2 i3
 have nb : Nat.ble s.nx (s.nx + 1) = true := Ae.2 (by omega)
 simp [i1, i2, i3, r1, r2, r3, rp, cv, hk, e, cellsOf, Cm hW.lt, nb]
theorem k121 (n : Nat) (hn : 9 ≤ n) (s : AA) (hK : KOk s) (wb cap p : Nat) (W : List (List UInt8)) (hW : Words s wb cap W) (a c : List UInt8) (h1 : W[1]? = some a) (h2 : W[2]? = some c) (hp : s.get p = some (.cells [fnV 116] 80 true)) :
 AU AL Aj n (.fn 121) [.slice (some ⟨wb, 0, none⟩) W.length cap, .pointer (some ⟨p, 0, none⟩)] s = .ok (.iface 112 (.pointer (some ⟨s.nx, 0, none⟩)), s.new (.cells [strOf a, .int .i64 (Dy c), .int .i64 0] 114 true)) := by
 obtain ⟨m, rfl, hm⟩ := Ac hn
 rw [Ap 121 c121 rfl, mJ]
 have i1 := Words.at (wb := wb) (cap := cap) (W := W) 1 (FU h1)
 have i2 := Words.at (wb := wb) (cap := cap) (W := W) 2 (FU h2)
 have r1 := hW.rd h1
 have r2 := hW.rd h2
 have rp : s.rd1 p 0 = some (fnV 116) := by rw [Ai hp]; rfl
 have hk : AU AL Aj m (.fn 116) [strOf c] s = .ok (.int .i64 (Dy c), s) := k116 (ofL c) m (by omega) s hK
 have cv : E8 (AU AL Aj m) [strOf c] s (fnV 116) = AU AL Aj m (.fn 116) [strOf c] s := by unfold fnV; simp
 have e : ob (fill [.string ⟨#[]⟩, .int .i64 0, .int .i64 0] [(0, 1, strOf a), (1, 1, .int .i64 (Dy c))]) (fun c => some (Value.agg ⟨c⟩)) = some (.agg ⟨[strOf a, .int .i64 (Dy c), .int .i64 0]⟩) := rfl
 simp only [Int.cast_ofNat_Int] at i1 i2
 have nb : Nat.ble s.nx (s.nx + 1) = true := Ae.2 (by omega)
 simp [i1, i2, r1, r2, rp, cv, hk, e, cellsOf, Cm hW.lt, nb]
theorem k120 (n : Nat) (hn : 9 ≤ n) (s : AA) (wb cap p : Nat) (W : List (List UInt8)) (hW : Words s wb cap W) (a b c : List UInt8) (h1 : W[1]? = some a) (h2 : W[2]? = some b) (h3 : W[3]? = some c) (hb : b.length < 1000000) (hc : c.length < 1000000) (hps : p < s.nx) (hp : s.get p = some (.cells [fnV 115] 80 true)) :
 ∃ s1, AU AL Aj n (.fn 120) [.slice (some ⟨wb, 0, none⟩) W.length cap, .pointer (some ⟨p, 0, none⟩)] s = .ok (.iface 111 (.pointer (some ⟨s1.nx, 0, none⟩)), s1.new (.cells [strOf a, .int .i64 (Ec b).1, .int .i64 (Ec c).1, .int .i64 0, .bool false] 193 true)) ∧ Ext s s1 := by
 obtain ⟨m, rfl, hm⟩ := Ac hn
 rw [Ap 120 c120 rfl, mG]
 have i1 := Words.at (wb := wb) (cap := cap) (W := W) 1 (FU h1)
 have i2 := Words.at (wb := wb) (cap := cap) (W := W) 2 (FU h2)
 have i3 := Words.at (wb := wb) (cap := cap) (W := W) 3 (FU h3)
 have r1 := hW.rd h1
 have r2 := hW.rd h2
 have rp : s.rd1 p 0 = some (fnV 115) := by rw [Ai hp]; rfl
 obtain ⟨s1, d1, x1⟩ := k115 (ofL b) (by simp; omega) m (by omega) s
 have d1 : AU AL Aj m (.fn 115) [strOf b] s = .ok (.int .i64 (Ec b).1, s1) := d1
 have hW1 := hW.ext x1
 obtain ⟨s2, d2, x2⟩ := k115 (ofL c) (by simp; omega) m (by omega) s1
 have d2 : AU AL Aj m (.fn 115) [strOf c] s1 = .ok (.int .i64 (Ec c).1, s2) := d2
 have hW2 := hW1.ext x2
 have hp1 : s1.rd1 p 0 = some (fnV 115) := by rw [Ai ((x1.get p hps).trans hp)]; rfl
 have r3 := hW1.rd h3
 have r3' := hW.rd h3
 have q1 := hW1.rd h1
 have q2 := hW2.rd h1
 have cv : ∀ (x : List UInt8) (t : AA), E8 (AU AL Aj m) [strOf x] t (fnV 115) = AU AL Aj m (.fn 115) [strOf x] t := by intro x t; unfold fnV; simp
 have e : ob (fill [.string ⟨#[]⟩, .int .i64 0, .int .i64 0, .int .i64 0, .bool false] [(0, 1, strOf a), (1, 1, .int .i64 (Ec b).1), (2, 1, .int .i64 (Ec c).1)]) (fun c => some (Value.agg ⟨c⟩)) = some (.agg ⟨[strOf a, .int .i64 (Ec b).1, .int .i64 (Ec c).1, .int .i64 0, .bool false]⟩) := rfl
 simp only [Int.cast_ofNat_Int] at i1 i2 i3
 have nb : Nat.ble s2.nx (s2.nx + 1) = true := Ae.2 (by omega)
 have nb1 : Nat.ble s.nx s1.nx = true := Ae.2 x1.nx
 have nb2 : Nat.ble s1.nx s2.nx = true := Ae.2 x2.nx
 have hp1' := Nat.lt_of_lt_of_le hps x1.nx
 refine ⟨s2, ?_, x1.trans x2⟩
 simp [i1, i2, i3, r1, r2, r3, r3', q1, q2, rp, hp1, cv, d1, d2, e, cellsOf, Cm hW.lt, Cm hW1.lt, Cm hW2.lt, Cm hps, Cm hp1', nb, nb1, nb2]
theorem k122 (n : Nat) (hn : 1 ≤ n) (s : AA) (v : Value) : AU AL Aj n (.fn 122) [v] s = .ok (.nilIface, s) := by
 obtain ⟨m, rfl, _⟩ := Ac hn
 rw [Ap 122 c122 rfl, mM]
end Go.Im
set_option maxRecDepth 100000
namespace Go.Im
inductive Ord where
 | new (a : List UInt8)
 | swap (a b : List UInt8) (k : Int)
 | card (a : List UInt8) (h by_ : Int)
 | mend (a : List UInt8) (k : Int)
 | undo
def wd (W : List (List UInt8)) (i : Nat) : List UInt8 := W.getD i []
def isKind (x : List UInt8) : Bool := decide (0 ≤ Dy x)
def I9 (W : List (List UInt8)) : Ord :=
 if wd W 0 = MQ then .new (wd W 1) else if wd W 0 = FT then .swap (wd W 1) (wd W 2) (Dy (wd W 3)) else if wd W 0 = GV then .card (wd W 1) (Ec (wd W 2)).1 (Ec (wd W 3)).1
 else if wd W 0 = JW then .mend (wd W 1) (Dy (wd W 2)) else .undo
def IW (w : List UInt8) : Option (List UInt8) := (FZ w 0 0).map (·.1)
def GI (W : List (List UInt8)) : Except Int Ord :=
 match IW (wd W 0) with
 | none => .error 10
 | some fm =>
  if W.length ≠ fm.length + 1 then .error 9
  else if Cj decimal 68 fm (W.drop 1) then .error 9
  else if Cj nameB 78 fm (W.drop 1) then .error 8
  else if Cj isKind 75 fm (W.drop 1) then .error 10
  else if fm = [78, 68, 68] ∧ (CS (wd W 2) 0 7 && CS (wd W 3) (-300) 300) = false then .error 1
  else .ok (I9 W)
def Dz (x : List UInt8) : Except Int Ord := if 60 < x.length then .error 20 else if DI x 32 then GI (BJ 32 x) else .error 9
def TB : Ord → Option (Nat × List Value × Nat)
 | .new a => some (186, [strOf a], 188)
 | .swap a b k => some (189, [strOf a, strOf b, .int .i64 k], 191)
 | .card a h d => some (111, [strOf a, .int .i64 h, .int .i64 d, .int .i64 0, .bool false], 193)
 | .mend a k => some (112, [strOf a, .int .i64 k, .int .i64 0], 114)
 | .undo => none
def EF (r : Except Int Ord) (s : AA) (v : Value) (s' : AA) : Prop :=
 match r with
 | .error e => v = .tuple ⟨[.nilIface, .int .i64 e]⟩ ∧ e ≠ 0
 | .ok o => match TB o with
  | none => v = .tuple ⟨[.nilIface, .int .i64 0]⟩
  | some (ty, cs, el) => ∃ b, s.nx ≤ b ∧ b < s'.nx ∧ v = .tuple ⟨[.iface ty (.pointer (some ⟨b, 0, none⟩)), .int .i64 0]⟩ ∧ s'.get b = some (.cells cs el true)
theorem EF.mono {r : Except Int Ord} {s0 s s' : AA} {v : Value} (h : EF r s v s') (hs : s0.nx ≤ s.nx) : EF r s0 v s' := by
 unfold EF at h ⊢
 split at h
 · exact h
 · split at h
   · exact h
   · obtain ⟨b, h1, h2⟩ := h
     exact ⟨b, by omega, h2⟩
theorem nS (n : Nat) (hn : 200 ≤ n) (W : List (List UInt8)) (h : ∀ x ∈ W, x.length ≤ 100) : Right (AU AL Aj n) 78 decimal W := fun x hx t _ => k78 (ofL x) n (by have := h x hx; simp; omega) t
theorem nT (n : Nat) (hn : 200 ≤ n) (W : List (List UInt8)) : Right (AU AL Aj n) 82 nameB W := fun x _ t _ => k82 (ofL x) n (by omega) t
theorem nU (n : Nat) (hn : 200 ≤ n) (W : List (List UInt8)) : Right (AU AL Aj n) 89 isKind W := fun x _ t hK => ⟨t, k89 (ofL x) n (by omega) t hK, .refl t⟩
structure XH (s : AA) (wb cap wp cp p1 p2 : Nat) (W : List (List UInt8)) (fm : List UInt8) (of_ : Value) : Prop where
 k : KOk s
 w : Words s wb cap W
 hwp : s.get wp = some (.cells [.slice (some ⟨wb, 0, none⟩) W.length cap] 22 true)
 hcp : s.get cp = some (.cells [strOf fm, of_] 164 true)
 hp1 : s.get p1 = some (.cells [fnV 115] 80 true)
 hp2 : s.get p2 = some (.cells [fnV 116] 80 true)
 lwp : wp < s.nx
 lcp : cp < s.nx
 lp1 : p1 < s.nx
 lp2 : p2 < s.nx
theorem XH.ext {s s' : AA} {wb cap wp cp p1 p2 : Nat} {W : List (List UInt8)} {fm : List UInt8} {of_ : Value} (h : XH s wb cap wp cp p1 p2 W fm of_) (e : Ext s s') : XH s' wb cap wp cp p1 p2 W fm of_ :=
 ⟨h.k.ext e, h.w.ext e, (e.get _ h.lwp).trans h.hwp, (e.get _ h.lcp).trans h.hcp, (e.get _ h.lp1).trans h.hp1, (e.get _ h.lp2).trans h.hp2, Nat.lt_of_lt_of_le h.lwp e.nx, Nat.lt_of_lt_of_le h.lcp e.nx, Nat.lt_of_lt_of_le h.lp1 e.nx, Nat.lt_of_lt_of_le h.lp2 e.nx⟩
theorem GX {W : List (List UInt8)} {i : Nat} (h : i < W.length) : W[i]? = some (wd W i) := by unfold wd; simp [List.getD, h]
section
variable {s : AA} {wb cap wp cp p1 p2 : Nat} {W : List (List UInt8)} {fm : List UInt8} {of_ : Value}
theorem kC (n N : Nat) (hn : 200 ≤ n) (h : XH s wb cap wp cp p1 p2 W fm of_) (hc : FZ (wd W 0) p1 p2 = some (fm, of_)) (hl : W.length = fm.length + 1) (hx : ∀ x ∈ W, x.length ≤ 100) :
 ∃ v s', X7 B52 (AU AL Aj n) N (.pointer (some ⟨wp, 0, none⟩)) (.pointer (some ⟨cp, 0, none⟩)) s = .ok (v, s') ∧ Ext s s' ∧ EF (.ok (I9 W)) s v s' := by
 have rw0 : s.rd1 wp 0 = some (.slice (some ⟨wb, 0, none⟩) W.length cap) := by rw [Ai h.hwp]; rfl
 have rc1 : s.rd1 cp 1 = some of_ := by rw [Ai h.hcp]; rfl
 rw [Zl B52 rfl]
 simp only [DN, AY, Aq, bind_ok, CO, Nat.zero_add, rc1, rw0]
 have two := hx (wd W 2)
 have three := hx (wd W 3)
 have fin : ∀ (u : Value) (s1 : AA), E8 (AU AL Aj n) [.slice (some ⟨wb, 0, none⟩) W.length cap] s of_ = .ok (u, s1) → Ext s s1 → EF (.ok (I9 W)) s (.tuple ⟨[u, .int .i64 0]⟩) s1 →
  ∃ v s', R.bind (E8 (AU AL Aj n) [.slice (some ⟨wb, 0, none⟩) W.length cap] s of_) (fun r43 => .ok (.tuple ⟨[r43.1, .int .i64 0]⟩, r43.2)) = .ok (v, s') ∧ Ext s s' ∧ EF (.ok (I9 W)) s v s' :=
  fun u s1 h1 h2 h3 => ⟨_, s1, by rw [h1]; rfl, h2, h3⟩
 have cvf : ∀ f : Nat, E8 (AU AL Aj n) [.slice (some ⟨wb, 0, none⟩) W.length cap] s (fnV f) = AU AL Aj n (.fn f) [.slice (some ⟨wb, 0, none⟩) W.length cap] s := fun f => by unfold fnV; simp
 have cvc : ∀ f p : Nat, E8 (AU AL Aj n) [.slice (some ⟨wb, 0, none⟩) W.length cap] s (clV f p) = AU AL Aj n (.fn f) [.slice (some ⟨wb, 0, none⟩) W.length cap, .pointer (some ⟨p, 0, none⟩)] s := fun f p => by unfold clV; simp
 unfold FZ at hc
 by_cases c1 : wd W 0 = MQ
 · rw [if_pos c1] at hc
   obtain ⟨rfl, rfl⟩ := Prod.mk.inj (Option.some.inj hc)
   have hL : W.length = 2 := hl
   have k := k118 n (by omega) s wb cap W h.w (wd W 1) (GX (by omega))
   refine fin _ _ ((cvf 118).trans k) ((Ext.refl s).new _) ?_
   unfold I9
   rw [if_pos c1]; exact ⟨s.nx, Nat.le_refl _, by simp, rfl, by rw [AA.Ak, if_pos rfl]⟩
 rw [if_neg c1] at hc
 by_cases c2 : wd W 0 = FT
 · rw [if_pos c2] at hc
   obtain ⟨rfl, rfl⟩ := Prod.mk.inj (Option.some.inj hc)
   have hL : W.length = 4 := hl
   have k := k119 n (by omega) s h.k wb cap p2 W h.w (wd W 1) (wd W 2) (wd W 3) (GX (by omega)) (GX (by omega)) (GX (by omega)) h.hp2
   refine fin _ _ ((cvc 119 p2).trans k) ((Ext.refl s).new _) ?_
   unfold I9
   rw [if_neg c1, if_pos c2]; exact ⟨s.nx, Nat.le_refl _, by simp, rfl, by rw [AA.Ak, if_pos rfl]⟩
 rw [if_neg c2] at hc
 by_cases c3 : wd W 0 = GV
 · rw [if_pos c3] at hc
   obtain ⟨rfl, rfl⟩ := Prod.mk.inj (Option.some.inj hc)
   have hL : W.length = 4 := hl
   have m2 : wd W 2 ∈ W := List.mem_of_getElem? (GX (by omega))
   have m3 : wd W 3 ∈ W := List.mem_of_getElem? (GX (by omega))
   obtain ⟨s1, k, x1⟩ := k120 n (by omega) s wb cap p1 W h.w (wd W 1) (wd W 2) (wd W 3) (GX (by omega)) (GX (by omega)) (GX (by omega)) (by have := two m2; omega) (by have := three m3; omega) h.lp1 h.hp1
   refine fin _ _ ((cvc 120 p1).trans k) (x1.new _) ?_
   unfold I9
   rw [if_neg c1, if_neg c2, if_pos c3]; exact ⟨s1.nx, x1.nx, by simp, rfl, by rw [AA.Ak, if_pos rfl]⟩
 rw [if_neg c3] at hc
 by_cases c4 : wd W 0 = JW
 · rw [if_pos c4] at hc
   obtain ⟨rfl, rfl⟩ := Prod.mk.inj (Option.some.inj hc)
   have hL : W.length = 3 := hl
   have k := k121 n (by omega) s h.k wb cap p2 W h.w (wd W 1) (wd W 2) (GX (by omega)) (GX (by omega)) h.hp2
   refine fin _ _ ((cvc 121 p2).trans k) ((Ext.refl s).new _) ?_
   unfold I9
   rw [if_neg c1, if_neg c2, if_neg c3, if_pos c4]; exact ⟨s.nx, Nat.le_refl _, by simp, rfl, by rw [AA.Ak, if_pos rfl]⟩
 rw [if_neg c4] at hc
 by_cases c5 : wd W 0 = EJ
 · rw [if_pos c5] at hc
   obtain ⟨rfl, rfl⟩ := Prod.mk.inj (Option.some.inj hc)
   refine fin _ _ ((cvf 122).trans (k122 n (by omega) s _)) (.refl s) ?_
   unfold I9
   rw [if_neg c1, if_neg c2, if_neg c3, if_neg c4]; rfl
 · rw [if_neg c5] at hc; cases hc
theorem k52_J4 (n N : Nat) (hn : 201 ≤ n) (h : XH s wb cap wp cp p1 p2 W fm of_) (hc : FZ (wd W 0) p1 p2 = some (fm, of_)) (hl : W.length = fm.length + 1) (hx : ∀ x ∈ W, x.length ≤ 100) (hf : IW (wd W 0) = some fm) (hfm : ∀ c ∈ fm, c.toNat < 128) (hfl : fm.length ≤ 3) :
 ∃ v s', X6 B52 (AU AL Aj n) N (.pointer (some ⟨wp, 0, none⟩)) (.pointer (some ⟨cp, 0, none⟩)) s = .ok (v, s') ∧ Ext s s' ∧ EF (GI W) s v s' := by
 obtain ⟨n, rfl⟩ : ∃ m, n = m + 1 := ⟨n - 1, by omega⟩
 have hr : GI W = if Cj decimal 68 fm (W.drop 1) then .error 9 else if Cj nameB 78 fm (W.drop 1) then .error 8 else if Cj isKind 75 fm (W.drop 1) then .error 10
  else if fm = [78, 68, 68] ∧ (CS (wd W 2) 0 7 && CS (wd W 3) (-300) 300) = false then .error 1 else .ok (I9 W) := by
  unfold GI
  rw [hf]
  simp only [hl, ne_eq, not_true_eq_false, if_false]
 obtain ⟨s1, d1, x1⟩ := k88 n 78 decimal 68 fm hfm W hl (by omega) (by omega) (nS n (by omega) W hx) wb wp cp cap of_ s h.w.lt h.lwp h.k h.w.cells h.hwp h.hcp
 have h1 := h.ext x1
 obtain ⟨s2, d2, x2⟩ := k88 n 82 nameB 78 fm hfm W hl (by omega) (by omega) (nT n (by omega) W) wb wp cp cap of_ s1 h1.w.lt h1.lwp h1.k h1.w.cells h1.hwp h1.hcp
 have h2 := h1.ext x2
 obtain ⟨s3, d3, x3⟩ := k88 n 89 isKind 75 fm hfm W hl (by omega) (by omega) (nU n (by omega) W) wb wp cp cap of_ s2 h2.w.lt h2.lwp h2.k h2.w.cells h2.hwp h2.hcp
 have h3 := h2.ext x3
 rw [Zk B52 rfl, hr]
 simp only [Int.cast_ofNat_Int] at d1 d2 d3
 cases b1 : Cj decimal 68 fm (W.drop 1) with
 | true =>
  rw [b1] at d1
  exact ⟨.tuple ⟨[.nilIface, .int .i64 9]⟩, s1, by simp [d1], x1, rfl, by decide⟩
 | false =>
 rw [b1] at d1
 cases b2 : Cj nameB 78 fm (W.drop 1) with
 | true =>
  rw [b2] at d2
  exact ⟨.tuple ⟨[.nilIface, .int .i64 8]⟩, s2, by simp [d1, d2], x1.trans x2, rfl, by decide⟩
 | false =>
 rw [b2] at d2
 cases b3 : Cj isKind 75 fm (W.drop 1) with
 | true =>
  rw [b3] at d3
  exact ⟨.tuple ⟨[.nilIface, .int .i64 10]⟩, s3, by simp [d1, d2, d3], (x1.trans x2).trans x3, rfl, by decide⟩
 | false =>
 rw [b3] at d3
 have rc0 : s3.rd1 cp 0 = some (strOf fm) := by rw [Ai h3.hcp]; rfl
 have rw0 : s3.rd1 wp 0 = some (.slice (some ⟨wb, 0, none⟩) W.length cap) := by rw [Ai h3.hwp]; rfl
 have eqf : BG .eql (strOf fm) (.string ⟨#[78, 68, 68]⟩) = some (.bool (decide (fm = [78, 68, 68]))) := by unfold strOf; rw [EO]; rfl
 have eqf1 : BG .eql (strOf [78, 68, 68]) (.string ⟨#[78, 68, 68]⟩) = some (.bool true) := by unfold strOf; rw [EO]; rfl
 by_cases UZ : fm = [78, 68, 68]
 · have hL : W.length = 4 := by rw [hl, UZ]; rfl
   have i2 := Words.at (wb := wb) (cap := cap) (W := W) 2 (by omega)
   have i3 := Words.at (wb := wb) (cap := cap) (W := W) 3 (by omega)
   simp only [Int.cast_ofNat_Int] at i2 i3
   have m2 : wd W 2 ∈ W := List.mem_of_getElem? (GX (by omega))
   have m3 : wd W 3 ∈ W := List.mem_of_getElem? (GX (by omega))
   have r2 := h3.w.rd (GX (W := W) (i := 2) (by omega))
   obtain ⟨s4, d4, x4⟩ := k79 (ofL (wd W 2)) (by have := hx _ m2; simp; omega) 0 7 (n + 1) (by omega) s3
   have d4 : AU AL Aj (n + 1) (.fn 79) [strOf (wd W 2), .int .i64 0, .int .i64 7] s3 = .ok (.bool (CS (wd W 2) 0 7), s4) := d4
   have h4 := h3.ext x4
   cases w1 : CS (wd W 2) 0 7 with
   | false =>
    rw [w1] at d4
    refine ⟨.tuple ⟨[.nilIface, .int .i64 1]⟩, s4, ?_, ((x1.trans x2).trans x3).trans x4, ?_⟩
    · simp [d1, d2, d3, rc0, eqf1, UZ, rw0, i2, r2, d4]
    · simp [UZ]
      exact ⟨rfl, by decide⟩
   | true =>
    rw [w1] at d4
    have rw4 : s4.rd1 wp 0 = some (.slice (some ⟨wb, 0, none⟩) W.length cap) := by rw [Ai h4.hwp]; rfl
    have r3 := h4.w.rd (GX (W := W) (i := 3) (by omega))
    obtain ⟨s5, d5, x5⟩ := k79 (ofL (wd W 3)) (by have := hx _ m3; simp; omega) (-300) 300 (n + 1) (by omega) s4
    have d5 : AU AL Aj (n + 1) (.fn 79) [strOf (wd W 3), .int .i64 (-300), .int .i64 300] s4 = .ok (.bool (CS (wd W 3) (-300) 300), s5) := d5
    have h5 := h4.ext x5
    cases w2 : CS (wd W 3) (-300) 300 with
    | false =>
     rw [w2] at d5
     refine ⟨.tuple ⟨[.nilIface, .int .i64 1]⟩, s5, ?_, (((x1.trans x2).trans x3).trans x4).trans x5, ?_⟩
     · simp [d1, d2, d3, rc0, eqf1, UZ, rw0, i2, r2, d4, rw4, i3, r3, d5]
     · simp [UZ]
       exact ⟨rfl, by decide⟩
    | true =>
     rw [w2] at d5
     obtain ⟨v, s', e1, e2, e3⟩ := kC (n + 1) N (by omega) h5 hc hl hx
     refine ⟨v, s', ?_, ((((x1.trans x2).trans x3).trans x4).trans x5).trans e2, ?_⟩
     · simp [d1, d2, d3, rc0, eqf1, UZ, rw0, i2, r2, d4, rw4, i3, r3, d5]
       exact e1
     · simp only [UZ, Bool.false_eq_true, if_false, w1, w2, Bool.and_self, Bool.true_eq_false, and_false]
       exact e3.mono (by have := ((((x1.trans x2).trans x3).trans x4).trans x5).nx; omega)
 · obtain ⟨v, s', e1, e2, e3⟩ := kC (n + 1) N (by omega) h3 hc hl hx
   refine ⟨v, s', ?_, ((x1.trans x2).trans x3).trans e2, ?_⟩
   · simp [d1, d2, d3, rc0, eqf, UZ]
     exact e1
   · simp only [UZ, Bool.false_eq_true, if_false, false_and]
     exact e3.mono (by have := ((x1.trans x2).trans x3).nx; omega)
end
end Go.Im
set_option maxRecDepth 100000
namespace Go.Im
theorem XI {w : List UInt8} {p1 p2 : Nat} {fm : List UInt8} {of_ : Value} (h : FZ w p1 p2 = some (fm, of_)) : IW w = some fm ∧ (∀ c ∈ fm, c.toNat < 128) ∧ fm.length ≤ 3 := by
 unfold IW
 unfold FZ at h ⊢
 by_cases c1 : w = MQ
 · rw [if_pos c1] at h ⊢; obtain ⟨rfl, _⟩ := Prod.mk.inj (Option.some.inj h); exact ⟨rfl, by decide, by decide⟩
 rw [if_neg c1] at h ⊢
 by_cases c2 : w = FT
 · rw [if_pos c2] at h ⊢; obtain ⟨rfl, _⟩ := Prod.mk.inj (Option.some.inj h); exact ⟨rfl, by decide, by decide⟩
 rw [if_neg c2] at h ⊢
 by_cases c3 : w = GV
 · rw [if_pos c3] at h ⊢; obtain ⟨rfl, _⟩ := Prod.mk.inj (Option.some.inj h); exact ⟨rfl, by decide, by decide⟩
 rw [if_neg c3] at h ⊢
 by_cases c4 : w = JW
 · rw [if_pos c4] at h ⊢; obtain ⟨rfl, _⟩ := Prod.mk.inj (Option.some.inj h); exact ⟨rfl, by decide, by decide⟩
 rw [if_neg c4] at h ⊢
 by_cases c5 : w = EJ
 · rw [if_pos c5] at h ⊢; obtain ⟨rfl, _⟩ := Prod.mk.inj (Option.some.inj h); exact ⟨rfl, by decide, by decide⟩
 rw [if_neg c5] at h; cases h
theorem XJ {w : List UInt8} {p1 p2 : Nat} (h : FZ w p1 p2 = none) : IW w = none := by
 unfold IW
 unfold FZ at h ⊢
 by_cases c1 : w = MQ
 · rw [if_pos c1] at h; cases h
 rw [if_neg c1] at h ⊢
 by_cases c2 : w = FT
 · rw [if_pos c2] at h; cases h
 rw [if_neg c2] at h ⊢
 by_cases c3 : w = GV
 · rw [if_pos c3] at h; cases h
 rw [if_neg c3] at h ⊢
 by_cases c4 : w = JW
 · rw [if_pos c4] at h; cases h
 rw [if_neg c4] at h ⊢
 by_cases c5 : w = EJ
 · rw [if_pos c5] at h; cases h
 rw [if_neg c5]; rfl
theorem Fp (c : UInt8) : ∀ x : List UInt8, 1 ≤ (BJ c x).length
 | [] => by simp [BJ]
 | b :: l => by
  have ih := Fp c l
  show 1 ≤ (cond _ ([] :: BJ c l) (pushB b (BJ c l))).length
  cases hb : Nat.beq b.toNat c.toNat with
  | true => simp
  | false =>
   cases hs : BJ c l with
   | nil => rw [hs] at ih; simp at ih
   | cons p r => simp [pushB]
theorem LM (c : UInt8) : ∀ x : List UInt8, (∀ p ∈ BJ c x, p.length ≤ x.length) ∧ (BJ c x).length ≤ x.length + 1
 | [] => by simp [BJ]
 | b :: l => by
  obtain ⟨ih, ih2⟩ := LM c l
  have hsp : BJ c (b :: l) = cond (Nat.beq b.toNat c.toNat) ([] :: BJ c l) (pushB b (BJ c l)) := rfl
  rw [hsp]
  cases hb : Nat.beq b.toNat c.toNat with
  | true =>
   refine ⟨fun p hp => ?_, by simp; omega⟩
   rcases List.mem_cons.1 hp with rfl | hp
   · simp
   · have := ih p hp; simp; omega
  | false =>
   have hne := Fp c l
   cases hs : BJ c l with
   | nil => rw [hs] at hne; simp at hne
   | cons p r =>
    rw [hs] at ih ih2
    refine ⟨fun q hq => ?_, by simpa [pushB] using Nat.le_succ_of_le ih2⟩
    rcases List.mem_cons.1 hq with rfl | hq
    · have := ih p (by simp); simp; omega
    · have := ih q (by simp [hq]); simp; omega
section
variable {s : AA} {wb cap wp cp p1 p2 : Nat} {W : List (List UInt8)} {fm : List UInt8} {of_ : Value}
theorem k52_J3 (n N : Nat) (hn : 201 ≤ n) (h : XH s wb cap wp cp p1 p2 W fm of_) (hc : FZ (wd W 0) p1 p2 = some (fm, of_)) (hx : ∀ x ∈ W, x.length ≤ 100) :
 ∃ v s', X5 B52 (AU AL Aj n) N (.pointer (some ⟨wp, 0, none⟩)) (.pointer (some ⟨cp, 0, none⟩)) s = .ok (v, s') ∧ Ext s s' ∧ EF (GI W) s v s' := by
 obtain ⟨hf, hfm, hfl⟩ := XI hc
 have rw0 : s.rd1 wp 0 = some (.slice (some ⟨wb, 0, none⟩) W.length cap) := by rw [Ai h.hwp]; rfl
 have rc0 : s.rd1 cp 0 = some (strOf fm) := by rw [Ai h.hcp]; rfl
 have rl : Hl (strOf fm) = some (.int .i64 (fm.length : Int)) := rfl
 rw [Zj B52 rfl]
 have hw : Az .i64 ((fm.length : Int) + 1) = (fm.length : Int) + 1 := wrap64 (by omega)
 by_cases hl : W.length = fm.length + 1
 · obtain ⟨v, s', e1, e2, e3⟩ := k52_J4 n N hn h hc hl hx hf hfm hfl
   refine ⟨v, s', ?_, e2, e3⟩
   have : (W.length : Int) = (fm.length : Int) + 1 := by omega
   simp [rw0, rc0, rl, hw, this]
   exact e1
 · refine ⟨.tuple ⟨[.nilIface, .int .i64 9]⟩, s, ?_, .refl s, ?_⟩
   · have : ¬ (W.length : Int) = (fm.length : Int) + 1 := by omega
     simp [rw0, rc0, rl, hw, this]
   · unfold GI
     rw [hf]
     simp only [ne_eq, hl, not_false_eq_true, if_true]
     exact ⟨rfl, by decide⟩
theorem k52_J2 (n N : Nat) (hn : 201 ≤ n) (hK : KOk s) (hW : Words s wb cap W) (hwp : s.get wp = some (.cells [.slice (some ⟨wb, 0, none⟩) W.length cap] 22 true)) (hlt : wp < s.nx) (h1 : 1 ≤ W.length) (hx : ∀ x ∈ W, x.length ≤ 100) :
 ∃ v s', X4 B52 (AU AL Aj n) N (.pointer (some ⟨wp, 0, none⟩)) s = .ok (v, s') ∧ Ext s s' ∧ EF (GI W) s v s' := by
 have rw0 : s.rd1 wp 0 = some (.slice (some ⟨wb, 0, none⟩) W.length cap) := by rw [Ai hwp]; rfl
 have i0 := Words.at (wb := wb) (cap := cap) (W := W) 0 (by omega)
 simp only [Int.cast_ofNat_Int] at i0
 have r0 := hW.rd (GX (W := W) (i := 0) (by omega))
 obtain ⟨s1, d1, x1, n1, g1, g2⟩ := k87 (ofL (wd W 0)) n (by omega) s
 have d1 : AU AL Aj n (.fn 87) [strOf (wd W 0)] s = .ok (RD (FZ (wd W 0) (s.nx + 1) (s.nx + 2)), s1) := d1
 rw [Zi B52 rfl]
 have store : ∀ a b : Value, Bh [a, b] = true → wSt (s1.new (.cells [.string ⟨#[]⟩, .nilFunc] 164 true)) 2 (.agg ⟨[a, b]⟩) (.pointer (some ⟨s1.nx, 0, none⟩)) = some (Bl, (s1.new (.cells [.string ⟨#[]⟩, .nilFunc] 164 true)).put s1.nx (.cells [a, b] 164 true)) := by
  intro a b hab
  exact Fj (v := .agg ⟨[a, b]⟩) (n := 2) (o := 0) (c := [.string ⟨#[]⟩, .nilFunc]) (by rw [AA.Ak, if_pos rfl]) rfl hab (by decide)
 have xp : ∀ a b : Value, Ext s1 ((s1.new (.cells [.string ⟨#[]⟩, .nilFunc] 164 true)).put s1.nx (.cells [a, b] 164 true)) := fun a b => ((Ext.refl s1).new _).put (Nat.le_refl _) _
 cases hc : FZ (wd W 0) (s.nx + 1) (s.nx + 2) with
 | none =>
  rw [hc] at d1
  refine ⟨.tuple ⟨[.nilIface, .int .i64 10]⟩, _, ?_, x1.trans (xp (.string ⟨#[]⟩) .nilFunc), ?_⟩
  · simp only [Iq, CO, rw0, AY, Aq, bind_ok, i0, r0, d1, RD, Bc]
    simp [store (.string ⟨#[]⟩) .nilFunc rfl]
  · unfold GI; rw [XJ hc]; exact ⟨rfl, by decide⟩
 | some q =>
  obtain ⟨fm, of_⟩ := q
  rw [hc] at d1
  have hof : simple of_ = true := by
   unfold FZ at hc
   split at hc
   · obtain ⟨_, rfl⟩ := Prod.mk.inj (Option.some.inj hc); rfl
   · split at hc
     · obtain ⟨_, rfl⟩ := Prod.mk.inj (Option.some.inj hc); rfl
     · split at hc
       · obtain ⟨_, rfl⟩ := Prod.mk.inj (Option.some.inj hc); rfl
       · split at hc
         · obtain ⟨_, rfl⟩ := Prod.mk.inj (Option.some.inj hc); rfl
         · split at hc
           · obtain ⟨_, rfl⟩ := Prod.mk.inj (Option.some.inj hc); rfl
           · cases hc
  have x2 := xp (strOf fm) of_
  have hs2 := store (strOf fm) of_ (by show cond (simple of_) true false = true; rw [hof]; rfl)
  have x12 := x1.trans x2
  have hcx : XH ((s1.new (.cells [.string ⟨#[]⟩, .nilFunc] 164 true)).put s1.nx (.cells [strOf fm, of_] 164 true)) wb cap wp s1.nx (s.nx + 1) (s.nx + 2) W fm of_ :=
   ⟨hK.ext x12, hW.ext x12, (x12.get wp hlt).trans hwp, by rw [AA.get_put, if_pos rfl], (x2.get _ (by omega)).trans g1, (x2.get _ (by omega)).trans g2, Nat.lt_of_lt_of_le hlt x12.nx, by simp, by simp; omega, by simp; omega⟩
  obtain ⟨v, s', e1, e2, e3⟩ := k52_J3 n N hn hcx hc hx
  refine ⟨v, s', ?_, x12.trans e2, e3.mono x12.nx⟩
  simp only [Iq, CO, rw0, AY, Aq, bind_ok, i0, r0, d1, RD, Bc]
  simp [hs2]
  exact e1
end
theorem k52 (x : ByteArray) (n : Nat) (hn : 300 ≤ n) (s : AA) (hK : KOk s) : ∃ v s', AU AL Aj n (.fn 52) [.string x] s = .ok (v, s') ∧ Ext s s' ∧ EF (Dz (toL x)) s v s' := by
 obtain ⟨m, rfl⟩ : ∃ m, n = m + 1 := ⟨n - 1, by omega⟩
 rw [Ap 52 c52 rfl, f52_eq]
 unfold Dz
 by_cases hl : 60 < (toL x).length
 · have : (60 : Int) < ((toL x).length : Int) := by omega
   exact ⟨.tuple ⟨[.nilIface, .int .i64 20]⟩, s, by simp [this], .refl s, by rw [if_pos hl]; exact ⟨rfl, by decide⟩⟩
 have hl' : ¬ (60 : Int) < ((toL x).length : Int) := by omega
 rw [if_neg hl]
 obtain ⟨s1, v1, d1, x1, g1⟩ := k83 x (by omega) m (by omega) s
 have store : ∀ w : Value, simple w = true → cellsOf w = [w] → wSt (s1.new (.cells [.slice none 0 0] 22 true)) 1 w (.pointer (some ⟨s1.nx, 0, none⟩)) = some (Bl, (s1.new (.cells [.slice none 0 0] 22 true)).put s1.nx (.cells [w] 22 true)) := by
  intro w hw hc
  have := Fj (s := s1.new (.cells [.slice none 0 0] 22 true)) (v := w) (n := 1) (o := 0) (c := [.slice none 0 0]) (b := s1.nx) (el := 22) (by rw [AA.Ak, if_pos rfl]) (by rw [hc]; rfl) (by rw [hc]; show cond (simple w) true false = true; rw [hw]; rfl) (by decide)
  rw [hc] at this
  exact this
 cases hw : DI (toL x) 32 with
 | false =>
  rw [hw] at g1
  obtain ⟨a, l, c, rfl⟩ := g1
  have hst := store (.slice a l c) rfl rfl
  refine ⟨.tuple ⟨[.nilIface, .int .i64 9]⟩, _, ?_, x1.trans (((Ext.refl s1).new (.cells [.slice none 0 0] 22 true)).put (Nat.le_refl _) (.cells [.slice a l c] 22 true)), rfl, by decide⟩
  simp only [Int.ofNat_eq_natCast, BP, hl', decide_false, cond_false, SN B52 rfl, d1, bind_ok, Bc, Iq]
  simp [hst]
 | true =>
  rw [hw] at g1
  obtain ⟨b, q1, q2, rfl, q3⟩ := g1
  have hsl := LM 32 (toL x)
  obtain ⟨s2, hs2⟩ : ∃ s2, s2 = (s1.new (.cells [.slice none 0 0] 22 true)).put s1.nx (.cells [.slice (some ⟨b, 0, none⟩) (BJ 32 (toL x)).length (BJ 32 (toL x)).length] 22 true) := ⟨_, rfl⟩
  have hst := store (.slice (some ⟨b, 0, none⟩) (BJ 32 (toL x)).length (BJ 32 (toL x)).length) rfl rfl
  rw [← hs2] at hst
  have x2 : Ext s1 s2 := by rw [hs2]; exact ((Ext.refl s1).new _).put (Nat.le_refl _) _
  have x12 := x1.trans x2
  have hW : Words s2 b (BJ 32 (toL x)).length (BJ 32 (toL x)) := ⟨by rw [hs2]; simp; omega, (x2.get b q2).trans q3, by omega⟩
  obtain ⟨v, s', e1, e2, e3⟩ := k52_J2 m m (by omega) (hK.ext x12) hW (wp := s1.nx) (by rw [hs2, AA.get_put, if_pos rfl]) (by rw [hs2]; simp) (Fp 32 _) (fun y hy => by have := hsl.1 y hy; omega)
  refine ⟨v, s', ?_, x12.trans e2, by simpa using e3.mono x12.nx⟩
  simp only [Int.ofNat_eq_natCast, BP, hl', decide_false, cond_false, SN B52 rfl, d1, bind_ok, Bc, Iq]
  simp [hst]
  exact e1
end Go.Im
