/- The ideal machine: its pure operations stand for the model's. -/
import Derived.Test.YtojbkocmobkddaaGreatDoorImS3
import Derived.Laws.Strings
import Derived.Laws.Slices
import Derived.Laws.Tables
import Derived.Laws.Pointers
import Derived.Laws.Cover3
import Derived.Laws.Small
import Derived.Laws.StructEq
set_option linter.all false
namespace Go.Im
attribute [local simp] Sem.run_bind
theorem Ti {m : Map} : ∀ {a b : Value}, cEq a b = true → a = b ∧ BH m a b := by
 intro a b h
 cases a <;> cases b <;> try (simp [cEq] at h; done)
 case bool.bool x y => simp [cEq] at h; subst h; exact ⟨rfl, .bool _⟩
 case int.int k x k' y => simp [cEq] at h; obtain ⟨rfl, rfl⟩ := h; exact ⟨rfl, .int _ _⟩
 case string.string x y =>
  simp [cEq] at h
  have : x = y := by cases x; cases y; simp at h; congr
  subst this; exact ⟨rfl, .string _⟩
 case pointer.pointer x y => cases x <;> cases y <;> simp [cEq] at h; exact ⟨rfl, .ptr0⟩
 case slice.slice x n c y n' c' => cases x <;> cases y <;> simp [cEq] at h; obtain ⟨⟨⟨rfl, rfl⟩, rfl⟩, rfl⟩ := h; exact ⟨rfl, .sl0⟩
 case map.map x y => cases x <;> cases y <;> simp [cEq] at h; exact ⟨rfl, .map0⟩
 case nilFunc.nilFunc => exact ⟨rfl, .WO⟩
 case nilIface.nilIface => exact ⟨rfl, .Tf⟩
theorem Gu {m : Map} : ∀ {a b : List Value}, OX a b = true → a = b ∧ CJ m a b
 | [], [], _ => ⟨rfl, .nil⟩
 | a :: l, b :: l', h => by
  simp [OX] at h
  obtain ⟨e1, r1⟩ := Ti (m := m) h.1
  obtain ⟨e2, r2⟩ := Gu (m := m) h.2
  exact ⟨by rw [e1, e2], .cons r1 r2⟩
 | [], _ :: _, h => by simp [OX] at h
 | _ :: _, [], h => by simp [OX] at h
def OY (G : List Nat) (m : Map) : Prop := ∀ g ∈ G, ∃ p, m g = some p ∧ p.blk = g ∧ p.sh = 0
section
variable {G : List Nat} {m : Map} {env : Env} {a : Act}
theorem Bd (hE : CB m env a.tmps) (hG : OY G m) {x y : Operand} {v : Value} (h : DC G x y = true) (hv : ev env x = some v) : BH m v (a.eval y) := by
 cases x <;> cases y <;> try (simp [DC] at h; done)
 case tmp.tmp t u =>
  simp [DC] at h; subst h
  obtain ⟨v', h1, h2⟩ := hE t v hv
  simpa [Act.eval, h1] using h2
 case const.const c d =>
  obtain ⟨e, r⟩ := Ti (m := m) h
  have : v = c := (Option.some.inj hv).symm
  subst this
  simpa [Act.eval] using r
 case global.global g g' =>
  simp [DC] at h
  obtain ⟨rfl, hg⟩ := h
  obtain ⟨p, hp, hb, hs⟩ := hG _ hg
  have : v = .pointer (some ⟨g, 0, none⟩) := (Option.some.inj hv).symm
  subst this
  have := BH.ptr (m := m) (b := g) (o := 0) hp
  simpa [Act.eval, hb, hs] using this
 case func.func f g =>
  simp [DC] at h; subst h
  have : v = .func (.func f) #[] #[] := (Option.some.inj hv).symm
  subst this
  exact .func (.func f) .nil .nil
theorem J9 (hE : CB m env a.tmps) (hG : OY G m) : ∀ {xs ys : List Operand} {vs : List Value}, Jd G xs ys = true → evs env xs = some vs → CJ m vs (ys.map a.eval)
 | [], [], vs, _, hv => by simp [evs] at hv; subst hv; exact .nil
 | x :: l, y :: l', vs, h, hv => by
  simp [Jd] at h
  simp only [evs, Ag] at hv
  obtain ⟨v, h1, vs', h2, h3⟩ := hv
  simp at h3; subst h3
  exact .cons (Bd hE hG h.1 h1) (J9 hE hG h.2 h2)
 | [], _ :: _, _, h, _ => by simp [Jd] at h
 | _ :: _, [], _, h, _ => by simp [Jd] at h
theorem Em {β : Type} {x y : Operand} {f : Value → Value → Option β} {r : β} (h : ev2 env x y f = some r) : ∃ u v, ev env x = some u ∧ ev env y = some v ∧ f u v = some r := by
 simp only [ev2, Ag] at h
 obtain ⟨u, h1, v, h2, h3⟩ := h
 exact ⟨u, v, h1, h2, h3⟩
end
theorem Lj {a b : Nat} (h : Nat.blt a b = true) : a < b := Nat.le_of_ble_eq_true h
theorem Bq {a b : Nat} : Nat.blt a b = true ↔ a < b := ⟨Lj, fun h => Nat.ble_eq_true_of_le h⟩
theorem Ae {a b : Nat} : Nat.ble a b = true ↔ a ≤ b := ⟨Nat.le_of_ble_eq_true, Nat.ble_eq_true_of_le⟩
theorem wrap_i32 (n : Int) (h : -2147483648 ≤ n ∧ n < 2147483648) : IntKind.i32.wrap n = n := by
 have e1 : (2 : Int) ^ IntKind.i32.bits = 4294967296 := by decide
 have e2 : (2 : Int) ^ (IntKind.i32.bits - 1) = 2147483648 := by decide
 unfold IntKind.wrap
 simp only [e1, e2, IntKind.signed, Bool.true_and, decide_eq_true_eq]
 split <;> omega
theorem wrap_i64 (n : Int) (h : -9223372036854775808 ≤ n ∧ n < 9223372036854775808) : IntKind.i64.wrap n = n := by
 have e1 : (2 : Int) ^ IntKind.i64.bits = 18446744073709551616 := by decide
 have e2 : (2 : Int) ^ (IntKind.i64.bits - 1) = 9223372036854775808 := by decide
 unfold IntKind.wrap
 simp only [e1, e2, IntKind.signed, Bool.true_and, decide_eq_true_eq]
 split <;> omega
theorem wrap_u8 (n : Int) : IntKind.u8.wrap n = n % 256 := by
 have e1 : (2 : Int) ^ IntKind.u8.bits = 256 := by decide
 unfold IntKind.wrap
 simp [e1, IntKind.signed]
theorem wrap_u64 (n : Int) : IntKind.u64.wrap n = n % 18446744073709551616 := by
 have e1 : (2 : Int) ^ IntKind.u64.bits = 18446744073709551616 := by decide
 unfold IntKind.wrap
 simp [e1, IntKind.signed]
theorem V9 (k : IntKind) (b : Nat) (h : ∀ n : Int, -(b : Int) ≤ n → n < (b : Int) → k.wrap n = n) (n : Int) : bD k b n = k.wrap n := by
 cases n with
 | ofNat m =>
  show cond (Nat.blt m b) (Int.ofNat m) (k.wrap (Int.ofNat m)) = _
  cases hb : Nat.blt m b with
  | false => rfl
  | true => have := Lj hb; rw [cond_true, h _ (by rw [Int.ofNat_eq_natCast]; omega) (by rw [Int.ofNat_eq_natCast]; omega)]
 | negSucc m =>
  show cond (Nat.blt m b) (Int.negSucc m) (k.wrap (Int.negSucc m)) = _
  cases hb : Nat.blt m b with
  | false => rfl
  | true => have := Lj hb; rw [cond_true, h _ (by rw [Int.negSucc_eq]; omega) (by rw [Int.negSucc_eq]; omega)]
theorem Gv (k : IntKind) (n : Int) : Az k n = k.wrap n := by
 cases k <;> try rfl
 case i32 => exact V9 .i32 _ (fun n h1 h2 => wrap_i32 n ⟨h1, h2⟩) n
 case i64 => exact V9 .i64 _ (fun n h1 h2 => wrap_i64 n ⟨h1, h2⟩) n
 case u8 =>
  cases n with
  | ofNat m => rw [wrap_u8]; rfl
  | negSucc m => rfl
 case u64 =>
  cases n with
  | ofNat m => rw [wrap_u64]; rfl
  | negSucc m => rfl
theorem Jg (x y : Int) : ltF x y = decide (x < y) := by
 rw [Bool.eq_iff_iff, decide_eq_true_eq]
 cases x with
 | ofNat a => cases y with
  | ofNat b => simp only [ltF, Bq, Int.ofNat_eq_natCast]; omega
  | negSucc b => simp only [ltF, Int.ofNat_eq_natCast, Int.negSucc_eq]; exact ⟨fun h => (by cases h), fun h => (by omega)⟩
 | negSucc a => cases y with
  | ofNat b => simp only [ltF, Int.ofNat_eq_natCast, Int.negSucc_eq]; exact ⟨fun _ => (by omega), fun _ => trivial⟩
  | negSucc b => simp only [ltF, Bq, Int.negSucc_eq]; omega
theorem JA (x y : Int) : eqF x y = decide (x = y) := by
 rw [Bool.eq_iff_iff, decide_eq_true_eq]
 cases x with
 | ofNat a => cases y with
  | ofNat b => simp only [eqF, beq_iff, Int.ofNat_eq_natCast]; omega
  | negSucc b => simp only [eqF, Int.ofNat_eq_natCast, Int.negSucc_eq]; exact ⟨fun h => (by cases h), fun h => (by omega)⟩
 | negSucc a => cases y with
  | ofNat b => simp only [eqF, Int.ofNat_eq_natCast, Int.negSucc_eq]; exact ⟨fun h => (by cases h), fun h => (by omega)⟩
  | negSucc b => simp only [eqF, beq_iff, Int.negSucc_eq]; omega
theorem Jh : ∀ (a b : List UInt8), eqL a b = decide (a = b)
 | [], [] => rfl
 | [], _ :: _ => rfl
 | _ :: _, [] => rfl
 | x :: l, y :: l' => by
  unfold eqL
  rw [Jh l l']
  by_cases h : x.toNat = y.toNat
  · rw [Ej h]
    obtain rfl := UInt8.toNat_inj.1 h
    simp
  · rw [Hr h]
    have : x ≠ y := fun e => h (by rw [e])
    simp [this]
theorem P6 : ∀ (a b : List UInt8), ltL a b = Op.bytesLess a b
 | [], [] => rfl
 | [], _ :: _ => rfl
 | _ :: _, [] => rfl
 | x :: l, y :: l' => by
  unfold ltL Op.bytesLess
  rw [P6 l l']
  by_cases h : x.toNat < y.toNat
  · have : x < y := h
    rw [Bq.2 h]; simp [this]
  · have h' : ¬ x < y := h
    have hb : Nat.blt x.toNat y.toNat = false := by
     cases hb : Nat.blt x.toNat y.toNat with
     | false => rfl
     | true => exact absurd (Lj hb) h
    rw [hb]
    by_cases e : x.toNat = y.toNat
    · rw [Ej e]
      obtain rfl := UInt8.toNat_inj.1 e
      simp
    · rw [Hr e]
      have : x ≠ y := fun h => e (by rw [h])
      simp [this, h']
theorem toList_eq (s : ByteArray) : s.toList = toL s := ByteArray.toList_eq s
theorem YK (a b : IntKind) : Hg a b = decide (a = b) := by cases a <;> cases b <;> rfl
theorem data_append (a b : ByteArray) : toL (a ++ b) = toL a ++ toL b := by simp [toL]
theorem JB (s : ByteArray) : ofL (toL s) = s := by cases s with | mk d => cases d; rfl
theorem Tj (s : ByteArray) (l : List UInt8) (h : toL s = l) : s = ofL l := by subst h; exact (JB s).symm
theorem Ky (s : ByteArray) : (toL s).length = s.size := rfl
theorem gJ {op : BinOp} {k : IntKind} {x y : Int} {r : Value} (h : TS op k x y = some r) (hn : op ≠ .shl ∧ op ≠ .shr) (P : Program) (t : TypeId) (w : World) :
 (binOp op t (.int k x) (.int k y)).run P w = .ok r w ∧ ∀ m, BH m r r := by
 cases op <;> simp only [TS] at h <;> try (simp at hn; done)
 case add => obtain rfl := Option.some.inj h; exact ⟨by rw [binOp_add, Op.intArith, Gv]; rfl, fun _ => .int _ _⟩
 case sub => obtain rfl := Option.some.inj h; exact ⟨by rw [binOp_sub, Op.intArith, Gv]; rfl, fun _ => .int _ _⟩
 case mul => obtain rfl := Option.some.inj h; exact ⟨by rw [binOp_mul, Op.intArith, Gv]; rfl, fun _ => .int _ _⟩
 case quo =>
  rw [JA] at h
  by_cases hy : y = 0
  · subst hy; simp at h
  · have hd : decide (y = Int.ofNat 0) = false := by simp; exact hy
    rw [hd] at h
    obtain rfl := Option.some.inj h
    exact ⟨by rw [binOp_quo, Op.intDiv, if_neg hy, Gv]; rfl, fun _ => .int _ _⟩
 case rem =>
  rw [JA] at h
  by_cases hy : y = 0
  · subst hy; simp at h
  · have hd : decide (y = Int.ofNat 0) = false := by simp; exact hy
    rw [hd] at h
    obtain rfl := Option.some.inj h
    exact ⟨by rw [binOp_rem, Op.intDiv, if_neg hy]; rfl, fun _ => .int _ _⟩
 case and => obtain rfl := Option.some.inj h; exact ⟨by rw [binOp_and]; rfl, fun _ => .int _ _⟩
 case or => obtain rfl := Option.some.inj h; exact ⟨by rw [binOp_or]; rfl, fun _ => .int _ _⟩
 case xor => obtain rfl := Option.some.inj h; exact ⟨by rw [binOp_xor]; rfl, fun _ => .int _ _⟩
 case andNot => obtain rfl := Option.some.inj h; exact ⟨by rw [binOp_andNot]; rfl, fun _ => .int _ _⟩
 case eql => obtain rfl := Option.some.inj h; exact ⟨by rw [binOp_eql, JA]; rfl, fun _ => .bool _⟩
 case neq => obtain rfl := Option.some.inj h; exact ⟨by rw [binOp_neq, JA]; rfl, fun _ => .bool _⟩
 case lss => obtain rfl := Option.some.inj h; exact ⟨by rw [binOp_lss, Jg]; rfl, fun _ => .bool _⟩
 case leq =>
  obtain rfl := Option.some.inj h
  refine ⟨?_, fun _ => .bool _⟩
  rw [binOp_leq, Jg]
  have : (!decide (y < x)) = decide (x ≤ y) := by rw [Bool.eq_iff_iff]; simp
  rw [this]; rfl
 case gtr => obtain rfl := Option.some.inj h; exact ⟨by rw [binOp_gtr, Jg]; rfl, fun _ => .bool _⟩
 case geq =>
  obtain rfl := Option.some.inj h
  refine ⟨?_, fun _ => .bool _⟩
  rw [binOp_geq, Jg]
  have : (!decide (x < y)) = decide (x ≥ y) := by rw [Bool.eq_iff_iff]; simp
  rw [this]; rfl
theorem IU : ∀ a b : List UInt8, (Op.bytesLess a b || a == b) = !Op.bytesLess b a
 | [], [] => rfl
 | [], _ :: _ => by simp [Op.bytesLess]
 | _ :: _, [] => by simp [Op.bytesLess]
 | x :: l, y :: l' => by
  have ih := IU l l'
  unfold Op.bytesLess
  by_cases h1 : x < y
  · have h2 : ¬ y < x := by rw [UInt8.lt_iff_toNat_lt] at *; omega
    have h3 : ¬ y = x := by intro e; subst e; rw [UInt8.lt_iff_toNat_lt] at h1; omega
    simp [h1, h2, h3]
  · by_cases h2 : y < x
    · have h3 : ¬ x = y := by intro e; subst e; rw [UInt8.lt_iff_toNat_lt] at h2; omega
      simp [h1, h2, h3]
    · have h3 : x = y := by rw [UInt8.lt_iff_toNat_lt] at h1 h2; exact UInt8.toNat_inj.1 (by omega)
      subst h3
      simp [h1, ← ih]
theorem gK {op : BinOp} {x y : ByteArray} {r : Value} (h : binS op x y = some r) (P : Program) (t : TypeId) (w : World) :
 (binOp op t (.string x) (.string y)).run P w = .ok r w ∧ ∀ m, BH m r r := by
 have hb : binOp op t (.string x) (.string y) = Op.stringOp op x y := by cases op <;> rfl
 rw [hb]
 cases op <;> simp only [binS] at h <;> try (simp at h; done)
 case add =>
  cases hc : Nat.ble (Nat.add (toL x).length (toL y).length) (nat_lit 9223372036854775807) with
  | false => rw [hc] at h; simp at h
  | true =>
   rw [hc] at h
   obtain rfl := Option.some.inj h
   have hle := Ae.1 hc
   refine ⟨?_, fun _ => .string _⟩
   have hs : ¬ ((x.size + y.size : Nat) : Int) > IntKind.i64.max := by
    rw [IntKind.max_i64]
    have h2 : x.size + y.size ≤ 9223372036854775807 := hle
    omega
   simp only [Op.stringOp]
   rw [if_neg hs]
   have : x ++ y = ofL (toL x ++ toL y) := Tj _ _ (data_append x y)
   rw [this]; rfl
 case eql => obtain rfl := Option.some.inj h; exact ⟨by simp [Op.stringOp, toList_eq, Jh]; rw [Bool.eq_iff_iff]; simp, fun _ => .bool _⟩
 case neq => obtain rfl := Option.some.inj h; exact ⟨by simp [Op.stringOp, toList_eq, Jh]; rw [Bool.eq_iff_iff]; simp, fun _ => .bool _⟩
 case lss => obtain rfl := Option.some.inj h; exact ⟨by simp [Op.stringOp, toList_eq, P6], fun _ => .bool _⟩
 case leq => obtain rfl := Option.some.inj h; exact ⟨by simp only [Op.stringOp, toList_eq, P6, IU]; rfl, fun _ => .bool _⟩
 case gtr => obtain rfl := Option.some.inj h; exact ⟨by simp only [Op.stringOp, toList_eq, P6, IU, Bool.not_not]; rfl, fun _ => .bool _⟩
 case geq => obtain rfl := Option.some.inj h; exact ⟨by simp only [Op.stringOp, toList_eq, P6]; rfl, fun _ => .bool _⟩
theorem gQ {op : BinOp} {k k' : IntKind} {x y : Int} {r : Value} (h : binN op k x k' y = some r) (P : Program) (t : TypeId) (w : World) :
 (binOp op t (.int k x) (.int k' y)).run P w = .ok r w ∧ ∀ m, BH m r r := by
 by_cases h1 : op = .shl
 · subst h1
   simp only [binN] at h
   split at h
   · simp at h
   · rename_i hy
     obtain rfl := Option.some.inj h
     exact ⟨by rw [binOp_shl, Op.shift, if_neg hy]; rfl, fun _ => .int _ _⟩
 · by_cases h2 : op = .shr
   · subst h2
     simp only [binN] at h
     split at h
     · simp at h
     · rename_i hy
       obtain rfl := Option.some.inj h
       exact ⟨by rw [binOp_shr, Op.shift, if_neg hy]; rfl, fun _ => .int _ _⟩
   · have hh : binN op k x k' y = cond (Hg k k') (TS op k x y) none := by cases op <;> first | rfl | exact absurd rfl h1 | exact absurd rfl h2
     rw [hh, YK] at h
     by_cases e : k = k'
     · subst e
       simp at h
       exact gJ h ⟨h1, h2⟩ P t w
     · simp [e] at h
theorem gU {m : Map} {op : BinOp} {a b a' b' r : Value} (h : BG op a b = some r) (ha : BH m a a') (hb : BH m b b') (P : Program) (t : TypeId) (x y : Operand) (w : World) :
 eqGuard op t x y a' b' = pure () ∧ (binOp op t a' b').run P w = .ok r w ∧ BH m r r := by
 cases ha <;> cases hb <;> try (simp [BG] at h; done)
 case int.int k n k' n' =>
  have := gQ h P t w
  exact ⟨eqGuard_at_int _ _ _ _ _ _ _, this.1, this.2 m⟩
 case string.string s s' =>
  have := gK h P t w
  exact ⟨eqGuard_at_string _ _ _ _ _ _, this.1, this.2 m⟩
def Ji (P : Program) (t : TypeId) : Prop := ∀ (n : Nat) (l l' : List Value) (r : Bool) (x y : Operand) (w : World), isz P t = some n → ints n l = true → ints n l' = true → Du l l' = some r →
 (∀ op, eqGuard op t x y (.agg ⟨l⟩) (.agg ⟨l'⟩) = pure () ∨ (eqGuard op t x y (.agg ⟨l⟩) (.agg ⟨l'⟩)).run P w = .ok () w) ∧ (Op.equal t (.agg ⟨l⟩) (.agg ⟨l'⟩)).run P w = .ok r w
theorem VA {m : Map} {a b a' b' : Value} {r : Bool} (h : Gq a b = some r) (ha : BH m a a') (hb : BH m b b') : Gq a' b' = some r := by
 cases ha <;> cases hb <;> first | exact h | (simp [Gq] at h)
theorem NI {m : Map} : ∀ {n : Nat} {a a' : List Value}, ints n a = true → CJ m a a' → ints n a' = true
 | 0, [], _, h, .nil => h
 | n + 1, v :: l, _, h, .cons hv t => by
  cases hv <;> try (simp [ints] at h; done)
  case int k x =>
   cases k <;> simp only [ints] at h ⊢ <;> first | exact NI h t | (simp at h; done)
 | 0, _ :: _, _, h, _ => by simp [ints] at h
 | n + 1, [], _, h, _ => by simp [ints] at h
theorem Lm {m : Map} : ∀ {a b a' b' : List Value} {r : Bool}, Du a b = some r → CJ m a a' → CJ m b b' → Du a' b' = some r
 | [], [], _, _, r, h, .nil, .nil => h
 | x :: l, y :: l', _, _, r, h, .cons hx tx, .cons hy ty => by
  simp only [Du, Ag] at h ⊢
  obtain ⟨c, h1, h2⟩ := h
  refine ⟨c, VA h1 hx hy, ?_⟩
  cases c with
  | false => exact h2
  | true => exact Lm h2 tx ty
 | [], _ :: _, _, _, _, h, _, _ => by simp [Du] at h
 | _ :: _, [], _, _, _, h, _, _ => by simp [Du] at h
theorem Tn {P : Program} {t : TypeId} {a b : Value} {w w' : World} {r : Bool} (h1 : ∀ k n, a ≠ .int k n) (h2 : ∀ k n, a ≠ .float k n) (h3 : ∀ k n l, a ≠ .complex k n l) (h4 : ∀ s, a ≠ .string s)
 (h : (Op.equal t a b).run P w = .ok r w') : (binOp .eql t a b).run P w = .ok (.bool r) w' := by
 cases a <;> first
  | exact absurd rfl (h1 _ _) | exact absurd rfl (h2 _ _) | exact absurd rfl (h3 _ _ _) | exact absurd rfl (h4 _)
  | (cases b <;> simp [binOp, h])
theorem Tq {P : Program} {t : TypeId} {a b : Value} {w w' : World} {r : Bool} (h1 : ∀ k n, a ≠ .int k n) (h2 : ∀ k n, a ≠ .float k n) (h3 : ∀ k n l, a ≠ .complex k n l) (h4 : ∀ s, a ≠ .string s)
 (h : (Op.equal t a b).run P w = .ok r w') : (binOp .neq t a b).run P w = .ok (.bool (!r)) w' := by
 cases a <;> first
  | exact absurd rfl (h1 _ _) | exact absurd rfl (h2 _ _) | exact absurd rfl (h3 _ _ _) | exact absurd rfl (h4 _)
  | (cases b <;> simp [binOp, h])
theorem En {P : Program} {t : TypeId} {x y : Value} {c : Bool} {w : World} (h : ∀ d, (Op.equalIn (d + 1) t x y).run P w = .ok c w) : (Op.equal t x y).run P w = .ok c w := h 9999
set_option maxHeartbeats 4000000 in
theorem lD {X : Cx} (hTA : ∀ t ∈ X.TA, Ji X.P t) {m : Map} {k : EqK} {t : Nat} {neg : Bool} {a b a' b' r : Value} {x y : Operand} {act : Act} (hk : Le X.P X.TA k t x y = true)
 (hx : a' = act.eval x) (hy : b' = act.eval y) (h : GY k neg a b = some r) (ha : BH m a a') (hb : BH m b b') (w : World) :
 (do eqGuard (if neg then .neq else .eql) t x y a' b'; binOp (if neg then .neq else .eql) t a' b' : Sem Value).run X.P w = .ok r w ∧ BH m r r := by
 simp only [GY, Ag] at h
 obtain ⟨c, hc, h⟩ := h
 have hr : r = .bool (cond neg (!c) c) := (Option.some.inj h).symm
 subst hr
 refine ⟨?_, .bool _⟩
 have fin : ∀ {a' b' : Value}, (∀ op, eqGuard op t x y a' b' = pure () ∨ (eqGuard op t x y a' b').run X.P w = .ok () w) → (∀ k n, a' ≠ .int k n) → (∀ k n, a' ≠ .float k n) → (∀ k n l, a' ≠ .complex k n l) → (∀ s, a' ≠ .string s) →
  (Op.equal t a' b').run X.P w = .ok c w →
  (do eqGuard (if neg then .neq else .eql) t x y a' b'; binOp (if neg then .neq else .eql) t a' b' : Sem Value).run X.P w = .ok (.bool (cond neg (!c) c)) w := by
  intro a' b' hg h1 h2 h3 h4 he
  have hg' : (eqGuard (if neg then .neq else .eql) t x y a' b').run X.P w = .ok () w := by
   rcases hg (if neg then .neq else .eql) with e | e
   · rw [e]; rfl
   · exact e
  rw [Sem.run_bind, hg', Result.andThen_ok]
  cases neg with
  | false => exact Tn h1 h2 h3 h4 he
  | true => exact Tq h1 h2 h3 h4 he
 cases k
 case b =>
  cases hu : X.P.underlying t <;> simp [Le, hu] at hk
  rename_i d
  cases d <;> simp at hk
  cases ha <;> cases hb <;> try (simp [JZ, eqB] at hc; done)
  case bool.bool p q =>
   simp [JZ, eqB] at hc
   refine fin (fun op => .inl (eqGuard_at_bool _ _ _ _ _ _)) (by simp) (by simp) (by simp) (by simp) (En fun d => ?_)
   simp [Op.equalIn, run_underlying hu, hc]
 case p =>
  cases hu : X.P.underlying t <;> simp [Le, hu] at hk
  rename_i d
  cases d <;> simp at hk
  cases ha <;> cases hb <;> try (simp [JZ, eqP] at hc; done)
  all_goals
   refine fin (fun op => .inl (eqGuard_at_pointer _ _ _ _ _ _)) (by simp) (by simp) (by simp) (by simp) (En fun d => ?_)
   simp [JZ, eqP] at hc
   simp [Op.equalIn, run_underlying hu, hc]
 case i =>
  cases hu : X.P.underlying t <;> simp [Le, hu] at hk
  rename_i d
  cases d <;> simp at hk
  cases ha <;> cases hb <;> try (simp [JZ, eqI] at hc; done)
  case Tf.Tf =>
   refine fin (fun op => .inl ?_) (by simp) (by simp) (by simp) (by simp) ?_
   · cases x <;> cases y <;> simp at hk <;> first | exact eqGuard_nil_constL _ _ _ _ | exact eqGuard_nil_constR _ _ _ _
   · refine En fun d => ?_
     simp [JZ, eqI] at hc
     simp [Op.equalIn, run_underlying hu, hc]
  case Tf.iface =>
   refine fin (fun op => .inl (eqGuard_nil_iface _ _ _ _ _ _)) (by simp) (by simp) (by simp) (by simp) (En fun d => ?_)
   simp [JZ, eqI] at hc
   simp [Op.equalIn, run_underlying hu, hc]
  case iface.Tf =>
   refine fin (fun op => .inl (eqGuard_at_iface _ _ _ _ _ _ _)) (by simp) (by simp) (by simp) (by simp) (En fun d => ?_)
   simp [JZ, eqI] at hc
   simp [Op.equalIn, run_underlying hu, hc]
 case s =>
  cases hu : X.P.underlying t <;> simp [Le, hu] at hk
  rename_i d
  cases d <;> simp at hk
  cases ha <;> cases hb <;> try (simp [JZ, eqSl] at hc; done)
  all_goals
   refine fin (fun op => .inl (eqGuard_at_slice _ _ _ _ _ _ _ _)) (by simp) (by simp) (by simp) (by simp) (En fun d => ?_)
   simp [JZ, eqSl] at hc
   simp [Op.equalIn, run_underlying hu, hc]
 case m =>
  cases hu : X.P.underlying t <;> simp [Le, hu] at hk
  rename_i d
  cases d <;> simp at hk
  cases ha <;> cases hb <;> try (simp [JZ, eqM] at hc; done)
  all_goals
   refine fin (fun op => .inl (eqGuard_at_map _ _ _ _ _ _)) (by simp) (by simp) (by simp) (by simp) (En fun d => ?_)
   simp [JZ, eqM] at hc
   simp [Op.equalIn, run_underlying hu, hc]
 case f =>
  cases hu : X.P.underlying t <;> simp [Le, hu] at hk
  rename_i d
  cases d <;> simp at hk
  cases ha <;> cases hb <;> try (simp [JZ, eqFn] at hc; done)
  case WO.WO =>
   refine fin (fun op => .inl (eqGuard_at_nilFunc _ _ _ _ _)) (by simp) (by simp) (by simp) (by simp) (En fun d => ?_)
   simp [JZ, eqFn] at hc
   simp [Op.equalIn, run_underlying hu, hc]
  case WO.func =>
   refine fin (fun op => .inl (eqGuard_at_nilFunc _ _ _ _ _)) (by simp) (by simp) (by simp) (by simp) (En fun d => ?_)
   simp [JZ, eqFn] at hc
   simp [Op.equalIn, run_underlying hu, hc]
  case func.WO =>
   refine fin (fun op => .inl (eqGuard_at_func _ _ _ _ _ _ _ _)) (by simp) (by simp) (by simp) (by simp) (En fun d => ?_)
   simp [JZ, eqFn] at hc
   simp [Op.equalIn, run_underlying hu, hc]
 case a n =>
  cases hu : X.P.underlying t <;> simp [Le, hu] at hk
  cases ha <;> cases hb <;> try (simp [JZ, eqA] at hc; done)
  case agg.agg l1 l1' h1 l2 l2' h2 =>
   have hc0 : cond (ints n l1 && ints n l2) (Du l1 l2) none = some c := hc
   have hc1 : (ints n l1 && ints n l2) = true ∧ Du l1 l2 = some c := by
    cases hb : (ints n l1 && ints n l2) with
    | false => rw [hb] at hc0; simp at hc0
    | true => rw [hb] at hc0; exact ⟨rfl, hc0⟩
   simp only [Bool.and_eq_true] at hc1
   have hc' : Du l1' l2' = some c := Lm hc1.2 h1 h2
   have hh := fun w => hTA t hk.1 n l1' l2' c x y w hk.2 (NI hc1.1.1 h1) (NI hc1.1.2 h2) hc'
   refine fin (fun op => (hh w).1 op) (by simp) (by simp) (by simp) (by simp) (hh w).2
end Go.Im
