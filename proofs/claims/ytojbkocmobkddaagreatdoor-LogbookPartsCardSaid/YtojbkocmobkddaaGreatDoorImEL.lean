/- The ideal machine: laws by which its equations are reckoned. -/
import Derived.Test.YtojbkocmobkddaaGreatDoorImS4
import Derived.Test.YtojbkocmobkddaaGreatDoorImE0
import Derived.Test.YtojbkocmobkddaaGreatDoorImS8
set_option linter.all false
namespace Go.Im
section
variable {α β : Type}
@[simp] theorem bind_ok (a : α) (f : α → R β) : R.bind (.ok a) f = f a := (rfl)
@[simp] theorem AP (n : Nat) (a : α) (f : α → R β) : obR n (some a) f = f a := (rfl)
@[simp] theorem Ae (n : Nat) (a : α) : BD n (some a) = .ok a := (rfl)
@[simp] theorem CO (a : α) (f : α → R β) : AL (.ok a) f = f a := (rfl)
end
@[simp] theorem AY (s : A8) (v : Value) : okS s v = .ok (v, s) := (rfl)
@[simp] theorem DZ (x : R (Value × A8)) (s : A8) : gdo (some true) x s = x := (rfl)
@[simp] theorem GR (x : R (Value × A8)) (s : A8) : gdo (some false) x s = .ok (BO, s) := (rfl)
@[simp] theorem BU (b c : Bool) : Ar b (some (.bool c)) = some (c == b) := (rfl)
@[simp] theorem RJ (b : Bool) : Ar b (some BO) = some false := (rfl)
@[simp] theorem D6 (a b : Option Value) : CX a b (.bool true) = a := (rfl)
@[simp] theorem CZ (a b : Option Value) : CX a b (.bool false) = b := (rfl)
@[simp] theorem AO (x y : R (Value × A8)) (t : Bool) : BI x y (some (.bool t)) = cond t x y := (rfl)
@[simp] theorem chkG_t (x : Bool) : chkG (some true) x = x := (rfl)
@[simp] theorem chkG_f (x : Bool) : chkG (some false) x = true := (rfl)
@[simp] theorem og {α : Type} (l : List α) (i : Nat) : nth l i = l[i]? := F7 l i
@[simp] theorem Bg (i : Nat) (l : List Value) : pExt i (.tuple ⟨l⟩) = l[i]? := F7 l i
@[simp] theorem Bc (n : Nat) : Nat.ble n n = true := Nat.ble_eq_true_of_le (Nat.le_refl n)
@[simp] theorem BQ (x y : Int) : ltF x y = decide (x < y) := JO x y
@[simp] theorem FN (x y : Int) : eqF x y = decide (x = y) := Ku x y
@[simp] theorem G9 (x y : List UInt8) : eqL x y = decide (x = y) := JQ x y
@[simp] theorem CJ (l : List UInt8) : toL (ofL l) = l := (rfl)
@[simp] theorem toL_mk (l : List UInt8) : toL ⟨⟨l⟩⟩ = l := (rfl)
@[simp] theorem iT (s : ByteArray) : ofL (toL s) = s := Hf s
theorem DU (k : IntKind) : Hy k k = true := by cases k <;> rfl
section
variable (k : IntKind) (a b : Int)
@[simp] theorem BP : BJ .lss (.int k a) (.int k b) = some (.bool (decide (a < b))) := by show cond (Hy k k) _ none = _; rw [DU]; simp [Sr]
@[simp] theorem VO : BJ .leq (.int k a) (.int k b) = some (.bool (decide (a ≤ b))) := by
 show cond (Hy k k) (some (Value.bool (!(ltF _ _)))) none = _
 rw [DU, JO]
 show some (Value.bool (!decide _)) = _
 congr 2
 by_cases h : a ≤ b
 · simp [h, Int.not_lt.2 h]
 · simp [h, Int.not_le.1 h]
@[simp] theorem Dh : BJ .gtr (.int k a) (.int k b) = some (.bool (decide (b < a))) := by show cond (Hy k k) _ none = _; rw [DU]; simp [Sr]
@[simp] theorem JZ : BJ .geq (.int k a) (.int k b) = some (.bool (decide (b ≤ a))) := by
 show cond (Hy k k) (some (Value.bool (!(ltF _ _)))) none = _
 rw [DU, JO]
 show some (Value.bool (!decide _)) = _
 congr 2
 by_cases h : b ≤ a
 · simp [h, Int.not_lt.2 h]
 · simp [h, Int.not_le.1 h]
@[simp] theorem DR : BJ .eql (.int k a) (.int k b) = some (.bool (decide (a = b))) := by show cond (Hy k k) _ none = _; rw [DU]; simp [Sr]
@[simp] theorem DF : BJ .neq (.int k a) (.int k b) = some (.bool (!decide (a = b))) := by show cond (Hy k k) _ none = _; rw [DU]; simp [Sr]
@[simp] theorem PS : BJ .add (.int k a) (.int k b) = some (.int k (BK k (a + b))) := by show cond (Hy k k) _ none = _; rw [DU]; rfl
@[simp] theorem VP : BJ .sub (.int k a) (.int k b) = some (.int k (BK k (a - b))) := by show cond (Hy k k) _ none = _; rw [DU]; rfl
@[simp] theorem binV_mul : BJ .mul (.int k a) (.int k b) = some (.int k (BK k (a * b))) := by show cond (Hy k k) _ none = _; rw [DU]; rfl
end
@[simp] theorem EJ (a b : Int) : Int.add a b = a + b := (rfl)
@[simp] theorem Qb (a b : Int) : Int.sub a b = a - b := (rfl)
@[simp] theorem imul (a b : Int) : Int.mul a b = a * b := (rfl)
@[simp] theorem ineg (a : Int) : Int.neg a = -a := (rfl)
@[simp] theorem E8 (n : Nat) : Int.ofNat n = (n : Int) := (rfl)
theorem wrap64 {x : Int} (h : -9223372036854775808 ≤ x ∧ x < 9223372036854775808) : BK .i64 x = x := by rw [GL, wrap_i64 x h]
@[simp] theorem Ey (x y : ByteArray) : BJ .eql (.string x) (.string y) = some (.bool (decide (toL x = toL y))) := by show some _ = _; rw [JQ]
@[simp] theorem iU (x y : ByteArray) : BJ .neq (.string x) (.string y) = some (.bool (!decide (toL x = toL y))) := by show some _ = _; rw [JQ]
theorem VQ (x y : ByteArray) (h : (toL x).length + (toL y).length ≤ 9223372036854775807) : BJ .add (.string x) (.string y) = some (.string (ofL (toL x ++ toL y))) := by
 show cond (Nat.ble (Nat.add _ _) _) _ _ = _
 have : Nat.ble (Nat.add (toL x).length (toL y).length) 9223372036854775807 = true := Ag.2 h
 rw [this]; rfl
@[simp] theorem Ja (x : ByteArray) : KH (.string x) = some (.int .i64 ((toL x).length : Int)) := (rfl)
@[simp] theorem IU (a : Option Addr) (n c : Nat) : CP (.slice a n c) = some (.int .i64 (n : Int)) := (rfl)
@[simp] theorem Z7 (k k' : IntKind) (n : Int) : UU k (.int k' n) = some (.int k (BK k n)) := (rfl)
@[simp] theorem pCstr_eq (x : ByteArray) : Xv (.string x) = some (.string x) := (rfl)
@[simp] theorem DW (b : Bool) : unV .not (.bool b) = some (.bool (!b)) := (rfl)
@[simp] theorem asNat_nat (k : IntKind) (n : Nat) : asNat (.int k (n : Int)) = some n := (rfl)
@[simp] theorem asNat_zero (k : IntKind) : asNat (.int k 0) = some 0 := (rfl)
@[simp] theorem Dn (x : ByteArray) (k : IntKind) (i : Nat) : GY (.string x) (.int k (i : Int)) = ((toL x)[i]?).map fun b => .int .u8 (b.toNat : Int) := by
 show ob (nth (toL x) i) _ = _
 rw [F7]; cases (toL x)[i]? <;> rfl
@[simp] theorem Gx (x : ByteArray) (k : IntKind) : GY (.string x) (.int k 0) = ((toL x)[0]?).map fun b => .int .u8 (b.toNat : Int) := Dn x k 0
@[simp] theorem eqP_nn (n : Bool) : IG .p n (.pointer none) (.pointer none) = some (.bool (cond n false true)) := by cases n <;> rfl
@[simp] theorem eqP_sn (n : Bool) (a : Addr) : IG .p n (.pointer (some a)) (.pointer none) = some (.bool (cond n true false)) := by cases n <;> rfl
@[simp] theorem eqP_ns (n : Bool) (a : Addr) : IG .p n (.pointer none) (.pointer (some a)) = some (.bool (cond n true false)) := by cases n <;> rfl
@[simp] theorem eqI_nn (n : Bool) : IG .i n .nilIface .nilIface = some (.bool (cond n false true)) := by cases n <;> rfl
@[simp] theorem eqI_sn (n : Bool) (t : Nat) (v : Value) : IG .i n (.iface t v) .nilIface = some (.bool (cond n true false)) := by cases n <;> rfl
@[simp] theorem eqB_eq (n : Bool) (a b : Bool) : IG .b n (.bool a) (.bool b) = some (.bool (cond n (!(a == b)) (a == b))) := by cases n <;> rfl
@[simp] theorem CB (T : MT) (a : Addr) : Aw T (.pointer (some a)) = some (.pointer (some a)) := (rfl)
@[simp] theorem Am (off : Nat) (b o : Nat) : AQ off (.pointer (some ⟨b, o, none⟩)) = some (.pointer (some ⟨b, o + off, none⟩)) := (rfl)
@[simp] theorem BN (s : A8) (b o : Nat) : rLd s (.pointer (some ⟨b, o, none⟩)) = s.rd1 b o := (rfl)
theorem Ah {s : A8} {b : Nat} {c : List Value} {el : Nat} {w : Bool} (h : s.get b = some (.cells c el w)) (o : Nat) : s.rd1 b o = c[o]? := by
 unfold A8.rd1; rw [h]; exact F7 c o
theorem EH {s : A8} {b : Nat} {c : List Value} {el : Nat} {w : Bool} (h : s.get b = some (.cells c el w)) {o n : Nat} (hl : o + n ≤ c.length) : s.rd b o n = some ((c.drop o).take n) := by
 unfold A8.rd Ie; rw [h]; simp only [sub]
 rw [Ag.2 (show Nat.add o n ≤ c.length from hl)]; rfl
theorem Gy {d y n : Nat} {k : IntKind} (h : n ≤ y) : bound d y (some (.int k (n : Int))) = some n := by
 show cond (Nat.ble n y) (some n) none = _
 rw [Ag.2 h]; rfl
theorem Z8 (x : ByteArray) (k : IntKind) {j : Nat} (h : j ≤ (toL x).length) : Fa none (some (.int k (j : Int))) (.string x) = some (.string (ofL ((toL x).take j))) := by
 show ob (bound _ _ _) _ = _
 rw [Gy h]; rfl
theorem Nv (x : ByteArray) (k : IntKind) {i : Nat} (h : i ≤ (toL x).length) : Fa (some (.int k (i : Int))) none (.string x) = some (.string (ofL ((toL x).drop i))) := by
 show ob (bound 0 (toL x).length (some (.int k (i : Int)))) (fun l' => some (Value.string (ofL (((toL x).take (toL x).length).drop l')))) = _
 rw [Gy h, List.take_of_length_le (Nat.le_refl _)]; rfl
theorem VR (x : ByteArray) (k k' : IntKind) {i j : Nat} (hi : i ≤ j) (h : j ≤ (toL x).length) : Fa (some (.int k (i : Int))) (some (.int k' (j : Int))) (.string x) = some (.string (ofL (((toL x).take j).drop i))) := by
 show ob (bound _ _ _) (fun h' => ob (bound 0 h' _) _) = _
 rw [Gy h]
 show ob (bound 0 j _) _ = _
 rw [Gy hi]; rfl
@[simp] theorem callV_f (self : Self) (as : List Value) (s : A8) (g : Nat) (a b : List Value) : EU self as s (.func (.func g) ⟨a⟩ ⟨b⟩) = self (.fn g) (a ++ (as ++ b)) s := (rfl)
@[simp] theorem callV_f0 (self : Self) (as : List Value) (s : A8) (g : Nat) : EU self as s (.func (.func g) #[] #[]) = self (.fn g) as s := by show self (.fn g) ([] ++ (as ++ [])) s = _; simp
theorem Wh {T : MT} {F : Tab} {n f : Nat} {Fi : BM} {args : List Value} {s : A8} (h : F f = some (.code Fi)) : AV T F (n + 1) (.fn f) args s = GK T (AV T F n) n Fi args s := by
 show Oe T (AV T F n) n f args s (F f) = _
 rw [h]; rfl
theorem Wi {T : MT} {F : Tab} {n f : Nat} {p : Prim} {args : List Value} {s : A8} (h : F f = some (.KE p)) : AV T F (n + 1) (.fn f) args s = BD (f + 20000) (II p args s) := by
 show Oe T (AV T F n) n f args s (F f) = _
 rw [h]; rfl
end Go.Im
