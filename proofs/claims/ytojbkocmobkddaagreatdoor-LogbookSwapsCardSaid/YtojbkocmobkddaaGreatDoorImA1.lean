/- The ideal machine: a deterministic reading of the loaded code (data, operations, code), in a form that the kernel reckons fast. -/
import GoSem.Dispatch
import Derived.Lib.AtoiAll
set_option linter.all false
namespace Go.Im
noncomputable section
def UNK : Nat := nat_lit 9223372036854775808
def UNE : Nat := nat_lit 9223372036854775809
inductive Tr (α : Type) where
 | e
 | n (l : Tr α) (v : Option α) (r : Tr α)
section
variable {α : Type}
def Tr.getS (v : Option α) (gl gr : Nat → Option α) (k : Nat) : Option α :=
 Nat.rec v (fun p _ => cond (Nat.beq (Nat.mod p (nat_lit 2)) (nat_lit 0)) (gl (Nat.div p (nat_lit 2))) (gr (Nat.div p (nat_lit 2)))) k
def Tr.get (t : Tr α) : Nat → Option α :=
 Tr.rec (fun _ => none) (fun _ v _ gl gr => Tr.getS v gl gr) t
def Tr.set0 (x : α) (t : Tr α) : Tr α := Tr.rec (.n .e (some x) .e) (fun l _ r _ _ => .n l (some x) r) t
def Tr.setL (f : Tr α → Nat → Tr α) (q : Nat) (t : Tr α) : Tr α := Tr.rec (.n (f .e q) none .e) (fun l v r _ _ => .n (f l q) v r) t
def Tr.setR (f : Tr α → Nat → Tr α) (q : Nat) (t : Tr α) : Tr α := Tr.rec (.n .e none (f .e q)) (fun l v r _ _ => .n l v (f r q)) t
def Tr.setS (x : α) (f : Tr α → Nat → Tr α) (t : Tr α) (k : Nat) : Tr α :=
 Nat.rec (Tr.set0 x t) (fun p _ => cond (Nat.beq (Nat.mod p (nat_lit 2)) (nat_lit 0)) (Tr.setL f (Nat.div p (nat_lit 2)) t) (Tr.setR f (Nat.div p (nat_lit 2)) t)) k
def Tr.setF (x : α) (d : Nat) : Tr α → Nat → Tr α := Nat.rec (fun t _ => t) (fun _ f => Tr.setS x f) d
def Tr.set (t : Tr α) (k : Nat) (x : α) : Tr α := Tr.setF x (Nat.succ k) t k
end
def nth {α : Type} : List α → Nat → Option α
 | [], _ => none
 | a :: _, 0 => some a
 | _ :: l, n + 1 => nth l n
abbrev Env := Tr Value
inductive R (α : Type) where
 | ok (a : α)
 | bad (n : Nat)
 | ch (n : Nat) (k : Fin n → R α)
def R.bind {α β : Type} (x : R α) (f : α → R β) : R β := R.rec f .bad (fun n _ ih => .ch n ih) x
inductive Tgt where
 | fn (f : Nat)
 | yl (l : Nat)
inductive EqK where
 | b | p | i | s | m | f | a (n : Nat)
inductive POp where
 | mv (x : Operand)
 | pick (c a b : Operand)
 | BI (x : Operand)
 | bin (op : BinOp) (x y : Operand)
 | eqs (k : EqK) (t : Nat) (neg : Bool) (x y : Operand)
 | un (op : UnOp) (x : Operand)
 | OJ (k : IntKind) (x : Operand)
 | cstr (x : Operand)
 | mkI (t : Nat) (x : Operand)
 | mkF (fn : Fn) (a b : List Operand)
 | build (z : List Value) (ps : List (Nat × Nat × Operand))
 | Ac (off : Nat) (x : Operand)
 | fld (agg : Bool) (off n : Nat) (x : Operand)
 | CG (n : Nat) (x i : Operand)
 | Dl (len n : Nat) (x i : Operand)
 | idxS (x i : Operand)
 | idxA (agg : Bool) (len n : Nat) (x i : Operand)
 | OL (x : Operand) (lo hi : Option Operand)
 | slArr (len n : Nat) (x : Operand) (lo hi : Option Operand)
 | tas (t : Nat) (z : Value) (ok : Bool) (x : Operand)
 | ext (x : Operand) (i : Nat)
 | lenV (sl : Bool) (x : Operand)
 | capV (x : Operand)
 | mm (mx : Bool) (xs : List Operand)
inductive ROp where
 | ld (x : Operand)
 | ldN (n : Nat) (x : Operand)
 | OM (el n : Nat) (x : Operand) (lo hi mx : Option Operand)
 | bstr (x : Operand)
 | look (z : Value) (ok : Bool) (x i : Operand)
 | lenM (x : Operand)
inductive AOp where
 | alloc (el : Nat) (z : List Value)
 | box (el : Nat) (x : Operand)
 | Dy (el : Nat) (z : List Value) (len : Nat) (ps : List (Nat × Nat × Operand))
 | make (el : Nat) (z : List Value) (by_ : Nat) (l c : Operand)
 | strb (el : Nat) (x : Operand)
 | rngS (x : Operand)
 | mkM
inductive WOp where
 | st (n : Nat) (a x : Operand)
 | app (el : Nat) (n by_ : Nat) (s x : Operand)
 | appz (el : Nat) (n by_ : Nat) (z : List Value) (s x : Operand)
 | cpy (n : Nat) (d x : Operand)
 | nxtS (x : Operand)
 | mset (x i v : Operand)
 | call (f : Operand) (as : List Operand)
 | inv (x : Operand) (m : String) (as : List Operand)
 | no (k : Nat)
inductive IOp where
 | p (o : POp)
 | r (o : ROp)
 | a (o : AOp)
 | w (o : WOp)
structure CW where
 dst : Option Nat
 op : IOp
 guard : Option (Nat × Bool)
inductive AA where
 | skip
 | reg (ops : List CW)
 | DI (ops : List (CW × List Nat)) (rds : List (Nat × List Nat))
 | seq (a b : AA)
 | BG (ks : List Nat) (a b : AA)
 | cond (c : Operand) (a b : AA)
 | block (id : Nat) (a : AA)
 | loop (ks : List Nat) (a : AA)
 | OO (f : Operand) (ps : List Nat) (asg body : AA)
 | exit (id : Nat)
 | ret
 | no (k : Nat)
inductive TY where
 | ret
 | exit (id : Nat)
inductive CQ where
 | cells (c : List Value) (el : Nat) (wr : Bool)
 | iter (s : ByteArray) (pos : Nat)
 | mp (es : List (Value × Value × Nat)) (clock : Nat)
 | loop (st : LoopState) (pend : Option TY) (env : Env) (ps : List Nat) (asg body : AA)
 | dead
structure A8 where
 h : Tr CQ
 nx : Nat
def A8.get (s : A8) (b : Nat) : Option CQ := s.h.get b
def A8.put (s : A8) (b : Nat) (o : CQ) : A8 := ⟨s.h.set b o, s.nx⟩
def A8.new (s : A8) (o : CQ) : A8 := ⟨s.h.set s.nx o, Nat.succ s.nx⟩
def sub (c : List Value) (o n : Nat) : Option (List Value) := cond (Nat.ble (Nat.add o n) c.length) (some ((c.drop o).take n)) none
def splice (c : List Value) (o : Nat) (vs : List Value) : Option (List Value) := cond (Nat.ble (Nat.add o vs.length) c.length) (some (c.take o ++ (vs ++ c.drop (Nat.add o vs.length)))) none
def IL (o n : Nat) : Option CQ → Option (List Value)
 | some (.cells c _ _) => sub c o n
 | _ => none
def ZF (o : Nat) : Option CQ → Option Value
 | some (.cells c _ _) => nth c o
 | _ => none
def A8.rd (s : A8) (b o n : Nat) : Option (List Value) := IL o n (s.get b)
def A8.rd1 (s : A8) (b o : Nat) : Option Value := ZF o (s.get b)
def simple : Value → Bool
 | .agg _ => false
 | .tuple _ => false
 | _ => true
def Ba : List Value → Bool
 | [] => true
 | v :: l => cond (simple v) (Ba l) false
def putCells (s : A8) (b el : Nat) : Option (List Value) → Option A8
 | some c => some (s.put b (.cells c el true))
 | none => none
def Wu (s : A8) (b o : Nat) (vs : List Value) : Option CQ → Option A8
 | some (.cells c el true) => cond (Ba vs) (putCells s b el (splice c o vs)) none
 | _ => none
def A8.wr (s : A8) (b o : Nat) (vs : List Value) : Option A8 := Wu s b o vs (s.get b)
def ob {α β : Type} (x : Option α) (f : α → Option β) : Option β := Option.rec none f x
def ev (env : Env) (x : Operand) : Option Value :=
 Operand.rec (fun t => Tr.get env t) some (fun g => some (.pointer (some ⟨g, nat_lit 0, none⟩))) (fun f => some (.func (.func f) #[] #[])) x
def evs (env : Env) : List Operand → Option (List Value)
 | [] => some []
 | x :: l => ob (ev env x) fun v => ob (evs env l) fun vs => some (v :: vs)
def ev2 {β : Type} (env : Env) (x y : Operand) (f : Value → Value → Option β) : Option β := ob (ev env x) fun a => ob (ev env y) fun b => f a b
def cellsOf : Value → List Value
 | .agg cs => cs.toList
 | v => [v]
def asNat : Value → Option Nat
 | .int _ (.ofNat n) => some n
 | _ => none
def ZG (k : IntKind) (b : Nat) (n : Int) : Int :=
 Int.rec (fun m => cond (Nat.blt m b) n (k.wrap n)) (fun m => cond (Nat.blt m b) n (k.wrap n)) n
def wrapU (k : IntKind) (b : Nat) (n : Int) : Int :=
 Int.rec (fun m => .ofNat (Nat.mod m b)) (fun _ => k.wrap n) n
def BL (k : IntKind) (n : Int) : Int :=
 match k with
 | .i64 => ZG .i64 (nat_lit 9223372036854775808) n
 | .u8 => wrapU .u8 (nat_lit 256) n
 | .i32 => ZG .i32 (nat_lit 2147483648) n
 | .u64 => wrapU .u64 (nat_lit 18446744073709551616) n
 | k => k.wrap n
def ltF : Int → Int → Bool
 | .ofNat a, .ofNat b => Nat.blt a b
 | .negSucc _, .ofNat _ => true
 | .ofNat _, .negSucc _ => false
 | .negSucc a, .negSucc b => Nat.blt b a
def eqF : Int → Int → Bool
 | .ofNat a, .ofNat b => Nat.beq a b
 | .negSucc a, .negSucc b => Nat.beq a b
 | _, _ => false
def eqL : List UInt8 → List UInt8 → Bool
 | [], [] => true
 | a :: l, b :: l' => cond (Nat.beq a.toNat b.toNat) (eqL l l') false
 | _, _ => false
def ltL : List UInt8 → List UInt8 → Bool
 | _, [] => false
 | [], _ :: _ => true
 | a :: l, b :: l' => cond (Nat.blt a.toNat b.toNat) true (cond (Nat.beq a.toNat b.toNat) (ltL l l') false)
def ofL (l : List UInt8) : ByteArray := ⟨⟨l⟩⟩
def toL (s : ByteArray) : List UInt8 := s.data.toList
def decB (s : ByteArray) (pos : Nat) : Option UInt8 → Nat × Nat
 | some b => cond (Nat.blt b.toNat (nat_lit 128)) (b.toNat, nat_lit 1) (Utf8.decode s pos)
 | none => Utf8.decode s pos
def J8 (s : ByteArray) (pos : Nat) : Nat × Nat := decB s pos (nth (toL s) pos)
def J9 : IntKind → IntKind → Bool
 | .i64, .i64 => true
 | .u8, .u8 => true
 | .i32, .i32 => true
 | .u64, .u64 => true
 | a, b => decide (a = b)
def V8 : Value → Value → Bool
 | .bool a, .bool b => a == b
 | .int k a, .int k' b => J9 k k' && eqF a b
 | .string a, .string b => eqL (toL a) (toL b)
 | .pointer none, .pointer none => true
 | .pointer (some ⟨b, o, none⟩), .pointer (some ⟨b', o', none⟩) => Nat.beq b b' && Nat.beq o o'
 | .slice none n c, .slice none n' c' => Nat.beq n n' && Nat.beq c c'
 | .slice (some ⟨b, o, none⟩) n c, .slice (some ⟨b', o', none⟩) n' c' => Nat.beq b b' && Nat.beq o o' && Nat.beq n n' && Nat.beq c c'
 | .map none, .map none => true
 | .map (some a), .map (some b) => Nat.beq a b
 | .nilFunc, .nilFunc => true
 | .nilIface, .nilIface => true
 | _, _ => false
def JA : List Value → List Value → Bool
 | [], [] => true
 | a :: l, b :: l' => V8 a b && JA l l'
 | _, _ => false
def veq : Value → Value → Bool
 | .iface t v, .iface t' v' => Nat.beq t t' && V8 v v'
 | .agg l, .agg l' => JA l.toList l'.toList
 | .tuple l, .tuple l' => JA l.toList l'.toList
 | .func (.func f) l m, .func (.func f') l' m' => Nat.beq f f' && JA l.toList l'.toList && JA m.toList m'.toList
 | a, b => V8 a b
def RZ (op : BinOp) (k : IntKind) (x y : Int) : Option Value :=
 match op with
 | .add => some (.int k (BL k (Int.add x y)))
 | .sub => some (.int k (BL k (Int.sub x y)))
 | .mul => some (.int k (BL k (Int.mul x y)))
 | .quo => cond (eqF y (.ofNat (nat_lit 0))) none (some (.int k (BL k (Int.tdiv x y))))
 | .rem => cond (eqF y (.ofNat (nat_lit 0))) none (some (.int k (Int.tmod x y)))
 | .and => some (.int k (k.wrap (BitVec.ofInt k.bits x &&& BitVec.ofInt k.bits y).toNat))
 | .or => some (.int k (k.wrap (BitVec.ofInt k.bits x ||| BitVec.ofInt k.bits y).toNat))
 | .xor => some (.int k (k.wrap (BitVec.ofInt k.bits x ^^^ BitVec.ofInt k.bits y).toNat))
 | .andNot => some (.int k (k.wrap (BitVec.ofInt k.bits x &&& ~~~(BitVec.ofInt k.bits y)).toNat))
 | .eql => some (.bool (eqF x y))
 | .neq => some (.bool (!(eqF x y)))
 | .lss => some (.bool (ltF x y))
 | .leq => some (.bool (!(ltF y x)))
 | .gtr => some (.bool (ltF y x))
 | .geq => some (.bool (!(ltF x y)))
 | _ => none
def binS (op : BinOp) (x y : ByteArray) : Option Value :=
 match op with
 | .add => cond (Nat.ble (Nat.add (toL x).length (toL y).length) (nat_lit 9223372036854775807)) (some (.string (ofL (toL x ++ toL y)))) none
 | .eql => some (.bool (eqL (toL x) (toL y)))
 | .neq => some (.bool (!(eqL (toL x) (toL y))))
 | .lss => some (.bool (ltL (toL x) (toL y)))
 | .leq => some (.bool (!(ltL (toL y) (toL x))))
 | .gtr => some (.bool (ltL (toL y) (toL x)))
 | .geq => some (.bool (!(ltL (toL x) (toL y))))
 | _ => none
def binN (op : BinOp) (k : IntKind) (a : Int) (k' : IntKind) (b : Int) : Option Value :=
 match op with
 | .shl => if b < 0 then none else some (.int k (k.wrap (a * 2 ^ (min b.toNat k.bits))))
 | .shr => if b < 0 then none else some (.int k (a.fdiv (2 ^ (min b.toNat k.bits))))
 | op => cond (J9 k k') (RZ op k a b) none
def Az (op : BinOp) : Value → Value → Option Value
 | .int k a, .int k' b => binN op k a k' b
 | .string a, .string b => binS op a b
 | _, _ => none
def eqB : Value → Value → Option Bool
 | .bool a, .bool b => some (a == b)
 | _, _ => none
def eqP : Value → Value → Option Bool
 | .pointer none, .pointer b => some b.isNone
 | .pointer (some _), .pointer none => some false
 | _, _ => none
def eqI : Value → Value → Option Bool
 | .nilIface, .nilIface => some true
 | .nilIface, .iface _ _ => some false
 | .iface _ _, .nilIface => some false
 | _, _ => none
def eqSl : Value → Value → Option Bool
 | .slice none _ _, .slice b _ _ => some b.isNone
 | .slice (some _) _ _, .slice none _ _ => some false
 | _, _ => none
def eqM : Value → Value → Option Bool
 | .map none, .map b => some b.isNone
 | .map (some _), .map none => some false
 | _, _ => none
def eqFn : Value → Value → Option Bool
 | .nilFunc, .nilFunc => some true
 | .nilFunc, .func _ _ _ => some false
 | .func _ _ _, .nilFunc => some false
 | _, _ => none
def Gf : Value → Value → Option Bool
 | .int k a, .int k' b => cond (J9 k k') (some (eqF a b)) none
 | .string a, .string b => some (eqL (toL a) (toL b))
 | .bool a, .bool b => some (a == b)
 | _, _ => none
def DX : List Value → List Value → Option Bool
 | [], [] => some true
 | a :: l, b :: l' => ob (Gf a b) fun r => cond r (DX l l') (some false)
 | _, _ => none
def ints : Nat → List Value → Bool
 | 0, [] => true
 | n + 1, .int .i64 _ :: l => ints n l
 | _, _ => false
def eqA (n : Nat) : Value → Value → Option Bool
 | .agg a, .agg b => cond (ints n a.toList && ints n b.toList) (DX a.toList b.toList) none
 | _, _ => none
def JB (k : EqK) (a b : Value) : Option Bool := EqK.rec (eqB a b) (eqP a b) (eqI a b) (eqSl a b) (eqM a b) (eqFn a b) (fun n => eqA n a b) k
def unV (op : UnOp) : Value → Option Value
 | .int k n => match op with
  | .neg => some (.int k (BL k (Int.neg n)))
  | .xor => RZ .xor k (if k.signed then -1 else k.max) n
  | _ => none
 | .bool b => match op with
  | .not => some (.bool (!b))
  | _ => none
 | _ => none
def fill (cells : List Value) : List (Nat × Nat × Value) → Option (List Value)
 | [] => some cells
 | (off, size, v) :: rest => cond (Nat.beq (cellsOf v).length size) (ob (splice cells off (cellsOf v)) fun c => fill c rest) none
def evP (env : Env) : List (Nat × Nat × Operand) → Option (List (Nat × Nat × Value))
 | [] => some []
 | (o, n, x) :: l => ob (ev env x) fun v => ob (evP env l) fun vs => some ((o, n, v) :: vs)
def evO (env : Env) : Option Operand → Option (Option Value)
 | none => some none
 | some x => ob (ev env x) fun v => some (some v)
def bound (d y : Nat) : Option Value → Option Nat
 | none => some d
 | some v => ob (asNat v) fun n => cond (Nat.ble n y) (some n) none
def EX (a : Addr) (n : Nat) : Addr := ⟨a.block, Nat.add a.off n, none⟩
def mm2 (mx : Bool) : Value → Value → Option Value
 | .int k x, .int _ y => some (.int k (cond mx (cond (ltF x y) y x) (cond (ltF y x) y x)))
 | _, _ => none
def mmL (mx : Bool) (x : Value) : List Value → Option Value
 | [] => some x
 | y :: l => ob (mm2 mx x y) fun z => mmL mx z l
def mmA (mx : Bool) : List Value → Option Value
 | x :: l => mmL mx x l
 | [] => none
abbrev MT := List (Nat × String × Nat)
def MT.find (t : Nat) (m : String) : MT → Option Nat
 | [] => none
 | (u, n, f) :: l => cond (Nat.beq u t && decide (n = m)) (some f) (MT.find t m l)
def DN (a b : Option Value) : Value → Option Value
 | .bool t => cond t a b
 | _ => none
def Ak (T : MT) : Value → Option Value
 | .pointer (some a) => some (.pointer (some a))
 | .iface t v => some (.iface t v)
 | .func (.func f) a b => some (.func (.func f) a b)
 | .func (.yield f) a b => some (.func (.yield f) a b)
 | .func (.method m) ⟨[.iface t (.pointer (some a))]⟩ ⟨[]⟩ => ob (T.find t m) fun _ => some (.func (.method m) ⟨[.iface t (.pointer (some a))]⟩ ⟨[]⟩)
 | _ => none
def IQ (k : EqK) (neg : Bool) (a b : Value) : Option Value := ob (JB k a b) fun r => some (.bool (cond neg (!r) r))
def JD (k : IntKind) : Value → Option Value
 | .int _ n => some (.int k (BL k n))
 | _ => none
def Wv : Value → Option Value
 | .string s => some (.string s)
 | _ => none
def AZ (off : Nat) : Value → Option Value
 | .pointer (some a) => some (.pointer (some (EX a off)))
 | _ => none
def Wx (agg : Bool) (off n : Nat) (cs : List Value) : Option Value := cond agg (ob (sub cs off n) fun l => some (.agg ⟨l⟩)) (nth cs off)
def pFld (agg : Bool) (off n : Nat) : Value → Option Value
 | .agg cs => Wx agg off n cs.toList
 | _ => none
def BN (n : Nat) : Value → Value → Option Value
 | .slice (some a) len _, v => ob (asNat v) fun j => cond (Nat.blt j len) (some (.pointer (some (EX a (Nat.mul j n))))) none
 | _, _ => none
def Bo (len n : Nat) : Value → Value → Option Value
 | .pointer (some a), v => ob (asNat v) fun j => cond (Nat.blt j len) (some (.pointer (some (EX a (Nat.mul j n))))) none
 | _, _ => none
def QO : Value → Value → Option Value
 | .string s, v => ob (asNat v) fun j => ob (nth (toL s) j) fun b => some (.int .u8 (.ofNat b.toNat))
 | _, _ => none
def ZH (agg : Bool) (len n : Nat) : Value → Value → Option Value
 | .agg cs, v => ob (asNat v) fun j => cond (Nat.blt j len) (Wx agg (Nat.mul j n) n cs.toList) none
 | _, _ => none
def JE (l h : Option Value) : Value → Option Value
 | .string s => ob (bound (toL s).length (toL s).length h) fun h' => ob (bound (nat_lit 0) h' l) fun l' => some (.string (ofL (((toL s).take h').drop l')))
 | _ => none
def slAt (a : Addr) (n l h m c : Nat) : Value := .slice (some (cond (Nat.beq m l) a (EX a (Nat.mul l n)))) (Nat.sub h l) c
def Rf (len n : Nat) (l h : Option Value) : Value → Option Value
 | .pointer (some a) => ob (bound len len h) fun h' => ob (bound (nat_lit 0) h' l) fun l' => some (slAt a n l' h' len (Nat.sub len l'))
 | _ => none
def pTas (t : Nat) (z : Value) (ok : Bool) : Value → Option Value
 | .iface u v => cond (Nat.beq u t) (some (cond ok (.tuple ⟨[v, .bool true]⟩) v)) (cond ok (some (.tuple ⟨[z, .bool false]⟩)) none)
 | .nilIface => cond ok (some (.tuple ⟨[z, .bool false]⟩)) none
 | _ => none
def pExt (i : Nat) : Value → Option Value
 | .tuple vs => nth vs.toList i
 | _ => none
def NI : Value → Option Value
 | .string s => some (.int .i64 (.ofNat (toL s).length))
 | _ => none
def Ce : Value → Option Value
 | .slice _ n _ => some (.int .i64 (.ofNat n))
 | _ => none
def pCap : Value → Option Value
 | .slice _ _ c => cond (Nat.blt c UNK) (some (.int .i64 (.ofNat c))) none
 | _ => none
def QS (T : MT) (env : Env) (o : POp) : Option Value :=
 POp.rec (motive := fun _ => Option Value)
  (ev env)
  (fun c a b => ob (ev env c) (DN (ev env a) (ev env b)))
  (fun x => ob (ev env x) (Ak T))
  (fun op x y => ev2 env x y (Az op))
  (fun k _ neg x y => ev2 env x y (IQ k neg))
  (fun op x => ob (ev env x) (unV op))
  (fun k x => ob (ev env x) (JD k))
  (fun x => ob (ev env x) Wv)
  (fun t x => ob (ev env x) fun v => some (.iface t v))
  (fun fn a b => ob (evs env a) fun u => ob (evs env b) fun v => some (.func fn ⟨u⟩ ⟨v⟩))
  (fun z ps => ob (evP env ps) fun l => ob (fill z l) fun c => some (.agg ⟨c⟩))
  (fun off x => ob (ev env x) (AZ off))
  (fun agg off n x => ob (ev env x) (pFld agg off n))
  (fun n x i => ev2 env x i (BN n))
  (fun len n x i => ev2 env x i (Bo len n))
  (fun x i => ev2 env x i QO)
  (fun agg len n x i => ev2 env x i (ZH agg len n))
  (fun x lo hi => ob (evO env lo) fun l => ob (evO env hi) fun h => ob (ev env x) (JE l h))
  (fun len n x lo hi => ob (evO env lo) fun l => ob (evO env hi) fun h => ob (ev env x) (Rf len n l h))
  (fun t z ok x => ob (ev env x) (pTas t z ok))
  (fun x i => ob (ev env x) (pExt i))
  (fun sl x => ob (ev env x) fun v => cond sl (Ce v) (NI v))
  (fun x => ob (ev env x) pCap)
  (fun mx xs => ob (evs env xs) (mmA mx))
  o
def bytesOf : List Value → Option (List UInt8)
 | [] => some []
 | .int .u8 n :: l => ob (bytesOf l) fun bs => some (UInt8.ofNat n.toNat :: bs)
 | _ => none
def keq : Value → Value → Option Bool
 | .agg a, .agg b => DX a.toList b.toList
 | a, b => Gf a b
def ZI (k : Value) : List (Value × Value × Nat) → Option (Option Value)
 | [] => some none
 | (k', v, _) :: l => ob (keq k k') fun r => cond r (some (some v)) (ZI k l)
def mput (k v : Value) : List (Value × Value × Nat) → List (Value × Value × Nat)
 | [] => []
 | (k', v', b) :: l => match keq k k' with
  | some true => (k', v, b) :: l
  | _ => (k', v', b) :: mput k v l
def rLd (s : A8) : Value → Option Value
 | .pointer (some a) => s.rd1 a.block a.off
 | _ => none
def DT (s : A8) (n : Nat) : Value → Option Value
 | .pointer (some a) => ob (s.rd a.block a.off n) fun l => some (.agg ⟨l⟩)
 | _ => none
def Gu (a : Addr) (n len cap : Nat) (l h m : Option Value) : Option Value :=
 ob (bound cap cap m) fun m' => ob (bound len m' h) fun h' => ob (bound (nat_lit 0) h' l) fun l' => some (slAt a n l' h' m' (Nat.sub m' l'))
def OQ (a : Addr) (n len k : Nat) (l h : Option Value) : Option Value → Option Value
 | some v => ob (asNat v) fun m' => cond (Nat.ble (Nat.add a.off (Nat.mul m' n)) k) (cond (Nat.blt m' UNK) (Gu a n len m' l h none) none) none
 | none => ob (bound len (Nat.div (Nat.sub k a.off) n) h) fun h' => ob (bound (nat_lit 0) h' l) fun l' =>
  cond (Nat.beq l' (nat_lit 0)) (some (.slice (some a) h' UNK))
   (cond (Nat.blt (Nat.add a.off (Nat.mul l' n)) k) (some (.slice (some (EX a (Nat.mul l' n))) (Nat.sub h' l') UNK))
    (cond (Nat.beq h' l') (some (.slice (some ⟨nat_lit 0, nat_lit 0, none⟩) (nat_lit 0) UNE)) none))
def QT (a : Addr) (el n len : Nat) (l h m : Option Value) : Option CQ → Option Value
 | some (.cells c e _) => cond (Nat.beq e el) (OQ a n len c.length l h m) none
 | _ => none
def rSl (s : A8) (el n : Nat) (l h m : Option Value) : Value → Option Value
 | .slice none _ _ => match m with
  | none => ob (bound (nat_lit 0) (nat_lit 0) h) fun _ => ob (bound (nat_lit 0) (nat_lit 0) l) fun _ => some (.slice none (nat_lit 0) (nat_lit 0))
  | some v => ob (asNat v) fun k => cond (Nat.beq k (nat_lit 0)) (ob (bound (nat_lit 0) (nat_lit 0) h) fun _ => ob (bound (nat_lit 0) (nat_lit 0) l) fun _ => some (.slice none (nat_lit 0) (nat_lit 0))) none
 | .slice (some a) len cap => cond (Nat.blt cap UNK) (Gu a n len cap l h m) (cond (Nat.beq cap UNE) none (QT a el n len l h m (s.get a.block)))
 | _ => none
def QU (s : A8) : Value → Option Value
 | .slice none _ _ => some (.string (ofL []))
 | .slice (some a) len _ => ob (s.rd a.block a.off len) fun l => ob (bytesOf l) fun bs => some (.string (ofL bs))
 | _ => none
def lookZ (z : Value) (ok : Bool) : Option Value → Value
 | some v => cond ok (.tuple ⟨[v, .bool true]⟩) v
 | none => cond ok (.tuple ⟨[z, .bool false]⟩) z
def lookM (z : Value) (ok : Bool) (k : Value) : Option CQ → Option Value
 | some (.mp es _) => ob (ZI k es) fun r => some (lookZ z ok r)
 | _ => none
def QV (s : A8) (z : Value) (ok : Bool) : Value → Value → Option Value
 | .map none, _ => some (lookZ z ok none)
 | .map (some r), k => lookM z ok k (s.get r)
 | _, _ => none
def lenMp : Option CQ → Option Value
 | some (.mp es _) => some (.int .i64 (.ofNat es.length))
 | _ => none
def Wy (s : A8) : Value → Option Value
 | .map none => some (.int .i64 (.ofNat (nat_lit 0)))
 | .map (some r) => lenMp (s.get r)
 | _ => none
def Iz (env : Env) (s : A8) (o : ROp) : Option Value :=
 ROp.rec (motive := fun _ => Option Value)
  (fun x => ob (ev env x) (rLd s))
  (fun n x => ob (ev env x) (DT s n))
  (fun el n x lo hi mx => ob (evO env lo) fun l => ob (evO env hi) fun h => ob (evO env mx) fun m => ob (ev env x) (rSl s el n l h m))
  (fun x => ob (ev env x) (QU s))
  (fun z ok x i => ev2 env x i (QV s z ok))
  (fun x => ob (ev env x) (Wy s))
  o
def zeros (z : List Value) : Nat → List Value
 | 0 => []
 | n + 1 => z ++ zeros z n
def ptrTo (b : Nat) : Value := .pointer (some ⟨b, nat_lit 0, none⟩)
def Bv (len cap b : Nat) : Value := .slice (some ⟨b, nat_lit 0, none⟩) len cap
def ZJ (el : Nat) (z : List Value) (by_ : Nat) : Value → Value → Option (CQ × (Nat → Value))
 | .int .i64 (.ofNat l), .int .i64 (.ofNat c) =>
  cond (Nat.ble l c && Nat.ble (Nat.mul c by_) (nat_lit 140737488355328) && Nat.blt c UNK) (some (.cells (zeros z c) el true, Bv l c)) none
 | _, _ => none
def DJ (l : List UInt8) : List Value := l.map fun b => .int .u8 (.ofNat b.toNat)
def Tc (el : Nat) : Value → Option (CQ × (Nat → Value))
 | .string s => some (.cells (DJ (toL s)) el true, Bv (toL s).length UNK)
 | _ => none
def Td : Value → Option (CQ × (Nat → Value))
 | .string s => some (.iter s (nat_lit 0), ptrTo)
 | _ => none
def OT (env : Env) (o : AOp) : Option (CQ × (Nat → Value)) :=
 AOp.rec (motive := fun _ => Option (CQ × (Nat → Value)))
  (fun el z => some (.cells z el true, ptrTo))
  (fun el x => ob (ev env x) fun v => some (.cells (cellsOf v) el true, ptrTo))
  (fun el z len ps => ob (evP env ps) fun l => ob (fill (zeros z len) l) fun c => some (.cells c el true, Bv len len))
  (fun el z by_ l c => ev2 env l c (ZJ el z by_))
  (fun el x => ob (ev env x) (Tc el))
  (fun x => ob (ev env x) Td)
  (some (.mp [] (nat_lit 0), fun b => .map (some b)))
  o
def BX : Value := .tuple ⟨[]⟩
def Cc (s : A8) (n : Nat) : Value → Option (List Value)
 | .slice none _ _ => some []
 | .slice (some a) len _ => s.rd a.block a.off (Nat.mul len n)
 | .string t => cond (Nat.beq n (nat_lit 1)) (some (DJ (toL t))) none
 | _ => none
def wSt (s : A8) (n : Nat) (v : Value) : Value → Option (Value × A8)
 | .pointer (some p) => cond (Nat.beq (cellsOf v).length n) (ob (s.wr p.block p.off (cellsOf v)) fun s' => some (BX, s')) none
 | _ => none
def Dc (s : A8) (el need : Nat) (old news : List Value) : Value × A8 := (.slice (some ⟨s.nx, nat_lit 0, none⟩) need UNK, s.new (.cells (old ++ news) el true))
def Ju (s : A8) (a : Addr) (n len cap need : Nat) (news : List Value) : Option (Value × A8) :=
 ob (s.wr a.block (Nat.add a.off (Nat.mul len n)) news) fun s' => some (.slice (some a) need cap, s')
def MG (s : A8) (a : Addr) (el n len need : Nat) (news : List Value) : Option CQ → Option (Value × A8)
 | some (.cells c e true) => cond (Nat.beq e el) (cond (Nat.ble (Nat.add a.off (Nat.mul need n)) c.length) (Ju s a n len UNK need news)
  (cond (Ba news) (ob (sub c a.off (Nat.mul len n)) fun old => some (Dc (s.put a.block .dead) el need old news)) none)) none
 | _ => none
def J4 (s : A8) (el n len cap m need : Nat) (news : List Value) : Option Addr → Option (Value × A8)
 | none => cond (Nat.beq m (nat_lit 0)) (some (.slice none (nat_lit 0) (nat_lit 0), s)) (some (Dc s el m [] news))
 | some a => cond (Nat.blt cap UNK)
  (cond (Nat.ble need cap) (Ju s a n len cap need news) (ob (s.rd a.block a.off (Nat.mul len n)) fun old => some (Dc s el need old news)))
  (cond (Nat.beq cap UNE) none (MG s a el n len need news (s.get a.block)))
def Ei (s : A8) (el n by_ : Nat) (news : List Value) : Value → Option (Value × A8)
 | .slice base len cap =>
  cond (Nat.beq n (nat_lit 0)) none
   (cond (Nat.ble (Nat.mul (Nat.add len (Nat.div news.length n)) by_) (nat_lit 140737488355328) && Nat.blt (Nat.add len (Nat.div news.length n)) UNK)
    (J4 s el n len cap (Nat.div news.length n) (Nat.add len (Nat.div news.length n)) news base) none)
 | _ => none
def Df (s : A8) (el n by_ : Nat) (v x : Value) : Option (Value × A8) := ob (Cc s n x) fun news => Ei s el n by_ news v
def ZK (s : A8) (el n by_ : Nat) (z : List Value) (v : Value) : Value → Option (Value × A8)
 | .int .i64 (.ofNat m) => cond (Nat.ble (Nat.mul m by_) (nat_lit 140737488355328)) (Ei s el n by_ (zeros z m) v) none
 | _ => none
def cpyTo (s : A8) (n k : Nat) (cs : List Value) : Option Addr → Option (Value × A8)
 | none => some (.int .i64 (.ofNat (nat_lit 0)), s)
 | some a => ob (s.wr a.block a.off (cs.take (Nat.mul k n))) fun s' => some (.int .i64 (.ofNat k), s')
def minN (a b : Nat) : Nat := cond (Nat.ble a b) a b
def wCpy (s : A8) (n : Nat) (x : Value) : Value → Option (Value × A8)
 | .slice base dl _ => ob (Cc s n x) fun cs => cond (Nat.beq n (nat_lit 0)) none (cpyTo s n (minN (Nat.div cs.length n) dl) cs base)
 | _ => none
def Tf (s : A8) (b : Nat) : Option CQ → Option (Value × A8)
 | some (.iter t pos) => cond (Nat.blt pos (toL t).length)
  (some (.tuple ⟨[.bool true, .int .i64 (.ofNat pos), .int .i32 (.ofNat (J8 t pos).1)]⟩, s.put b (.iter t (Nat.add pos (J8 t pos).2))))
  (some (.tuple ⟨[.bool false]⟩, s))
 | _ => none
def Ti (s : A8) : Value → Option (Value × A8)
 | .pointer (some a) => cond (Nat.beq a.off (nat_lit 0)) (Tf s a.block (s.get a.block)) none
 | _ => none
def msetR (s : A8) (r : Nat) (k u : Value) (es : List (Value × Value × Nat)) (cl : Nat) : Option Value → Value × A8
 | some _ => (BX, s.put r (.mp (mput k u es) cl))
 | none => (BX, s.put r (.mp (es ++ [(k, u, cl)]) (Nat.succ cl)))
def msetO (s : A8) (r : Nat) (k u : Value) : Option CQ → Option (Value × A8)
 | some (.mp es cl) => ob (ZI k es) fun x => some (msetR s r k u es cl x)
 | _ => none
def wMset (s : A8) (k u : Value) : Value → Option (Value × A8)
 | .map (some r) => msetO s r k u (s.get r)
 | _ => none
abbrev Self := Tgt → List Value → A8 → R (Value × A8)
def Dj (self : Self) (as : List Value) (s : A8) : Value → R (Value × A8)
 | .func (.func g) a b => self (.fn g) (a.toList ++ (as ++ b.toList)) s
 | .func (.yield l) a _ => self (.yl l) (a.toList ++ as) s
 | _ => .bad 1
def invV (T : MT) (self : Self) (m : String) (as : List Value) (s : A8) : Value → R (Value × A8)
 | .iface t (.pointer (some a)) => match T.find t m with
  | some f => self (.fn f) (.pointer (some a) :: as) s
  | none => .bad 2
 | _ => .bad 3
def Aw {α : Type} (n : Nat) (x : Option α) : R α := Option.rec (.bad n) .ok x
def obR {α β : Type} (n : Nat) (x : Option α) (f : α → R β) : R β := Option.rec (.bad n) f x
def Rh (T : MT) (self : Self) (env : Env) (s : A8) (o : WOp) : R (Value × A8) :=
 WOp.rec (motive := fun _ => R (Value × A8))
  (fun n a x => Aw 11 (ev2 env x a (wSt s n)))
  (fun el n by_ sl x => Aw 12 (ev2 env sl x (Df s el n by_)))
  (fun el n by_ z sl x => Aw 13 (ev2 env sl x (ZK s el n by_ z)))
  (fun n d x => Aw 14 (ev2 env x d (wCpy s n)))
  (fun x => Aw 15 (ob (ev env x) (Ti s)))
  (fun x i v => Aw 16 (ev2 env i v fun k u => ob (ev env x) (wMset s k u)))
  (fun f as => obR 17 (ev env f) fun g => obR 18 (evs env as) fun vs => Dj self vs s g)
  (fun x m as => obR 19 (ev env x) fun g => obR 20 (evs env as) fun vs => invV T self m vs s g)
  (fun k => .bad (k + 2000))
  o
def okS (s : A8) (v : Value) : R (Value × A8) := .ok (v, s)
def MH (T : MT) (self : Self) (env : Env) (s : A8) (op : IOp) : R (Value × A8) :=
 IOp.rec (motive := fun _ => R (Value × A8))
  (fun o => obR 21 (QS T env o) (okS s))
  (fun o => obR 22 (Iz env s o) (okS s))
  (fun o => obR 23 (OT env o) fun r => .ok (r.2 s.nx, s.new r.1))
  (Rh T self env s)
  op
def BM (b : Bool) : Option Value → Option Bool
 | some (.bool c) => some (c == b)
 | some (.tuple _) => some false
 | _ => none
def want (env : Env) : Option (Nat × Bool) → Option Bool
 | none => some true
 | some (g, b) => BM b (Tr.get env g)
def Env.put (env : Env) (v : Value) (d : Option Nat) : Env := Option.rec env (fun t => Tr.set env t v) d
def stepW (T : MT) (self : Self) (env : Env) (s : A8) (op : IOp) : Option Bool → R (Value × A8)
 | some true => MH T self env s op
 | some false => .ok (BX, s)
 | none => .bad 24
def Jv (T : MT) (self : Self) (env : Env) (s : A8) (o : CW) : R (Value × A8) := stepW T self env s o.op (want env o.guard)
def V9 {β : Type} (T : MT) (self : Self) (ops : List CW) : Env → A8 → (Env → A8 → R β) → R β :=
 List.rec (motive := fun _ => Env → A8 → (Env → A8 → R β) → R β)
  (fun env s K => K env s)
  (fun o _ ih env s K => R.rec (motive := fun _ => R β) (fun r => ih (Env.put env r.1 o.dst) r.2 K) .bad (fun n _ ih => .ch n ih) (Jv T self env s o)) ops
def AL {α β : Type} (x : R α) (f : α → R β) : R β := R.rec f .bad (fun _ _ _ => .bad 25) x
def Env.keep (env : Env) : List Nat → Env
 | [] => .e
 | k :: l => Option.rec (Env.keep env l) (fun v => Tr.set (Env.keep env l) k v) (Tr.get env k)
structure Rec where
 s : A8
 env : Env
 v : Value
def O9 {β : Type} (T : MT) (self : Self) (ops : List (CW × List Nat)) : Env → A8 → List Rec → (Env → A8 → List Rec → R β) → R β :=
 List.rec (motive := fun _ => Env → A8 → List Rec → (Env → A8 → List Rec → R β) → R β)
  (fun env s acc K => K env s acc)
  (fun o _ ih env s acc K => R.rec (motive := fun _ => R β) (fun r => cond (Nat.ble s.nx r.2.nx) (ih (Env.put env r.1 o.1.dst) r.2 (⟨s, Env.keep env o.2, r.1⟩ :: acc) K) (.bad 43)) .bad (fun _ _ _ => .bad 25) (Jv T self (Env.keep env o.2) s o.1)) ops
def OU : Value → Option Nat
 | .pointer (some a) => some a.block
 | .slice (some a) _ _ => some a.block
 | .map (some r) => some r
 | _ => none
def KG (o : ROp) : Operand := ROp.rec (fun x => x) (fun _ x => x) (fun _ _ x _ _ _ => x) (fun x => x) (fun _ _ x _ => x) (fun x => x) o
def rdOld (s : A8) : Option Nat → Bool
 | some b => Nat.blt b s.nx
 | none => true
def IU (s : A8) : Option Value → Bool
 | some v => rdOld s (OU v)
 | none => false
def Hl (env : Env) (s : A8) (v : Value) : IOp → Bool
 | .r o => cond (IU s (ev env (KG o))) (match Iz env s o with
  | some v' => veq v v'
  | none => false) false
 | _ => false
def stateAt (h : List Rec) (s' : A8) (w : Nat) : A8 := match nth h w with
 | some r => r.s
 | none => s'
def Ri (h : List Rec) (s' : A8) (r : Rec) (o : IOp) : List Nat → Bool
 | [] => true
 | w :: l => cond (Hl r.env (stateAt h s' w) r.v o && Hl r.env (stateAt h s' (Nat.succ w)) r.v o) (Ri h s' r o l) false
def chkW (h : List Rec) (s' : A8) (r : Rec) (o : IOp) (ws : List Nat) : Option Bool → Bool
 | some true => Ri h s' r o ws
 | some false => true
 | none => false
def chkO (h : List Rec) (s' : A8) (ws : List Nat) : Option Rec → Option (CW × List Nat) → Bool
 | some r, some o => chkW h s' r o.1.op ws (want r.env o.1.guard)
 | _, _ => false
def IV (h : List Rec) (s' : A8) (ops : List (CW × List Nat)) : List (Nat × List Nat) → Bool
 | [] => true
 | (j, ws) :: l => cond (chkO h s' ws (nth h j) (nth ops j)) (IV h s' ops l) false
inductive Ex where
 | normal
 | ret
 | exit (id : Nat)
abbrev Kt (β : Type) := Ex → Env → A8 → R β
abbrev Xc (β : Type) := Env → A8 → Kt β → R β
section
variable {β : Type}
def AQ (next : Env → A8 → R β) (K : Kt β) (e : Ex) (env : Env) (s : A8) : R β := Ex.rec (next env s) (K .ret env s) (fun id => K (.exit id) env s) e
def xReg (T : MT) (self : Self) (ops : List CW) : Xc β := fun env s K => V9 T self ops env s (K .normal)
def xRegD (T : MT) (self : Self) (ops : List (CW × List Nat)) (rds : List (Nat × List Nat)) : Xc β := fun env s K =>
 O9 T self ops env s [] fun env' s' h => cond (IV h.reverse s' ops rds) (K .normal env' s') (.bad 26)
def xSeq (a b : Xc β) : Xc β := fun env s K => a env s (AQ (fun env' s' => b env' s' K) K)
def xSeqK (ks : List Nat) (a b : Xc β) : Xc β := fun env s K => a env s (AQ (fun env' s' => b (Env.keep env' ks) s' K) K)
def Bl (x y : R β) : Option Value → R β
 | some (.bool t) => cond t x y
 | _ => .bad 27
def xCond (c : Operand) (a b : Xc β) : Xc β := fun env s K => Bl (a env s K) (b env s K) (ev env c)
def AO (id : Nat) (K : Kt β) (e : Ex) (env : Env) (s : A8) : R β :=
 Ex.rec (K .normal env s) (K .ret env s) (fun id' => cond (Nat.beq id' id) (K .normal env s) (K (.exit id') env s)) e
def xBlock (id : Nat) (a : Xc β) : Xc β := fun env s K => a env s (AO id K)
def Ai (a : Xc β) (ks : List Nat) (n : Nat) : Xc β :=
 Nat.rec (motive := fun _ => Xc β) (fun _ _ _ => .bad 28) (fun _ ih env s K => a env s (AQ (fun env' s' => ih (Env.keep env' ks) s' K) K)) n
def pendK (K : Kt β) (env : Env) (s : A8) : Option TY → R β
 | none => K .normal env s
 | some .ret => K .ret env s
 | some (.exit id) => K (.exit id) env s
def endLoop (K : Kt β) (env : Env) (s : A8) (l : Nat) : Option CQ → R β
 | some (.loop .busy _ _ _ _ _) => .bad 29
 | some (.loop _ p env' ps asg body) => pendK K env (s.put l (.loop .exhausted p env' ps asg body)) p
 | _ => .bad 30
def X0 (self : Self) (as : List Value) (s : A8) : Value → R (Value × A8)
 | .func (.func g) a b => self (.fn g) (a.toList ++ (as ++ b.toList)) s
 | _ => .bad 1
def xRange (self : Self) (f : Operand) (ps : List Nat) (asg body : AA) : Xc β := fun env s K =>
 obR 31 (ev env f) fun g => (X0 self [.func (.yield s.nx) ⟨[]⟩ ⟨[]⟩] (s.new (.loop .ready none env ps asg body)) g).bind fun r => endLoop K env r.2 s.nx (r.2.get s.nx)
def exec (T : MT) (self : Self) (N : Nat) (c : AA) : Xc β :=
 AA.rec (motive := fun _ => Xc β)
  (fun env s K => K .normal env s)
  (xReg T self)
  (xRegD T self)
  (fun _ _ a b => xSeq a b)
  (fun ks _ _ a b => xSeqK ks a b)
  (fun c _ _ a b => xCond c a b)
  (fun id _ a => xBlock id a)
  (fun ks _ a env s K => Ai a ks N (Env.keep env ks) s K)
  (fun f ps asg body _ _ => xRange self f ps asg body)
  (fun id env s K => K (.exit id) env s)
  (fun env s K => K .ret env s)
  (fun k _ _ _ => .bad (k + 1000))
  c
end
inductive IRes where
 | tmp (t : Nat)
 | cell (t : Nat)
 | cells (t : Nat) (n : Nat)
structure BH where
 np : Nat
 res : List IRes
 body : AA
def VA (env : Env) (s : A8) : IRes → Option Value
 | .tmp t => Tr.get env t
 | .cell t => ob (Tr.get env t) (rLd s)
 | .cells t n => ob (Tr.get env t) (DT s n)
def Ho (env : Env) (s : A8) : List IRes → Option (List Value)
 | [] => some []
 | r :: l => ob (VA env s r) fun v => ob (Ho env s l) fun vs => some (v :: vs)
def D9 : List Value → Value
 | [v] => v
 | l => .tuple ⟨l⟩
def Ap : List Value → Nat → Env → Env
 | [], _, env => env
 | v :: l, i, env => Ap l (Nat.succ i) (Tr.set env i v)
def AP (F : BH) (e : Ex) (env : Env) (s : A8) : R (Value × A8) :=
 Ex.rec (obR 32 (Ho env s F.res) fun vs => .ok (D9 vs, s)) (obR 33 (Ho env s F.res) fun vs => .ok (D9 vs, s)) (fun _ => .bad 34) e
def EO (T : MT) (self : Self) (N : Nat) (F : BH) (args : List Value) (s : A8) : R (Value × A8) :=
 cond (Nat.beq args.length F.np) (exec T self N F.body (Ap args (nat_lit 0) .e) s (AP F)) (.bad 35)
def IW (env : Env) : List Nat → List Value → Option Env
 | [], [] => some env
 | t :: l, v :: vs => IW (Tr.set env t v) l vs
 | _, _ => none
def endRound (l : Nat) (e : Ex) (s : A8) : Option CQ → R (Value × A8)
 | some (.loop .busy _ env ps asg body) => Ex.rec (.ok (.bool true, s.put l (.loop .ready none env ps asg body)))
  (.ok (.bool false, s.put l (.loop .done (some .ret) env ps asg body)))
  (fun id => .ok (.bool false, s.put l (.loop .done (some (.exit id)) env ps asg body))) e
 | _ => .bad 36
def Gg (T : MT) (self : Self) (N l : Nat) (X3 : AA) (JC : Env) (s : A8) : Option CQ → R (Value × A8)
 | some (.loop .ready p env ps asg body) => exec T self N X3 JC (s.put l (.loop .busy p env ps asg body)) fun e _ s3 => endRound l e s3 (s3.get l)
 | _ => .bad 37
def OV (T : MT) (self : Self) (N l : Nat) (args : List Value) (s : A8) : Option CQ → R (Value × A8)
 | some (.loop .ready _ env ps asg body) => obR 38 (IW env ps args) fun Nu => exec T self N asg Nu s
  (AQ (fun JC s2 => Gg T self N l body JC s2 (s2.get l)) (fun _ _ _ => .bad 39))
 | _ => .bad 40
def GX (T : MT) (self : Self) (N : Nat) (l : Nat) (args : List Value) (s : A8) : R (Value × A8) := OV T self N l args s (s.get l)
inductive Prim where
 | itoa | atoi (el : Nat) | split (el : Nat) | join | idxb | bwrite | iK | works
def Nv (fuel : Nat) : Nat → List UInt8 → List UInt8 :=
 Nat.rec (fun _ acc => acc) (fun _ ih n acc => cond (Nat.blt n (nat_lit 10)) (UInt8.ofNat (Nat.add (nat_lit 48) n) :: acc) (ih (Nat.div n (nat_lit 10)) (UInt8.ofNat (Nat.add (nat_lit 48) (Nat.mod n (nat_lit 10))) :: acc))) fuel
def F6 : Int → List UInt8
 | .ofNat n => Nv (nat_lit 20) n []
 | .negSucc n => 45 :: Nv (nat_lit 20) (Nat.succ n) []
def FP : List UInt8 → Nat → Nat → Int
 | [], _, _ => .negSucc (nat_lit 0)
 | b :: l, c, i => cond (Nat.beq b.toNat c) (.ofNat i) (FP l c (Nat.succ i))
def pushB (b : UInt8) : List (List UInt8) → List (List UInt8)
 | p :: r => (b :: p) :: r
 | [] => [[b]]
def BF (c : UInt8) : List UInt8 → List (List UInt8)
 | [] => [[]]
 | b :: l => cond (Nat.beq b.toNat c.toNat) ([] :: BF c l) (pushB b (BF c l))
def Gh (sep : List UInt8) : List (List UInt8) → List UInt8
 | [] => []
 | [p] => p
 | p :: l => p ++ (sep ++ Gh sep l)
def textsOf : List Value → Option (List (List UInt8))
 | [] => some []
 | .string t :: l => ob (textsOf l) fun ts => some (toL t :: ts)
 | _ => none
def strOf (l : List UInt8) : Value := .string (ofL l)
def Ej (l : List UInt8) : Int × Bool :=
 match Lib.atoiAll l with
 | .ok n => (n, false)
 | .range => (Lib.atoiSat l, true)
 | _ => (0, true)
def JF : List (List UInt8) → Nat
 | [] => nat_lit 0
 | l :: r => Nat.add l.length (Nat.succ (JF r))
def kindsL : List Value := [strOf [98, 111, 119, 108], strOf [99, 97, 112], strOf [110, 101, 101, 100, 108, 101], strOf [112, 105, 118, 111, 116]]
def Rj : Option CQ → Bool
 | some (.cells [.slice (some ⟨b, o, none⟩) n c] el false) => Nat.beq b (nat_lit 9) && Nat.beq o (nat_lit 0) && Nat.beq n (nat_lit 4) && Nat.beq c (nat_lit 4) && Nat.beq el (nat_lit 22)
 | _ => false
def Rk : Option CQ → Bool
 | some (.cells l el false) => JA l kindsL && Nat.beq el (nat_lit 9)
 | _ => false
def Ku (s : A8) : Bool := Rj (s.get (nat_lit 0)) && Rk (s.get (nat_lit 9))
def ZL : Int → Bool
 | .ofNat n => Nat.blt n (nat_lit 9223372036854775808)
 | .negSucc n => Nat.blt n (nat_lit 9223372036854775808)
def I5 (p : Prim) (args : List Value) (s : A8) : Option (Value × A8) :=
 match p, args with
 | .itoa, [.int .i64 n] => cond (ZL n) (some (strOf (F6 n), s)) none
 | .atoi t, [.string x] => cond (Nat.ble (toL x).length (nat_lit 281474976710656)) (match Ej (toL x) with
  | (n, false) => some (.tuple ⟨[.int .i64 n, .nilIface]⟩, s)
  | (n, true) => some (.tuple ⟨[.int .i64 n, .iface t (.pointer (some ⟨s.nx, nat_lit 0, none⟩))]⟩, s.new .dead)) none
 | .split el, [.string x, .string ⟨⟨[c]⟩⟩] => cond (Nat.blt (toL x).length (nat_lit 4294967281))
  (some (Bv (BF c (toL x)).length (BF c (toL x)).length s.nx, s.new (.cells ((BF c (toL x)).map strOf) el true))) none
 | .join, [.slice base len cap, .string sep] => match base with
  | none => some (strOf [], s)
  | some a => cond (Nat.ble len cap) (ob (s.rd a.block a.off len) fun l => ob (textsOf l) fun ts => cond (Nat.blt (Nat.add (JF ts) (Nat.mul len (toL sep).length)) (nat_lit 1000000000)) (some (strOf (Gh (toL sep) ts), s)) none) none
 | .idxb, [.string x, .int .u8 (.ofNat c)] => cond (Nat.blt c (nat_lit 256)) (some (.int .i64 (FP (toL x) c (nat_lit 0)), s)) none
 | .bwrite, [.pointer (some a), .string x] => ob (s.rd1 a.block (Nat.succ a.off)) fun v => ob (Ei s 5 1 1 (DJ (toL x)) v) fun r =>
  ob (r.2.wr a.block (Nat.succ a.off) [r.1]) fun s'' => some (.tuple ⟨[.int .i64 (.ofNat (toL x).length), .nilIface]⟩, s'')
 | .iK, [.pointer (some a)] => match s.rd1 a.block (Nat.succ a.off) with
  | some (.slice (some b) n _) => ob (s.rd b.block b.off n) fun l => ob (bytesOf l) fun bs => some (strOf bs, s.put b.block .dead)
  | some _ => some (strOf [], s)
  | none => none
 | .works, [] => cond (Ku s) (some (.bool true, s)) none
 | _, _ => none
inductive TE where
 | code (F : BH)
 | JG (p : Prim)
abbrev Tab := Nat → Option TE
def OW (T : MT) (self : Self) (N f : Nat) (args : List Value) (s : A8) : Option TE → R (Value × A8)
 | some (.code F) => EO T self N F args s
 | some (.JG p) => Aw (f + 20000) (I5 p args s)
 | none => .bad (f + 10000)
def callT (T : MT) (F : Tab) (self : Self) (N : Nat) (t : Tgt) (args : List Value) (s : A8) : R (Value × A8) :=
 Tgt.rec (fun f => OW T self N f args s (F f)) (fun l => GX T self N l args s) t
def AU (T : MT) (F : Tab) (n : Nat) : Self :=
 Nat.rec (motive := fun _ => Self) (fun _ _ _ => .bad 41) (fun m ih t args s => callT T F ih m t args s) n
end
end Go.Im
