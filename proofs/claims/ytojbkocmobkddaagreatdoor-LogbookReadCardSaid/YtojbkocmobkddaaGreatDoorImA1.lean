/- The ideal machine: a deterministic reading of the loaded code (data, operations, code), in a form that the kernel reckons fast. -/
import GoSem.Dispatch
import Derived.Lib.AtoiAll
set_option linter.all false
namespace Go.Im
noncomputable section
def UNK : Nat := nat_lit 9223372036854775808
def UNE : Nat := nat_lit 9223372036854775809
inductive Tr (α : Type) where
 | e
 | n (l : Tr α) (v : Option α) (r : Tr α)
section
variable {α : Type}
def Tr.getS (v : Option α) (gl gr : Nat → Option α) (k : Nat) : Option α :=
 Nat.rec v (fun p _ => cond (Nat.beq (Nat.mod p (nat_lit 2)) (nat_lit 0)) (gl (Nat.div p (nat_lit 2))) (gr (Nat.div p (nat_lit 2)))) k
def Tr.get (t : Tr α) : Nat → Option α :=
 Tr.rec (fun _ => none) (fun _ v _ gl gr => Tr.getS v gl gr) t
def Tr.set0 (x : α) (t : Tr α) : Tr α := Tr.rec (.n .e (some x) .e) (fun l _ r _ _ => .n l (some x) r) t
def Tr.setL (f : Tr α → Nat → Tr α) (q : Nat) (t : Tr α) : Tr α := Tr.rec (.n (f .e q) none .e) (fun l v r _ _ => .n (f l q) v r) t
def Tr.setR (f : Tr α → Nat → Tr α) (q : Nat) (t : Tr α) : Tr α := Tr.rec (.n .e none (f .e q)) (fun l v r _ _ => .n l v (f r q)) t
def Tr.setS (x : α) (f : Tr α → Nat → Tr α) (t : Tr α) (k : Nat) : Tr α :=
 Nat.rec (Tr.set0 x t) (fun p _ => cond (Nat.beq (Nat.mod p (nat_lit 2)) (nat_lit 0)) (Tr.setL f (Nat.div p (nat_lit 2)) t) (Tr.setR f (Nat.div p (nat_lit 2)) t)) k
def Tr.setF (x : α) (d : Nat) : Tr α → Nat → Tr α := Nat.rec (fun t _ => t) (fun _ f => Tr.setS x f) d
def Tr.set (t : Tr α) (k : Nat) (x : α) : Tr α := Tr.setF x (Nat.succ k) t k
end
def nth {α : Type} : List α → Nat → Option α
 | [], _ => none
 | a :: _, 0 => some a
 | _ :: l, n + 1 => nth l n
abbrev Env := Tr Value
inductive R (α : Type) where
 | ok (a : α)
 | bad (n : Nat)
 | ch (n : Nat) (k : Fin n → R α)
def R.bind {α β : Type} (x : R α) (f : α → R β) : R β := R.rec f .bad (fun n _ ih => .ch n ih) x
inductive Tgt where
 | fn (f : Nat)
 | yl (l : Nat)
inductive EqK where
 | b | p | i | s | m | f | a (n : Nat)
inductive POp where
 | mv (x : Operand)
 | pick (c a b : Operand)
 | BU (x : Operand)
 | bin (op : BinOp) (x y : Operand)
 | eqs (k : EqK) (t : Nat) (neg : Bool) (x y : Operand)
 | un (op : UnOp) (x : Operand)
 | TR (k : IntKind) (x : Operand)
 | cstr (x : Operand)
 | mkI (t : Nat) (x : Operand)
 | mkF (fn : Fn) (a b : List Operand)
 | build (z : List Value) (ps : List (Nat × Nat × Operand))
 | Am (off : Nat) (x : Operand)
 | fld (agg : Bool) (off n : Nat) (x : Operand)
 | Ci (n : Nat) (x i : Operand)
 | FB (len n : Nat) (x i : Operand)
 | idxS (x i : Operand)
 | idxA (agg : Bool) (len n : Nat) (x i : Operand)
 | Jb (x : Operand) (lo hi : Option Operand)
 | slArr (len n : Nat) (x : Operand) (lo hi : Option Operand)
 | tas (t : Nat) (z : Value) (ok : Bool) (x : Operand)
 | ext (x : Operand) (i : Nat)
 | lenV (sl : Bool) (x : Operand)
 | capV (x : Operand)
 | mm (mx : Bool) (xs : List Operand)
inductive ROp where
 | ld (x : Operand)
 | ldN (n : Nat) (x : Operand)
 | OQ (el n : Nat) (x : Operand) (lo hi mx : Option Operand)
 | bstr (x : Operand)
 | look (z : Value) (ok : Bool) (x i : Operand)
 | lenM (x : Operand)
inductive AOp where
 | alloc (el : Nat) (z : List Value)
 | box (el : Nat) (x : Operand)
 | GH (el : Nat) (z : List Value) (len : Nat) (ps : List (Nat × Nat × Operand))
 | make (el : Nat) (z : List Value) (by_ : Nat) (l c : Operand)
 | strb (el : Nat) (x : Operand)
 | rngS (x : Operand)
 | mkM
inductive WOp where
 | st (n : Nat) (a x : Operand)
 | app (el : Nat) (n by_ : Nat) (s x : Operand)
 | appz (el : Nat) (n by_ : Nat) (z : List Value) (s x : Operand)
 | cpy (n : Nat) (d x : Operand)
 | nxtS (x : Operand)
 | mset (x i v : Operand)
 | call (f : Operand) (as : List Operand)
 | inv (x : Operand) (m : String) (as : List Operand)
 | no (k : Nat)
inductive IOp where
 | p (o : POp)
 | r (o : ROp)
 | a (o : AOp)
 | w (o : WOp)
structure D5 where
 dst : Option Nat
 op : IOp
 guard : Option (Nat × Bool)
inductive AB where
 | skip
 | reg (ops : List D5)
 | Dl (ops : List (D5 × List Nat)) (rds : List (Nat × List Nat))
 | seq (a b : AB)
 | BM (ks : List Nat) (a b : AB)
 | cond (c : Operand) (a b : AB)
 | block (id : Nat) (a : AB)
 | loop (ks : List Nat) (a : AB)
 | Ol (f : Operand) (ps : List Nat) (asg body : AB)
 | exit (id : Nat)
 | ret
 | no (k : Nat)
inductive Un where
 | ret
 | exit (id : Nat)
inductive CX where
 | cells (c : List Value) (el : Nat) (wr : Bool)
 | iter (s : ByteArray) (pos : Nat)
 | mp (es : List (Value × Value × Nat)) (clock : Nat)
 | loop (st : LoopState) (pend : Option Un) (env : Env) (ps : List Nat) (asg body : AB)
 | dead
structure AA where
 h : Tr CX
 nx : Nat
def AA.get (s : AA) (b : Nat) : Option CX := s.h.get b
def AA.put (s : AA) (b : Nat) (o : CX) : AA := ⟨s.h.set b o, s.nx⟩
def AA.new (s : AA) (o : CX) : AA := ⟨s.h.set s.nx o, Nat.succ s.nx⟩
def sub (c : List Value) (o n : Nat) : Option (List Value) := cond (Nat.ble (Nat.add o n) c.length) (some ((c.drop o).take n)) none
def splice (c : List Value) (o : Nat) (vs : List Value) : Option (List Value) := cond (Nat.ble (Nat.add o vs.length) c.length) (some (c.take o ++ (vs ++ c.drop (Nat.add o vs.length)))) none
def Iy (o n : Nat) : Option CX → Option (List Value)
 | some (.cells c _ _) => sub c o n
 | _ => none
def bC (o : Nat) : Option CX → Option Value
 | some (.cells c _ _) => nth c o
 | _ => none
def AA.rd (s : AA) (b o n : Nat) : Option (List Value) := Iy o n (s.get b)
def AA.rd1 (s : AA) (b o : Nat) : Option Value := bC o (s.get b)
def simple : Value → Bool
 | .agg _ => false
 | .tuple _ => false
 | _ => true
def Bh : List Value → Bool
 | [] => true
 | v :: l => cond (simple v) (Bh l) false
def putCells (s : AA) (b el : Nat) : Option (List Value) → Option AA
 | some c => some (s.put b (.cells c el true))
 | none => none
def Y6 (s : AA) (b o : Nat) (vs : List Value) : Option CX → Option AA
 | some (.cells c el true) => cond (Bh vs) (putCells s b el (splice c o vs)) none
 | _ => none
def AA.wr (s : AA) (b o : Nat) (vs : List Value) : Option AA := Y6 s b o vs (s.get b)
def ob {α β : Type} (x : Option α) (f : α → Option β) : Option β := Option.rec none f x
def ev (env : Env) (x : Operand) : Option Value :=
 Operand.rec (fun t => Tr.get env t) some (fun g => some (.pointer (some ⟨g, nat_lit 0, none⟩))) (fun f => some (.func (.func f) #[] #[])) x
def evs (env : Env) : List Operand → Option (List Value)
 | [] => some []
 | x :: l => ob (ev env x) fun v => ob (evs env l) fun vs => some (v :: vs)
def ev2 {β : Type} (env : Env) (x y : Operand) (f : Value → Value → Option β) : Option β := ob (ev env x) fun a => ob (ev env y) fun b => f a b
def cellsOf : Value → List Value
 | .agg cs => cs.toList
 | v => [v]
def asNat : Value → Option Nat
 | .int _ (.ofNat n) => some n
 | _ => none
def bD (k : IntKind) (b : Nat) (n : Int) : Int :=
 Int.rec (fun m => cond (Nat.blt m b) n (k.wrap n)) (fun m => cond (Nat.blt m b) n (k.wrap n)) n
def wrapU (k : IntKind) (b : Nat) (n : Int) : Int :=
 Int.rec (fun m => .ofNat (Nat.mod m b)) (fun _ => k.wrap n) n
def Az (k : IntKind) (n : Int) : Int :=
 match k with
 | .i64 => bD .i64 (nat_lit 9223372036854775808) n
 | .u8 => wrapU .u8 (nat_lit 256) n
 | .i32 => bD .i32 (nat_lit 2147483648) n
 | .u64 => wrapU .u64 (nat_lit 18446744073709551616) n
 | k => k.wrap n
def ltF : Int → Int → Bool
 | .ofNat a, .ofNat b => Nat.blt a b
 | .negSucc _, .ofNat _ => true
 | .ofNat _, .negSucc _ => false
 | .negSucc a, .negSucc b => Nat.blt b a
def eqF : Int → Int → Bool
 | .ofNat a, .ofNat b => Nat.beq a b
 | .negSucc a, .negSucc b => Nat.beq a b
 | _, _ => false
def eqL : List UInt8 → List UInt8 → Bool
 | [], [] => true
 | a :: l, b :: l' => cond (Nat.beq a.toNat b.toNat) (eqL l l') false
 | _, _ => false
def ltL : List UInt8 → List UInt8 → Bool
 | _, [] => false
 | [], _ :: _ => true
 | a :: l, b :: l' => cond (Nat.blt a.toNat b.toNat) true (cond (Nat.beq a.toNat b.toNat) (ltL l l') false)
def ofL (l : List UInt8) : ByteArray := ⟨⟨l⟩⟩
def toL (s : ByteArray) : List UInt8 := s.data.toList
def decB (s : ByteArray) (pos : Nat) : Option UInt8 → Nat × Nat
 | some b => cond (Nat.blt b.toNat (nat_lit 128)) (b.toNat, nat_lit 1) (Utf8.decode s pos)
 | none => Utf8.decode s pos
def JY (s : ByteArray) (pos : Nat) : Nat × Nat := decB s pos (nth (toL s) pos)
def Hg : IntKind → IntKind → Bool
 | .i64, .i64 => true
 | .u8, .u8 => true
 | .i32, .i32 => true
 | .u64, .u64 => true
 | a, b => decide (a = b)
def veqS : Value → Value → Bool
 | .bool a, .bool b => a == b
 | .int k a, .int k' b => Hg k k' && eqF a b
 | .string a, .string b => eqL (toL a) (toL b)
 | .pointer none, .pointer none => true
 | .pointer (some ⟨b, o, none⟩), .pointer (some ⟨b', o', none⟩) => Nat.beq b b' && Nat.beq o o'
 | .slice none n c, .slice none n' c' => Nat.beq n n' && Nat.beq c c'
 | .slice (some ⟨b, o, none⟩) n c, .slice (some ⟨b', o', none⟩) n' c' => Nat.beq b b' && Nat.beq o o' && Nat.beq n n' && Nat.beq c c'
 | .map none, .map none => true
 | .map (some a), .map (some b) => Nat.beq a b
 | .nilFunc, .nilFunc => true
 | .nilIface, .nilIface => true
 | _, _ => false
def Ih : List Value → List Value → Bool
 | [], [] => true
 | a :: l, b :: l' => veqS a b && Ih l l'
 | _, _ => false
def veq : Value → Value → Bool
 | .iface t v, .iface t' v' => Nat.beq t t' && veqS v v'
 | .agg l, .agg l' => Ih l.toList l'.toList
 | .tuple l, .tuple l' => Ih l.toList l'.toList
 | .func (.func f) l m, .func (.func f') l' m' => Nat.beq f f' && Ih l.toList l'.toList && Ih m.toList m'.toList
 | a, b => veqS a b
def TS (op : BinOp) (k : IntKind) (x y : Int) : Option Value :=
 match op with
 | .add => some (.int k (Az k (Int.add x y)))
 | .sub => some (.int k (Az k (Int.sub x y)))
 | .mul => some (.int k (Az k (Int.mul x y)))
 | .quo => cond (eqF y (.ofNat (nat_lit 0))) none (some (.int k (Az k (Int.tdiv x y))))
 | .rem => cond (eqF y (.ofNat (nat_lit 0))) none (some (.int k (Int.tmod x y)))
 | .and => some (.int k (k.wrap (BitVec.ofInt k.bits x &&& BitVec.ofInt k.bits y).toNat))
 | .or => some (.int k (k.wrap (BitVec.ofInt k.bits x ||| BitVec.ofInt k.bits y).toNat))
 | .xor => some (.int k (k.wrap (BitVec.ofInt k.bits x ^^^ BitVec.ofInt k.bits y).toNat))
 | .andNot => some (.int k (k.wrap (BitVec.ofInt k.bits x &&& ~~~(BitVec.ofInt k.bits y)).toNat))
 | .eql => some (.bool (eqF x y))
 | .neq => some (.bool (!(eqF x y)))
 | .lss => some (.bool (ltF x y))
 | .leq => some (.bool (!(ltF y x)))
 | .gtr => some (.bool (ltF y x))
 | .geq => some (.bool (!(ltF x y)))
 | _ => none
def binS (op : BinOp) (x y : ByteArray) : Option Value :=
 match op with
 | .add => cond (Nat.ble (Nat.add (toL x).length (toL y).length) (nat_lit 9223372036854775807)) (some (.string (ofL (toL x ++ toL y)))) none
 | .eql => some (.bool (eqL (toL x) (toL y)))
 | .neq => some (.bool (!(eqL (toL x) (toL y))))
 | .lss => some (.bool (ltL (toL x) (toL y)))
 | .leq => some (.bool (!(ltL (toL y) (toL x))))
 | .gtr => some (.bool (ltL (toL y) (toL x)))
 | .geq => some (.bool (!(ltL (toL x) (toL y))))
 | _ => none
def binN (op : BinOp) (k : IntKind) (a : Int) (k' : IntKind) (b : Int) : Option Value :=
 match op with
 | .shl => if b < 0 then none else some (.int k (k.wrap (a * 2 ^ (min b.toNat k.bits))))
 | .shr => if b < 0 then none else some (.int k (a.fdiv (2 ^ (min b.toNat k.bits))))
 | op => cond (Hg k k') (TS op k a b) none
def BG (op : BinOp) : Value → Value → Option Value
 | .int k a, .int k' b => binN op k a k' b
 | .string a, .string b => binS op a b
 | _, _ => none
def eqB : Value → Value → Option Bool
 | .bool a, .bool b => some (a == b)
 | _, _ => none
def eqP : Value → Value → Option Bool
 | .pointer none, .pointer b => some b.isNone
 | .pointer (some _), .pointer none => some false
 | _, _ => none
def eqI : Value → Value → Option Bool
 | .nilIface, .nilIface => some true
 | .nilIface, .iface _ _ => some false
 | .iface _ _, .nilIface => some false
 | _, _ => none
def eqSl : Value → Value → Option Bool
 | .slice none _ _, .slice b _ _ => some b.isNone
 | .slice (some _) _ _, .slice none _ _ => some false
 | _, _ => none
def eqM : Value → Value → Option Bool
 | .map none, .map b => some b.isNone
 | .map (some _), .map none => some false
 | _, _ => none
def eqFn : Value → Value → Option Bool
 | .nilFunc, .nilFunc => some true
 | .nilFunc, .func _ _ _ => some false
 | .func _ _ _, .nilFunc => some false
 | _, _ => none
def Gq : Value → Value → Option Bool
 | .int k a, .int k' b => cond (Hg k k') (some (eqF a b)) none
 | .string a, .string b => some (eqL (toL a) (toL b))
 | .bool a, .bool b => some (a == b)
 | _, _ => none
def Du : List Value → List Value → Option Bool
 | [], [] => some true
 | a :: l, b :: l' => ob (Gq a b) fun r => cond r (Du l l') (some false)
 | _, _ => none
def ints : Nat → List Value → Bool
 | 0, [] => true
 | n + 1, .int .i64 _ :: l => ints n l
 | _, _ => false
def eqA (n : Nat) : Value → Value → Option Bool
 | .agg a, .agg b => cond (ints n a.toList && ints n b.toList) (Du a.toList b.toList) none
 | _, _ => none
def JZ (k : EqK) (a b : Value) : Option Bool := EqK.rec (eqB a b) (eqP a b) (eqI a b) (eqSl a b) (eqM a b) (eqFn a b) (fun n => eqA n a b) k
def unV (op : UnOp) : Value → Option Value
 | .int k n => match op with
  | .neg => some (.int k (Az k (Int.neg n)))
  | .xor => TS .xor k (if k.signed then -1 else k.max) n
  | _ => none
 | .bool b => match op with
  | .not => some (.bool (!b))
  | _ => none
 | _ => none
def fill (cells : List Value) : List (Nat × Nat × Value) → Option (List Value)
 | [] => some cells
 | (off, size, v) :: rest => cond (Nat.beq (cellsOf v).length size) (ob (splice cells off (cellsOf v)) fun c => fill c rest) none
def evP (env : Env) : List (Nat × Nat × Operand) → Option (List (Nat × Nat × Value))
 | [] => some []
 | (o, n, x) :: l => ob (ev env x) fun v => ob (evP env l) fun vs => some ((o, n, v) :: vs)
def evO (env : Env) : Option Operand → Option (Option Value)
 | none => some none
 | some x => ob (ev env x) fun v => some (some v)
def bound (d y : Nat) : Option Value → Option Nat
 | none => some d
 | some v => ob (asNat v) fun n => cond (Nat.ble n y) (some n) none
def Fb (a : Addr) (n : Nat) : Addr := ⟨a.block, Nat.add a.off n, none⟩
def mm2 (mx : Bool) : Value → Value → Option Value
 | .int k x, .int _ y => some (.int k (cond mx (cond (ltF x y) y x) (cond (ltF y x) y x)))
 | _, _ => none
def mmL (mx : Bool) (x : Value) : List Value → Option Value
 | [] => some x
 | y :: l => ob (mm2 mx x y) fun z => mmL mx z l
def mmA (mx : Bool) : List Value → Option Value
 | x :: l => mmL mx x l
 | [] => none
abbrev MT := List (Nat × String × Nat)
def MT.find (t : Nat) (m : String) : MT → Option Nat
 | [] => none
 | (u, n, f) :: l => cond (Nat.beq u t && decide (n = m)) (some f) (MT.find t m l)
def Ce (a b : Option Value) : Value → Option Value
 | .bool t => cond t a b
 | _ => none
def BA (T : MT) : Value → Option Value
 | .pointer (some a) => some (.pointer (some a))
 | .iface t v => some (.iface t v)
 | .func (.func f) a b => some (.func (.func f) a b)
 | .func (.yield f) a b => some (.func (.yield f) a b)
 | .func (.method m) ⟨[.iface t (.pointer (some a))]⟩ ⟨[]⟩ => ob (T.find t m) fun _ => some (.func (.method m) ⟨[.iface t (.pointer (some a))]⟩ ⟨[]⟩)
 | _ => none
def GY (k : EqK) (neg : Bool) (a b : Value) : Option Value := ob (JZ k a b) fun r => some (.bool (cond neg (!r) r))
def LY (k : IntKind) : Value → Option Value
 | .int _ n => some (.int k (Az k n))
 | _ => none
def Y7 : Value → Option Value
 | .string s => some (.string s)
 | _ => none
def Ad (off : Nat) : Value → Option Value
 | .pointer (some a) => some (.pointer (some (Fb a off)))
 | _ => none
def Y8 (agg : Bool) (off n : Nat) (cs : List Value) : Option Value := cond agg (ob (sub cs off n) fun l => some (.agg ⟨l⟩)) (nth cs off)
def pFld (agg : Bool) (off n : Nat) : Value → Option Value
 | .agg cs => Y8 agg off n cs.toList
 | _ => none
def BR (n : Nat) : Value → Value → Option Value
 | .slice (some a) len _, v => ob (asNat v) fun j => cond (Nat.blt j len) (some (.pointer (some (Fb a (Nat.mul j n))))) none
 | _, _ => none
def CY (len n : Nat) : Value → Value → Option Value
 | .pointer (some a), v => ob (asNat v) fun j => cond (Nat.blt j len) (some (.pointer (some (Fb a (Nat.mul j n))))) none
 | _, _ => none
def JQ : Value → Value → Option Value
 | .string s, v => ob (asNat v) fun j => ob (nth (toL s) j) fun b => some (.int .u8 (.ofNat b.toNat))
 | _, _ => none
def Uo (agg : Bool) (len n : Nat) : Value → Value → Option Value
 | .agg cs, v => ob (asNat v) fun j => cond (Nat.blt j len) (Y8 agg (Nat.mul j n) n cs.toList) none
 | _, _ => none
def FD (l h : Option Value) : Value → Option Value
 | .string s => ob (bound (toL s).length (toL s).length h) fun h' => ob (bound (nat_lit 0) h' l) fun l' => some (.string (ofL (((toL s).take h').drop l')))
 | _ => none
def slAt (a : Addr) (n l h m c : Nat) : Value := .slice (some (cond (Nat.beq m l) a (Fb a (Nat.mul l n)))) (Nat.sub h l) c
def TT (len n : Nat) (l h : Option Value) : Value → Option Value
 | .pointer (some a) => ob (bound len len h) fun h' => ob (bound (nat_lit 0) h' l) fun l' => some (slAt a n l' h' len (Nat.sub len l'))
 | _ => none
def pTas (t : Nat) (z : Value) (ok : Bool) : Value → Option Value
 | .iface u v => cond (Nat.beq u t) (some (cond ok (.tuple ⟨[v, .bool true]⟩) v)) (cond ok (some (.tuple ⟨[z, .bool false]⟩)) none)
 | .nilIface => cond ok (some (.tuple ⟨[z, .bool false]⟩)) none
 | _ => none
def pExt (i : Nat) : Value → Option Value
 | .tuple vs => nth vs.toList i
 | _ => none
def Hl : Value → Option Value
 | .string s => some (.int .i64 (.ofNat (toL s).length))
 | _ => none
def CZ : Value → Option Value
 | .slice _ n _ => some (.int .i64 (.ofNat n))
 | _ => none
def pCap : Value → Option Value
 | .slice _ _ c => cond (Nat.blt c UNK) (some (.int .i64 (.ofNat c))) none
 | _ => none
def RG (T : MT) (env : Env) (o : POp) : Option Value :=
 POp.rec (motive := fun _ => Option Value)
  (ev env)
  (fun c a b => ob (ev env c) (Ce (ev env a) (ev env b)))
  (fun x => ob (ev env x) (BA T))
  (fun op x y => ev2 env x y (BG op))
  (fun k _ neg x y => ev2 env x y (GY k neg))
  (fun op x => ob (ev env x) (unV op))
  (fun k x => ob (ev env x) (LY k))
  (fun x => ob (ev env x) Y7)
  (fun t x => ob (ev env x) fun v => some (.iface t v))
  (fun fn a b => ob (evs env a) fun u => ob (evs env b) fun v => some (.func fn ⟨u⟩ ⟨v⟩))
  (fun z ps => ob (evP env ps) fun l => ob (fill z l) fun c => some (.agg ⟨c⟩))
  (fun off x => ob (ev env x) (Ad off))
  (fun agg off n x => ob (ev env x) (pFld agg off n))
  (fun n x i => ev2 env x i (BR n))
  (fun len n x i => ev2 env x i (CY len n))
  (fun x i => ev2 env x i JQ)
  (fun agg len n x i => ev2 env x i (Uo agg len n))
  (fun x lo hi => ob (evO env lo) fun l => ob (evO env hi) fun h => ob (ev env x) (FD l h))
  (fun len n x lo hi => ob (evO env lo) fun l => ob (evO env hi) fun h => ob (ev env x) (TT len n l h))
  (fun t z ok x => ob (ev env x) (pTas t z ok))
  (fun x i => ob (ev env x) (pExt i))
  (fun sl x => ob (ev env x) fun v => cond sl (CZ v) (Hl v))
  (fun x => ob (ev env x) pCap)
  (fun mx xs => ob (evs env xs) (mmA mx))
  o
def bytesOf : List Value → Option (List UInt8)
 | [] => some []
 | .int .u8 n :: l => ob (bytesOf l) fun bs => some (UInt8.ofNat n.toNat :: bs)
 | _ => none
def keq : Value → Value → Option Bool
 | .agg a, .agg b => Du a.toList b.toList
 | a, b => Gq a b
def bF (k : Value) : List (Value × Value × Nat) → Option (Option Value)
 | [] => some none
 | (k', v, _) :: l => ob (keq k k') fun r => cond r (some (some v)) (bF k l)
def mput (k v : Value) : List (Value × Value × Nat) → List (Value × Value × Nat)
 | [] => []
 | (k', v', b) :: l => match keq k k' with
  | some true => (k', v, b) :: l
  | _ => (k', v', b) :: mput k v l
def rLd (s : AA) : Value → Option Value
 | .pointer (some a) => s.rd1 a.block a.off
 | _ => none
def DY (s : AA) (n : Nat) : Value → Option Value
 | .pointer (some a) => ob (s.rd a.block a.off n) fun l => some (.agg ⟨l⟩)
 | _ => none
def Ho (a : Addr) (n len cap : Nat) (l h m : Option Value) : Option Value :=
 ob (bound cap cap m) fun m' => ob (bound len m' h) fun h' => ob (bound (nat_lit 0) h' l) fun l' => some (slAt a n l' h' m' (Nat.sub m' l'))
def Om (a : Addr) (n len k : Nat) (l h : Option Value) : Option Value → Option Value
 | some v => ob (asNat v) fun m' => cond (Nat.ble (Nat.add a.off (Nat.mul m' n)) k) (cond (Nat.blt m' UNK) (Ho a n len m' l h none) none) none
 | none => ob (bound len (Nat.div (Nat.sub k a.off) n) h) fun h' => ob (bound (nat_lit 0) h' l) fun l' =>
  cond (Nat.beq l' (nat_lit 0)) (some (.slice (some a) h' UNK))
   (cond (Nat.blt (Nat.add a.off (Nat.mul l' n)) k) (some (.slice (some (Fb a (Nat.mul l' n))) (Nat.sub h' l') UNK))
    (cond (Nat.beq h' l') (some (.slice (some ⟨nat_lit 0, nat_lit 0, none⟩) (nat_lit 0) UNE)) none))
def RH (a : Addr) (el n len : Nat) (l h m : Option Value) : Option CX → Option Value
 | some (.cells c e _) => cond (Nat.beq e el) (Om a n len c.length l h m) none
 | _ => none
def rSl (s : AA) (el n : Nat) (l h m : Option Value) : Value → Option Value
 | .slice none _ _ => match m with
  | none => ob (bound (nat_lit 0) (nat_lit 0) h) fun _ => ob (bound (nat_lit 0) (nat_lit 0) l) fun _ => some (.slice none (nat_lit 0) (nat_lit 0))
  | some v => ob (asNat v) fun k => cond (Nat.beq k (nat_lit 0)) (ob (bound (nat_lit 0) (nat_lit 0) h) fun _ => ob (bound (nat_lit 0) (nat_lit 0) l) fun _ => some (.slice none (nat_lit 0) (nat_lit 0))) none
 | .slice (some a) len cap => cond (Nat.blt cap UNK) (Ho a n len cap l h m) (cond (Nat.beq cap UNE) none (RH a el n len l h m (s.get a.block)))
 | _ => none
def Nu (s : AA) : Value → Option Value
 | .slice none _ _ => some (.string (ofL []))
 | .slice (some a) len _ => ob (s.rd a.block a.off len) fun l => ob (bytesOf l) fun bs => some (.string (ofL bs))
 | _ => none
def lookZ (z : Value) (ok : Bool) : Option Value → Value
 | some v => cond ok (.tuple ⟨[v, .bool true]⟩) v
 | none => cond ok (.tuple ⟨[z, .bool false]⟩) z
def lookM (z : Value) (ok : Bool) (k : Value) : Option CX → Option Value
 | some (.mp es _) => ob (bF k es) fun r => some (lookZ z ok r)
 | _ => none
def RI (s : AA) (z : Value) (ok : Bool) : Value → Value → Option Value
 | .map none, _ => some (lookZ z ok none)
 | .map (some r), k => lookM z ok k (s.get r)
 | _, _ => none
def lenMp : Option CX → Option Value
 | some (.mp es _) => some (.int .i64 (.ofNat es.length))
 | _ => none
def Y9 (s : AA) : Value → Option Value
 | .map none => some (.int .i64 (.ofNat (nat_lit 0)))
 | .map (some r) => lenMp (s.get r)
 | _ => none
def JR (env : Env) (s : AA) (o : ROp) : Option Value :=
 ROp.rec (motive := fun _ => Option Value)
  (fun x => ob (ev env x) (rLd s))
  (fun n x => ob (ev env x) (DY s n))
  (fun el n x lo hi mx => ob (evO env lo) fun l => ob (evO env hi) fun h => ob (evO env mx) fun m => ob (ev env x) (rSl s el n l h m))
  (fun x => ob (ev env x) (Nu s))
  (fun z ok x i => ev2 env x i (RI s z ok))
  (fun x => ob (ev env x) (Y9 s))
  o
def zeros (z : List Value) : Nat → List Value
 | 0 => []
 | n + 1 => z ++ zeros z n
def ptrTo (b : Nat) : Value := .pointer (some ⟨b, nat_lit 0, none⟩)
def Bo (len cap b : Nat) : Value := .slice (some ⟨b, nat_lit 0, none⟩) len cap
def bG (el : Nat) (z : List Value) (by_ : Nat) : Value → Value → Option (CX × (Nat → Value))
 | .int .i64 (.ofNat l), .int .i64 (.ofNat c) =>
  cond (Nat.ble l c && Nat.ble (Nat.mul c by_) (nat_lit 140737488355328) && Nat.blt c UNK) (some (.cells (zeros z c) el true, Bo l c)) none
 | _, _ => none
def Di (l : List UInt8) : List Value := l.map fun b => .int .u8 (.ofNat b.toNat)
def Ur (el : Nat) : Value → Option (CX × (Nat → Value))
 | .string s => some (.cells (Di (toL s)) el true, Bo (toL s).length UNK)
 | _ => none
def Us : Value → Option (CX × (Nat → Value))
 | .string s => some (.iter s (nat_lit 0), ptrTo)
 | _ => none
def Oo (env : Env) (o : AOp) : Option (CX × (Nat → Value)) :=
 AOp.rec (motive := fun _ => Option (CX × (Nat → Value)))
  (fun el z => some (.cells z el true, ptrTo))
  (fun el x => ob (ev env x) fun v => some (.cells (cellsOf v) el true, ptrTo))
  (fun el z len ps => ob (evP env ps) fun l => ob (fill (zeros z len) l) fun c => some (.cells c el true, Bo len len))
  (fun el z by_ l c => ev2 env l c (bG el z by_))
  (fun el x => ob (ev env x) (Ur el))
  (fun x => ob (ev env x) Us)
  (some (.mp [] (nat_lit 0), fun b => .map (some b)))
  o
def Bl : Value := .tuple ⟨[]⟩
def DL (s : AA) (n : Nat) : Value → Option (List Value)
 | .slice none _ _ => some []
 | .slice (some a) len _ => s.rd a.block a.off (Nat.mul len n)
 | .string t => cond (Nat.beq n (nat_lit 1)) (some (Di (toL t))) none
 | _ => none
def wSt (s : AA) (n : Nat) (v : Value) : Value → Option (Value × AA)
 | .pointer (some p) => cond (Nat.beq (cellsOf v).length n) (ob (s.wr p.block p.off (cellsOf v)) fun s' => some (Bl, s')) none
 | _ => none
def Dt (s : AA) (el need : Nat) (old news : List Value) : Value × AA := (.slice (some ⟨s.nx, nat_lit 0, none⟩) need UNK, s.new (.cells (old ++ news) el true))
def KQ (s : AA) (a : Addr) (n len cap need : Nat) (news : List Value) : Option (Value × AA) :=
 ob (s.wr a.block (Nat.add a.off (Nat.mul len n)) news) fun s' => some (.slice (some a) need cap, s')
def ND (s : AA) (a : Addr) (el n len need : Nat) (news : List Value) : Option CX → Option (Value × AA)
 | some (.cells c e true) => cond (Nat.beq e el) (cond (Nat.ble (Nat.add a.off (Nat.mul need n)) c.length) (KQ s a n len UNK need news)
  (cond (Bh news) (ob (sub c a.off (Nat.mul len n)) fun old => some (Dt (s.put a.block .dead) el need old news)) none)) none
 | _ => none
def Hq (s : AA) (el n len cap m need : Nat) (news : List Value) : Option Addr → Option (Value × AA)
 | none => cond (Nat.beq m (nat_lit 0)) (some (.slice none (nat_lit 0) (nat_lit 0), s)) (some (Dt s el m [] news))
 | some a => cond (Nat.blt cap UNK)
  (cond (Nat.ble need cap) (KQ s a n len cap need news) (ob (s.rd a.block a.off (Nat.mul len n)) fun old => some (Dt s el need old news)))
  (cond (Nat.beq cap UNE) none (ND s a el n len need news (s.get a.block)))
def Dw (s : AA) (el n by_ : Nat) (news : List Value) : Value → Option (Value × AA)
 | .slice base len cap =>
  cond (Nat.beq n (nat_lit 0)) none
   (cond (Nat.ble (Nat.mul (Nat.add len (Nat.div news.length n)) by_) (nat_lit 140737488355328) && Nat.blt (Nat.add len (Nat.div news.length n)) UNK)
    (Hq s el n len cap (Nat.div news.length n) (Nat.add len (Nat.div news.length n)) news base) none)
 | _ => none
def FC (s : AA) (el n by_ : Nat) (v x : Value) : Option (Value × AA) := ob (DL s n x) fun news => Dw s el n by_ news v
def Ut (s : AA) (el n by_ : Nat) (z : List Value) (v : Value) : Value → Option (Value × AA)
 | .int .i64 (.ofNat m) => cond (Nat.ble (Nat.mul m by_) (nat_lit 140737488355328)) (Dw s el n by_ (zeros z m) v) none
 | _ => none
def cpyTo (s : AA) (n k : Nat) (cs : List Value) : Option Addr → Option (Value × AA)
 | none => some (.int .i64 (.ofNat (nat_lit 0)), s)
 | some a => ob (s.wr a.block a.off (cs.take (Nat.mul k n))) fun s' => some (.int .i64 (.ofNat k), s')
def minN (a b : Nat) : Nat := cond (Nat.ble a b) a b
def wCpy (s : AA) (n : Nat) (x : Value) : Value → Option (Value × AA)
 | .slice base dl _ => ob (DL s n x) fun cs => cond (Nat.beq n (nat_lit 0)) none (cpyTo s n (minN (Nat.div cs.length n) dl) cs base)
 | _ => none
def Uu (s : AA) (b : Nat) : Option CX → Option (Value × AA)
 | some (.iter t pos) => cond (Nat.blt pos (toL t).length)
  (some (.tuple ⟨[.bool true, .int .i64 (.ofNat pos), .int .i32 (.ofNat (JY t pos).1)]⟩, s.put b (.iter t (Nat.add pos (JY t pos).2))))
  (some (.tuple ⟨[.bool false]⟩, s))
 | _ => none
def Uw (s : AA) : Value → Option (Value × AA)
 | .pointer (some a) => cond (Nat.beq a.off (nat_lit 0)) (Uu s a.block (s.get a.block)) none
 | _ => none
def msetR (s : AA) (r : Nat) (k u : Value) (es : List (Value × Value × Nat)) (cl : Nat) : Option Value → Value × AA
 | some _ => (Bl, s.put r (.mp (mput k u es) cl))
 | none => (Bl, s.put r (.mp (es ++ [(k, u, cl)]) (Nat.succ cl)))
def msetO (s : AA) (r : Nat) (k u : Value) : Option CX → Option (Value × AA)
 | some (.mp es cl) => ob (bF k es) fun x => some (msetR s r k u es cl x)
 | _ => none
def wMset (s : AA) (k u : Value) : Value → Option (Value × AA)
 | .map (some r) => msetO s r k u (s.get r)
 | _ => none
abbrev Self := Tgt → List Value → AA → R (Value × AA)
def E8 (self : Self) (as : List Value) (s : AA) : Value → R (Value × AA)
 | .func (.func g) a b => self (.fn g) (a.toList ++ (as ++ b.toList)) s
 | .func (.yield l) a _ => self (.yl l) (a.toList ++ as) s
 | _ => .bad 1
def invV (T : MT) (self : Self) (m : String) (as : List Value) (s : AA) : Value → R (Value × AA)
 | .iface t (.pointer (some a)) => match T.find t m with
  | some f => self (.fn f) (.pointer (some a) :: as) s
  | none => .bad 2
 | _ => .bad 3
def BI {α : Type} (n : Nat) (x : Option α) : R α := Option.rec (.bad n) .ok x
def obR {α β : Type} (n : Nat) (x : Option α) (f : α → R β) : R β := Option.rec (.bad n) f x
def TU (T : MT) (self : Self) (env : Env) (s : AA) (o : WOp) : R (Value × AA) :=
 WOp.rec (motive := fun _ => R (Value × AA))
  (fun n a x => BI 11 (ev2 env x a (wSt s n)))
  (fun el n by_ sl x => BI 12 (ev2 env sl x (FC s el n by_)))
  (fun el n by_ z sl x => BI 13 (ev2 env sl x (Ut s el n by_ z)))
  (fun n d x => BI 14 (ev2 env x d (wCpy s n)))
  (fun x => BI 15 (ob (ev env x) (Uw s)))
  (fun x i v => BI 16 (ev2 env i v fun k u => ob (ev env x) (wMset s k u)))
  (fun f as => obR 17 (ev env f) fun g => obR 18 (evs env as) fun vs => E8 self vs s g)
  (fun x m as => obR 19 (ev env x) fun g => obR 20 (evs env as) fun vs => invV T self m vs s g)
  (fun k => .bad (k + 2000))
  o
def okS (s : AA) (v : Value) : R (Value × AA) := .ok (v, s)
def NG (T : MT) (self : Self) (env : Env) (s : AA) (op : IOp) : R (Value × AA) :=
 IOp.rec (motive := fun _ => R (Value × AA))
  (fun o => obR 21 (RG T env o) (okS s))
  (fun o => obR 22 (JR env s o) (okS s))
  (fun o => obR 23 (Oo env o) fun r => .ok (r.2 s.nx, s.new r.1))
  (TU T self env s)
  op
def Au (b : Bool) : Option Value → Option Bool
 | some (.bool c) => some (c == b)
 | some (.tuple _) => some false
 | _ => none
def want (env : Env) : Option (Nat × Bool) → Option Bool
 | none => some true
 | some (g, b) => Au b (Tr.get env g)
def Env.put (env : Env) (v : Value) (d : Option Nat) : Env := Option.rec env (fun t => Tr.set env t v) d
def stepW (T : MT) (self : Self) (env : Env) (s : AA) (op : IOp) : Option Bool → R (Value × AA)
 | some true => NG T self env s op
 | some false => .ok (Bl, s)
 | none => .bad 24
def KR (T : MT) (self : Self) (env : Env) (s : AA) (o : D5) : R (Value × AA) := stepW T self env s o.op (want env o.guard)
def WB {β : Type} (T : MT) (self : Self) (ops : List D5) : Env → AA → (Env → AA → R β) → R β :=
 List.rec (motive := fun _ => Env → AA → (Env → AA → R β) → R β)
  (fun env s K => K env s)
  (fun o _ ih env s K => R.rec (motive := fun _ => R β) (fun r => ih (Env.put env r.1 o.dst) r.2 K) .bad (fun n _ ih => .ch n ih) (KR T self env s o)) ops
def AO {α β : Type} (x : R α) (f : α → R β) : R β := R.rec f .bad (fun _ _ _ => .bad 25) x
def Env.keep (env : Env) : List Nat → Env
 | [] => .e
 | k :: l => Option.rec (Env.keep env l) (fun v => Tr.set (Env.keep env l) k v) (Tr.get env k)
structure Rec where
 s : AA
 env : Env
 v : Value
def OZ {β : Type} (T : MT) (self : Self) (ops : List (D5 × List Nat)) : Env → AA → List Rec → (Env → AA → List Rec → R β) → R β :=
 List.rec (motive := fun _ => Env → AA → List Rec → (Env → AA → List Rec → R β) → R β)
  (fun env s acc K => K env s acc)
  (fun o _ ih env s acc K => R.rec (motive := fun _ => R β) (fun r => cond (Nat.ble s.nx r.2.nx) (ih (Env.put env r.1 o.1.dst) r.2 (⟨s, Env.keep env o.2, r.1⟩ :: acc) K) (.bad 43)) .bad (fun _ _ _ => .bad 25) (KR T self (Env.keep env o.2) s o.1)) ops
def Oq : Value → Option Nat
 | .pointer (some a) => some a.block
 | .slice (some a) _ _ => some a.block
 | .map (some r) => some r
 | _ => none
def Ku (o : ROp) : Operand := ROp.rec (fun x => x) (fun _ x => x) (fun _ _ x _ _ _ => x) (fun x => x) (fun _ _ x _ => x) (fun x => x) o
def rdOld (s : AA) : Option Nat → Bool
 | some b => Nat.blt b s.nx
 | none => true
def Iz (s : AA) : Option Value → Bool
 | some v => rdOld s (Oq v)
 | none => false
def IJ (env : Env) (s : AA) (v : Value) : IOp → Bool
 | .r o => cond (Iz s (ev env (Ku o))) (match JR env s o with
  | some v' => veq v v'
  | none => false) false
 | _ => false
def stateAt (h : List Rec) (s' : AA) (w : Nat) : AA := match nth h w with
 | some r => r.s
 | none => s'
def TV (h : List Rec) (s' : AA) (r : Rec) (o : IOp) : List Nat → Bool
 | [] => true
 | w :: l => cond (IJ r.env (stateAt h s' w) r.v o && IJ r.env (stateAt h s' (Nat.succ w)) r.v o) (TV h s' r o l) false
def chkW (h : List Rec) (s' : AA) (r : Rec) (o : IOp) (ws : List Nat) : Option Bool → Bool
 | some true => TV h s' r o ws
 | some false => true
 | none => false
def chkO (h : List Rec) (s' : AA) (ws : List Nat) : Option Rec → Option (D5 × List Nat) → Bool
 | some r, some o => chkW h s' r o.1.op ws (want r.env o.1.guard)
 | _, _ => false
def J4 (h : List Rec) (s' : AA) (ops : List (D5 × List Nat)) : List (Nat × List Nat) → Bool
 | [] => true
 | (j, ws) :: l => cond (chkO h s' ws (nth h j) (nth ops j)) (J4 h s' ops l) false
inductive Ex where
 | normal
 | ret
 | exit (id : Nat)
abbrev Kt (β : Type) := Ex → Env → AA → R β
abbrev Xc (β : Type) := Env → AA → Kt β → R β
section
variable {β : Type}
def AX (next : Env → AA → R β) (K : Kt β) (e : Ex) (env : Env) (s : AA) : R β := Ex.rec (next env s) (K .ret env s) (fun id => K (.exit id) env s) e
def xReg (T : MT) (self : Self) (ops : List D5) : Xc β := fun env s K => WB T self ops env s (K .normal)
def xRegD (T : MT) (self : Self) (ops : List (D5 × List Nat)) (rds : List (Nat × List Nat)) : Xc β := fun env s K =>
 OZ T self ops env s [] fun env' s' h => cond (J4 h.reverse s' ops rds) (K .normal env' s') (.bad 26)
def xSeq (a b : Xc β) : Xc β := fun env s K => a env s (AX (fun env' s' => b env' s' K) K)
def xSeqK (ks : List Nat) (a b : Xc β) : Xc β := fun env s K => a env s (AX (fun env' s' => b (Env.keep env' ks) s' K) K)
def Bf (x y : R β) : Option Value → R β
 | some (.bool t) => cond t x y
 | _ => .bad 27
def xCond (c : Operand) (a b : Xc β) : Xc β := fun env s K => Bf (a env s K) (b env s K) (ev env c)
def AP (id : Nat) (K : Kt β) (e : Ex) (env : Env) (s : AA) : R β :=
 Ex.rec (K .normal env s) (K .ret env s) (fun id' => cond (Nat.beq id' id) (K .normal env s) (K (.exit id') env s)) e
def xBlock (id : Nat) (a : Xc β) : Xc β := fun env s K => a env s (AP id K)
def Aw (a : Xc β) (ks : List Nat) (n : Nat) : Xc β :=
 Nat.rec (motive := fun _ => Xc β) (fun _ _ _ => .bad 28) (fun _ ih env s K => a env s (AX (fun env' s' => ih (Env.keep env' ks) s' K) K)) n
def pendK (K : Kt β) (env : Env) (s : AA) : Option Un → R β
 | none => K .normal env s
 | some .ret => K .ret env s
 | some (.exit id) => K (.exit id) env s
def endLoop (K : Kt β) (env : Env) (s : AA) (l : Nat) : Option CX → R β
 | some (.loop .busy _ _ _ _ _) => .bad 29
 | some (.loop _ p env' ps asg body) => pendK K env (s.put l (.loop .exhausted p env' ps asg body)) p
 | _ => .bad 30
def RJ (self : Self) (as : List Value) (s : AA) : Value → R (Value × AA)
 | .func (.func g) a b => self (.fn g) (a.toList ++ (as ++ b.toList)) s
 | _ => .bad 1
def xRange (self : Self) (f : Operand) (ps : List Nat) (asg body : AB) : Xc β := fun env s K =>
 obR 31 (ev env f) fun g => (RJ self [.func (.yield s.nx) ⟨[]⟩ ⟨[]⟩] (s.new (.loop .ready none env ps asg body)) g).bind fun r => endLoop K env r.2 s.nx (r.2.get s.nx)
def exec (T : MT) (self : Self) (N : Nat) (c : AB) : Xc β :=
 AB.rec (motive := fun _ => Xc β)
  (fun env s K => K .normal env s)
  (xReg T self)
  (xRegD T self)
  (fun _ _ a b => xSeq a b)
  (fun ks _ _ a b => xSeqK ks a b)
  (fun c _ _ a b => xCond c a b)
  (fun id _ a => xBlock id a)
  (fun ks _ a env s K => Aw a ks N (Env.keep env ks) s K)
  (fun f ps asg body _ _ => xRange self f ps asg body)
  (fun id env s K => K (.exit id) env s)
  (fun env s K => K .ret env s)
  (fun k _ _ _ => .bad (k + 1000))
  c
end
inductive IRes where
 | tmp (t : Nat)
 | cell (t : Nat)
 | cells (t : Nat) (n : Nat)
structure BL where
 np : Nat
 res : List IRes
 body : AB
def WC (env : Env) (s : AA) : IRes → Option Value
 | .tmp t => Tr.get env t
 | .cell t => ob (Tr.get env t) (rLd s)
 | .cells t n => ob (Tr.get env t) (DY s n)
def IK (env : Env) (s : AA) : List IRes → Option (List Value)
 | [] => some []
 | r :: l => ob (WC env s r) fun v => ob (IK env s l) fun vs => some (v :: vs)
def Dc : List Value → Value
 | [v] => v
 | l => .tuple ⟨l⟩
def Ar : List Value → Nat → Env → Env
 | [], _, env => env
 | v :: l, i, env => Ar l (Nat.succ i) (Tr.set env i v)
def AQ (F : BL) (e : Ex) (env : Env) (s : AA) : R (Value × AA) :=
 Ex.rec (obR 32 (IK env s F.res) fun vs => .ok (Dc vs, s)) (obR 33 (IK env s F.res) fun vs => .ok (Dc vs, s)) (fun _ => .bad 34) e
def EL (T : MT) (self : Self) (N : Nat) (F : BL) (args : List Value) (s : AA) : R (Value × AA) :=
 cond (Nat.beq args.length F.np) (exec T self N F.body (Ar args (nat_lit 0) .e) s (AQ F)) (.bad 35)
def IL (env : Env) : List Nat → List Value → Option Env
 | [], [] => some env
 | t :: l, v :: vs => IL (Tr.set env t v) l vs
 | _, _ => none
def endRound (l : Nat) (e : Ex) (s : AA) : Option CX → R (Value × AA)
 | some (.loop .busy _ env ps asg body) => Ex.rec (.ok (.bool true, s.put l (.loop .ready none env ps asg body)))
  (.ok (.bool false, s.put l (.loop .done (some .ret) env ps asg body)))
  (fun id => .ok (.bool false, s.put l (.loop .done (some (.exit id)) env ps asg body))) e
 | _ => .bad 36
def FH (T : MT) (self : Self) (N l : Nat) (Ux : AB) (IQ : Env) (s : AA) : Option CX → R (Value × AA)
 | some (.loop .ready p env ps asg body) => exec T self N Ux IQ (s.put l (.loop .busy p env ps asg body)) fun e _ s3 => endRound l e s3 (s3.get l)
 | _ => .bad 37
def Ot (T : MT) (self : Self) (N l : Nat) (args : List Value) (s : AA) : Option CX → R (Value × AA)
 | some (.loop .ready _ env ps asg body) => obR 38 (IL env ps args) fun LZ => exec T self N asg LZ s
  (AX (fun IQ s2 => FH T self N l body IQ s2 (s2.get l)) (fun _ _ _ => .bad 39))
 | _ => .bad 40
def Fe (T : MT) (self : Self) (N : Nat) (l : Nat) (args : List Value) (s : AA) : R (Value × AA) := Ot T self N l args s (s.get l)
inductive Prim where
 | itoa | atoi (el : Nat) | split (el : Nat) | join | idxb | bwrite | l9 | works
def OT (fuel : Nat) : Nat → List UInt8 → List UInt8 :=
 Nat.rec (fun _ acc => acc) (fun _ ih n acc => cond (Nat.blt n (nat_lit 10)) (UInt8.ofNat (Nat.add (nat_lit 48) n) :: acc) (ih (Nat.div n (nat_lit 10)) (UInt8.ofNat (Nat.add (nat_lit 48) (Nat.mod n (nat_lit 10))) :: acc))) fuel
def BO : Int → List UInt8
 | .ofNat n => OT (nat_lit 20) n []
 | .negSucc n => 45 :: OT (nat_lit 20) (Nat.succ n) []
def G6 : List UInt8 → Nat → Nat → Int
 | [], _, _ => .negSucc (nat_lit 0)
 | b :: l, c, i => cond (Nat.beq b.toNat c) (.ofNat i) (G6 l c (Nat.succ i))
def pushB (b : UInt8) : List (List UInt8) → List (List UInt8)
 | p :: r => (b :: p) :: r
 | [] => [[b]]
def BJ (c : UInt8) : List UInt8 → List (List UInt8)
 | [] => [[]]
 | b :: l => cond (Nat.beq b.toNat c.toNat) ([] :: BJ c l) (pushB b (BJ c l))
def C9 (sep : List UInt8) : List (List UInt8) → List UInt8
 | [] => []
 | [p] => p
 | p :: l => p ++ (sep ++ C9 sep l)
def textsOf : List Value → Option (List (List UInt8))
 | [] => some []
 | .string t :: l => ob (textsOf l) fun ts => some (toL t :: ts)
 | _ => none
def strOf (l : List UInt8) : Value := .string (ofL l)
def Ec (l : List UInt8) : Int × Bool :=
 match Lib.atoiAll l with
 | .ok n => (n, false)
 | .range => (Lib.atoiSat l, true)
 | _ => (0, true)
def Dp : List (List UInt8) → Nat
 | [] => nat_lit 0
 | l :: r => Nat.add l.length (Nat.succ (Dp r))
def kindsL : List Value := [strOf [98, 111, 119, 108], strOf [99, 97, 112], strOf [110, 101, 101, 100, 108, 101], strOf [112, 105, 118, 111, 116]]
def TW : Option CX → Bool
 | some (.cells [.slice (some ⟨b, o, none⟩) n c] el false) => Nat.beq b (nat_lit 9) && Nat.beq o (nat_lit 0) && Nat.beq n (nat_lit 4) && Nat.beq c (nat_lit 4) && Nat.beq el (nat_lit 22)
 | _ => false
def TY : Option CX → Bool
 | some (.cells l el false) => Ih l kindsL && Nat.beq el (nat_lit 9)
 | _ => false
def Lc (s : AA) : Bool := TW (s.get (nat_lit 0)) && TY (s.get (nat_lit 9))
def bH : Int → Bool
 | .ofNat n => Nat.blt n (nat_lit 9223372036854775808)
 | .negSucc n => Nat.blt n (nat_lit 9223372036854775808)
def Ii (p : Prim) (args : List Value) (s : AA) : Option (Value × AA) :=
 match p, args with
 | .itoa, [.int .i64 n] => cond (bH n) (some (strOf (BO n), s)) none
 | .atoi t, [.string x] => cond (Nat.ble (toL x).length (nat_lit 281474976710656)) (match Ec (toL x) with
  | (n, false) => some (.tuple ⟨[.int .i64 n, .nilIface]⟩, s)
  | (n, true) => some (.tuple ⟨[.int .i64 n, .iface t (.pointer (some ⟨s.nx, nat_lit 0, none⟩))]⟩, s.new .dead)) none
 | .split el, [.string x, .string ⟨⟨[c]⟩⟩] => cond (Nat.blt (toL x).length (nat_lit 4294967281))
  (some (Bo (BJ c (toL x)).length (BJ c (toL x)).length s.nx, s.new (.cells ((BJ c (toL x)).map strOf) el true))) none
 | .join, [.slice base len cap, .string sep] => match base with
  | none => some (strOf [], s)
  | some a => cond (Nat.ble len cap) (ob (s.rd a.block a.off len) fun l => ob (textsOf l) fun ts => cond (Nat.blt (Nat.add (Dp ts) (Nat.mul len (toL sep).length)) (nat_lit 1000000000)) (some (strOf (C9 (toL sep) ts), s)) none) none
 | .idxb, [.string x, .int .u8 (.ofNat c)] => cond (Nat.blt c (nat_lit 256)) (some (.int .i64 (G6 (toL x) c (nat_lit 0)), s)) none
 | .bwrite, [.pointer (some a), .string x] => ob (s.rd1 a.block (Nat.succ a.off)) fun v => ob (Dw s 5 1 1 (Di (toL x)) v) fun r =>
  ob (r.2.wr a.block (Nat.succ a.off) [r.1]) fun s'' => some (.tuple ⟨[.int .i64 (.ofNat (toL x).length), .nilIface]⟩, s'')
 | .l9, [.pointer (some a)] => match s.rd1 a.block (Nat.succ a.off) with
  | some (.slice (some b) n _) => ob (s.rd b.block b.off n) fun l => ob (bytesOf l) fun bs => some (strOf bs, s.put b.block .dead)
  | some _ => some (strOf [], s)
  | none => none
 | .works, [] => cond (Lc s) (some (.bool true, s)) none
 | _, _ => none
inductive TE where
 | code (F : BL)
 | Jc (p : Prim)
abbrev Tab := Nat → Option TE
def Ou (T : MT) (self : Self) (N f : Nat) (args : List Value) (s : AA) : Option TE → R (Value × AA)
 | some (.code F) => EL T self N F args s
 | some (.Jc p) => BI (f + 20000) (Ii p args s)
 | none => .bad (f + 10000)
def callT (T : MT) (F : Tab) (self : Self) (N : Nat) (t : Tgt) (args : List Value) (s : AA) : R (Value × AA) :=
 Tgt.rec (fun f => Ou T self N f args s (F f)) (fun l => Fe T self N l args s) t
def AU (T : MT) (F : Tab) (n : Nat) : Self :=
 Nat.rec (motive := fun _ => Self) (fun _ _ _ => .bad 41) (fun m ih t args s => callT T F ih m t args s) n
end
end Go.Im
