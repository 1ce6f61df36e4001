/- The ideal machine: which of its operations stands for which of the program's. -/
import Derived.Test.YtojbkocmobkddaaGreatDoorImS1
set_option linter.all false
namespace Go.Im
def isz (P : Program) (t : Nat) : Option Nat := (P.info? t).map (·.size)
def iby (P : Program) (t : Nat) : Option Nat := (P.info? t).map (·.bytes)
def Gi (P : Program) (t : Nat) : Option Value := (P.info? t).bind (·.zero)
def KH (P : Program) (t : Nat) : Option Bool :=
 match P.underlying t with
 | some (.struct _) => some true
 | some (.array _ _) => some true
 | some _ => some false
 | none => none
def cEq : Value → Value → Bool
 | .bool a, .bool b => a == b
 | .int k a, .int k' b => decide (k = k') && decide (a = b)
 | .string a, .string b => decide (a.data.toList = b.data.toList)
 | .pointer none, .pointer none => true
 | .slice none n c, .slice none n' c' => decide (n = 0) && decide (c = 0) && decide (n' = 0) && decide (c' = 0)
 | .map none, .map none => true
 | .nilFunc, .nilFunc => true
 | .nilIface, .nilIface => true
 | _, _ => false
def O5 : List Value → List Value → Bool
 | [], [] => true
 | a :: l, b :: l' => cEq a b && O5 l l'
 | _, _ => false
def Cb (G : List Nat) : Operand → Operand → Bool
 | .tmp t, .tmp u => decide (t = u)
 | .const a, .const b => cEq a b
 | .global g, .global h => decide (g = h) && decide (g ∈ G)
 | .func f, .func g => decide (f = g)
 | _, _ => false
def JH (G : List Nat) : List Operand → List Operand → Bool
 | [], [] => true
 | x :: l, y :: l' => Cb G x y && JH G l l'
 | _, _ => false
def JI (G : List Nat) : Option Operand → Option Operand → Bool
 | none, none => true
 | some x, some y => Cb G x y
 | _, _ => false
def GI (G : List Nat) (place : Nat → Option (Nat × Nat)) : List (Nat × Nat × Operand) → List (Nat × Operand) → Bool
 | [], [] => true
 | (o, n, x) :: l, (i, y) :: l' => decide (place i = some (o, n)) && Cb G x y && GI G place l l'
 | _, _ => false
def NK (P : Program) (fs : Array Field) : Option (List (Nat × Nat)) := fs.toList.mapM fun f => (P.info? f.type).map fun i => (f.offset, i.size)
def okFn : Fn → Fn → Bool
 | .func f, .func g => decide (f = g)
 | .method n, .method m => decide (n = m)
 | _, _ => false
def Kw (P : Program) (TA : List Nat) (k : EqK) (t : Nat) (x y : Operand) : Bool :=
 match k, P.underlying t with
 | .b, some .bool => true
 | .p, some (.pointer _) => true
 | .i, some (.interface _) => (match x with | .const _ => true | _ => false) || (match y with | .const _ => true | _ => false)
 | .s, some (.slice _) => true
 | .m, some (.map _ _) => true
 | .f, some (.func _ _ _) => true
 | .a n, some _ => decide (t ∈ TA) && decide (isz P t = some n)
 | _, _ => false
def isI : Option TypeDesc → Option IntKind
 | some (.int k) => some k
 | _ => none
def F9 : Option TypeDesc → Option Nat
 | some (.slice e) => some e
 | _ => none
def KI : Option TypeDesc → Option (Nat × Nat)
 | some (.array n e) => some (n, e)
 | _ => none
def isStr : Option TypeDesc → Bool
 | some .string => true
 | _ => false
def JJ : Option TypeDesc → Option (Array Field)
 | some (.struct fs) => some fs
 | _ => none
def QG : Option TypeDesc → Bool
 | some (.interface _) => false
 | some _ => true
 | none => false
def IX (P : Program) (G : List Nat) (o : POp) (b : Builtin) (c : Call) : Bool :=
 match o, b, c.args.toList, c.argTypes.toList with
 | .mv (.const (.int .i64 n)), .len, [_], [t] => match KI (P.underlying t) with
  | some (m, _) => decide (n = (m : Int))
  | none => false
 | .lenV false x, .len, [y], [t] => isStr (P.underlying t) && Cb G x y
 | .lenV true x, .len, [y], [t] => (F9 (P.underlying t)).isSome && Cb G x y
 | .capV x, .cap, [y], [t] => (F9 (P.underlying t)).isSome && Cb G x y
 | .mm true xs, .max, ys, _ => JH G xs ys
 | .mm false xs, .min, ys, _ => JH G xs ys
 | _, _, _, _ => false
def okP (P : Program) (G TA : List Nat) (o : POp) (op : Op) : Bool :=
 match op with
 | .call c => match c.callee with
  | .builtin b => IX P G o b c
  | _ => false
 | op =>
 match o, op with
 | .mv x, .move y => Cb G x y
 | .mv x, .assign y => Cb G x y
 | .pick c a b, .pick c' a' b' => Cb G c c' && Cb G a a' && Cb G b b'
 | .BI x, .nilCheck y => Cb G x y
 | .bin o x y, .binOp o' _ x' y' _ => decide (o = o') && Cb G x x' && Cb G y y'
 | .eqs k t neg x y, .binOp o' t' x' y' _ => decide (o' = if neg then .neq else .eql) && decide (t = t') && Kw P TA k t x' y' && Cb G x x' && Cb G y y'
 | .un o x, .unOp o' _ y => decide (o = o') && Cb G x y
 | .OJ k x, .convert src dst y => (P.underlying src).isSome && decide (isI (P.underlying dst) = some k) && Cb G x y
 | .cstr x, .convert src dst y => (P.underlying src).isSome && isStr (P.underlying dst) && Cb G x y
 | .mkI t x, .makeInterface t' y => decide (t = t') && QG (P.underlying t) && Cb G x y
 | .mkF fn a b, .makeFunc fn' a' b' => okFn fn fn' && JH G a a'.toList && JH G b b'.toList
 | .build z ps, .build t parts => match Gi P t, P.underlying t with
  | some zv, some (.struct fs) => match NK P fs with
   | some pl => O5 z zv.cells.toList && GI G (fun i => pl.toArray[i]?) ps parts.toList
   | none => false
  | some zv, some (.array _ e) => match isz P e with
   | some n => O5 z zv.cells.toList && GI G (fun i => some (i * n, n)) ps parts.toList
   | none => false
  | _, _ => false
 | .Ac off x, .fieldAddr s y f => match JJ (P.underlying s) with
  | some fs => match fs[f]? with
   | some fl => decide (fl.offset = off) && (match isz P fl.type with | some n => decide (n ≠ 0) | none => false) && Cb G x y
   | none => false
  | none => false
 | .fld agg off n x, .field s y f => match JJ (P.underlying s) with
  | some fs => match fs[f]? with
   | some fl => decide (fl.offset = off) && decide (isz P fl.type = some n) && decide (KH P fl.type = some agg) && Cb G x y
   | none => false
  | none => false
 | .CG n x i, .indexAddr t x' i' => match F9 (P.underlying t) with
  | some e => decide (isz P e = some n) && Cb G x x' && Cb G i i'
  | none => false
 | .Dl len n x i, .indexAddr t x' i' => match KI (P.underlying t) with
  | some (m, e) => decide (m = len) && decide (isz P e = some n) && Cb G x x' && Cb G i i'
  | none => false
 | .idxS x i, .index t x' i' => isStr (P.underlying t) && Cb G x x' && Cb G i i'
 | .idxA agg len n x i, .index t x' i' => match KI (P.underlying t) with
  | some (m, e) => decide (m = len) && decide (isz P e = some n) && decide (KH P e = some agg) && Cb G x x' && Cb G i i'
  | none => false
 | .OL x lo hi, .slice t x' lo' hi' none => isStr (P.underlying t) && Cb G x x' && JI G lo lo' && JI G hi hi'
 | .slArr len n x lo hi, .slice t x' lo' hi' none => match KI (P.underlying t) with
  | some (m, e) => decide (m = len) && decide (len < 9223372036854775808) && decide (isz P e = some n) && Cb G x x' && JI G lo lo' && JI G hi hi'
  | none => false
 | .tas t z ok x, .typeAssert y _ t' ok' => decide (t = t') && decide (ok = ok') && QG (P.underlying t) && (match Gi P t with | some zv => cEq z zv | none => false) && Cb G x y
 | .ext x i, .extract y j => decide (i = j) && Cb G x y
 | _, _ => false
def okR (P : Program) (G TK : List Nat) (o : ROp) (op : Op) : Bool :=
 match o, op with
 | .ld x, .load t y => decide (KH P t = some false) && Cb G x y
 | .ldN n x, .load t y => decide (KH P t = some true) && decide (isz P t = some n) && Cb G x y
 | .OM el n x lo hi mx, .slice t x' lo' hi' mx' => (match F9 (P.underlying t) with
  | some e => decide (e = el) && decide (isz P e = some n) && Cb G x x' && JI G lo lo' && JI G hi hi' && JI G mx mx' && (mx'.isNone || hi'.isSome)
  | none => false)
 | .bstr x, .convert src dst y => (match F9 (P.underlying src) with
  | some e => decide (isI (P.underlying e) = some .u8) && isStr (P.underlying dst) && Cb G x y
  | none => false)
 | _, _ => false
def okA (P : Program) (G : List Nat) (o : AOp) (op : Op) : Bool :=
 match o, op with
 | .alloc el z, .alloc el' => decide (el = el') && (isz P el).isSome && (match Gi P el with | some zv => O5 z zv.cells.toList | none => false)
 | .box el x, .box el' y => decide (el = el') && (isz P el).isSome && Cb G x y
 | .Dy el z len ps, .buildSlice t len' parts => decide (F9 (P.underlying t) = some el) && decide (len = len') &&
  (match isz P el, Gi P el with
  | some n, some zv => decide (n ≠ 0) && decide (len * n ≤ 16777216) && O5 z zv.cells.toList && decide (zv.cells.size = n) && GI G (fun i => some (i * n, n)) ps parts.toList
  | _, _ => false)
 | .make el z by_ l c, .makeSlice t l' c' => decide (F9 (P.underlying t) = some el) && decide (iby P el = some by_) &&
  (match isz P el, Gi P el with
  | some n, some zv => decide (n ≠ 0) && O5 z zv.cells.toList && decide (zv.cells.size = n) && Cb G l l' && Cb G c c'
  | _, _ => false)
 | .strb el x, .convert src dst y => decide (F9 (P.underlying dst) = some el) && decide (isz P el = some 1) && decide (isI (P.underlying el) = some .u8) && isStr (P.underlying src) && Cb G x y
 | .rngS x, .range t y => isStr (P.underlying t) && Cb G x y
 | .mkM, .makeMap _ none => true
 | _, _ => false
def X9 (P : Program) (el n by_ : Nat) (ints : Bool) (t t2 : Nat) : Bool :=
 decide (F9 (P.underlying t) = some el) && decide (isz P el = some n) && decide (iby P el = some by_) && decide (by_ ≠ 0) &&
  (match Gi P el with | some zv => decide (zv.cells.size = n) | none => false) && (if ints then (isI (P.underlying t2)).isSome else ((F9 (P.underlying t2)).isSome || isStr (P.underlying t2)))
def okW (P : Program) (G TK : List Nat) (o : WOp) (op : Op) : Bool :=
 match o, op with
 | .st n a x, .store t a' x' => decide (isz P t = some n) && Cb G a a' && Cb G x x'
 | .app el n by_ s x, .call { callee := .builtin .append, args := as, argTypes := ts } => (match as.toList, ts.toList with
  | [s', x'], [t, t2] => X9 P el n by_ false t t2 && Cb G s s' && Cb G x x'
  | _, _ => false)
 | .appz el n by_ z s x, .call { callee := .builtin .append, args := as, argTypes := ts } => (match as.toList, ts.toList with
  | [s', x'], [t, t2] => X9 P el n by_ true t t2 && (match Gi P el with | some zv => O5 z zv.cells.toList | none => false) && Cb G s s' && Cb G x x'
  | _, _ => false)
 | .nxtS x, .next y str => str && Cb G x y
 | .call f as, .call { callee := .value f', args := as', argTypes := _ } => Cb G f f' && JH G as as'.toList
 | .no _, _ => true
 | .inv x m as, .call { callee := .invoke x' m', args := as', argTypes := _ } => Cb G x x' && decide (m = m') && JH G as as'.toList
 | _, _ => false
def okOp (P : Program) (G TA TK : List Nat) (o : IOp) (op : Op) : Bool :=
 match o with
 | .p o => okP P G TA o op
 | .r o => okR P G TK o op
 | .a o => okA P G o op
 | .w o => okW P G TK o op
def Ky (ops : Array Oper) : Option (Nat × Bool) → Option (Nat × Bool) → Bool
 | none, none => true
 | some (g, b), some (j, b') => decide ((ops[j]?).bind (·.dst) = some g) && decide (b = b')
 | _, _ => false
def Oa : Op → Bool
 | .defer _ => false
 | .select _ _ => false
 | _ => true
def IY (P : Program) (G TA TK : List Nat) (nt : Nat) (ops : Array Oper) (io : CW) (o : Oper) : Bool :=
 decide (io.dst = o.dst) && (match o.dst with | some d => decide (d < nt) | none => true) && Ky ops io.guard o.guard && Oa o.op && okOp P G TA TK io.op o.op
def EK (P : Program) (G TA TK : List Nat) (nt : Nat) (ops : Array Oper) : List CW → List Oper → Bool
 | [], [] => true
 | a :: l, b :: l' => IY P G TA TK nt ops a b && EK P G TA TK nt ops l l'
 | _, _ => false
def binds (e : Edge) : Bool := Region.binds .any e
def EN (o : IOp) : Bool := match o with | .w _ => true | _ => false
def isRd (o : IOp) : Bool := match o with | .r _ => true | _ => false
def ahead (ops : Array Oper) : Array Nat := Region.before ops
def listed (j w : Nat) : List (Nat × List Nat) → Bool
 | [] => false
 | (j', ws) :: l => (decide (j' = j) && decide (w ∈ ws)) || listed j w l
def isAl (o : IOp) : Bool := match o with | .a _ => true | _ => false
def XA (d : Option Nat) (ks : List Nat) : Bool := match d with
 | none => true
 | some d => decide (d ∉ ks)
def MJ (io : List (CW × List Nat)) (rds : List (Nat × List Nat)) (i j : Nat) : Bool :=
 match io[i]?, io[j]? with
 | some u, some v => XA u.1.dst v.2 && XA v.1.dst u.2 && !(EN u.1.op && EN v.1.op) && !(isAl u.1.op && EN v.1.op) &&
  (!(isRd u.1.op && EN v.1.op) || listed i j rds) && (!(EN u.1.op && isRd v.1.op) || listed j i rds)
 | _, _ => false
def OA (ops : Array Oper) (io : List (CW × List Nat)) (rds : List (Nat × List Nat)) : Bool :=
 let b := ahead ops
 (List.range ops.size).all fun j => (List.range j).all fun i => (b.getD j 0).testBit i || MJ io rds i j
def IZ (ops : Array Oper) : Bool :=
 (ops.toList.zipIdx.all fun (o, i) => o.after.toList.all fun e => !binds e || decide (e.on < i)) &&
 (let ds := ops.toList.filterMap (·.dst); decide (ds.Nodup))
def Ci (P : Program) (G TA TK : List Nat) (nt : Nat) (inR : Bool) : AA → Code → Bool
 | .skip, .skip => true
 | .skip, .label _ => true
 | .reg ops, .region _ os false => EK P G TA TK nt os ops os.toList
 | .DI ops rds, .region _ os true => EK P G TA TK nt os (ops.map (·.1)) os.toList && OA os ops rds && IZ os
 | .seq a b, .seq x y => Ci P G TA TK nt inR a x && Ci P G TA TK nt inR b y
 | .BG _ a b, .seq x y => Ci P G TA TK nt inR a x && Ci P G TA TK nt inR b y
 | .cond c a b, .cond c' x y => Cb G c c' && Ci P G TA TK nt inR a x && Ci P G TA TK nt inR b y
 | .block id a, .block id' x => decide (id = id') && Ci P G TA TK nt inR a x
 | .loop _ a, .loop x => Ci P G TA TK nt inR a x
 | .OO f ps a b, .rangeFunc f' ps' x y => !inR && Cb G f f' && decide (ps = ps'.toList) && (ps.all fun t => decide (t < nt)) && Ci P G TA TK nt true a x && Ci P G TA TK nt true b y
 | .exit id, .exit id' => decide (id = id')
 | .ret, .ret => true
 | _, _ => false
def J5 (P : Program) (nt : Nat) : List IRes → List ResultVar → Bool
 | [], [] => true
 | .tmp t :: l, .tmp t' :: l' => decide (t = t') && decide (t < nt) && J5 P nt l l'
 | .cell t :: l, .cell t' ty :: l' => decide (t = t') && decide (KH P ty = some false) && J5 P nt l l'
 | .cells t n :: l, .cell t' ty :: l' => decide (t = t') && decide (KH P ty = some true) && decide (isz P ty = some n) && J5 P nt l l'
 | _, _ => false
def Am (P : Program) (G TA TK : List Nat) (F : BH) (fn : Func) : Bool :=
 decide (F.np ≤ fn.ntmps) && J5 P fn.ntmps F.res fn.results.toList && (match fn.body with
  | some c => Ci P G TA TK fn.ntmps false F.body c
  | none => false)
end Go.Im
