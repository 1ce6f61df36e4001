/- The ideal machine: which of its operations stands for which of the program's. -/
import Derived.Test.YtojbkocmobkddaaGreatDoorImS1
set_option linter.all false
namespace Go.Im
def isz (P : Program) (t : Nat) : Option Nat := (P.info? t).map (·.size)
def iby (P : Program) (t : Nat) : Option Nat := (P.info? t).map (·.bytes)
def Gs (P : Program) (t : Nat) : Option Value := (P.info? t).bind (·.zero)
def Kv (P : Program) (t : Nat) : Option Bool :=
 match P.underlying t with
 | some (.struct _) => some true
 | some (.array _ _) => some true
 | some _ => some false
 | none => none
def cEq : Value → Value → Bool
 | .bool a, .bool b => a == b
 | .int k a, .int k' b => decide (k = k') && decide (a = b)
 | .string a, .string b => decide (a.data.toList = b.data.toList)
 | .pointer none, .pointer none => true
 | .slice none n c, .slice none n' c' => decide (n = 0) && decide (c = 0) && decide (n' = 0) && decide (c' = 0)
 | .map none, .map none => true
 | .nilFunc, .nilFunc => true
 | .nilIface, .nilIface => true
 | _, _ => false
def OX : List Value → List Value → Bool
 | [], [] => true
 | a :: l, b :: l' => cEq a b && OX l l'
 | _, _ => false
def DC (G : List Nat) : Operand → Operand → Bool
 | .tmp t, .tmp u => decide (t = u)
 | .const a, .const b => cEq a b
 | .global g, .global h => decide (g = h) && decide (g ∈ G)
 | .func f, .func g => decide (f = g)
 | _, _ => false
def Jd (G : List Nat) : List Operand → List Operand → Bool
 | [], [] => true
 | x :: l, y :: l' => DC G x y && Jd G l l'
 | _, _ => false
def Je (G : List Nat) : Option Operand → Option Operand → Bool
 | none, none => true
 | some x, some y => DC G x y
 | _, _ => false
def GZ (G : List Nat) (place : Nat → Option (Nat × Nat)) : List (Nat × Nat × Operand) → List (Nat × Operand) → Bool
 | [], [] => true
 | (o, n, x) :: l, (i, y) :: l' => decide (place i = some (o, n)) && DC G x y && GZ G place l l'
 | _, _ => false
def Nw (P : Program) (fs : Array Field) : Option (List (Nat × Nat)) := fs.toList.mapM fun f => (P.info? f.type).map fun i => (f.offset, i.size)
def okFn : Fn → Fn → Bool
 | .func f, .func g => decide (f = g)
 | .method n, .method m => decide (n = m)
 | _, _ => false
def Le (P : Program) (TA : List Nat) (k : EqK) (t : Nat) (x y : Operand) : Bool :=
 match k, P.underlying t with
 | .b, some .bool => true
 | .p, some (.pointer _) => true
 | .i, some (.interface _) => (match x with | .const _ => true | _ => false) || (match y with | .const _ => true | _ => false)
 | .s, some (.slice _) => true
 | .m, some (.map _ _) => true
 | .f, some (.func _ _ _) => true
 | .a n, some _ => decide (t ∈ TA) && decide (isz P t = some n)
 | _, _ => false
def isI : Option TypeDesc → Option IntKind
 | some (.int k) => some k
 | _ => none
def Fg : Option TypeDesc → Option Nat
 | some (.slice e) => some e
 | _ => none
def Kw : Option TypeDesc → Option (Nat × Nat)
 | some (.array n e) => some (n, e)
 | _ => none
def isStr : Option TypeDesc → Bool
 | some .string => true
 | _ => false
def Jf : Option TypeDesc → Option (Array Field)
 | some (.struct fs) => some fs
 | _ => none
def Qv : Option TypeDesc → Bool
 | some (.interface _) => false
 | some _ => true
 | none => false
def J5 (P : Program) (G : List Nat) (o : POp) (b : Builtin) (c : Call) : Bool :=
 match o, b, c.args.toList, c.argTypes.toList with
 | .mv (.const (.int .i64 n)), .len, [_], [t] => match Kw (P.underlying t) with
  | some (m, _) => decide (n = (m : Int))
  | none => false
 | .lenV false x, .len, [y], [t] => isStr (P.underlying t) && DC G x y
 | .lenV true x, .len, [y], [t] => (Fg (P.underlying t)).isSome && DC G x y
 | .capV x, .cap, [y], [t] => (Fg (P.underlying t)).isSome && DC G x y
 | .mm true xs, .max, ys, _ => Jd G xs ys
 | .mm false xs, .min, ys, _ => Jd G xs ys
 | _, _, _, _ => false
def okP (P : Program) (G TA : List Nat) (o : POp) (op : Op) : Bool :=
 match op with
 | .call c => match c.callee with
  | .builtin b => J5 P G o b c
  | _ => false
 | op =>
 match o, op with
 | .mv x, .move y => DC G x y
 | .mv x, .assign y => DC G x y
 | .pick c a b, .pick c' a' b' => DC G c c' && DC G a a' && DC G b b'
 | .BU x, .nilCheck y => DC G x y
 | .bin o x y, .binOp o' _ x' y' _ => decide (o = o') && DC G x x' && DC G y y'
 | .eqs k t neg x y, .binOp o' t' x' y' _ => decide (o' = if neg then .neq else .eql) && decide (t = t') && Le P TA k t x' y' && DC G x x' && DC G y y'
 | .un o x, .unOp o' _ y => decide (o = o') && DC G x y
 | .TR k x, .convert src dst y => (P.underlying src).isSome && decide (isI (P.underlying dst) = some k) && DC G x y
 | .cstr x, .convert src dst y => (P.underlying src).isSome && isStr (P.underlying dst) && DC G x y
 | .mkI t x, .makeInterface t' y => decide (t = t') && Qv (P.underlying t) && DC G x y
 | .mkF fn a b, .makeFunc fn' a' b' => okFn fn fn' && Jd G a a'.toList && Jd G b b'.toList
 | .build z ps, .build t parts => match Gs P t, P.underlying t with
  | some zv, some (.struct fs) => match Nw P fs with
   | some pl => OX z zv.cells.toList && GZ G (fun i => pl.toArray[i]?) ps parts.toList
   | none => false
  | some zv, some (.array _ e) => match isz P e with
   | some n => OX z zv.cells.toList && GZ G (fun i => some (i * n, n)) ps parts.toList
   | none => false
  | _, _ => false
 | .Am off x, .fieldAddr s y f => match Jf (P.underlying s) with
  | some fs => match fs[f]? with
   | some fl => decide (fl.offset = off) && (match isz P fl.type with | some n => decide (n ≠ 0) | none => false) && DC G x y
   | none => false
  | none => false
 | .fld agg off n x, .field s y f => match Jf (P.underlying s) with
  | some fs => match fs[f]? with
   | some fl => decide (fl.offset = off) && decide (isz P fl.type = some n) && decide (Kv P fl.type = some agg) && DC G x y
   | none => false
  | none => false
 | .Ci n x i, .indexAddr t x' i' => match Fg (P.underlying t) with
  | some e => decide (isz P e = some n) && DC G x x' && DC G i i'
  | none => false
 | .FB len n x i, .indexAddr t x' i' => match Kw (P.underlying t) with
  | some (m, e) => decide (m = len) && decide (isz P e = some n) && DC G x x' && DC G i i'
  | none => false
 | .idxS x i, .index t x' i' => isStr (P.underlying t) && DC G x x' && DC G i i'
 | .idxA agg len n x i, .index t x' i' => match Kw (P.underlying t) with
  | some (m, e) => decide (m = len) && decide (isz P e = some n) && decide (Kv P e = some agg) && DC G x x' && DC G i i'
  | none => false
 | .Jb x lo hi, .slice t x' lo' hi' none => isStr (P.underlying t) && DC G x x' && Je G lo lo' && Je G hi hi'
 | .slArr len n x lo hi, .slice t x' lo' hi' none => match Kw (P.underlying t) with
  | some (m, e) => decide (m = len) && decide (len < 9223372036854775808) && decide (isz P e = some n) && DC G x x' && Je G lo lo' && Je G hi hi'
  | none => false
 | .tas t z ok x, .typeAssert y _ t' ok' => decide (t = t') && decide (ok = ok') && Qv (P.underlying t) && (match Gs P t with | some zv => cEq z zv | none => false) && DC G x y
 | .ext x i, .extract y j => decide (i = j) && DC G x y
 | _, _ => false
def okR (P : Program) (G TK : List Nat) (o : ROp) (op : Op) : Bool :=
 match o, op with
 | .ld x, .load t y => decide (Kv P t = some false) && DC G x y
 | .ldN n x, .load t y => decide (Kv P t = some true) && decide (isz P t = some n) && DC G x y
 | .OQ el n x lo hi mx, .slice t x' lo' hi' mx' => (match Fg (P.underlying t) with
  | some e => decide (e = el) && decide (isz P e = some n) && DC G x x' && Je G lo lo' && Je G hi hi' && Je G mx mx' && (mx'.isNone || hi'.isSome)
  | none => false)
 | .bstr x, .convert src dst y => (match Fg (P.underlying src) with
  | some e => decide (isI (P.underlying e) = some .u8) && isStr (P.underlying dst) && DC G x y
  | none => false)
 | _, _ => false
def okA (P : Program) (G : List Nat) (o : AOp) (op : Op) : Bool :=
 match o, op with
 | .alloc el z, .alloc el' => decide (el = el') && (isz P el).isSome && (match Gs P el with | some zv => OX z zv.cells.toList | none => false)
 | .box el x, .box el' y => decide (el = el') && (isz P el).isSome && DC G x y
 | .GH el z len ps, .buildSlice t len' parts => decide (Fg (P.underlying t) = some el) && decide (len = len') &&
  (match isz P el, Gs P el with
  | some n, some zv => decide (n ≠ 0) && decide (len * n ≤ 16777216) && OX z zv.cells.toList && decide (zv.cells.size = n) && GZ G (fun i => some (i * n, n)) ps parts.toList
  | _, _ => false)
 | .make el z by_ l c, .makeSlice t l' c' => decide (Fg (P.underlying t) = some el) && decide (iby P el = some by_) &&
  (match isz P el, Gs P el with
  | some n, some zv => decide (n ≠ 0) && OX z zv.cells.toList && decide (zv.cells.size = n) && DC G l l' && DC G c c'
  | _, _ => false)
 | .strb el x, .convert src dst y => decide (Fg (P.underlying dst) = some el) && decide (isz P el = some 1) && decide (isI (P.underlying el) = some .u8) && isStr (P.underlying src) && DC G x y
 | .rngS x, .range t y => isStr (P.underlying t) && DC G x y
 | .mkM, .makeMap _ none => true
 | _, _ => false
def YH (P : Program) (el n by_ : Nat) (ints : Bool) (t t2 : Nat) : Bool :=
 decide (Fg (P.underlying t) = some el) && decide (isz P el = some n) && decide (iby P el = some by_) && decide (by_ ≠ 0) &&
  (match Gs P el with | some zv => decide (zv.cells.size = n) | none => false) && (if ints then (isI (P.underlying t2)).isSome else ((Fg (P.underlying t2)).isSome || isStr (P.underlying t2)))
def okW (P : Program) (G TK : List Nat) (o : WOp) (op : Op) : Bool :=
 match o, op with
 | .st n a x, .store t a' x' => decide (isz P t = some n) && DC G a a' && DC G x x'
 | .app el n by_ s x, .call { callee := .builtin .append, args := as, argTypes := ts } => (match as.toList, ts.toList with
  | [s', x'], [t, t2] => YH P el n by_ false t t2 && DC G s s' && DC G x x'
  | _, _ => false)
 | .appz el n by_ z s x, .call { callee := .builtin .append, args := as, argTypes := ts } => (match as.toList, ts.toList with
  | [s', x'], [t, t2] => YH P el n by_ true t t2 && (match Gs P el with | some zv => OX z zv.cells.toList | none => false) && DC G s s' && DC G x x'
  | _, _ => false)
 | .nxtS x, .next y str => str && DC G x y
 | .call f as, .call { callee := .value f', args := as', argTypes := _ } => DC G f f' && Jd G as as'.toList
 | .no _, _ => true
 | .inv x m as, .call { callee := .invoke x' m', args := as', argTypes := _ } => DC G x x' && decide (m = m') && Jd G as as'.toList
 | _, _ => false
def okOp (P : Program) (G TA TK : List Nat) (o : IOp) (op : Op) : Bool :=
 match o with
 | .p o => okP P G TA o op
 | .r o => okR P G TK o op
 | .a o => okA P G o op
 | .w o => okW P G TK o op
def Lh (ops : Array Oper) : Option (Nat × Bool) → Option (Nat × Bool) → Bool
 | none, none => true
 | some (g, b), some (j, b') => decide ((ops[j]?).bind (·.dst) = some g) && decide (b = b')
 | _, _ => false
def Oz : Op → Bool
 | .defer _ => false
 | .select _ _ => false
 | _ => true
def J6 (P : Program) (G TA TK : List Nat) (nt : Nat) (ops : Array Oper) (io : D5) (o : Oper) : Bool :=
 decide (io.dst = o.dst) && (match o.dst with | some d => decide (d < nt) | none => true) && Lh ops io.guard o.guard && Oz o.op && okOp P G TA TK io.op o.op
def EX (P : Program) (G TA TK : List Nat) (nt : Nat) (ops : Array Oper) : List D5 → List Oper → Bool
 | [], [] => true
 | a :: l, b :: l' => J6 P G TA TK nt ops a b && EX P G TA TK nt ops l l'
 | _, _ => false
def binds (e : Edge) : Bool := Region.binds .any e
def Ee (o : IOp) : Bool := match o with | .w _ => true | _ => false
def isRd (o : IOp) : Bool := match o with | .r _ => true | _ => false
def ahead (ops : Array Oper) : Array Nat := Region.before ops
def listed (j w : Nat) : List (Nat × List Nat) → Bool
 | [] => false
 | (j', ws) :: l => (decide (j' = j) && decide (w ∈ ws)) || listed j w l
def isAl (o : IOp) : Bool := match o with | .a _ => true | _ => false
def YI (d : Option Nat) (ks : List Nat) : Bool := match d with
 | none => true
 | some d => decide (d ∉ ks)
def NH (io : List (D5 × List Nat)) (rds : List (Nat × List Nat)) (i j : Nat) : Bool :=
 match io[i]?, io[j]? with
 | some u, some v => YI u.1.dst v.2 && YI v.1.dst u.2 && !(Ee u.1.op && Ee v.1.op) && !(isAl u.1.op && Ee v.1.op) &&
  (!(isRd u.1.op && Ee v.1.op) || listed i j rds) && (!(Ee u.1.op && isRd v.1.op) || listed j i rds)
 | _, _ => false
def Oa (ops : Array Oper) (io : List (D5 × List Nat)) (rds : List (Nat × List Nat)) : Bool :=
 let b := ahead ops
 (List.range ops.size).all fun j => (List.range j).all fun i => (b.getD j 0).testBit i || NH io rds i j
def J7 (ops : Array Oper) : Bool :=
 (ops.toList.zipIdx.all fun (o, i) => o.after.toList.all fun e => !binds e || decide (e.on < i)) &&
 (let ds := ops.toList.filterMap (·.dst); decide (ds.Nodup))
def DR (P : Program) (G TA TK : List Nat) (nt : Nat) (inR : Bool) : AB → Code → Bool
 | .skip, .skip => true
 | .skip, .label _ => true
 | .reg ops, .region _ os false => EX P G TA TK nt os ops os.toList
 | .Dl ops rds, .region _ os true => EX P G TA TK nt os (ops.map (·.1)) os.toList && Oa os ops rds && J7 os
 | .seq a b, .seq x y => DR P G TA TK nt inR a x && DR P G TA TK nt inR b y
 | .BM _ a b, .seq x y => DR P G TA TK nt inR a x && DR P G TA TK nt inR b y
 | .cond c a b, .cond c' x y => DC G c c' && DR P G TA TK nt inR a x && DR P G TA TK nt inR b y
 | .block id a, .block id' x => decide (id = id') && DR P G TA TK nt inR a x
 | .loop _ a, .loop x => DR P G TA TK nt inR a x
 | .Ol f ps a b, .rangeFunc f' ps' x y => !inR && DC G f f' && decide (ps = ps'.toList) && (ps.all fun t => decide (t < nt)) && DR P G TA TK nt true a x && DR P G TA TK nt true b y
 | .exit id, .exit id' => decide (id = id')
 | .ret, .ret => true
 | _, _ => false
def JU (P : Program) (nt : Nat) : List IRes → List ResultVar → Bool
 | [], [] => true
 | .tmp t :: l, .tmp t' :: l' => decide (t = t') && decide (t < nt) && JU P nt l l'
 | .cell t :: l, .cell t' ty :: l' => decide (t = t') && decide (Kv P ty = some false) && JU P nt l l'
 | .cells t n :: l, .cell t' ty :: l' => decide (t = t') && decide (Kv P ty = some true) && decide (isz P ty = some n) && JU P nt l l'
 | _, _ => false
def BD (P : Program) (G TA TK : List Nat) (F : BL) (fn : Func) : Bool :=
 decide (F.np ≤ fn.ntmps) && JU P fn.ntmps F.res fn.results.toList && (match fn.body with
  | some c => DR P G TA TK fn.ntmps false F.body c
  | none => false)
end Go.Im
