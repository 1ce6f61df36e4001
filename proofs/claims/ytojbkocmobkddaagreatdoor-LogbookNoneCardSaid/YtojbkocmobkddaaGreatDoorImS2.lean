/- The ideal machine: which of its operations stands for which of the program's. -/
import Derived.Test.YtojbkocmobkddaaGreatDoorImS1
namespace Go.Im

/-! ### What the program's tables say -/
def isz (P : Program) (t : Nat) : Option Nat := (P.info? t).map (·.size)
def iby (P : Program) (t : Nat) : Option Nat := (P.info? t).map (·.bytes)
def izero (P : Program) (t : Nat) : Option Value := (P.info? t).bind (·.zero)
def aggT (P : Program) (t : Nat) : Option Bool :=
  match P.underlying t with
  | some (.struct _) => some true
  | some (.array _ _) => some true
  | some _ => some false
  | none => none

/-- Equality of constants that hold no address. -/
def cEq : Value → Value → Bool
  | .bool a, .bool b => a == b
  | .int k a, .int k' b => decide (k = k') && decide (a = b)
  | .string a, .string b => decide (a.data.toList = b.data.toList)
  | .pointer none, .pointer none => true
  | .slice none n c, .slice none n' c' => decide (n = 0) && decide (c = 0) && decide (n' = 0) && decide (c' = 0)
  | .map none, .map none => true
  | .nilFunc, .nilFunc => true
  | .nilIface, .nilIface => true
  | _, _ => false
def cEqL : List Value → List Value → Bool
  | [], [] => true
  | a :: l, b :: l' => cEq a b && cEqL l l'
  | _, _ => false
def opEq (G : List Nat) : Operand → Operand → Bool
  | .tmp t, .tmp u => decide (t = u)
  | .const a, .const b => cEq a b
  | .global g, .global h => decide (g = h) && decide (g ∈ G)
  | .func f, .func g => decide (f = g)
  | _, _ => false
def opEqs (G : List Nat) : List Operand → List Operand → Bool
  | [], [] => true
  | x :: l, y :: l' => opEq G x y && opEqs G l l'
  | _, _ => false
def opEqO (G : List Nat) : Option Operand → Option Operand → Bool
  | none, none => true
  | some x, some y => opEq G x y
  | _, _ => false
/-- The parts of a literal: each at its place. -/
def okParts (G : List Nat) (place : Nat → Option (Nat × Nat)) : List (Nat × Nat × Operand) → List (Nat × Operand) → Bool
  | [], [] => true
  | (o, n, x) :: l, (i, y) :: l' => decide (place i = some (o, n)) && opEq G x y && okParts G place l l'
  | _, _ => false
def fieldPlaces (P : Program) (fs : Array Field) : Option (List (Nat × Nat)) := fs.toList.mapM fun f => (P.info? f.type).map fun i => (f.offset, i.size)
def okFn : Fn → Fn → Bool
  | .func f, .func g => decide (f = g)
  | .method n, .method m => decide (n = m)
  | _, _ => false
def okEqK (P : Program) (TA : List Nat) (k : EqK) (t : Nat) (x y : Operand) : Bool :=
  match k, P.underlying t with
  | .b, some .bool => true
  | .p, some (.pointer _) => true
  | .i, some (.interface _) => (match x with | .const _ => true | _ => false) || (match y with | .const _ => true | _ => false)
  | .s, some (.slice _) => true
  | .m, some (.map _ _) => true
  | .f, some (.func _ _ _) => true
  | .a n, some _ => decide (t ∈ TA) && decide (isz P t = some n)
  | _, _ => false
def isI : Option TypeDesc → Option IntKind
  | some (.int k) => some k
  | _ => none
def slElem : Option TypeDesc → Option Nat
  | some (.slice e) => some e
  | _ => none
def arElem : Option TypeDesc → Option (Nat × Nat)
  | some (.array n e) => some (n, e)
  | _ => none
def isStr : Option TypeDesc → Bool
  | some .string => true
  | _ => false
def structFs : Option TypeDesc → Option (Array Field)
  | some (.struct fs) => some fs
  | _ => none
def notI : Option TypeDesc → Bool
  | some (.interface _) => false
  | some _ => true
  | none => false

def okBuiltinP (P : Program) (G : List Nat) (o : POp) (b : Builtin) (c : Call) : Bool :=
  match o, b, c.args.toList, c.argTypes.toList with
  | .mv (.const (.int .i64 n)), .len, [_], [t] => match arElem (P.underlying t) with
    | some (m, _) => decide (n = (m : Int))
    | none => false
  | .lenV false x, .len, [y], [t] => isStr (P.underlying t) && opEq G x y
  | .lenV true x, .len, [y], [t] => (slElem (P.underlying t)).isSome && opEq G x y
  | .capV x, .cap, [y], [t] => (slElem (P.underlying t)).isSome && opEq G x y
  | .mm true xs, .max, ys, _ => opEqs G xs ys
  | .mm false xs, .min, ys, _ => opEqs G xs ys
  | _, _, _, _ => false

def okP (P : Program) (G TA : List Nat) (o : POp) (op : Op) : Bool :=
  match op with
  | .call c => match c.callee with
    | .builtin b => okBuiltinP P G o b c
    | _ => false
  | op =>
  match o, op with
  | .mv x, .move y => opEq G x y
  | .mv x, .assign y => opEq G x y
  | .pick c a b, .pick c' a' b' => opEq G c c' && opEq G a a' && opEq G b b'
  | .nilc x, .nilCheck y => opEq G x y
  | .bin o x y, .binOp o' _ x' y' _ => decide (o = o') && opEq G x x' && opEq G y y'
  | .eqs k t neg x y, .binOp o' t' x' y' _ => decide (o' = if neg then .neq else .eql) && decide (t = t') && okEqK P TA k t x' y' && opEq G x x' && opEq G y y'
  | .un o x, .unOp o' _ y => decide (o = o') && opEq G x y
  | .cint k x, .convert src dst y => (P.underlying src).isSome && decide (isI (P.underlying dst) = some k) && opEq G x y
  | .cstr x, .convert src dst y => (P.underlying src).isSome && isStr (P.underlying dst) && opEq G x y
  | .mkI t x, .makeInterface t' y => decide (t = t') && notI (P.underlying t) && opEq G x y
  | .mkF fn a b, .makeFunc fn' a' b' => okFn fn fn' && opEqs G a a'.toList && opEqs G b b'.toList
  | .build z ps, .build t parts => match izero P t, P.underlying t with
    | some zv, some (.struct fs) => match fieldPlaces P fs with
      | some pl => cEqL z zv.cells.toList && okParts G (fun i => pl.toArray[i]?) ps parts.toList
      | none => false
    | some zv, some (.array _ e) => match isz P e with
      | some n => cEqL z zv.cells.toList && okParts G (fun i => some (i * n, n)) ps parts.toList
      | none => false
    | _, _ => false
  | .faddr off x, .fieldAddr s y f => match structFs (P.underlying s) with
    | some fs => match fs[f]? with
      | some fl => decide (fl.offset = off) && (match isz P fl.type with | some n => decide (n ≠ 0) | none => false) && opEq G x y
      | none => false
    | none => false
  | .fld agg off n x, .field s y f => match structFs (P.underlying s) with
    | some fs => match fs[f]? with
      | some fl => decide (fl.offset = off) && decide (isz P fl.type = some n) && decide (aggT P fl.type = some agg) && opEq G x y
      | none => false
    | none => false
  | .iadS n x i, .indexAddr t x' i' => match slElem (P.underlying t) with
    | some e => decide (isz P e = some n) && opEq G x x' && opEq G i i'
    | none => false
  | .iadA len n x i, .indexAddr t x' i' => match arElem (P.underlying t) with
    | some (m, e) => decide (m = len) && decide (isz P e = some n) && opEq G x x' && opEq G i i'
    | none => false
  | .idxS x i, .index t x' i' => isStr (P.underlying t) && opEq G x x' && opEq G i i'
  | .idxA agg len n x i, .index t x' i' => match arElem (P.underlying t) with
    | some (m, e) => decide (m = len) && decide (isz P e = some n) && decide (aggT P e = some agg) && opEq G x x' && opEq G i i'
    | none => false
  | .slStr x lo hi, .slice t x' lo' hi' none => isStr (P.underlying t) && opEq G x x' && opEqO G lo lo' && opEqO G hi hi'
  | .slArr len n x lo hi, .slice t x' lo' hi' none => match arElem (P.underlying t) with
    | some (m, e) => decide (m = len) && decide (len < 9223372036854775808) && decide (isz P e = some n) && opEq G x x' && opEqO G lo lo' && opEqO G hi hi'
    | none => false
  | .tas t z ok x, .typeAssert y _ t' ok' => decide (t = t') && decide (ok = ok') && notI (P.underlying t) && (match izero P t with | some zv => cEq z zv | none => false) && opEq G x y
  | .ext x i, .extract y j => decide (i = j) && opEq G x y
  | _, _ => false

/-- Kinds of keys of maps: integers, strings, bools; or structs and arrays that are listed. -/
def okKey (P : Program) (TA : List Nat) (t : Nat) : Bool :=
  match P.underlying t with
  | some (.int _) => true
  | some .string => true
  | some .bool => true
  | some _ => decide (t ∈ TA)
  | none => false
def mapT : Option TypeDesc → Option (Nat × Nat)
  | some (.map k e) => some (k, e)
  | _ => none

def okR (P : Program) (G TK : List Nat) (o : ROp) (op : Op) : Bool :=
  match o, op with
  | .ld x, .load t y => decide (aggT P t = some false) && opEq G x y
  | .ldN n x, .load t y => decide (aggT P t = some true) && decide (isz P t = some n) && opEq G x y
  | .slSl el n x lo hi mx, .slice t x' lo' hi' mx' => (match slElem (P.underlying t) with
    | some e => decide (e = el) && decide (isz P e = some n) && opEq G x x' && opEqO G lo lo' && opEqO G hi hi' && opEqO G mx mx' && (mx'.isNone || hi'.isSome)
    | none => false)
  | .bstr x, .convert src dst y => (match slElem (P.underlying src) with
    | some e => decide (isI (P.underlying e) = some .u8) && isStr (P.underlying dst) && opEq G x y
    | none => false)
  | _, _ => false

def okA (P : Program) (G : List Nat) (o : AOp) (op : Op) : Bool :=
  match o, op with
  | .alloc el z, .alloc el' => decide (el = el') && (isz P el).isSome && (match izero P el with | some zv => cEqL z zv.cells.toList | none => false)
  | .box el x, .box el' y => decide (el = el') && (isz P el).isSome && opEq G x y
  | .mkSl el z len ps, .buildSlice t len' parts => decide (slElem (P.underlying t) = some el) && decide (len = len') &&
      (match isz P el, izero P el with
      | some n, some zv => decide (n ≠ 0) && decide (len * n ≤ 16777216) && cEqL z zv.cells.toList && decide (zv.cells.size = n) && okParts G (fun i => some (i * n, n)) ps parts.toList
      | _, _ => false)
  | .make el z by_ l c, .makeSlice t l' c' => decide (slElem (P.underlying t) = some el) && decide (iby P el = some by_) &&
      (match isz P el, izero P el with
      | some n, some zv => decide (n ≠ 0) && cEqL z zv.cells.toList && decide (zv.cells.size = n) && opEq G l l' && opEq G c c'
      | _, _ => false)
  | .strb el x, .convert src dst y => decide (slElem (P.underlying dst) = some el) && decide (isz P el = some 1) && decide (isI (P.underlying el) = some .u8) && isStr (P.underlying src) && opEq G x y
  | .rngS x, .range t y => isStr (P.underlying t) && opEq G x y
  | .mkM, .makeMap _ none => true
  | _, _ => false

def okApp (P : Program) (el n by_ : Nat) (ints : Bool) (t t2 : Nat) : Bool :=
  decide (slElem (P.underlying t) = some el) && decide (isz P el = some n) && decide (iby P el = some by_) && decide (by_ ≠ 0) &&
    (match izero P el with | some zv => decide (zv.cells.size = n) | none => false) && (if ints then (isI (P.underlying t2)).isSome else ((slElem (P.underlying t2)).isSome || isStr (P.underlying t2)))

def okW (P : Program) (G TK : List Nat) (o : WOp) (op : Op) : Bool :=
  match o, op with
  | .st n a x, .store t a' x' => decide (isz P t = some n) && opEq G a a' && opEq G x x'
  | .app el n by_ s x, .call { callee := .builtin .append, args := as, argTypes := ts } => (match as.toList, ts.toList with
    | [s', x'], [t, t2] => okApp P el n by_ false t t2 && opEq G s s' && opEq G x x'
    | _, _ => false)
  | .appz el n by_ z s x, .call { callee := .builtin .append, args := as, argTypes := ts } => (match as.toList, ts.toList with
    | [s', x'], [t, t2] => okApp P el n by_ true t t2 && (match izero P el with | some zv => cEqL z zv.cells.toList | none => false) && opEq G s s' && opEq G x x'
    | _, _ => false)
  | .nxtS x, .next y str => str && opEq G x y
  | .call f as, .call { callee := .value f', args := as', argTypes := _ } => opEq G f f' && opEqs G as as'.toList
  | .no _, _ => true
  | .inv x m as, .call { callee := .invoke x' m', args := as', argTypes := _ } => opEq G x x' && decide (m = m') && opEqs G as as'.toList
  | _, _ => false

def okOp (P : Program) (G TA TK : List Nat) (o : IOp) (op : Op) : Bool :=
  match o with
  | .p o => okP P G TA o op
  | .r o => okR P G TK o op
  | .a o => okA P G o op
  | .w o => okW P G TK o op

def okGuard (ops : Array Oper) : Option (Nat × Bool) → Option (Nat × Bool) → Bool
  | none, none => true
  | some (g, b), some (j, b') => decide ((ops[j]?).bind (·.dst) = some g) && decide (b = b')
  | _, _ => false
def notDefer : Op → Bool
  | .defer _ => false
  | .select _ _ => false
  | _ => true
/-- nt: how many slots the frame has. -/
def okOper (P : Program) (G TA TK : List Nat) (nt : Nat) (ops : Array Oper) (io : IOper) (o : Oper) : Bool :=
  decide (io.dst = o.dst) && (match o.dst with | some d => decide (d < nt) | none => true) && okGuard ops io.guard o.guard && notDefer o.op && okOp P G TA TK io.op o.op
def okOpers (P : Program) (G TA TK : List Nat) (nt : Nat) (ops : Array Oper) : List IOper → List Oper → Bool
  | [], [] => true
  | a :: l, b :: l' => okOper P G TA TK nt ops a b && okOpers P G TA TK nt ops l l'
  | _, _ => false

/-! ### Regions that draw their order: what must be ordered is -/
def binds (e : Edge) : Bool := Region.binds .any e
/-- For each operation the operations ahead of it, as bits. -/
def isWr (o : IOp) : Bool := match o with | .w _ => true | _ => false
def isRd (o : IOp) : Bool := match o with | .r _ => true | _ => false
/-- The operations ahead of the j-th: through the edges (direct ones, or through others). -/
def ahead (ops : Array Oper) : Array Nat := Region.before ops
def listed (j w : Nat) : List (Nat × List Nat) → Bool
  | [] => false
  | (j', ws) :: l => (decide (j' = j) && decide (w ∈ ws)) || listed j w l
def isAl (o : IOp) : Bool := match o with | .a _ => true | _ => false
def noDst (d : Option Nat) (ks : List Nat) : Bool := match d with
  | none => true
  | some d => decide (d ∉ ks)
/-- Of two operations, i ahead of j in the text and not ordered: neither names the other's slot; not both writers; no allocator ahead of a writer; a reader beside a writer is listed. -/
def okPair (io : List (IOper × List Nat)) (rds : List (Nat × List Nat)) (i j : Nat) : Bool :=
  match io[i]?, io[j]? with
  | some u, some v => noDst u.1.dst v.2 && noDst v.1.dst u.2 && !(isWr u.1.op && isWr v.1.op) && !(isAl u.1.op && isWr v.1.op) &&
      (!(isRd u.1.op && isWr v.1.op) || listed i j rds) && (!(isWr u.1.op && isRd v.1.op) || listed j i rds)
  | _, _ => false
def okPairs (ops : Array Oper) (io : List (IOper × List Nat)) (rds : List (Nat × List Nat)) : Bool :=
  let b := ahead ops
  (List.range ops.size).all fun j => (List.range j).all fun i => (b.getD j 0).testBit i || okPair io rds i j
/-- Edges lead back; the slots that are written are each written once. -/
def okShape (ops : Array Oper) : Bool :=
  (ops.toList.zipIdx.all fun (o, i) => o.after.toList.all fun e => !binds e || decide (e.on < i)) &&
  (let ds := ops.toList.filterMap (·.dst); decide (ds.Nodup))

/-! ### Code -/
def okCode (P : Program) (G TA TK : List Nat) (nt : Nat) (inR : Bool) : ICode → Code → Bool
  | .skip, .skip => true
  | .skip, .label _ => true
  | .reg ops, .region _ os false => okOpers P G TA TK nt os ops os.toList
  | .regD ops rds, .region _ os true => okOpers P G TA TK nt os (ops.map (·.1)) os.toList && okPairs os ops rds && okShape os
  | .seq a b, .seq x y => okCode P G TA TK nt inR a x && okCode P G TA TK nt inR b y
  | .seqK _ a b, .seq x y => okCode P G TA TK nt inR a x && okCode P G TA TK nt inR b y
  | .cond c a b, .cond c' x y => opEq G c c' && okCode P G TA TK nt inR a x && okCode P G TA TK nt inR b y
  | .block id a, .block id' x => decide (id = id') && okCode P G TA TK nt inR a x
  | .loop _ a, .loop x => okCode P G TA TK nt inR a x
  | .rangeF f ps a b, .rangeFunc f' ps' x y => !inR && opEq G f f' && decide (ps = ps'.toList) && (ps.all fun t => decide (t < nt)) && okCode P G TA TK nt true a x && okCode P G TA TK nt true b y
  | .exit id, .exit id' => decide (id = id')
  | .ret, .ret => true
  | _, _ => false

def okRes (P : Program) (nt : Nat) : List IRes → List ResultVar → Bool
  | [], [] => true
  | .tmp t :: l, .tmp t' :: l' => decide (t = t') && decide (t < nt) && okRes P nt l l'
  | .cell t :: l, .cell t' ty :: l' => decide (t = t') && decide (aggT P ty = some false) && okRes P nt l l'
  | .cells t n :: l, .cell t' ty :: l' => decide (t = t') && decide (aggT P ty = some true) && decide (isz P ty = some n) && okRes P nt l l'
  | _, _ => false
def okFunc (P : Program) (G TA TK : List Nat) (F : IFunc) (fn : Func) : Bool :=
  decide (F.np ≤ fn.ntmps) && okRes P fn.ntmps F.res fn.results.toList && (match fn.body with
    | some c => okCode P G TA TK fn.ntmps false F.body c
    | none => false)
end Go.Im
