/-
  HxOk: is an XCode literal a right reading of the model's code? A closed check, asked per function.
-/
import Derived.Test.YtfobhbameffplaaHxRel
namespace Hx
open Go

mutual
def okV : PV → Value → Bool
  | .bool a, .bool b => a == b
  | .int k a, .int k' b => decide (k = k') && decide (a = b)
  | .str s, .string b => s == b.data.toList
  | .nils, .slice none 0 0 => true
  | .nilp, .pointer none => true
  | .nilm, .map none => true
  | .nilf, .nilFunc => true
  | .nili, .nilIface => true
  | .agg cs, .agg arr => okVs cs arr.toList
  | _, _ => false
def okVs : List PV → List Value → Bool
  | [], [] => true
  | x :: xs, y :: ys => okV x y && okVs xs ys
  | _, _ => false
end

def okX (F : Fix) : X → Operand → Bool
  | .tmp t, .tmp t' => t == t'
  | .con v, .const w => okV v w
  | .glob g, .global g' => F.gnum g == g'
  | .fn f, .func f' => F.num f == f'
  | _, _ => false
def okXs (F : Fix) : List X → List Operand → Bool
  | [], [] => true
  | x :: xs, y :: ys => okX F x y && okXs F xs ys
  | _, _ => false
def okXo (F : Fix) : Option X → Option Operand → Bool
  | none, none => true
  | some x, some y => okX F x y
  | _, _ => false

def aggOf (P : Program) (t : TypeId) : Option Bool := match P.underlying t with
  | some (.struct _) | some (.array _ _) => some true
  | some _ => some false
  | none => none
def sizeO (P : Program) (t : TypeId) : Option Nat := (P.info? t).map (·.size)
def zeroO (P : Program) (t : TypeId) : Option Value := (P.info? t).bind (·.zero)
def zeroAgg (P : Program) (t : TypeId) : Option Bool := match zeroO P t with
  | some (.agg _) => some true
  | some _ => some false
  | none => none
def okZero (P : Program) (zero : List PV) (t : TypeId) : Bool := match zeroO P t with
  | some z => okVs zero z.cells.toList
  | none => false
def okPart (F : Fix) (place : Nat → Option (Nat × Nat)) : List (Nat × Nat × X) → List (Nat × Operand) → Bool
  | [], [] => true
  | (off, size, x) :: r, (i, y) :: r' => decide (place i = some (off, size)) && okX F x y && okPart F place r r'
  | _, _ => false

def placeOf (P : Program) (t : TypeId) : Option (Nat → Option (Nat × Nat)) := match P.underlying t with
  | some (.array _ e) => (P.info? e).map fun ie => fun i => some (i * ie.size, ie.size)
  | some (.struct fields) => (fields.toList.mapM (fun f => (P.info? f.type).map fun i => (f.offset, i.size))).map fun places => fun i => places.toArray[i]?
  | _ => none

mutual
def EqT.depth : EqT → Nat
  | .struct fs => 1 + EqT.depths fs
  | _ => 0
def EqT.depths : List (Nat × Nat × EqT) → Nat
  | [] => 0
  | (_, _, e) :: r => max e.depth (EqT.depths r)
end
mutual
def okEq (P : Program) : EqT → TypeId → Bool
  | .int, t => (match P.underlying t with | some (.int _) => true | _ => false)
  | .bool, t => (match P.underlying t with | some .bool => true | _ => false)
  | .str, t => (match P.underlying t with | some .string => true | _ => false)
  | .struct fs, t => (match P.underlying t with | some (.struct fds) => (P.stoodInHeld t == false) && okEqFs P fs fds.toList | _ => false)
def okEqFs (P : Program) : List (Nat × Nat × EqT) → List Field → Bool
  | [], [] => true
  | (o, n, e) :: r, f :: fs => decide (f.name ≠ "_") && decide (f.offset = o) && decide (sizeO P f.type = some n) && decide (aggOf P f.type = some e.agg) && okEq P e f.type && okEqFs P r fs
  | _, _ => false
end

def isInt : Option TypeDesc → Bool | some (.int _) => true | _ => false
def isIntK (k : IntKind) : Option TypeDesc → Bool | some (.int k') => decide (k = k') | _ => false
def isStr : Option TypeDesc → Bool | some .string => true | _ => false
def okOp (F : Fix) : XOp → Op → Bool
  | .mov x, .move y => okX F x y
  | .mov x, .assign y => okX F x y
  | .pick c a b, .pick c' a' b' => okX F c c' && okX F a a' && okX F b b'
  | .bin op x y, .binOp op' _ x' y' _ => decide (op = op') && okX F x x' && okX F y y'
  | .eqB neg x y, .binOp op' t x' y' _ => decide (op' = (bif neg then .neq else .eql)) && (match F.P.underlying t with | some .bool => true | _ => false) && okX F x x' && okX F y y'
  | .eqA neg e x y, .binOp op' t x' y' _ => decide (op' = (bif neg then .neq else .eql)) && (F.P.eqGuardType F.P.depth t == false) && decide (e.depth ≤ 50) && okEq F.P e t && okX F x x' && okX F y y'
  | .eqNil neg x, .binOp op' t x' (.const .nilIface) _ => decide (op' = (bif neg then .neq else .eql)) && (match F.P.underlying t with | some (.interface _) => true | _ => false) && okX F x x'
  | .un op x, .unOp op' _ x' => decide (op = op') && okX F x x'
  | .toInt k x, .convert s d x' => isIntK k (F.P.underlying d) && (F.P.underlying s).isSome && okX F x x'
  | .strId x, .convert s d x' => isStr (F.P.underlying d) && (F.P.underlying s).isSome && okX F x x'
  | .toStr x, .convert s d x' => isStr (F.P.underlying d) && (match F.P.underlying s with | some (.slice e) => isIntK .u8 (F.P.underlying e) | _ => false) && okX F x x'
  | .toBytes _ x, .convert s d x' => (F.P.underlying s).isSome && (match F.P.underlying d with | some (.slice e) => isIntK .u8 (F.P.underlying e) | _ => false) && okX F x x'
  | .load n agg x, .load t x' => decide (aggOf F.P t = some agg) && decide (sizeO F.P t = some n) && okX F x x'
  | .store n x v, .store t x' v' => decide (sizeO F.P t = some n) && okX F x x' && okX F v v'
  | .alloc zero, .alloc t => okZero F.P zero t
  | .box x, .box _ x' => okX F x x'
  | .build zero parts, .build t parts' => okZero F.P zero t && (match placeOf F.P t with
    | some place => okPart F place parts parts'.toList
    | none => false)
  | .rowLit _ n len zero parts, .buildSlice t len' parts' => decide (len = len') && decide (len * n ≤ 65536) && decide (n ≠ 0) && (match F.P.underlying t with
    | some (.slice e) => decide (sizeO F.P e = some n) && okZero F.P zero e && okPart F (fun i => some (i * n, n)) parts parts'.toList && decide (zero.length = n)
    | _ => false)
  | .rowVals n len zero parts, .buildSlice t len' parts' => decide (len = len') && decide (len * n ≤ 65536) && decide (n ≠ 0) && (match F.P.underlying t with
    | some (.slice e) => decide (sizeO F.P e = some n) && okZero F.P zero e && okPart F (fun i => some (i * n, n)) parts parts'.toList && decide (zero.length = n)
    | _ => false)
  | .field off n agg x, .field t x' f => (match F.P.underlying t with
    | some (.struct fs) => (match fs[f]? with | some fd => decide (fd.offset = off) && decide (sizeO F.P fd.type = some n) && decide (aggOf F.P fd.type = some agg) | none => false)
    | _ => false) && okX F x x'
  | .fieldAddr off x, .fieldAddr t x' f => (match F.P.underlying t with
    | some (.struct fs) => (match fs[f]? with | some fd => decide (fd.offset = off) && (match sizeO F.P fd.type with | some n => decide (n ≠ 0) | none => false) | none => false)
    | _ => false) && okX F x x'
  | .indexStr x i, .index t x' i' => isStr (F.P.underlying t) && okX F x x' && okX F i i'
  | .indexArr len n agg x i, .index t x' i' => (match F.P.underlying t with
    | some (.array len' e) => decide (len = len') && decide (sizeO F.P e = some n) && decide (aggOf F.P e = some agg)
    | _ => false) && okX F x x' && okX F i i'
  | .addrArr len n x i, .indexAddr t x' i' => (match F.P.underlying t with
    | some (.array len' e) => decide (len = len') && decide (sizeO F.P e = some n)
    | _ => false) && okX F x x' && okX F i i'
  | .addrRow n x i, .indexAddr t x' i' => (match F.P.underlying t with
    | some (.slice e) => decide (sizeO F.P e = some n)
    | _ => false) && okX F x x' && okX F i i'
  | .cutStr x lo hi, .slice t x' lo' hi' none => isStr (F.P.underlying t) && okX F x x' && okXo F lo lo' && okXo F hi hi'
  | .cutRow n x lo hi, .slice t x' lo' hi' none => (match F.P.underlying t with
    | some (.slice e) => decide (sizeO F.P e = some n)
    | _ => false) && okX F x x' && okXo F lo lo' && okXo F hi hi'
  | .cutArr len n x lo hi, .slice t x' lo' hi' none => (match F.P.underlying t with
    | some (.array len' e) => decide (len = len') && decide (sizeO F.P e = some n)
    | _ => false) && okX F x x' && okXo F lo lo' && okXo F hi hi'
  | .mkRow _ n bytes zero l c, .makeSlice t l' c' => (match F.P.underlying t with
    | some (.slice e) => (match F.P.info? e with | some i => decide (i.size = n) && decide (i.bytes = bytes) | none => false) && okZero F.P zero e
    | _ => false) && okX F l l' && okX F c c' && decide (n ≠ 0)
  | .mkFn f caps, .makeFunc (.func f') first caps' => decide (F.num f = f') && first.isEmpty && okXs F caps caps'.toList
  | .mkIface t x, .makeInterface t' x' => decide (F.tnum t = t') && (match F.P.underlying t' with | some (.interface _) => false | some _ => true | none => false) && okX F x x'
  | .assertT t ok x, .typeAssert x' _ t' ok' => decide (F.tnum t = t') && (ok == ok') && (match F.P.underlying t' with | some (.interface _) => false | some _ => true | none => false) && okX F x x'
  | .extract x i, .extract x' i' => decide (i = i') && okX F x x'
  | .lenS x, .call { callee := .builtin .len, args, argTypes } => (match args.toList with | [x'] => okX F x x' | _ => false) && (match argTypes[0]? with
    | some t => (match F.P.underlying t with | some .string => true | _ => false) | none => false)
  | .len x, .call { callee := .builtin .len, args, argTypes } => (match args.toList with | [x'] => okX F x x' | _ => false) && (match argTypes[0]? with
    | some t => (match F.P.underlying t with | some (.slice _) => true | _ => false) | none => false)
  | .lenC n, .call { callee := .builtin .len, args, argTypes } => decide (args.size = 1) && (match argTypes[0]? with
    | some t => (match F.P.underlying t with | some (.array n' _) => decide (n = n') | _ => false) | none => false)
  | .max2 x y, .call { callee := .builtin .max, args, argTypes := _ } => (match args.toList with | [x', y'] => okX F x x' && okX F y y' | _ => false)
  | .min2 x y, .call { callee := .builtin .min, args, argTypes := _ } => (match args.toList with | [x', y'] => okX F x x' && okX F y y' | _ => false)
  | .append _ n bytes x y, .call { callee := .builtin .append, args, argTypes } => (match args.toList with | [x', y'] => okX F x x' && okX F y y' | _ => false) && decide (n ≠ 0) && decide (bytes ≤ 65536) && decide (bytes ≠ 0) &&
      (match argTypes[0]?, argTypes[1]? with
       | some t, some u => (match F.P.underlying t with
         | some (.slice e) => (match F.P.info? e with | some i => decide (i.size = n) && decide (i.bytes = bytes) && (match i.zero with | some z => decide (z.cells.size = n) | none => false) | none => false)
         | _ => false) && (F.P.underlying u).isSome && !isInt (F.P.underlying u)
       | _, _ => false)
  | .idxByte g f x y, .call { callee := .value f', args, argTypes := _ } => okX F f f' && (match F.P.funcs[F.num g]? with
    | some fn => fn.body.isNone && decide (fn.name = "internal/bytealg.IndexByteString") && (Extern.findNext fn).isNone
    | none => false) && (match args.toList with | [x', y'] => okX F x x' && okX F y y' | _ => false)
  | .noEsc g f x, .call { callee := .value f', args, argTypes := _ } => okX F f f' && (match F.P.funcs[F.num g]? with
    | some fn => fn.body.isNone && decide (fn.name = "internal/abi.NoEscape") && (Extern.findNext fn).isNone
    | none => false) && (match args.toList with | [x'] => okX F x x' | _ => false)
  | .nilPtr neg x, .binOp op' t x' (.const (.pointer none)) _ => decide (op' = (bif neg then .neq else .eql)) && (match F.P.underlying t with | some (.pointer _) => true | _ => false) && okX F x x'
  | .nilS neg x, .binOp op' t x' (.const (.slice none 0 0)) _ => decide (op' = (bif neg then .neq else .eql)) && (match F.P.underlying t with | some (.slice _) => true | _ => false) && okX F x x'
  | .eqPtr neg x y, .binOp op' t x' y' _ => decide (op' = (bif neg then .neq else .eql)) && (match F.P.underlying t with | some (.pointer e) => (F.P.info? e).isSome | _ => false) && okX F x x' && okX F y y'
  | .allocT t zero, .alloc t' => decide (F.tnum t = t') && okZero F.P zero t'
  | .cast back t n x, .convert s d x' => (bif back then (match F.P.underlying s, F.P.underlying d with | some .unsafePointer, some (.pointer u) => decide (u = F.tnum t) && decide (sizeO F.P u = some n) | _, _ => false)
      else (match F.P.underlying s, F.P.underlying d with | some (.pointer u), some .unsafePointer => decide (sizeO F.P u = some n) | _, _ => false)) && okX F x x'
  | .appendT t n bytes x y, .call { callee := .builtin .append, args, argTypes } => (match args.toList with | [x', y'] => okX F x x' && okX F y y' | _ => false) && decide (n ≠ 0) && decide (bytes ≤ 65536) && decide (bytes ≠ 0) &&
      (match argTypes[0]?, argTypes[1]? with
       | some t', some u => (match F.P.underlying t' with
         | some (.slice e) => (match F.P.info? e with | some i => decide (i.size = n) && decide (i.bytes = bytes) && (match i.zero with | some z => decide (z.cells.size = n) | none => false) | none => false) && decide (e = F.tnum t)
         | _ => false) && (F.P.underlying u).isSome && !isInt (F.P.underlying u)
       | _, _ => false)
  | .convS x, .convert s d x' => decide (s = d) && (match F.P.underlying s with | some (.slice e) => isIntK .u8 (F.P.underlying e) | _ => false) && okX F x x'
  | .sliceData x, .call { callee := .builtin .unsafeSliceData, args, argTypes := _ } => (match args.toList with | [x'] => okX F x x' | _ => false)
  | .strOf t p l, .call { callee := .builtin .unsafeString, args, argTypes } => (match args.toList with | [p', l'] => okX F p p' && okX F l l' | _ => false) &&
      (match argTypes[0]? with
       | some pt => (match F.P.underlying pt with | some (.pointer e) => decide (e = F.tnum t) && decide (sizeO F.P e = some 1) | _ => false)
       | none => false)
  | .nilCheck x, .nilCheck x' => okX F x x'
  | .call f args, .call { callee := .value f', args := args', argTypes := _ } => okX F f f' && okXs F args args'.toList
  | .panic (.tmp t), .panic x' => okX F (.tmp t) x'
  | .panic (.tmp t), .call { callee := .builtin .panic, args, argTypes := _ } => (match args.toList with | [x'] => okX F (.tmp t) x' | _ => false)
  | .mkMap, .makeMap _ none => true
  | .boxT t n x, .box T x' => okX F x x' && liesAt F.P F.P.depth T (n / F.P.cellsOf T) 0 (F.tnum t) 1
  | .fview _ x, .fieldAddr t x' f => (match F.P.underlying t with
    | some (.struct fs) => (match fs[f]? with | some fd => decide (fd.offset = 0) && (match sizeO F.P fd.type with | some n => decide (n ≠ 0) | none => false) | none => false)
    | _ => false) && okX F x x'
  | .lookup ok e zero agg x k, .lookup t x' k' ok' => (ok == ok') && (match F.P.underlying t with
    | some (.map kt et) => okEq F.P e kt && decide (e.depth ≤ 50) && okZero F.P zero et && decide (zeroAgg F.P et = some agg)
    | _ => false) && okX F x x' && okX F k k'
  | .mapSet e x k v, .mapUpdate t x' k' v' => (match F.P.underlying t with
    | some (.map kt _) => okEq F.P e kt && decide (e.depth ≤ 50)
    | _ => false) && okX F x x' && okX F k k' && okX F v v'
  | .clearM x, .call { callee := .builtin .clear, args, argTypes } => (match args.toList with | [x'] => okX F x x' | _ => false) && (match argTypes[0]? with
    | some t => (match F.P.underlying t with | some (.map _ _) => true | _ => false) | none => false)
  | .recover, .call { callee := .builtin .recover, args := _, argTypes := _ } => true
  | .dfr f args, .defer { callee := .value f', args := args', argTypes := _ } => okX F f f' && okXs F args args'.toList
  | _, _ => false

def okOper (F : Fix) (ops : Array Oper) (x : XOper) (o : Oper) : Bool :=
  decide (x.dst = o.dst) && okOp F x.op o.op &&
  (match x.guard, o.guard with
   | none, none => true
   | some (t, want), some (j, want') => (want == want') && decide ((ops[j]?).bind (·.dst) = some t)
   | _, _ => false)
def okOpers (F : Fix) (ops : Array Oper) : List XOper → List Oper → Bool
  | [], [] => true
  | x :: xs, o :: os => okOper F ops x o && okOpers F ops xs os
  | _, _ => false
end Hx
