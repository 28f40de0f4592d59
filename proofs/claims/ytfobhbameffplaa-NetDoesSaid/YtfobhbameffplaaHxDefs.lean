/-
  HxDefs: abstract values, a small code and its evaluator. PV: a value without identity; AV: a value that may name memory that the call made itself (by an index of the abstract memory). Nothing of a program is named here.
-/
import Derived.Calls
import Derived.Orders
import Derived.Below
namespace Hx
open Go

inductive PV where
  | bool (b : Bool)
  | int (k : IntKind) (n : Int)
  | str (s : List UInt8)
  | agg (cs : List PV)
  | vals (n : Nat) (rows : List (List PV))
  | nils | nilp | nilm | nilf | nili
  | fn (f : Nat)
  | iface (t : Nat) (v : PV)
  deriving Inhabited

inductive AV where
  | unk
  | p (v : PV)
  | agg (cs : List AV)
  | tup (vs : List AV)
  | tv (n : Nat) (rows : List (List PV)) (tok : Nat)
  | own (n id off len : Nat)
  | ptr (id off : Nat)
  | rp (cells : List PV)
  | map (id : Nat)
  | fn (f : Nat) (caps : List AV)
  | iface (t : Nat) (v : AV)
  | ty (t : Nat) (v : AV)
  | dat (v : AV)
  deriving Inhabited

inductive Blk where
  | dead
  | tok (n len : Nat)
  | cells (c : List AV)
  | map (es : List (PV × AV))
  deriving Inhabited
abbrev Mem := List Blk


inductive X where
  | tmp (t : Nat) | con (v : PV) | glob (g : Nat) | fn (f : Nat)
  deriving Inhabited

inductive EqT where
  | int | bool | str
  | struct (fs : List (Nat × Nat × EqT))
  deriving Inhabited
def EqT.agg : EqT → Bool
  | .struct _ => true
  | _ => false

inductive XOp where
  | mov (x : X)
  | pick (c a b : X)
  | bin (op : BinOp) (x y : X)
  | eqB (neg : Bool) (x y : X)
  | eqA (neg : Bool) (e : EqT) (x y : X)
  | eqNil (neg : Bool) (x : X)
  | un (op : UnOp) (x : X)
  | toInt (k : IntKind) (x : X)
  | strId (x : X)
  | toStr (x : X)
  | toBytes (own : Bool) (x : X)
  | load (n : Nat) (agg : Bool) (x : X)
  | store (n : Nat) (x v : X)
  | alloc (zero : List PV)
  | box (x : X)
  | build (zero : List PV) (parts : List (Nat × Nat × X))
  | rowLit (own : Bool) (n len : Nat) (zero : List PV) (parts : List (Nat × Nat × X))
  | rowVals (n len : Nat) (zero : List PV) (parts : List (Nat × Nat × X))
  | field (off n : Nat) (agg : Bool) (x : X)
  | fieldAddr (off : Nat) (x : X)
  | indexStr (x i : X)
  | indexArr (len n : Nat) (agg : Bool) (x i : X)
  | addrArr (len n : Nat) (x i : X)
  | addrRow (n : Nat) (x i : X)
  | cutStr (x : X) (lo hi : Option X)
  | cutRow (n : Nat) (x : X) (lo hi : Option X)
  | cutArr (len n : Nat) (x : X) (lo hi : Option X)
  | mkRow (own : Bool) (n bytes : Nat) (zero : List PV) (l c : X)
  | mkFn (f : Nat) (caps : List X)
  | mkIface (t : Nat) (x : X)
  | assertT (t : Nat) (ok : Bool) (x : X)
  | extract (x : X) (i : Nat)
  | lenS (x : X)
  | len (x : X)
  | lenC (n : Nat)
  | max2 (x y : X)
  | min2 (x y : X)
  | append (own : Bool) (n bytes : Nat) (x y : X)
  | nilCheck (x : X)
  | idxByte (g : Nat) (f x y : X)
  | noEsc (g : Nat) (f x : X)
  | nilPtr (neg : Bool) (x : X)
  | eqPtr (neg : Bool) (x y : X)
  | allocT (t : Nat) (zero : List PV)
  | cast (back : Bool) (t n : Nat) (x : X)
  | appendT (t n bytes : Nat) (x y : X)
  | sliceData (x : X)
  | strOf (t : Nat) (p l : X)
  | convS (x : X)
  | call (f : X) (args : List X)
  | panic (x : X)
  | dfr (f : X) (args : List X)
  | recover
  | boxT (t n : Nat) (x : X)
  | fview (t : Nat) (x : X)
  | nilS (neg : Bool) (x : X)
  | mkMap
  | lookup (ok : Bool) (e : EqT) (zero : List PV) (agg : Bool) (x k : X)
  | mapSet (e : EqT) (x k v : X)
  | clearM (x : X)
  deriving Inhabited

structure XOper where
  dst : Option Nat
  op : XOp
  guard : Option (Nat × Bool)
  cls : Nat := 0
  deriving Inhabited

inductive XCode where
  | skip
  | ops (l : List XOper)
  | draw (l : List XOper) (anc : List (List Nat))
  | drawS (l : List XOper) (anc : List (List Nat)) (sts : List Nat)
  | drawK (l : List XOper) (anc : List (List Nat)) (ks : List Nat)
  | seq (a b : XCode)
  | cond (c : X) (t e : XCode)
  | block (id : Nat) (b : XCode)
  | loop (mask : List Bool) (b : XCode)
  | exit (id : Nat)
  | ret
  | refuse
  deriving Inhabited

inductive XRes where
  | tmp (t : Nat) | cell (t n : Nat) (agg : Bool)
  deriving Inhabited

structure XFunc where
  ntmps : Nat
  res : List XRes
  body : XCode
  pure : Bool := false
  dfr : Bool := false
  deriving Inhabited

structure Env where
  fn : Nat → Option XFunc
  gl : Nat → List PV


def allP : List AV → Option (List PV)
  | [] => some []
  | .p v :: r => match allP r with | some l => some (v :: l) | none => none
  | _ :: _ => none
def mkAgg (cs : List AV) : AV := match allP cs with | some ps => .p (.agg ps) | none => .agg cs

def PV.cells : PV → List PV
  | .agg cs => cs
  | v => [v]
def AV.cells : AV → Option (List AV)
  | .unk => none
  | .agg cs => some cs
  | .p v => some (v.cells.map .p)
  | .ty t (.ptr id o) => some [.ty t (.ptr id o)]
  | .ty t (.tv n rows tok) => some [.ty t (.tv n rows tok)]
  | .ty _ _ => none
  | v => some [v]

def PV.flat : PV → Bool
  | .agg _ => false
  | _ => true
def AV.flat : AV → Bool
  | .unk | .agg _ | .tup _ | .dat _ => false
  | .ty _ (.ptr _ _) => true
  | .ty _ (.tv _ _ _) => true
  | .ty _ _ => false
  | .p v => v.flat
  | _ => true

def toP : AV → Option PV
  | .p v => some v
  | .tv n rows _ => some (.vals n rows)
  | _ => none
def toPs : List AV → Option (List PV)
  | [] => some []
  | v :: r => match toP v, toPs r with | some x, some l => some (x :: l) | _, _ => none

def bitsI (op : BinOp) (k : IntKind) (x y : Int) : Option Int :=
  let a := BitVec.ofInt k.bits x
  let b := BitVec.ofInt k.bits y
  match op with
  | .and => some (k.wrap (a &&& b).toNat)
  | .or => some (k.wrap (a ||| b).toNat)
  | .xor => some (k.wrap (a ^^^ b).toNat)
  | .andNot => some (k.wrap (a &&& ~~~b).toNat)
  | _ => none
def cmpI (op : BinOp) (x y : Int) : Option Bool :=
  match op with
  | .eql => some (x == y)
  | .neq => some (x != y)
  | .lss => some (decide (x < y))
  | .leq => some (decide (x ≤ y))
  | .gtr => some (decide (x > y))
  | .geq => some (decide (x ≥ y))
  | _ => none
def arithI (op : BinOp) (k : IntKind) (x y : Int) : Option Int :=
  match op with
  | .add => some (k.wrap (x + y))
  | .sub => some (k.wrap (x - y))
  | .mul => some (k.wrap (x * y))
  | .quo => if y = 0 then none else some (k.wrap (x.tdiv y))
  | .rem => if y = 0 then none else some (x.tmod y)
  | .and | .or | .xor | .andNot => bitsI op k x y
  | _ => none
def binI (op : BinOp) (k : IntKind) (x : Int) (k' : IntKind) (y : Int) : Option PV :=
  match op with
  | .shl => if y < 0 then none else some (.int k (k.wrap (x * 2 ^ (min y.toNat k.bits))))
  | .shr => if y < 0 then none else some (.int k (x.fdiv (2 ^ (min y.toNat k.bits))))
  | .add | .sub | .mul | .quo | .rem | .and | .or | .xor | .andNot =>
    if k = k' then (match arithI op k x y with | some r => some (.int k r) | none => none) else none
  | _ => if k = k' then (match cmpI op x y with | some r => some (.bool r) | none => none) else none
def strLim : Nat := 9223372036854775807
def binS (op : BinOp) (x y : List UInt8) : Option PV :=
  match op with
  | .add => if x.length + y.length ≤ strLim then some (.str (x ++ y)) else none
  | .eql => some (.bool (x == y))
  | .neq => some (.bool (!(x == y)))
  | .lss => some (.bool (Op.bytesLess x y))
  | .leq => some (.bool (Op.bytesLess x y || x == y))
  | .gtr => some (.bool (!(Op.bytesLess x y || x == y)))
  | .geq => some (.bool (!(Op.bytesLess x y)))
  | _ => none
def binV (op : BinOp) : AV → AV → Option AV
  | .p (.int k x), .p (.int k' y) => match binI op k x k' y with | some r => some (.p r) | none => none
  | .p (.str x), .p (.str y) => match binS op x y with | some r => some (.p r) | none => none
  | _, _ => none

def unV (op : UnOp) : AV → Option AV
  | .p (.int k n) => match op with
    | .neg => some (.p (.int k (k.wrap (0 - n))))
    | .xor => match bitsI .xor k (if k.signed then -1 else k.max) n with | some r => some (.p (.int k r)) | none => none
    | _ => none
  | .p (.bool b) => match op with | .not => some (.p (.bool (!b))) | _ => none
  | _ => none

def byteRow (b : UInt8) : List PV := [.int .u8 b.toNat]
def byteRows (s : List UInt8) : List (List PV) := s.map byteRow
def unByte : List PV → Option UInt8
  | [.int .u8 n] => some (UInt8.ofNat n.toNat)
  | _ => none
def unBytes : List (List PV) → Option (List UInt8)
  | [] => some []
  | r :: rest => match unByte r, unBytes rest with | some b, some l => some (b :: l) | _, _ => none

def asInt : AV → Option Int
  | .p (.int _ n) => some n
  | _ => none
def asNat (v : AV) : Option Nat := match asInt v with | some n => if 0 ≤ n then some n.toNat else none | none => none

def chunks (n : Nat) : Nat → List PV → List (List PV)
  | 0, _ => []
  | k + 1, cs => cs.take n :: chunks n k (cs.drop n)
def rowsOf (n : Nat) (m : Mem) : AV → Option (List (List PV))
  | .p .nils => some []
  | .p (.vals n' rows) => if n' = n then some rows else none
  | .tv n' rows _ => if n' = n then some rows else none
  | .p (.str s) => if n = 1 then some (byteRows s) else none
  | .own n' id off len =>
    if n' = n then
      match m[id]? with
      | some (.cells cs) => if off + len * n ≤ cs.length then (match toPs ((cs.drop off).take (len * n)) with | some ps => some (chunks n len ps) | none => none) else none
      | _ => none
    else none
  | _ => none
def lenV : AV → Option Nat
  | .ty _ (.tv _ rows _) => some rows.length
  | .p .nils => some 0
  | .p (.vals _ rows) => some rows.length
  | .tv _ rows _ => some rows.length
  | .own _ _ _ len => some len
  | _ => none

def setAt (cs : List AV) (off : Nat) (vs : List AV) : List AV := cs.take off ++ vs ++ cs.drop (off + vs.length)
def fillParts (ev : X → AV) : List AV → List (Nat × Nat × X) → Option (List AV)
  | cs, [] => some cs
  | cs, (off, size, x) :: r => match (ev x).cells with
    | some vs => if vs.length = size ∧ off + size ≤ cs.length then fillParts ev (setAt cs off vs) r else none
    | none => none

def room : Nat := 70368744177664   -- 2^46

def bounds (len : Nat) (lo hi : Option AV) : Option (Nat × Nat) :=
  match (match hi with | none => some len | some v => asNat v) with
  | none => none
  | some h => if h ≤ len then
      match (match lo with | none => some 0 | some v => asNat v) with
      | none => none
      | some l => if l ≤ h then some (l, h) else none
    else none

def partV (n : Nat) (agg : Bool) (cs : List AV) (off : Nat) : Option AV :=
  if agg then some (mkAgg ((cs.drop off).take n)) else cs[off]?
def partP (n : Nat) (agg : Bool) (cs : List PV) (off : Nat) : Option AV :=
  if agg then some (.p (.agg ((cs.drop off).take n))) else match cs[off]? with | some v => some (.p v) | none => none

mutual
def eqTree : EqT → PV → PV → Option Bool
  | .int, .int k x, .int k' y => if k = k' then some (x == y) else none
  | .bool, .bool x, .bool y => some (x == y)
  | .str, .str x, .str y => some (x == y)
  | .struct fs, .agg xs, .agg ys => eqFs fs xs ys
  | _, _, _ => none
def eqFs : List (Nat × Nat × EqT) → List PV → List PV → Option Bool
  | [], _, _ => some true
  | (o, n, e) :: r, xs, ys => match partP n e.agg xs o, partP n e.agg ys o with
    | some (.p x), some (.p y) => match eqTree e x y, eqFs r xs ys with
      | some b, some b' => some (b && b')
      | _, _ => none
    | _, _ => none
end

def sameL : List PV → List PV → Bool
  | [], [] => true
  | .int k x :: r, .int k' y :: r' => decide (k = k') && (x == y) && sameL r r'
  | .bool x :: r, .bool y :: r' => (x == y) && sameL r r'
  | .str x :: r, .str y :: r' => (x == y) && sameL r r'
  | _, _ => false
def sameP : PV → PV → Bool
  | .agg xs, .agg ys => sameL xs ys
  | x, y => sameL [x] [y]
def findM (e : EqT) (k : PV) : List (PV × AV) → Nat → Option (Option (Nat × PV × AV))
  | [], _ => some none
  | (k', v) :: r, i => match eqTree e k k' with
    | some true => some (some (i, k', v))
    | some false => findM e k r (i + 1)
    | none => none
def entsOf (m : Mem) : AV → Option (List (PV × AV))
  | .p .nilm => some []
  | .map id => match m[id]? with | some (.map es) => some es | _ => none
  | _ => none
def zeroV (agg : Bool) (zero : List PV) : Option AV := if agg then some (.p (.agg zero)) else match zero with | [z] => some (.p z) | _ => none
def keyOk (e : EqT) (k : PV) : Bool := match eqTree e k k with | some _ => true | none => false

def idxByte (s : List UInt8) (c : UInt8) : Int := match s.findIdx? (· == c) with | some i => i | none => -1

def denStill (ev : X → AV) : XOp → Option AV
  | .mov x => some (ev x)
  | .pick c a b => match ev c with | .p (.bool t) => some (bif t then ev a else ev b) | _ => none
  | .bin op x y => binV op (ev x) (ev y)
  | .eqB neg x y => match ev x, ev y with | .p (.bool a), .p (.bool b) => some (.p (.bool (bif neg then !(a == b) else a == b))) | _, _ => none
  | .eqA neg e x y => match ev x, ev y with
    | .p (.agg a), .p (.agg b) => match eqTree e (.agg a) (.agg b) with | some r => some (.p (.bool (bif neg then !r else r))) | none => none
    | _, _ => none
  | .eqNil neg x => match ev x with
    | .p .nili => some (.p (.bool (bif neg then false else true)))
    | .p (.iface _ _) => some (.p (.bool (bif neg then true else false)))
    | .iface _ _ => some (.p (.bool (bif neg then true else false)))
    | _ => none
  | .un op x => unV op (ev x)
  | .toInt k x => match asInt (ev x) with | some n => some (.p (.int k (k.wrap n))) | none => none
  | .strId x => match ev x with | .p (.str s) => some (.p (.str s)) | _ => none
  | .toStr x => match ev x with
    | .p (.str _) => none
    | v => match rowsOf 1 [] v with | some rows => (match unBytes rows with | some s => some (.p (.str s)) | none => none) | none => none
  | .load n agg x => match ev x with
    | .rp cs => if (agg = true ∧ n ≤ cs.length) ∨ agg = false then partP n agg cs 0 else none
    | _ => none
  | .build zero parts => match fillParts ev (zero.map .p) parts with | some cs => some (mkAgg cs) | none => none
  | .field off n agg x => match ev x with
    | .p (.agg cs) => partP n agg cs off
    | .agg cs => partV n agg cs off
    | _ => none
  | .fieldAddr off x => match ev x with
    | .ty _ (.ptr id o) => some (.ptr id (o + off))
    | .rp cs => some (.rp (cs.drop off))
    | .ptr id o => some (.ptr id (o + off))
    | _ => none
  | .indexStr x i => match ev x, asNat (ev i) with
    | .p (.str s), some j => match s[j]? with | some b => some (.p (.int .u8 b.toNat)) | none => none
    | _, _ => none
  | .indexArr len n agg x i => match asNat (ev i) with
    | some j => if j < len then
        match ev x with
        | .p (.agg cs) => partP n agg cs (j * n)
        | .agg cs => partV n agg cs (j * n)
        | _ => none
      else none
    | none => none
  | .addrArr len n x i => match asNat (ev i) with
    | some j => if j < len then
        match ev x with
        | .rp cs => some (.rp (cs.drop (j * n)))
        | .ptr id o => some (.ptr id (o + j * n))
        | _ => none
      else none
    | none => none
  | .addrRow n x i => match asNat (ev i) with
    | some j => match ev x with
      | .p (.vals n' rows) => if n' = n then (match rows[j]? with | some r => some (.rp r) | none => none) else none
      | .tv n' rows _ => if n' = n then (match rows[j]? with | some r => some (.rp r) | none => none) else none
      | .own n' id off len => if n' = n ∧ j < len then some (.ptr id (off + j * n)) else none
      | _ => none
    | none => none
  | .cutStr x lo hi => match ev x with
    | .p (.str s) => match bounds s.length (lo.map ev) (hi.map ev) with
      | some (l, h) => some (.p (.str ((s.take h).drop l)))
      | none => none
    | _ => none
  | .cutRow n x lo hi => match ev x with
    | .p .nils => match bounds 0 (lo.map ev) (hi.map ev) with | some _ => some (.p .nils) | none => none
    | .p (.vals n' rows) => if n' = n then
        match bounds rows.length (lo.map ev) (hi.map ev) with
        | some (l, h) => some (.p (.vals n ((rows.take h).drop l)))
        | none => none
      else none
    | .tv n' rows _ => if n' = n then
        match bounds rows.length (lo.map ev) (hi.map ev) with
        | some (l, h) => some (.p (.vals n ((rows.take h).drop l)))
        | none => none
      else none
    | .own n' id off len => if n' = n then
        match bounds len (lo.map ev) (hi.map ev) with
        | some (l, h) => some (.own n id (off + l * n) (h - l))
        | none => none
      else none
    | _ => none
  | .mkFn f caps => some (match caps with | [] => .p (.fn f) | _ => .fn f (caps.map ev))
  | .mkIface t x => match ev x with
    | .unk => none
    | .p v => some (.p (.iface t v))
    | v => some (.iface t v)
  | .assertT t ok x => match ev x with
    | .p (.iface t' v) => if t' = t then some (bif ok then .tup [.p v, .p (.bool true)] else .p v) else none
    | .iface t' v => if t' = t then some (bif ok then .tup [v, .p (.bool true)] else v) else none
    | _ => none
  | .extract x i => match ev x with | .tup vs => vs[i]? | _ => none
  | .lenS x => match ev x with | .p (.str s) => some (.p (.int .i64 s.length)) | _ => none
  | .len x => match lenV (ev x) with | some n => some (.p (.int .i64 n)) | none => none
  | .lenC n => some (.p (.int .i64 n))
  | .max2 x y => match ev x, ev y with
    | .p (.int k a), .p (.int _ b) => some (.p (.int k (if b > a then b else a)))
    | _, _ => none
  | .min2 x y => match ev x, ev y with
    | .p (.int k a), .p (.int _ b) => some (.p (.int k (if b < a then b else a)))
    | _, _ => none
  | .idxByte g f x y => match ev f, ev x, ev y with
    | .p (.fn g'), .p (.str s), .p (.int .u8 n) => if g' = g then some (.p (.int .i64 (idxByte s (UInt8.ofNat n.toNat)))) else none
    | _, _, _ => none
  | .noEsc g f x => match ev f, ev x with
    | .p (.fn g'), .ty t (.ptr id o) => if g' = g then some (.ty t (.ptr id o)) else none
    | _, _ => none
  | .nilPtr neg x => match ev x with
    | .p .nilp => some (.p (.bool (bif neg then false else true)))
    | .ty _ (.ptr _ _) => some (.p (.bool (bif neg then true else false)))
    | _ => none
  | .fview t x => match ev x with
    | .ty t' (.ptr id 0) => if t' = t then some (.ty t (.ptr id 0)) else none
    | _ => none
  | .nilS neg x => match ev x with
    | .p .nils => some (.p (.bool (bif neg then false else true)))
    | .p (.vals _ _) => some (.p (.bool (bif neg then true else false)))
    | .tv _ _ _ => some (.p (.bool (bif neg then true else false)))
    | .own _ _ _ _ => some (.p (.bool (bif neg then true else false)))
    | _ => none
  | .eqPtr neg x y => match ev x, ev y with
    | .ty _ (.ptr id o), .ty _ (.ptr id' o') => if id = id' ∧ o = o' then some (.p (.bool (bif neg then false else true))) else none
    | _, _ => none
  | .sliceData x => match ev x with
    | .ty t (.tv n rows tok) => if rows = [] then none else some (.dat (.ty t (.tv n rows tok)))
    | _ => none
  | .nilCheck x => match ev x with
    | .ty t (.ptr id o) => some (.ty t (.ptr id o))
    | .ptr id o => some (.ptr id o)
    | .rp cs => some (.rp cs)
    | _ => none
  | _ => none

def newTok (n : Nat) (rows : List (List PV)) (m : Mem) : AV × Mem := (.tv n rows m.length, m ++ [.tok n rows.length])
def denMove (ev : X → AV) (m : Mem) : XOp → Option (AV × Mem)
  | .load n agg x => match ev x with
    | .ptr id off => match m[id]? with
      | some (.cells cs) => if (agg = true ∧ off + n ≤ cs.length) ∨ agg = false then (match partV n agg cs off with | some v => some (v, m) | none => none) else none
      | _ => none
    | _ => none
  | .store n x v => match ev x, (ev v).cells with
    | .ptr id off, some vs => match m[id]? with
      | some (.cells cs) => if vs.length = n ∧ off + n ≤ cs.length ∧ vs.all AV.flat = true then some (.unk, m.set id (.cells (setAt cs off vs))) else none
      | _ => none
    | _, _ => none
  | .alloc zero => if zero.all PV.flat = true then some (.ptr m.length 0, m ++ [.cells (zero.map .p)]) else none
  | .allocT t zero => if zero.all PV.flat = true then some (.ty t (.ptr m.length 0), m ++ [.cells (zero.map .p)]) else none
  | .cast _ t n x => match ev x with
    | .ty t' (.ptr id 0) => match m[id]? with
      | some (.cells cs) => if t' = t ∧ n ≠ 0 ∧ n ≤ cs.length then some (.ty t (.ptr id 0), m) else none
      | _ => none
    | _ => none
  | .appendT t n bytes x y => match rowsOf n m (ev y) with
    | none => none
    | some new => match ev x with
      | .p .nils => if new.length * bytes ≤ room ∧ new.length ≤ room ∧ new ≠ [] then some (.ty t (.tv n new m.length), m ++ [.tok n new.length]) else none
      | .ty t' (.tv n' rows tok) => match m[tok]? with
        | some (.tok n'' len) => if t' = t ∧ n' = n ∧ n'' = n ∧ len = rows.length ∧ (len + new.length) * bytes ≤ room ∧ len + new.length ≤ room then
            some (.ty t (.tv n (rows ++ new) tok), m.set tok (.tok n (len + new.length))) else none
        | _ => none
      | _ => none
  | .convS x => match ev x with
    | .tv n rows tok => match m[tok]? with
      | some (.tok n' len) => if n = 1 ∧ n' = 1 ∧ len = rows.length ∧ rows ≠ [] then some (.tv n rows tok, m) else none
      | _ => none
    | _ => none
  | .strOf t p l => match ev p, asNat (ev l) with
    | .dat (.ty t' (.tv n rows tok)), some k => match m[tok]?, unBytes rows with
      | some (.tok n' len), some s => if t' = t ∧ n = 1 ∧ n' = 1 ∧ len = rows.length ∧ k = len ∧ k ≠ 0 ∧ k ≤ strLim then some (.p (.str s), m.set tok .dead) else none
      | _, _ => none
    | _, _ => none
  | .box x => match (ev x).cells with | some cs => if cs.all AV.flat = true then some (.ptr m.length 0, m ++ [.cells cs]) else none | none => none
  | .boxT t n x => match (ev x).cells with | some cs => if cs.all AV.flat = true ∧ cs.length = n then some (.ty t (.ptr m.length 0), m ++ [.cells cs]) else none | none => none
  | .rowLit own n len zero parts =>
    match fillParts ev ((List.replicate len zero).flatten.map .p) parts with
    | some cs => if cs.all AV.flat = true ∧ cs.length = len * n then
        (if own then some (.own n m.length 0 len, m ++ [.cells cs]) else
        match toPs cs with | some ps => some (newTok n (chunks n len ps) m) | none => none) else none
    | none => none
  | .rowVals n len zero parts =>
    match fillParts ev ((List.replicate len zero).flatten.map .p) parts with
    | some cs => if cs.all AV.flat = true ∧ cs.length = len * n then
        (match toPs cs with | some ps => some (.p (.vals n (chunks n len ps)), m) | none => none) else none
    | none => none
  | .mkRow own n bytes zero l c => match asNat (ev l), asNat (ev c) with
    | some l, some c => if l ≤ c ∧ c * bytes ≤ room ∧ c < 9223372036854775808 ∧ zero.all PV.flat = true ∧ zero.length = n then
        (if own then some (.own n m.length 0 l, m ++ [.cells ((List.replicate c zero).flatten.map .p)])
         else some (newTok n (List.replicate l zero) m)) else none
    | _, _ => none
  | .toStr x => match ev x with
    | .own n id off len => match rowsOf 1 m (.own n id off len) with | some rows => (match unBytes rows with | some s => some (.p (.str s), m) | none => none) | none => none
    | _ => none
  | .toBytes own x => match ev x with
    | .p (.str s) => if own then some (.own 1 m.length 0 s.length, m ++ [.cells (s.map fun b => .p (.int .u8 b.toNat))]) else some (newTok 1 (byteRows s) m)
    | _ => none
  | .cutArr len n x lo hi => match ev x with
    | .ptr id off => match m[id]? with
      | some (.cells cs) => if off + len * n ≤ cs.length then
          match bounds len (lo.map ev) (hi.map ev) with
          | some (l, h) => some (.own n id (off + l * n) (h - l), m)
          | none => none
        else none
      | _ => none
    | _ => none
  | .mkMap => some (.map m.length, m ++ [.map []])
  | .lookup ok e zero agg x k => match ev k, entsOf m (ev x) with
    | .p kp, some es => if keyOk e kp then (match findM e kp es 0 with
      | some (some (_, _, v)) => some (bif ok then .tup [v, .p (.bool true)] else v, m)
      | some none => match zeroV agg zero with
        | some z => some (bif ok then .tup [z, .p (.bool false)] else z, m)
        | none => none
      | none => none) else none
    | _, _ => none
  | .mapSet e x k v => match ev x, ev k with
    | .map id, .p kp => match m[id]? with
      | some (.map es) => if keyOk e kp then (match findM e kp es 0 with
        | some (some (i, k', _)) => if sameP k' kp then some (.unk, m.set id (.map (es.set i (kp, ev v)))) else none
        | some none => some (.unk, m.set id (.map (es ++ [(kp, ev v)])))
        | none => none) else none
      | _ => none
    | _, _ => none
  | .clearM x => match ev x with
    | .map id => match m[id]? with
      | some (.map _) => some (.unk, m.set id (.map []))
      | _ => none
    | _ => none
  | .append false n bytes x y => match rowsOf n m (ev y) with
    | none => none
    | some new => match ev x with
      | .p .nils => if new.length * bytes ≤ room ∧ new.length ≤ room then (if new = [] then some (.p .nils, m) else some (newTok n new m)) else none
      | .tv n' rows tok => match m[tok]? with
        | some (.tok n'' len) => if n' = n ∧ n'' = n ∧ len = rows.length ∧ (len + new.length) * bytes ≤ room ∧ len + new.length ≤ room then
            some (.tv n (rows ++ new) tok, m.set tok (.tok n (len + new.length))) else none
        | _ => none
      | _ => none
  | _ => none

def denOp (ev : X → AV) (m : Mem) (o : XOp) : Option (AV × Mem) :=
  match denStill ev o with
  | some v => some (v, m)
  | none => denMove ev m o


inductive Out where
  | ret (v : AV) | pan (v : AV)
inductive Ex where
  | norm | exit (id : Nat) | ret | pan (v : AV)
structure St where
  ts : List AV
  m : Mem
  ds : List (AV × List AV)

def evX (E : Env) (ts : List AV) : X → AV
  | .tmp t => ts.getD t (.tup [])
  | .con v => .p v
  | .glob g => .rp (E.gl g)
  | .fn f => .p (.fn f)

def putT (ts : List AV) (dst : Option Nat) (v : AV) : List AV := match dst with | some d => ts.set d v | none => ts

def wants (ts : List AV) : Option (Nat × Bool) → Option Bool
  | none => some true
  | some (t, want) => match ts[t]? with
    | some (.p (.bool b)) => some (b == want)
    | some (.tup []) => some false
    | _ => none

def fnOf : AV → Option (Nat × List AV)
  | .p (.fn f) => some (f, [])
  | .fn f caps => some (f, caps)
  | _ => none

abbrev Caller := Nat → List AV → Mem → Option (Out × Mem)

structure Dr where
  n : Nat
  S : List Nat
def Dr.ok (D : Dr) (id : Nat) : Bool := decide (id < D.n) && !D.S.contains id
def idsOf (ts : List AV) : List Nat → List Nat
  | [] => []
  | t :: r => match ts.getD t (.tup []) with
    | .ptr id _ => id :: idsOf ts r
    | .ty _ (.ptr id _) => id :: idsOf ts r
    | _ => idsOf ts r
def denLoad (D : Dr) (ev : X → AV) (m : Mem) (o : XOp) : Option (AV × Mem) := match o with
  | .load _ _ x => match ev x with | .ptr id _ => if D.ok id then denMove ev m o else none | _ => none
  | .toStr x => match ev x with | .own _ id _ _ => if D.ok id then denMove ev m o else none | _ => none
  | .cutArr _ _ x _ _ => match ev x with | .ptr id _ => if D.ok id then denMove ev m o else none | _ => none
  | .lookup _ _ _ _ x _ => match ev x with | .map id => if D.ok id then denMove ev m o else none | _ => none
  | .rowVals _ _ _ _ => denMove ev m o
  | _ => none
def adds : XOp → Bool
  | .alloc _ | .box _ | .rowLit _ _ _ _ _ | .mkRow _ _ _ _ _ _ | .toBytes _ _ | .append _ _ _ _ _ => true
  | _ => false
def denStore (D : Dr) (ev : X → AV) (m : Mem) (o : XOp) : Option (AV × Mem) := match o with
  | .store _ x _ => match ev x with | .ptr id _ => if D.S.contains id then denMove ev m o else none | _ => none
  | _ => none
def denOp' (d : Option Dr) (ev : X → AV) (m : Mem) (o : XOper) : Option (AV × Mem) := match d with
  | none => denOp ev m o.op
  | some D => if o.cls = 0 then (match denStill ev o.op with | some v => some (v, m) | none => denLoad D ev m o.op)
    else if o.cls = 1 then (if adds o.op = true ∧ D.n ≤ m.length then denMove ev m o.op else none)
    else if o.cls = 3 then denStore D ev m o.op
    else if o.cls = 4 then none
    else denOp ev m o.op

def okPure (E : Env) (d : Option Dr) (cls g : Nat) : Bool := match d with
  | none => true
  | some _ => cls == 2 || cls == 4 || ((cls == 1 || cls == 0) && (match E.fn g with | some xf => xf.pure | none => false))

mutual
def beqPV : PV → PV → Bool
  | .bool a, .bool b => a == b
  | .int k x, .int k' y => decide (k = k') && x == y
  | .str s, .str t => s == t
  | .agg xs, .agg ys => beqPVs xs ys
  | .vals n r, .vals n' r' => n == n' && beqRows r r'
  | .nils, .nils => true
  | .nilp, .nilp => true
  | .nilm, .nilm => true
  | .nilf, .nilf => true
  | .nili, .nili => true
  | .fn f, .fn g => f == g
  | .iface t x, .iface t' y => t == t' && beqPV x y
  | _, _ => false
def beqPVs : List PV → List PV → Bool
  | [], [] => true
  | x :: xs, y :: ys => beqPV x y && beqPVs xs ys
  | _, _ => false
def beqRows : List (List PV) → List (List PV) → Bool
  | [], [] => true
  | x :: xs, y :: ys => beqPVs x y && beqRows xs ys
  | _, _ => false
end
def sameB : Option Blk → Option Blk → Bool
  | some (.cells a), some (.cells b) => (match allP a, allP b with | some x, some y => beqPVs x y | _, _ => false)
  | _, _ => false
def others (n : Nat) (ks : List Nat) : List Nat := (List.range n).filter fun i => !ks.contains i
def kept (D : Dr) (m m' : Mem) : Bool := (List.range D.n).all fun id => !D.ok id || sameB m[id]? m'[id]?
def keptB (d : Option Dr) (cls : Nat) (m m' : Mem) : Bool := match d with | none => true | some D => cls != 4 || kept D m m'

def denOper (E : Env) (call : Caller) (d : Option Dr) (o : XOper) (st : St) : Option (Ex × St) :=
  match wants st.ts o.guard with
  | none => none
  | some false => some (.norm, { st with ts := putT st.ts o.dst (.tup []) })
  | some true =>
    match o.op with
    | .call f args => match fnOf (evX E st.ts f) with
      | none => none
      | some (g, caps) => bif okPure E d o.cls g then (match call g (args.map (evX E st.ts) ++ caps) st.m with
        | none => none
        | some (.ret v, m) => bif keptB d o.cls st.m m then some (.norm, { st with ts := putT st.ts o.dst v, m }) else none
        | some (.pan v, m) => bif d.isSome then none else some (.pan v, { st with m })) else none
    | .panic x => bif d.isSome then none else match evX E st.ts x with
      | .p (.iface t v) => some (.pan (.p (.iface t v)), st)
      | .iface t v => some (.pan (.iface t v), st)
      | _ => none
    | .dfr f args => bif d.isSome then none else match fnOf (evX E st.ts f) with
      | none => none
      | some _ => some (.norm, { st with ts := putT st.ts o.dst (.tup []), ds := (evX E st.ts f, args.map (evX E st.ts)) :: st.ds })
    | _ => match denOp' d (evX E st.ts) st.m o with
      | some (v, m) => some (.norm, { st with ts := putT st.ts o.dst v, m })
      | none => none

def denOpers (E : Env) (call : Caller) (d : Option Dr) : List XOper → St → Option (Ex × St)
  | [], st => some (.norm, st)
  | o :: r, st => match denOper E call d o st with
    | some (.norm, st') => denOpers E call d r st'
    | x => x

def keep : List Bool → List AV → List AV
  | b :: bs, v :: vs => (bif b then v else .unk) :: keep bs vs
  | _, _ => []

def iter (body : St → Option (Ex × St)) : Nat → St → Option (Ex × St)
  | 0, _ => none
  | n + 1, st => match body st with
    | some (.norm, st') => iter body n st'
    | x => x

def den (E : Env) (call : Caller) (n : Nat) : XCode → St → Option (Ex × St)
  | .skip, st => some (.norm, st)
  | .ops l, st => denOpers E call none l st
  | .draw l _, st => denOpers E call (some ⟨st.m.length, []⟩) l st
  | .drawK l _ ks, st => denOpers E call (some ⟨st.m.length, others st.m.length (idsOf st.ts ks)⟩) l st
  | .drawS l _ sts, st => denOpers E call (some ⟨st.m.length, idsOf st.ts sts⟩) l st
  | .seq a b, st => match den E call n a st with
    | some (.norm, st') => den E call n b st'
    | x => x
  | .cond c t e, st => match evX E st.ts c with
    | .p (.bool b) => bif b then den E call n t st else den E call n e st
    | _ => none
  | .block id b, st => match den E call n b st with
    | some (.exit id', st') => if id' = id then some (.norm, st') else some (.exit id', st')
    | x => x
  | .loop mask b, st => iter (fun st => if mask.length = st.ts.length then den E call n b { st with ts := keep mask st.ts } else none) n st
  | .exit id, st => some (.exit id, st)
  | .ret, st => some (.ret, st)
  | .refuse, _ => none

def strip0 : AV → Option AV
  | .p v => some (.p v)
  | .tv n rows _ => some (.p (.vals n rows))
  | .rp cs => some (.rp cs)
  | _ => none
def strip0s : List AV → Option (List AV)
  | [] => some []
  | v :: r => match strip0 v, strip0s r with | some x, some l => some (x :: l) | _, _ => none
def stripV : AV → Option AV
  | .agg vs => match strip0s vs with | some l => some (mkAgg l) | none => none
  | v => strip0 v
def stripVs : List AV → Option (List AV)
  | [] => some []
  | v :: r => match stripV v, stripVs r with | some x, some l => some (x :: l) | _, _ => none
def stripR : AV → Option AV
  | .tup vs => match stripVs vs with | some l => some (.tup l) | none => none
  | v => stripV v

def resOne (m : Mem) (ts : List AV) : XRes → Option AV
  | .tmp t => some (ts.getD t (.tup []))
  | .cell t n agg => match ts.getD t (.tup []) with
    | .ptr id off => match m[id]? with
      | some (.cells cs) => if (agg = true ∧ off + n ≤ cs.length) ∨ agg = false then partV n agg cs off else none
      | _ => none
    | _ => none
def resAll (m : Mem) (ts : List AV) : List XRes → Option (List AV)
  | [] => some []
  | r :: rest => match resOne m ts r, resAll m ts rest with | some v, some l => some (v :: l) | _, _ => none
def oneOr : List AV → AV
  | [v] => v
  | l => .tup l

def stripOut : Out → Option Out
  | .ret v => match stripR v with | some v' => some (.ret v') | none => none
  | .pan v => match stripR v with | some v' => some (.pan v') | none => none

def leave (xf : XFunc) : Option (Ex × St) → Option (Out × Mem)
  | some (.norm, st) => match st.ds with
    | [] => match resAll st.m st.ts xf.res with
      | some l => some (.ret (oneOr l), st.m)
      | none => none
    | _ => none
  | some (.ret, st) => match st.ds with
    | [] => match resAll st.m st.ts xf.res with
      | some l => some (.ret (oneOr l), st.m)
      | none => none
    | _ => none
  | some (.pan v, st) => match st.ds with
    | [] => some (.pan v, st.m)
    | _ => none
  | _ => none

def denRec (E : Env) (call : Caller) (n : Nat) (pv : AV) : XCode → St → Option (Ex × St)
  | .ops (⟨dst, .recover, none, _⟩ :: l), st => denOpers E call none l { st with ts := putT st.ts dst pv }
  | .seq a b, st => match denRec E call n pv a st with
    | some (.norm, st') => den E call n b st'
    | x => x
  | _, _ => none
def pvOf : Ex → Option AV
  | .norm => some (.p .nili)
  | .ret => some (.p .nili)
  | .pan v => some v
  | .exit _ => none
def leaveD (E : Env) (call : Caller) (n : Nat) (xf : XFunc) : Option (Ex × St) → Option (Out × Mem)
  | some (e, st) => match st.ds with
    | [] => leave xf (some (e, st))
    | [(fv, args)] => match fnOf fv, pvOf e with
      | some (g, caps), some pv => match E.fn g with
        | some xd => match denRec E call n pv xd.body ⟨args ++ caps ++ List.replicate (xd.ntmps - (args ++ caps).length) (.tup []), st.m, []⟩ with
          | some (.norm, sd) => match sd.ds, xd.res, resAll sd.m st.ts xf.res with
            | [], [], some l => some (.ret (oneOr l), sd.m)
            | _, _, _ => none
          | some (.ret, sd) => match sd.ds, xd.res, resAll sd.m st.ts xf.res with
            | [], [], some l => some (.ret (oneOr l), sd.m)
            | _, _, _ => none
          | _ => none
        | none => none
      | _, _ => none
    | _ => none
  | none => none
def leaveX (E : Env) (call : Caller) (n : Nat) (xf : XFunc) (r : Option (Ex × St)) : Option (Out × Mem) := bif xf.dfr then leaveD E call n xf r else leave xf r

def denF (E : Env) : Nat → Nat → List AV → Mem → Option (Out × Mem)
  | 0, _, _, _ => none
  | n + 1, f, args, m => match E.fn f with
    | none => none
    | some xf =>
      if xf.pure then
        match stripVs args with
        | none => none
        | some args' => match leaveX E (denF E n) n xf (den E (denF E n) n xf.body ⟨args' ++ List.replicate (xf.ntmps - args'.length) (.tup []), [], []⟩) with
          | none => none
          | some (out, _) => match stripOut out with
            | some out' => some (out', m)
            | none => none
      else leaveX E (denF E n) n xf (den E (denF E n) n xf.body ⟨args ++ List.replicate (xf.ntmps - args.length) (.tup []), m, []⟩)

end Hx
