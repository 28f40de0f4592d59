/-
  HxSimp: which definitions of the evaluator are unfolded, and how a call's evaluation begins. No program is named here.
-/
import Derived.Test.YtfobhbameffplaaHxDefs
namespace Hx
open Go
attribute [simp] Dr.ok idsOf denStore sameL sameP findM entsOf zeroV keyOk strip0s strip0 stripVs stripV wants denOp' denOp denStill denMove denLoad adds evX putT binV binI binS cmpI arithI unV leave resAll resOne oneOr stripOut stripR okPure fnOf keep asInt asNat bounds partV partP mkAgg allP lenV toP toPs newTok AV.cells PV.cells AV.flat PV.flat fillParts setAt chunks
variable {E : Env}
@[simp] theorem rowsOf_nils {n : Nat} {m : Mem} : rowsOf n m (.p .nils) = some [] := rfl
@[simp] theorem rowsOf_vals {n n' : Nat} {rows : List (List PV)} {m : Mem} : rowsOf n m (.p (.vals n' rows)) = if n' = n then some rows else none := rfl
@[simp] theorem rowsOf_tv {n n' t : Nat} {rows : List (List PV)} {m : Mem} : rowsOf n m (.tv n' rows t) = if n' = n then some rows else none := rfl
@[simp] theorem rowsOf_str {n : Nat} {s : List UInt8} {m : Mem} : rowsOf n m (.p (.str s)) = if n = 1 then some (byteRows s) else none := rfl
theorem leaveX_no {xf : XFunc} (hd : xf.dfr = false) (call : Caller) (n : Nat) (r : Option (Ex × St)) : leaveX E call n xf r = leave xf r := by
  unfold leaveX; rw [hd]; rfl
theorem leaveX_dfr {xf : XFunc} (hd : xf.dfr = true) (call : Caller) (n : Nat) (r : Option (Ex × St)) : leaveX E call n xf r = leaveD E call n xf r := by
  unfold leaveX; rw [hd]; rfl
theorem denF_pure {f : Nat} {xf : XFunc} (h : E.fn f = some xf) (hp : xf.pure = true) (n : Nat) (args : List AV) (m : Mem) (hd : xf.dfr = false := by rfl) : denF E (n + 1) f args m =
    match stripVs args with
    | none => none
    | some args' => match leave xf (den E (denF E n) n xf.body ⟨args' ++ List.replicate (xf.ntmps - args'.length) (.tup []), [], []⟩) with
      | none => none
      | some (out, _) => match stripOut out with
        | some out' => some (out', m)
        | none => none := by
  rw [denF, h]; simp only [hp, if_true, leaveX_no hd]; rfl
theorem leaveX_of {xf : XFunc} {call : Caller} {n : Nat} {r : Option (Ex × St)} {x : Out × Mem} (h : leave xf r = some x) : leaveX E call n xf r = some x := by
  cases hd : xf.dfr with
  | false => rw [leaveX_no hd]; exact h
  | true =>
    rw [leaveX_dfr hd]
    cases r with
    | none => cases h
    | some p =>
      obtain ⟨e, ts, m, ds⟩ := p
      have : ds = [] := by
        cases ds with
        | nil => rfl
        | cons a l => cases e <;> cases h
      subst this
      exact h
theorem wrap_i64 {n : Int} (h1 : -9223372036854775808 ≤ n) (h2 : n ≤ 9223372036854775807) : IntKind.i64.wrap n = n := by
  simp [IntKind.wrap, IntKind.signed, IntKind.bits]; omega
theorem wrap_u8_mod {n : Int} : IntKind.u8.wrap n = n % 256 := by
  simp [IntKind.wrap, IntKind.signed, IntKind.bits]
@[simp] theorem bits_i64 : IntKind.i64.bits = 64 := rfl
@[simp] theorem bits_u8 : IntKind.u8.bits = 8 := rfl
attribute [simp] List.getElem?_cons_zero List.getElem?_cons_succ
@[simp] theorem getD_zero' {a d : AV} {l : List AV} : (a :: l).getD 0 d = a := rfl
@[simp] theorem getD_succ' {a d : AV} {l : List AV} {n : Nat} : (a :: l).getD (n + 1) d = l.getD n d := rfl
theorem iter_succ {body : St → Option (Ex × St)} {n : Nat} {st : St} : iter body (n + 1) st = match body st with
    | some (.norm, st') => iter body n st'
    | x => x := rfl

def still : XOp → Bool
  | .mov _ | .pick _ _ _ | .bin _ _ _ | .eqB _ _ _ | .eqA _ _ _ _ | .eqNil _ _ | .un _ _ | .toInt _ _ | .strId _ | .build _ _ | .field _ _ _ _ | .fieldAddr _ _ | .indexStr _ _ | .indexArr _ _ _ _ _ | .addrArr _ _ _ _ | .addrRow _ _ _ | .cutStr _ _ _ | .cutRow _ _ _ _ | .mkFn _ _ | .mkIface _ _ | .assertT _ _ _ | .extract _ _ | .lenS _ | .len _ | .lenC _ | .max2 _ _ | .min2 _ _ | .nilCheck _ | .idxByte _ _ _ _ | .noEsc _ _ _ | .nilPtr _ _ | .eqPtr _ _ _ | .sliceData _ | .nilS _ _ | .fview _ _ => true
  | _ => false
def moves : XOp → Bool
  | .load _ _ _ | .store _ _ _ | .alloc _ | .box _ | .rowLit _ _ _ _ _ | .rowVals _ _ _ _ | .mkRow _ _ _ _ _ _ | .toStr _ | .toBytes _ _ | .cutArr _ _ _ _ _ | .append _ _ _ _ _ | .allocT _ _ | .cast _ _ _ _ | .appendT _ _ _ _ _ | .strOf _ _ _ | .convS _ | .mkMap | .boxT _ _ _ | .lookup _ _ _ _ _ _ | .mapSet _ _ _ _ | .clearM _ => true
  | _ => false
section
variable {call : Caller} {dst : Option Nat} {g : Option (Nat × Bool)} {c : Nat} {r : List XOper} {st : St} {op : XOp} {N0 : Dr} {o : XOper}
@[simp] theorem ops_nil {d : Option Dr} : denOpers E call d [] st = some (.norm, st) := rfl
theorem ops_plain (h : ∀ f a, op ≠ .call f a) (h1 : ∀ x, op ≠ .panic x) (h2 : ∀ f a, op ≠ .dfr f a) : denOpers E call none (⟨dst, op, g, c⟩ :: r) st = match wants st.ts g with
    | none => none
    | some false => denOpers E call none r ⟨putT st.ts dst (.tup []), st.m, st.ds⟩
    | some true => match denOp (evX E st.ts) st.m op with
      | some (v, m) => denOpers E call none r ⟨putT st.ts dst v, m, st.ds⟩
      | none => none := by
  have hh : denOper E call none ⟨dst, op, g, c⟩ st = match wants st.ts g with
      | none => none
      | some false => some (.norm, ⟨putT st.ts dst (.tup []), st.m, st.ds⟩)
      | some true => match denOp (evX E st.ts) st.m op with
        | some (v, m) => some (.norm, ⟨putT st.ts dst v, m, st.ds⟩)
        | none => none := by
    unfold denOper
    cases wants st.ts g with
    | none => rfl
    | some b =>
      cases b with
      | false => rfl
      | true => cases op <;> first | rfl | (exact absurd rfl (h _ _)) | (exact absurd rfl (h1 _)) | (exact absurd rfl (h2 _ _))
  rw [denOpers, hh]
  cases wants st.ts g with
  | none => rfl
  | some b =>
    cases b with
    | false => rfl
    | true =>
      simp only
      generalize denOp (evX E st.ts) st.m op = q
      cases q <;> rfl
theorem ops_still (h : still op = true) : denOpers E call none (⟨dst, op, g, c⟩ :: r) st = match wants st.ts g with
    | none => none
    | some false => denOpers E call none r ⟨putT st.ts dst (.tup []), st.m, st.ds⟩
    | some true => match denStill (evX E st.ts) op with
      | some v => denOpers E call none r ⟨putT st.ts dst v, st.m, st.ds⟩
      | none => none := by
  rw [ops_plain (by intro f a e; subst e; cases h) (by intro x e; subst e; cases h) (by intro f a e; subst e; cases h)]
  cases wants st.ts g with
  | none => rfl
  | some b =>
    cases b with
    | false => rfl
    | true =>
      simp only [denOp]
      cases hs : denStill (evX E st.ts) op with
      | some v => rfl
      | none => cases op <;> first | (cases h; done) | rfl
theorem ops_moves (h : moves op = true) : denOpers E call none (⟨dst, op, g, c⟩ :: r) st = match wants st.ts g with
    | none => none
    | some false => denOpers E call none r ⟨putT st.ts dst (.tup []), st.m, st.ds⟩
    | some true => match denOp (evX E st.ts) st.m op with
      | some (v, m) => denOpers E call none r ⟨putT st.ts dst v, m, st.ds⟩
      | none => none :=
  ops_plain (by intro f a e; subst e; cases h) (by intro x e; subst e; cases h) (by intro f a e; subst e; cases h)
@[simp] theorem ops_call {f : X} {args : List X} : denOpers E call none (⟨dst, .call f args, g, c⟩ :: r) st = match wants st.ts g with
    | none => none
    | some false => denOpers E call none r ⟨putT st.ts dst (.tup []), st.m, st.ds⟩
    | some true => match fnOf (evX E st.ts f) with
      | none => none
      | some (g, caps) => match call g (args.map (evX E st.ts) ++ caps) st.m with
        | none => none
        | some (.ret v, m) => denOpers E call none r ⟨putT st.ts dst v, m, st.ds⟩
        | some (.pan v, m) => some (.pan v, ⟨st.ts, m, st.ds⟩) := by
  rw [denOpers, denOper]
  cases wants st.ts g with
  | none => rfl
  | some b =>
    cases b with
    | false => rfl
    | true =>
      simp only
      cases fnOf (evX E st.ts f) with
      | none => rfl
      | some p =>
        obtain ⟨g, caps⟩ := p
        simp only [okPure, keptB, cond_true]
        cases call g (args.map (evX E st.ts) ++ caps) st.m with
        | none => rfl
        | some q =>
          obtain ⟨q1, q2⟩ := q
          cases q1 <;> rfl
@[simp] theorem ops_some : denOpers E call (some N0) (o :: r) st = match denOper E call (some N0) o st with
    | some (.norm, st') => denOpers E call (some N0) r st'
    | x => x := by
  rw [denOpers]; rfl
@[simp] theorem ops_mov {x : X} : denOpers E call none (⟨dst, .mov x, g, c⟩ :: r) st = match wants st.ts g with
    | none => none
    | some false => denOpers E call none r ⟨putT st.ts dst (.tup []), st.m, st.ds⟩
    | some true => match denStill (evX E st.ts) (.mov x) with
      | some v => denOpers E call none r ⟨putT st.ts dst v, st.m, st.ds⟩
      | none => none := ops_still rfl
@[simp] theorem ops_pick {x : X} {y : X} {z : X} : denOpers E call none (⟨dst, .pick x y z, g, c⟩ :: r) st = match wants st.ts g with
    | none => none
    | some false => denOpers E call none r ⟨putT st.ts dst (.tup []), st.m, st.ds⟩
    | some true => match denStill (evX E st.ts) (.pick x y z) with
      | some v => denOpers E call none r ⟨putT st.ts dst v, st.m, st.ds⟩
      | none => none := ops_still rfl
@[simp] theorem ops_bin {b : BinOp} {x : X} {y : X} : denOpers E call none (⟨dst, .bin b x y, g, c⟩ :: r) st = match wants st.ts g with
    | none => none
    | some false => denOpers E call none r ⟨putT st.ts dst (.tup []), st.m, st.ds⟩
    | some true => match denStill (evX E st.ts) (.bin b x y) with
      | some v => denOpers E call none r ⟨putT st.ts dst v, st.m, st.ds⟩
      | none => none := ops_still rfl
@[simp] theorem ops_eqB {n : Bool} {x : X} {y : X} : denOpers E call none (⟨dst, .eqB n x y, g, c⟩ :: r) st = match wants st.ts g with
    | none => none
    | some false => denOpers E call none r ⟨putT st.ts dst (.tup []), st.m, st.ds⟩
    | some true => match denStill (evX E st.ts) (.eqB n x y) with
      | some v => denOpers E call none r ⟨putT st.ts dst v, st.m, st.ds⟩
      | none => none := ops_still rfl
@[simp] theorem ops_eqA {n : Bool} {e : EqT} {x : X} {y : X} : denOpers E call none (⟨dst, .eqA n e x y, g, c⟩ :: r) st = match wants st.ts g with
    | none => none
    | some false => denOpers E call none r ⟨putT st.ts dst (.tup []), st.m, st.ds⟩
    | some true => match denStill (evX E st.ts) (.eqA n e x y) with
      | some v => denOpers E call none r ⟨putT st.ts dst v, st.m, st.ds⟩
      | none => none := ops_still rfl
@[simp] theorem ops_eqNil {n : Bool} {x : X} : denOpers E call none (⟨dst, .eqNil n x, g, c⟩ :: r) st = match wants st.ts g with
    | none => none
    | some false => denOpers E call none r ⟨putT st.ts dst (.tup []), st.m, st.ds⟩
    | some true => match denStill (evX E st.ts) (.eqNil n x) with
      | some v => denOpers E call none r ⟨putT st.ts dst v, st.m, st.ds⟩
      | none => none := ops_still rfl
@[simp] theorem ops_un {u : UnOp} {x : X} : denOpers E call none (⟨dst, .un u x, g, c⟩ :: r) st = match wants st.ts g with
    | none => none
    | some false => denOpers E call none r ⟨putT st.ts dst (.tup []), st.m, st.ds⟩
    | some true => match denStill (evX E st.ts) (.un u x) with
      | some v => denOpers E call none r ⟨putT st.ts dst v, st.m, st.ds⟩
      | none => none := ops_still rfl
@[simp] theorem ops_toInt {k : IntKind} {x : X} : denOpers E call none (⟨dst, .toInt k x, g, c⟩ :: r) st = match wants st.ts g with
    | none => none
    | some false => denOpers E call none r ⟨putT st.ts dst (.tup []), st.m, st.ds⟩
    | some true => match denStill (evX E st.ts) (.toInt k x) with
      | some v => denOpers E call none r ⟨putT st.ts dst v, st.m, st.ds⟩
      | none => none := ops_still rfl
@[simp] theorem ops_strId {x : X} : denOpers E call none (⟨dst, .strId x, g, c⟩ :: r) st = match wants st.ts g with
    | none => none
    | some false => denOpers E call none r ⟨putT st.ts dst (.tup []), st.m, st.ds⟩
    | some true => match denStill (evX E st.ts) (.strId x) with
      | some v => denOpers E call none r ⟨putT st.ts dst v, st.m, st.ds⟩
      | none => none := ops_still rfl
@[simp] theorem ops_build {zs : List PV} {ps : List (Nat × Nat × X)} : denOpers E call none (⟨dst, .build zs ps, g, c⟩ :: r) st = match wants st.ts g with
    | none => none
    | some false => denOpers E call none r ⟨putT st.ts dst (.tup []), st.m, st.ds⟩
    | some true => match denStill (evX E st.ts) (.build zs ps) with
      | some v => denOpers E call none r ⟨putT st.ts dst v, st.m, st.ds⟩
      | none => none := ops_still rfl
@[simp] theorem ops_field {i : Nat} {j : Nat} {n : Bool} {x : X} : denOpers E call none (⟨dst, .field i j n x, g, c⟩ :: r) st = match wants st.ts g with
    | none => none
    | some false => denOpers E call none r ⟨putT st.ts dst (.tup []), st.m, st.ds⟩
    | some true => match denStill (evX E st.ts) (.field i j n x) with
      | some v => denOpers E call none r ⟨putT st.ts dst v, st.m, st.ds⟩
      | none => none := ops_still rfl
@[simp] theorem ops_fieldAddr {i : Nat} {x : X} : denOpers E call none (⟨dst, .fieldAddr i x, g, c⟩ :: r) st = match wants st.ts g with
    | none => none
    | some false => denOpers E call none r ⟨putT st.ts dst (.tup []), st.m, st.ds⟩
    | some true => match denStill (evX E st.ts) (.fieldAddr i x) with
      | some v => denOpers E call none r ⟨putT st.ts dst v, st.m, st.ds⟩
      | none => none := ops_still rfl
@[simp] theorem ops_indexStr {x : X} {y : X} : denOpers E call none (⟨dst, .indexStr x y, g, c⟩ :: r) st = match wants st.ts g with
    | none => none
    | some false => denOpers E call none r ⟨putT st.ts dst (.tup []), st.m, st.ds⟩
    | some true => match denStill (evX E st.ts) (.indexStr x y) with
      | some v => denOpers E call none r ⟨putT st.ts dst v, st.m, st.ds⟩
      | none => none := ops_still rfl
@[simp] theorem ops_indexArr {i : Nat} {j : Nat} {n : Bool} {x : X} {y : X} : denOpers E call none (⟨dst, .indexArr i j n x y, g, c⟩ :: r) st = match wants st.ts g with
    | none => none
    | some false => denOpers E call none r ⟨putT st.ts dst (.tup []), st.m, st.ds⟩
    | some true => match denStill (evX E st.ts) (.indexArr i j n x y) with
      | some v => denOpers E call none r ⟨putT st.ts dst v, st.m, st.ds⟩
      | none => none := ops_still rfl
@[simp] theorem ops_addrArr {i : Nat} {j : Nat} {x : X} {y : X} : denOpers E call none (⟨dst, .addrArr i j x y, g, c⟩ :: r) st = match wants st.ts g with
    | none => none
    | some false => denOpers E call none r ⟨putT st.ts dst (.tup []), st.m, st.ds⟩
    | some true => match denStill (evX E st.ts) (.addrArr i j x y) with
      | some v => denOpers E call none r ⟨putT st.ts dst v, st.m, st.ds⟩
      | none => none := ops_still rfl
@[simp] theorem ops_addrRow {i : Nat} {x : X} {y : X} : denOpers E call none (⟨dst, .addrRow i x y, g, c⟩ :: r) st = match wants st.ts g with
    | none => none
    | some false => denOpers E call none r ⟨putT st.ts dst (.tup []), st.m, st.ds⟩
    | some true => match denStill (evX E st.ts) (.addrRow i x y) with
      | some v => denOpers E call none r ⟨putT st.ts dst v, st.m, st.ds⟩
      | none => none := ops_still rfl
@[simp] theorem ops_cutStr {x : X} {lo : Option X} {hi : Option X} : denOpers E call none (⟨dst, .cutStr x lo hi, g, c⟩ :: r) st = match wants st.ts g with
    | none => none
    | some false => denOpers E call none r ⟨putT st.ts dst (.tup []), st.m, st.ds⟩
    | some true => match denStill (evX E st.ts) (.cutStr x lo hi) with
      | some v => denOpers E call none r ⟨putT st.ts dst v, st.m, st.ds⟩
      | none => none := ops_still rfl
@[simp] theorem ops_cutRow {i : Nat} {x : X} {lo : Option X} {hi : Option X} : denOpers E call none (⟨dst, .cutRow i x lo hi, g, c⟩ :: r) st = match wants st.ts g with
    | none => none
    | some false => denOpers E call none r ⟨putT st.ts dst (.tup []), st.m, st.ds⟩
    | some true => match denStill (evX E st.ts) (.cutRow i x lo hi) with
      | some v => denOpers E call none r ⟨putT st.ts dst v, st.m, st.ds⟩
      | none => none := ops_still rfl
@[simp] theorem ops_mkFn {i : Nat} {xs : List X} : denOpers E call none (⟨dst, .mkFn i xs, g, c⟩ :: r) st = match wants st.ts g with
    | none => none
    | some false => denOpers E call none r ⟨putT st.ts dst (.tup []), st.m, st.ds⟩
    | some true => match denStill (evX E st.ts) (.mkFn i xs) with
      | some v => denOpers E call none r ⟨putT st.ts dst v, st.m, st.ds⟩
      | none => none := ops_still rfl
@[simp] theorem ops_mkIface {i : Nat} {x : X} : denOpers E call none (⟨dst, .mkIface i x, g, c⟩ :: r) st = match wants st.ts g with
    | none => none
    | some false => denOpers E call none r ⟨putT st.ts dst (.tup []), st.m, st.ds⟩
    | some true => match denStill (evX E st.ts) (.mkIface i x) with
      | some v => denOpers E call none r ⟨putT st.ts dst v, st.m, st.ds⟩
      | none => none := ops_still rfl
@[simp] theorem ops_assertT {i : Nat} {n : Bool} {x : X} : denOpers E call none (⟨dst, .assertT i n x, g, c⟩ :: r) st = match wants st.ts g with
    | none => none
    | some false => denOpers E call none r ⟨putT st.ts dst (.tup []), st.m, st.ds⟩
    | some true => match denStill (evX E st.ts) (.assertT i n x) with
      | some v => denOpers E call none r ⟨putT st.ts dst v, st.m, st.ds⟩
      | none => none := ops_still rfl
@[simp] theorem ops_extract {x : X} {i : Nat} : denOpers E call none (⟨dst, .extract x i, g, c⟩ :: r) st = match wants st.ts g with
    | none => none
    | some false => denOpers E call none r ⟨putT st.ts dst (.tup []), st.m, st.ds⟩
    | some true => match denStill (evX E st.ts) (.extract x i) with
      | some v => denOpers E call none r ⟨putT st.ts dst v, st.m, st.ds⟩
      | none => none := ops_still rfl
@[simp] theorem ops_lenS {x : X} : denOpers E call none (⟨dst, .lenS x, g, c⟩ :: r) st = match wants st.ts g with
    | none => none
    | some false => denOpers E call none r ⟨putT st.ts dst (.tup []), st.m, st.ds⟩
    | some true => match denStill (evX E st.ts) (.lenS x) with
      | some v => denOpers E call none r ⟨putT st.ts dst v, st.m, st.ds⟩
      | none => none := ops_still rfl
@[simp] theorem ops_len {x : X} : denOpers E call none (⟨dst, .len x, g, c⟩ :: r) st = match wants st.ts g with
    | none => none
    | some false => denOpers E call none r ⟨putT st.ts dst (.tup []), st.m, st.ds⟩
    | some true => match denStill (evX E st.ts) (.len x) with
      | some v => denOpers E call none r ⟨putT st.ts dst v, st.m, st.ds⟩
      | none => none := ops_still rfl
@[simp] theorem ops_lenC {i : Nat} : denOpers E call none (⟨dst, .lenC i, g, c⟩ :: r) st = match wants st.ts g with
    | none => none
    | some false => denOpers E call none r ⟨putT st.ts dst (.tup []), st.m, st.ds⟩
    | some true => match denStill (evX E st.ts) (.lenC i) with
      | some v => denOpers E call none r ⟨putT st.ts dst v, st.m, st.ds⟩
      | none => none := ops_still rfl
@[simp] theorem ops_max2 {x : X} {y : X} : denOpers E call none (⟨dst, .max2 x y, g, c⟩ :: r) st = match wants st.ts g with
    | none => none
    | some false => denOpers E call none r ⟨putT st.ts dst (.tup []), st.m, st.ds⟩
    | some true => match denStill (evX E st.ts) (.max2 x y) with
      | some v => denOpers E call none r ⟨putT st.ts dst v, st.m, st.ds⟩
      | none => none := ops_still rfl
@[simp] theorem ops_min2 {x : X} {y : X} : denOpers E call none (⟨dst, .min2 x y, g, c⟩ :: r) st = match wants st.ts g with
    | none => none
    | some false => denOpers E call none r ⟨putT st.ts dst (.tup []), st.m, st.ds⟩
    | some true => match denStill (evX E st.ts) (.min2 x y) with
      | some v => denOpers E call none r ⟨putT st.ts dst v, st.m, st.ds⟩
      | none => none := ops_still rfl
@[simp] theorem ops_nilCheck {x : X} : denOpers E call none (⟨dst, .nilCheck x, g, c⟩ :: r) st = match wants st.ts g with
    | none => none
    | some false => denOpers E call none r ⟨putT st.ts dst (.tup []), st.m, st.ds⟩
    | some true => match denStill (evX E st.ts) (.nilCheck x) with
      | some v => denOpers E call none r ⟨putT st.ts dst v, st.m, st.ds⟩
      | none => none := ops_still rfl
@[simp] theorem ops_load {i : Nat} {n : Bool} {x : X} : denOpers E call none (⟨dst, .load i n x, g, c⟩ :: r) st = match wants st.ts g with
    | none => none
    | some false => denOpers E call none r ⟨putT st.ts dst (.tup []), st.m, st.ds⟩
    | some true => match denOp (evX E st.ts) st.m (.load i n x) with
      | some (v, m) => denOpers E call none r ⟨putT st.ts dst v, m, st.ds⟩
      | none => none := ops_moves rfl
@[simp] theorem ops_store {i : Nat} {x : X} {y : X} : denOpers E call none (⟨dst, .store i x y, g, c⟩ :: r) st = match wants st.ts g with
    | none => none
    | some false => denOpers E call none r ⟨putT st.ts dst (.tup []), st.m, st.ds⟩
    | some true => match denOp (evX E st.ts) st.m (.store i x y) with
      | some (v, m) => denOpers E call none r ⟨putT st.ts dst v, m, st.ds⟩
      | none => none := ops_moves rfl
@[simp] theorem ops_alloc {zs : List PV} : denOpers E call none (⟨dst, .alloc zs, g, c⟩ :: r) st = match wants st.ts g with
    | none => none
    | some false => denOpers E call none r ⟨putT st.ts dst (.tup []), st.m, st.ds⟩
    | some true => match denOp (evX E st.ts) st.m (.alloc zs) with
      | some (v, m) => denOpers E call none r ⟨putT st.ts dst v, m, st.ds⟩
      | none => none := ops_moves rfl
@[simp] theorem ops_box {x : X} : denOpers E call none (⟨dst, .box x, g, c⟩ :: r) st = match wants st.ts g with
    | none => none
    | some false => denOpers E call none r ⟨putT st.ts dst (.tup []), st.m, st.ds⟩
    | some true => match denOp (evX E st.ts) st.m (.box x) with
      | some (v, m) => denOpers E call none r ⟨putT st.ts dst v, m, st.ds⟩
      | none => none := ops_moves rfl
@[simp] theorem keptB_0 {D : Dr} {m m' : Mem} : keptB (some D) 0 m m' = true := rfl
@[simp] theorem keptB_1 {D : Dr} {m m' : Mem} : keptB (some D) 1 m m' = true := rfl
@[simp] theorem keptB_2 {D : Dr} {m m' : Mem} : keptB (some D) 2 m m' = true := rfl
@[simp] theorem keptB_none {n : Nat} {m m' : Mem} : keptB none n m m' = true := rfl
@[simp] theorem ops_rowVals {i : Nat} {j : Nat} {zs : List PV} {ps : List (Nat × Nat × X)} : denOpers E call none (⟨dst, .rowVals i j zs ps, g, c⟩ :: r) st = match wants st.ts g with
    | none => none
    | some false => denOpers E call none r ⟨putT st.ts dst (.tup []), st.m, st.ds⟩
    | some true => match denOp (evX E st.ts) st.m (.rowVals i j zs ps) with
      | some (v, m) => denOpers E call none r ⟨putT st.ts dst v, m, st.ds⟩
      | none => none := ops_moves rfl
@[simp] theorem ops_rowLit {n : Bool} {i : Nat} {j : Nat} {zs : List PV} {ps : List (Nat × Nat × X)} : denOpers E call none (⟨dst, .rowLit n i j zs ps, g, c⟩ :: r) st = match wants st.ts g with
    | none => none
    | some false => denOpers E call none r ⟨putT st.ts dst (.tup []), st.m, st.ds⟩
    | some true => match denOp (evX E st.ts) st.m (.rowLit n i j zs ps) with
      | some (v, m) => denOpers E call none r ⟨putT st.ts dst v, m, st.ds⟩
      | none => none := ops_moves rfl
@[simp] theorem ops_mkRow {n : Bool} {i : Nat} {j : Nat} {zs : List PV} {x : X} {y : X} : denOpers E call none (⟨dst, .mkRow n i j zs x y, g, c⟩ :: r) st = match wants st.ts g with
    | none => none
    | some false => denOpers E call none r ⟨putT st.ts dst (.tup []), st.m, st.ds⟩
    | some true => match denOp (evX E st.ts) st.m (.mkRow n i j zs x y) with
      | some (v, m) => denOpers E call none r ⟨putT st.ts dst v, m, st.ds⟩
      | none => none := ops_moves rfl
@[simp] theorem ops_toStr {x : X} : denOpers E call none (⟨dst, .toStr x, g, c⟩ :: r) st = match wants st.ts g with
    | none => none
    | some false => denOpers E call none r ⟨putT st.ts dst (.tup []), st.m, st.ds⟩
    | some true => match denOp (evX E st.ts) st.m (.toStr x) with
      | some (v, m) => denOpers E call none r ⟨putT st.ts dst v, m, st.ds⟩
      | none => none := ops_moves rfl
@[simp] theorem ops_toBytes {n : Bool} {x : X} : denOpers E call none (⟨dst, .toBytes n x, g, c⟩ :: r) st = match wants st.ts g with
    | none => none
    | some false => denOpers E call none r ⟨putT st.ts dst (.tup []), st.m, st.ds⟩
    | some true => match denOp (evX E st.ts) st.m (.toBytes n x) with
      | some (v, m) => denOpers E call none r ⟨putT st.ts dst v, m, st.ds⟩
      | none => none := ops_moves rfl
@[simp] theorem ops_cutArr {i : Nat} {j : Nat} {x : X} {lo : Option X} {hi : Option X} : denOpers E call none (⟨dst, .cutArr i j x lo hi, g, c⟩ :: r) st = match wants st.ts g with
    | none => none
    | some false => denOpers E call none r ⟨putT st.ts dst (.tup []), st.m, st.ds⟩
    | some true => match denOp (evX E st.ts) st.m (.cutArr i j x lo hi) with
      | some (v, m) => denOpers E call none r ⟨putT st.ts dst v, m, st.ds⟩
      | none => none := ops_moves rfl
@[simp] theorem ops_append {n : Bool} {i : Nat} {j : Nat} {x : X} {y : X} : denOpers E call none (⟨dst, .append n i j x y, g, c⟩ :: r) st = match wants st.ts g with
    | none => none
    | some false => denOpers E call none r ⟨putT st.ts dst (.tup []), st.m, st.ds⟩
    | some true => match denOp (evX E st.ts) st.m (.append n i j x y) with
      | some (v, m) => denOpers E call none r ⟨putT st.ts dst v, m, st.ds⟩
      | none => none := ops_moves rfl
@[simp] theorem ops_idxByte {i : Nat} {f x y : X} : denOpers E call none (⟨dst, .idxByte i f x y, g, c⟩ :: r) st = match wants st.ts g with
    | none => none
    | some false => denOpers E call none r ⟨putT st.ts dst (.tup []), st.m, st.ds⟩
    | some true => match denStill (evX E st.ts) (.idxByte i f x y) with
      | some v => denOpers E call none r ⟨putT st.ts dst v, st.m, st.ds⟩
      | none => none := ops_still rfl
@[simp] theorem ops_noEsc {i : Nat} {f x : X} : denOpers E call none (⟨dst, .noEsc i f x, g, c⟩ :: r) st = match wants st.ts g with
    | none => none
    | some false => denOpers E call none r ⟨putT st.ts dst (.tup []), st.m, st.ds⟩
    | some true => match denStill (evX E st.ts) (.noEsc i f x) with
      | some v => denOpers E call none r ⟨putT st.ts dst v, st.m, st.ds⟩
      | none => none := ops_still rfl
@[simp] theorem ops_nilPtr {n : Bool} {x : X} : denOpers E call none (⟨dst, .nilPtr n x, g, c⟩ :: r) st = match wants st.ts g with
    | none => none
    | some false => denOpers E call none r ⟨putT st.ts dst (.tup []), st.m, st.ds⟩
    | some true => match denStill (evX E st.ts) (.nilPtr n x) with
      | some v => denOpers E call none r ⟨putT st.ts dst v, st.m, st.ds⟩
      | none => none := ops_still rfl
@[simp] theorem ops_nilS {n : Bool} {x : X} : denOpers E call none (⟨dst, .nilS n x, g, c⟩ :: r) st = match wants st.ts g with
    | none => none
    | some false => denOpers E call none r ⟨putT st.ts dst (.tup []), st.m, st.ds⟩
    | some true => match denStill (evX E st.ts) (.nilS n x) with
      | some v => denOpers E call none r ⟨putT st.ts dst v, st.m, st.ds⟩
      | none => none := ops_still rfl
@[simp] theorem ops_fview {n : Nat} {x : X} : denOpers E call none (⟨dst, .fview n x, g, c⟩ :: r) st = match wants st.ts g with
    | none => none
    | some false => denOpers E call none r ⟨putT st.ts dst (.tup []), st.m, st.ds⟩
    | some true => match denStill (evX E st.ts) (.fview n x) with
      | some v => denOpers E call none r ⟨putT st.ts dst v, st.m, st.ds⟩
      | none => none := ops_still rfl
@[simp] theorem ops_eqPtr {n : Bool} {x y : X} : denOpers E call none (⟨dst, .eqPtr n x y, g, c⟩ :: r) st = match wants st.ts g with
    | none => none
    | some false => denOpers E call none r ⟨putT st.ts dst (.tup []), st.m, st.ds⟩
    | some true => match denStill (evX E st.ts) (.eqPtr n x y) with
      | some v => denOpers E call none r ⟨putT st.ts dst v, st.m, st.ds⟩
      | none => none := ops_still rfl
@[simp] theorem ops_sliceData {x : X} : denOpers E call none (⟨dst, .sliceData x, g, c⟩ :: r) st = match wants st.ts g with
    | none => none
    | some false => denOpers E call none r ⟨putT st.ts dst (.tup []), st.m, st.ds⟩
    | some true => match denStill (evX E st.ts) (.sliceData x) with
      | some v => denOpers E call none r ⟨putT st.ts dst v, st.m, st.ds⟩
      | none => none := ops_still rfl
@[simp] theorem ops_allocT {t : Nat} {zs : List PV} : denOpers E call none (⟨dst, .allocT t zs, g, c⟩ :: r) st = match wants st.ts g with
    | none => none
    | some false => denOpers E call none r ⟨putT st.ts dst (.tup []), st.m, st.ds⟩
    | some true => match denOp (evX E st.ts) st.m (.allocT t zs) with
      | some (v, m) => denOpers E call none r ⟨putT st.ts dst v, m, st.ds⟩
      | none => none := ops_moves rfl
@[simp] theorem ops_cast {b : Bool} {t n : Nat} {x : X} : denOpers E call none (⟨dst, .cast b t n x, g, c⟩ :: r) st = match wants st.ts g with
    | none => none
    | some false => denOpers E call none r ⟨putT st.ts dst (.tup []), st.m, st.ds⟩
    | some true => match denOp (evX E st.ts) st.m (.cast b t n x) with
      | some (v, m) => denOpers E call none r ⟨putT st.ts dst v, m, st.ds⟩
      | none => none := ops_moves rfl
@[simp] theorem ops_appendT {t n j : Nat} {x y : X} : denOpers E call none (⟨dst, .appendT t n j x y, g, c⟩ :: r) st = match wants st.ts g with
    | none => none
    | some false => denOpers E call none r ⟨putT st.ts dst (.tup []), st.m, st.ds⟩
    | some true => match denOp (evX E st.ts) st.m (.appendT t n j x y) with
      | some (v, m) => denOpers E call none r ⟨putT st.ts dst v, m, st.ds⟩
      | none => none := ops_moves rfl
@[simp] theorem ops_strOf {t : Nat} {x y : X} : denOpers E call none (⟨dst, .strOf t x y, g, c⟩ :: r) st = match wants st.ts g with
    | none => none
    | some false => denOpers E call none r ⟨putT st.ts dst (.tup []), st.m, st.ds⟩
    | some true => match denOp (evX E st.ts) st.m (.strOf t x y) with
      | some (v, m) => denOpers E call none r ⟨putT st.ts dst v, m, st.ds⟩
      | none => none := ops_moves rfl
@[simp] theorem ops_convS {x : X} : denOpers E call none (⟨dst, .convS x, g, c⟩ :: r) st = match wants st.ts g with
    | none => none
    | some false => denOpers E call none r ⟨putT st.ts dst (.tup []), st.m, st.ds⟩
    | some true => match denOp (evX E st.ts) st.m (.convS x) with
      | some (v, m) => denOpers E call none r ⟨putT st.ts dst v, m, st.ds⟩
      | none => none := ops_moves rfl
@[simp] theorem ops_boxT {t n : Nat} {x : X} : denOpers E call none (⟨dst, .boxT t n x, g, c⟩ :: r) st = match wants st.ts g with
    | none => none
    | some false => denOpers E call none r ⟨putT st.ts dst (.tup []), st.m, st.ds⟩
    | some true => match denOp (evX E st.ts) st.m (.boxT t n x) with
      | some (v, m) => denOpers E call none r ⟨putT st.ts dst v, m, st.ds⟩
      | none => none := ops_moves rfl
@[simp] theorem ops_mkMap : denOpers E call none (⟨dst, .mkMap, g, c⟩ :: r) st = match wants st.ts g with
    | none => none
    | some false => denOpers E call none r ⟨putT st.ts dst (.tup []), st.m, st.ds⟩
    | some true => match denOp (evX E st.ts) st.m (.mkMap) with
      | some (v, m) => denOpers E call none r ⟨putT st.ts dst v, m, st.ds⟩
      | none => none := ops_moves rfl
@[simp] theorem ops_lookup {b : Bool} {e : EqT} {zs : List PV} {a : Bool} {x k : X} : denOpers E call none (⟨dst, .lookup b e zs a x k, g, c⟩ :: r) st = match wants st.ts g with
    | none => none
    | some false => denOpers E call none r ⟨putT st.ts dst (.tup []), st.m, st.ds⟩
    | some true => match denOp (evX E st.ts) st.m (.lookup b e zs a x k) with
      | some (v, m) => denOpers E call none r ⟨putT st.ts dst v, m, st.ds⟩
      | none => none := ops_moves rfl
@[simp] theorem ops_mapSet {e : EqT} {x k y : X} : denOpers E call none (⟨dst, .mapSet e x k y, g, c⟩ :: r) st = match wants st.ts g with
    | none => none
    | some false => denOpers E call none r ⟨putT st.ts dst (.tup []), st.m, st.ds⟩
    | some true => match denOp (evX E st.ts) st.m (.mapSet e x k y) with
      | some (v, m) => denOpers E call none r ⟨putT st.ts dst v, m, st.ds⟩
      | none => none := ops_moves rfl
@[simp] theorem ops_clearM {x : X} : denOpers E call none (⟨dst, .clearM x, g, c⟩ :: r) st = match wants st.ts g with
    | none => none
    | some false => denOpers E call none r ⟨putT st.ts dst (.tup []), st.m, st.ds⟩
    | some true => match denOp (evX E st.ts) st.m (.clearM x) with
      | some (v, m) => denOpers E call none r ⟨putT st.ts dst v, m, st.ds⟩
      | none => none := ops_moves rfl
end
@[simp] theorem denOper_some {call : Caller} {N0 : Dr} {o : XOper} {st : St} : denOper E call (some N0) o st = (match wants st.ts o.guard with
  | none => none
  | some false => some (.norm, { st with ts := putT st.ts o.dst (.tup []) })
  | some true =>
    match o.op with
    | .call f args => match fnOf (evX E st.ts f) with
      | none => none
      | some (g, caps) => bif okPure E (some N0) o.cls g then (match call g (args.map (evX E st.ts) ++ caps) st.m with
        | none => none
        | some (.ret v, m) => bif keptB (some N0) o.cls st.m m then some (.norm, { st with ts := putT st.ts o.dst v, m }) else none
        | some (.pan v, m) => none) else none
    | .panic _ => none
    | .dfr _ _ => none
    | op => match denOp' (some N0) (evX E st.ts) st.m o with
      | some (v, m) => some (.norm, { st with ts := putT st.ts o.dst v, m })
      | none => none) := by
  unfold denOper
  cases wants st.ts o.guard with
  | none => rfl
  | some b =>
    cases b with
    | false => rfl
    | true => cases o.op <;> rfl

def seqK (E : Env) (call : Caller) (n : Nat) (o : Option (Ex × St)) (b : XCode) : Option (Ex × St) := match o with
  | some (.norm, st) => den E call n b st
  | x => x
def exitAt (id : Nat) (o : Option (Ex × St)) : Option (Ex × St) := match o with
  | some (.exit id', st') => if id' = id then some (.norm, st') else some (.exit id', st')
  | x => x
def loopF (E : Env) (call : Caller) (n : Nat) (mask : List Bool) (b : XCode) (st : St) : Option (Ex × St) :=
  if mask.length = st.ts.length then den E call n b { st with ts := keep mask st.ts } else none
section
variable {call : Caller} {n : Nat} {a b : XCode} {st st' : St} {id : Nat}
@[simp] theorem seqK_norm : seqK E call n (some (.norm, st)) b = den E call n b st := rfl
@[simp] theorem seqK_ret : seqK E call n (some (.ret, st)) b = some (.ret, st) := rfl
@[simp] theorem seqK_exit : seqK E call n (some (.exit id, st)) b = some (.exit id, st) := rfl
@[simp] theorem seqK_pan {v : AV} : seqK E call n (some (.pan v, st)) b = some (.pan v, st) := rfl
@[simp] theorem exitAt_norm : exitAt id (some (.norm, st)) = some (.norm, st) := rfl
@[simp] theorem exitAt_ret : exitAt id (some (.ret, st)) = some (.ret, st) := rfl
@[simp] theorem exitAt_pan {v : AV} : exitAt id (some (.pan v, st)) = some (.pan v, st) := rfl
@[simp] theorem exitAt_exit {id' : Nat} : exitAt id (some (.exit id', st)) = if id' = id then some (.norm, st) else some (.exit id', st) := rfl
@[simp] theorem den_skip : den E call n .skip st = some (.norm, st) := rfl
@[simp] theorem den_ops {l : List XOper} : den E call n (.ops l) st = denOpers E call none l st := rfl
@[simp] theorem den_draw {l : List XOper} {anc : List (List Nat)} : den E call n (.draw l anc) st = denOpers E call (some ⟨st.m.length, []⟩) l st := rfl
@[simp] theorem den_drawK {l : List XOper} {anc : List (List Nat)} {ks : List Nat} : den E call n (.drawK l anc ks) st = denOpers E call (some ⟨st.m.length, others st.m.length (idsOf st.ts ks)⟩) l st := rfl
@[simp] theorem den_drawS {l : List XOper} {anc : List (List Nat)} {sts : List Nat} : den E call n (.drawS l anc sts) st = denOpers E call (some ⟨st.m.length, idsOf st.ts sts⟩) l st := rfl
@[simp] theorem den_seq : den E call n (.seq a b) st = seqK E call n (den E call n a st) b := by
  rw [den]; rfl
@[simp] theorem den_cond {c : X} : den E call n (.cond c a b) st = match evX E st.ts c with
    | .p (.bool t) => bif t then den E call n a st else den E call n b st
    | _ => none := by
  rw [den]; rfl
@[simp] theorem den_block : den E call n (.block id b) st = exitAt id (den E call n b st) := by
  rw [den]; rfl
@[simp] theorem den_loop {mask : List Bool} : den E call n (.loop mask b) st = iter (loopF E call n mask b) n st := rfl
@[simp] theorem den_exit : den E call n (.exit id) st = some (.exit id, st) := rfl
@[simp] theorem den_ret : den E call n .ret st = some (.ret, st) := rfl
end


def Wp (o : Option (Ex × St)) (Q : Ex → St → Prop) : Prop := ∃ e st, o = some (e, st) ∧ Q e st
def seqQ (E : Env) (call : Caller) (n : Nat) (b : XCode) (Q : Ex → St → Prop) : Ex → St → Prop
  | .norm, st => Wp (den E call n b st) Q
  | e, st => Q e st
def exitQ (id : Nat) (Q : Ex → St → Prop) : Ex → St → Prop
  | .exit id', st => if id' = id then Q .norm st else Q (.exit id') st
  | e, st => Q e st
section
variable {o : Option (Ex × St)} {Q Q' : Ex → St → Prop} {f : St → Option (Ex × St)} {st : St} {e : Ex} {id : Nat} {b : Bool} {o' : Option (Ex × St)}
@[simp] theorem Wp_some : Wp (some (e, st)) Q ↔ Q e st := by
  constructor
  · rintro ⟨e', st', h, hq⟩; cases h; exact hq
  · intro h; exact ⟨e, st, rfl, h⟩
variable {call : Caller} {n : Nat} {c : XCode} {v : AV}
@[simp] theorem seqQ_norm : seqQ E call n c Q .norm st = Wp (den E call n c st) Q := rfl
@[simp] theorem seqQ_ret : seqQ E call n c Q .ret st = Q .ret st := rfl
@[simp] theorem seqQ_exit : seqQ E call n c Q (.exit id) st = Q (.exit id) st := rfl
@[simp] theorem seqQ_pan : seqQ E call n c Q (.pan v) st = Q (.pan v) st := rfl
@[simp] theorem exitQ_norm : exitQ id Q .norm st = Q .norm st := rfl
@[simp] theorem exitQ_ret : exitQ id Q .ret st = Q .ret st := rfl
@[simp] theorem exitQ_exit {id' : Nat} : exitQ id Q (.exit id') st = if id' = id then Q .norm st else Q (.exit id') st := rfl
@[simp] theorem exitQ_pan : exitQ id Q (.pan v) st = Q (.pan v) st := rfl
@[simp] theorem Wp_seqK : Wp (seqK E call n o c) Q ↔ Wp o (seqQ E call n c Q) := by
  constructor
  · rintro ⟨e, st, h, hq⟩
    cases o with
    | none => cases h
    | some p =>
      obtain ⟨e1, st1⟩ := p
      refine ⟨e1, st1, rfl, ?_⟩
      cases e1 with
      | norm => exact ⟨e, st, h, hq⟩
      | _ => cases h; exact hq
  · rintro ⟨e, st, rfl, hq⟩
    cases e with
    | norm => exact hq
    | _ => exact ⟨_, _, rfl, hq⟩
@[simp] theorem Wp_exitAt : Wp (exitAt id o) Q ↔ Wp o (exitQ id Q) := by
  constructor
  · rintro ⟨e, st, h, hq⟩
    cases o with
    | none => cases h
    | some p =>
      obtain ⟨e1, st1⟩ := p
      refine ⟨e1, st1, rfl, ?_⟩
      cases e1 with
      | exit id' =>
        rw [exitAt_exit] at h
        rw [exitQ_exit]
        split at h <;> (rename_i e1; cases h; simp only [e1, if_true, if_false]; exact hq)
      | _ => cases h; exact hq
  · rintro ⟨e, st, rfl, hq⟩
    cases e with
    | exit id' =>
      rw [exitQ_exit] at hq
      split at hq <;> rename_i e1
      · exact ⟨.norm, st, by simp [exitAt, e1], hq⟩
      · exact ⟨.exit id', st, by simp [exitAt, e1], hq⟩
    | _ => exact ⟨_, _, rfl, hq⟩
theorem Wp.mono (h : Wp o Q) (hq : ∀ e st, Q e st → Q' e st) : Wp o Q' := by
  obtain ⟨e, st, h1, h2⟩ := h
  exact ⟨e, st, h1, hq _ _ h2⟩
end
theorem iter_wp_succ {F : St → Option (Ex × St)} {n : Nat} {st : St} {Q : Ex → St → Prop} (h : Wp (F st) fun e st' => match e with | .norm => Wp (iter F n st') Q | e => Q e st') : Wp (iter F (n + 1) st) Q := by
  obtain ⟨e, st', h1, h2⟩ := h
  rw [iter_succ, h1]
  cases e with
  | norm => exact h2
  | _ => exact ⟨_, _, rfl, h2⟩
theorem loop_wp {α : Type} {F : St → Option (Ex × St)} (I : α → St → Prop) (meas : α → Nat) {Q : Ex → St → Prop}
    (step : ∀ a st, I a st → Wp (F st) fun e st' => match e with | .norm => ∃ a', meas a' < meas a ∧ I a' st' | e => Q e st') :
    ∀ (n : Nat) (a : α) (st : St), I a st → meas a < n → Wp (iter F n st) Q
  | 0, _, _, _, h => absurd h (Nat.not_lt_zero _)
  | n + 1, a, st, hi, hn => by
    obtain ⟨e, st', h1, h2⟩ := step a st hi
    rw [iter_succ, h1]
    cases e with
    | norm =>
      obtain ⟨a', h3, h4⟩ := h2
      exact loop_wp I meas step n a' st' h4 (by omega)
    | _ => exact ⟨_, _, rfl, h2⟩
def Live (mask : List Bool) (vals : List AV) (m : Mem) (st : St) : Prop := mask.length = st.ts.length ∧ keep mask st.ts = vals ∧ st.m = m ∧ st.ds = []
theorem loopF_live {call : Caller} {n : Nat} {mask : List Bool} {b : XCode} {vals : List AV} {m : Mem} {st : St} (h : Live mask vals m st) : loopF E call n mask b st = den E call n b ⟨vals, m, []⟩ := by
  obtain ⟨h1, h2, h3, h4⟩ := h
  obtain ⟨ts, m', ds⟩ := st
  simp only at h1 h2 h3 h4
  subst h3 h4
  simp only [loopF, if_pos h1, h2]
theorem denF_wp {f : Nat} {xf : XFunc} (h : E.fn f = some xf) (hp : xf.pure = true) {n : Nat} {args args' : List AV} {m : Mem} {out : Out} (ha : stripVs args = some args')
    (hd : Wp (den E (denF E n) n xf.body ⟨args' ++ List.replicate (xf.ntmps - args'.length) (.tup []), [], []⟩) fun e st => ∃ out1 m1, leave xf (some (e, st)) = some (out1, m1) ∧ stripOut out1 = some out) : denF E (n + 1) f args m = some (out, m) := by
  obtain ⟨e, st, h1, out1, m1, h2, h3⟩ := hd
  rw [denF, h]
  simp only [hp, if_true, ha, h1, leaveX_of h2, h3]
theorem denF_wp_own {f : Nat} {xf : XFunc} (h : E.fn f = some xf) (hp : xf.pure = false) {n : Nat} {args : List AV} {m m1 : Mem} {out : Out}
    (hd : Wp (den E (denF E n) n xf.body ⟨args ++ List.replicate (xf.ntmps - args.length) (.tup []), m, []⟩) fun e st => leave xf (some (e, st)) = some (out, m1)) : denF E (n + 1) f args m = some (out, m1) := by
  obtain ⟨e, st, h1, h2⟩ := hd
  rw [denF, h]
  simp only [hp, Bool.false_eq_true, if_false, h1, leaveX_of h2]

@[simp] theorem denRec_ops {call : Caller} {n c : Nat} {pv : AV} {dst : Option Nat} {l : List XOper} {st : St} : denRec E call n pv (.ops (⟨dst, .recover, none, c⟩ :: l)) st = denOpers E call none l ⟨putT st.ts dst pv, st.m, st.ds⟩ := rfl
@[simp] theorem denRec_seq {call : Caller} {n : Nat} {pv : AV} {a b : XCode} {st : St} : denRec E call n pv (.seq a b) st = seqK E call n (denRec E call n pv a st) b := by
  rw [denRec]; rfl
theorem expand_ts (n : Nat) (ts : List AV) (h : ts.length = n) : ts = (List.range n).map fun i => ts.getD i (.tup []) := by
  apply List.ext_getElem?
  intro i
  rw [List.getElem?_map]
  by_cases hi : i < n
  · rw [List.getElem?_range hi, Option.map_some, List.getD_eq_getElem?_getD, List.getElem?_eq_getElem (by omega)]
    rfl
  · rw [List.getElem?_eq_none (by omega), List.getElem?_eq_none (by simp; omega)]
    rfl
end Hx
