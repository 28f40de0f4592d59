/-
  HxSimp: which definitions of the evaluator are unfolded, and how a call's evaluation begins. No program is named here.
-/
import Derived.Test.YtoebkifmgeeogaaDoorHxDefs
namespace Hx
open Go
attribute [simp] stripVs stripV den denOpers denOper wants denOp' denOp denStill denMove denLoad adds evX putT binV binI binS cmpI arithI unV leave resAll resOne oneOr stripOut stripR okPure fnOf keep asInt asNat bounds partV partP mkAgg allP rowsOf lenV toP toPs newTok AV.cells PV.cells AV.flat PV.flat fillParts setAt chunks
variable {E : Env}
theorem denF_pure {f : Nat} {xf : XFunc} (h : E.fn f = some xf) (hp : xf.pure = true) (n : Nat) (args : List AV) (m : Mem) : denF E (n + 1) f args m =
    match stripVs args with
    | none => none
    | some args' => match leave xf (den E (denF E n) n xf.body ⟨args' ++ List.replicate (xf.ntmps - args'.length) (.tup []), [], []⟩) with
      | none => none
      | some (out, _) => match stripOut out with
        | some out' => some (out', m)
        | none => none := by
  rw [denF, h]; simp only [hp, if_true]; rfl
theorem denF_own {f : Nat} {xf : XFunc} (h : E.fn f = some xf) (hp : xf.pure = false) (n : Nat) (args : List AV) (m : Mem) : denF E (n + 1) f args m =
    leave xf (den E (denF E n) n xf.body ⟨args ++ List.replicate (xf.ntmps - args.length) (.tup []), m, []⟩) := by
  rw [denF, h]; simp only [hp, Bool.false_eq_true, if_false]
theorem denF_pure_of {f : Nat} {xf : XFunc} (h : E.fn f = some xf) (hp : xf.pure = true) {n k : Nat} {args args' : List AV} {m m1 : Mem} {code : XCode} {r : Option (Ex × St)} {out out' : Out} (ha : stripVs args = some args') (hk : xf.ntmps - args'.length = k) (hc : xf.body = code)
    (hd : den E (denF E n) n code ⟨args' ++ List.replicate k (.tup []), [], []⟩ = r) (hl : leave xf r = some (out, m1)) (ho : stripOut out = some out') : denF E (n + 1) f args m = some (out', m) := by
  rw [denF_pure h hp, ha]
  simp only [hk, hc, hd, hl, ho]
theorem denF_own_of {f : Nat} {xf : XFunc} (h : E.fn f = some xf) (hp : xf.pure = false) {n k : Nat} {args : List AV} {m : Mem} {code : XCode} {r : Option (Ex × St)} (hk : xf.ntmps - args.length = k) (hc : xf.body = code)
    (hd : den E (denF E n) n code ⟨args ++ List.replicate k (.tup []), m, []⟩ = r) : denF E (n + 1) f args m = leave xf r := by
  rw [denF_own h hp]
  simp only [hk, hc, hd]
theorem wrap_i64 {n : Int} (h1 : -9223372036854775808 ≤ n) (h2 : n ≤ 9223372036854775807) : IntKind.i64.wrap n = n := by
  simp [IntKind.wrap, IntKind.signed, IntKind.bits]; omega
theorem wrap_u8 {n : Int} (h1 : 0 ≤ n) (h2 : n ≤ 255) : IntKind.u8.wrap n = n := by
  simp [IntKind.wrap, IntKind.signed, IntKind.bits]; omega
theorem wrap_u8_mod {n : Int} : IntKind.u8.wrap n = n % 256 := by
  simp [IntKind.wrap, IntKind.signed, IntKind.bits]
@[simp] theorem bits_i64 : IntKind.i64.bits = 64 := rfl
@[simp] theorem bits_u8 : IntKind.u8.bits = 8 := rfl
attribute [simp] List.getElem?_cons_zero List.getElem?_cons_succ
@[simp] theorem getD_zero' {a d : AV} {l : List AV} : (a :: l).getD 0 d = a := rfl
@[simp] theorem getD_succ' {a d : AV} {l : List AV} {n : Nat} : (a :: l).getD (n + 1) d = l.getD n d := rfl
theorem iter_zero {body : St → Option (Ex × St)} {st : St} : iter body 0 st = none := rfl
theorem iter_succ {body : St → Option (Ex × St)} {n : Nat} {st : St} : iter body (n + 1) st = match body st with
    | some (.norm, st') => iter body n st'
    | x => x := rfl
section
variable {call : Caller} {n : Nat} {a b : XCode} {st st' : St} {id : Nat}
theorem den_seq_norm (h : den E call n a st = some (.norm, st')) : den E call n (.seq a b) st = den E call n b st' := by
  rw [den, h]
theorem den_seq_ret (h : den E call n a st = some (.ret, st')) : den E call n (.seq a b) st = some (.ret, st') := by
  rw [den, h]
theorem den_seq_exit (h : den E call n a st = some (.exit id, st')) : den E call n (.seq a b) st = some (.exit id, st') := by
  rw [den, h]
theorem den_block_exit (h : den E call n b st = some (.exit id, st')) : den E call n (.block id b) st = some (.norm, st') := by
  rw [den, h]; simp only [if_true]
theorem den_block_ret (h : den E call n b st = some (.ret, st')) : den E call n (.block id b) st = some (.ret, st') := by
  rw [den, h]
theorem den_block_norm (h : den E call n b st = some (.norm, st')) : den E call n (.block id b) st = some (.norm, st') := by
  rw [den, h]
theorem den_loop {mask : List Bool} : den E call n (.loop mask b) st = iter (fun st => if mask.length = st.ts.length then den E call n b { st with ts := keep mask st.ts } else none) n st := rfl
end
theorem bv64 {x : Int} (h1 : 0 ≤ x) (h2 : x ≤ 9223372036854775807) : (BitVec.ofInt 64 x).toNat = x.toNat := by
  rw [BitVec.toNat_ofInt]; omega
theorem and_i64 {x : Int} (j : Nat) (hj : j < 62) (h1 : 0 ≤ x) (h2 : x ≤ 9223372036854775807) : bitsI .and .i64 x (2 ^ j - 1) = some (x % 2 ^ j) := by
  have hp : (2 : Int) ^ j ≤ 2 ^ 62 := by
    have := Nat.pow_le_pow_right (n := 2) (by decide) (Nat.le_of_lt hj)
    exact_mod_cast this
  have hp1 : (1 : Int) ≤ 2 ^ j := by
    have := Nat.one_le_two_pow (n := j)
    exact_mod_cast this
  have e : ((2 : Int) ^ j - 1).toNat = 2 ^ j - 1 := by
    have : (2 : Int) ^ j = ((2 ^ j : Nat) : Int) := by simp
    omega
  show some (IntKind.i64.wrap ((BitVec.ofInt 64 x &&& BitVec.ofInt 64 (2 ^ j - 1)).toNat : Int)) = _
  rw [BitVec.toNat_and, bv64 h1 h2, bv64 (x := 2 ^ j - 1) (by omega) (by omega), e, Nat.and_two_pow_sub_one_eq_mod]
  have e2 : ((x.toNat % 2 ^ j : Nat) : Int) = x % 2 ^ j := by
    rw [Int.natCast_emod, Int.toNat_of_nonneg h1]; simp
  rw [e2, wrap_i64]
  · have := Int.emod_nonneg x (b := 2 ^ j) (by omega); omega
  · have := Int.emod_lt_of_pos x (b := 2 ^ j) (by omega); omega
theorem or_i64 {x y : Int} (j : Nat) (h1 : 0 ≤ x) (h2 : x * 2 ^ j + y ≤ 9223372036854775807) (h3 : 0 ≤ y) (h4 : y < 2 ^ j) : bitsI .or .i64 (x * 2 ^ j) y = some (x * 2 ^ j + y) := by
  have hp : (0 : Int) ≤ 2 ^ j := by
    have e : (2 : Int) ^ j = ((2 ^ j : Nat) : Int) := by simp
    omega
  have hm : 0 ≤ x * 2 ^ j := Int.mul_nonneg h1 hp
  have e : (x * 2 ^ j).toNat = x.toNat <<< j := by
    rw [Nat.shiftLeft_eq]
    have : x * 2 ^ j = ((x.toNat * 2 ^ j : Nat) : Int) := by
      rw [Int.natCast_mul, Int.toNat_of_nonneg h1]; simp
    omega
  have h4' : y.toNat < 2 ^ j := by
    have : ((2 : Int) ^ j) = ((2 ^ j : Nat) : Int) := by simp
    omega
  show some (IntKind.i64.wrap ((BitVec.ofInt 64 (x * 2 ^ j) ||| BitVec.ofInt 64 y).toNat : Int)) = _
  rw [BitVec.toNat_or, bv64 hm (by omega), bv64 h3 (by omega), e, ← Nat.shiftLeft_add_eq_or_of_lt h4', ← e]
  have : (((x * 2 ^ j).toNat + y.toNat : Nat) : Int) = x * 2 ^ j + y := by omega
  rw [this, wrap_i64 (by omega) (by omega)]
theorem u8_all {P : Int → Prop} (h : ∀ x : Fin 256, P (x.val : Int)) (x : Int) (h1 : 0 ≤ x) (h2 : x ≤ 255) : P x := by
  have := h ⟨x.toNat, by omega⟩
  rwa [show ((⟨x.toNat, by omega⟩ : Fin 256).val : Int) = x by simp only; omega] at this
end Hx
