/-
  HxU03c: 'Put' and 'Read' of chapter 03, the program's and the document's.
-/
import Derived.Test.YtifcegbomagcpaaGreatDoorHxFn03
import Derived.Test.YtifcegbomagcpaaGreatDoorHxSimp
/-
  HxM06: types of columns, and which of two is as wide: plain laws.
-/
namespace Hx
def rightT (k m : Int) : Bool := if k = 1 ∨ k = 2 then decide (m = 0) else if k = 3 ∨ k = 4 then decide (1 ≤ m ∧ m ≤ 120) else false
theorem right_cases {k m : Int} (h : rightT k m = true) : (k = 1 ∧ m = 0) ∨ (k = 2 ∧ m = 0) ∨ (k = 3 ∧ 1 ≤ m ∧ m ≤ 120) ∨ (k = 4 ∧ 1 ≤ m ∧ m ≤ 120) := by
  unfold rightT at h
  split at h
  · have := of_decide_eq_true h
    omega
  · split at h
    · have := of_decide_eq_true h
      omega
    · cases h
end Hx

namespace Hx
open Go
set_option linter.unusedSimpArgs false
set_option linter.unusedVariables false
variable {E : Env}
def isSign (n : Int) : Bool := decide (0 ≤ n) && decide (n ≤ 1114111) && (decide (n < 55296) || decide (n > 57343))
theorem isSign_iff {n : Int} : isSign n = true ↔ 0 ≤ n ∧ n ≤ 1114111 ∧ (n < 55296 ∨ n > 57343) := by
  simp [isSign, and_assoc]
theorem utf_is (h : E.fn 15 = some Fn.f_utf_is) (k : Nat) (n : Int) (m : Mem) : denF E (k + 1) 15 [.p (.int .i64 n)] m = some (.ret (.p (.bool (isSign n))), m) := by
  rw [denF_pure h rfl]
  by_cases h1 : n ≥ 0 <;> by_cases h2 : n ≤ 1114111 <;> by_cases h3 : n < 55296 <;>
  simp [Fn.f_utf_is, isSign, h1, h2, h3]
theorem ref_Is (h : E.fn 2 = some Fn.f_haulageref03_Is) (k : Nat) (n : Int) (m : Mem) : denF E (k + 1) 2 [.p (.int .i64 n)] m = some (.ret (.p (.bool (isSign n))), m) := by
  rw [denF_pure h rfl]
  by_cases h1 : n ≥ 0 <;> by_cases h2 : n ≤ 1114111 <;> by_cases h3 : n < 55296 <;>
  simp [Fn.f_haulageref03_Is, isSign, h1, h2, h3]
def widthOf (n : Int) : Int := if n ≥ 65536 then 4 else if n ≥ 2048 then 3 else if n ≥ 128 then 2 else 1
theorem utf_width (h : E.fn 19 = some Fn.f_utf_width) (hg : E.gl 1 = [.int .i64 0, .int .i64 0, .int .i64 128, .int .i64 2048, .int .i64 65536]) (k : Nat) (n : Int) (m : Mem) :
    denF E (k + 5) 19 [.p (.int .i64 n)] m = some (.ret (.p (.int .i64 (widthOf n))), m) := by
  rw [denF_pure h rfl]
  by_cases h1 : n ≥ 65536
  · simp [Fn.f_utf_width, Fn.f_utf_width_b0, Fn.f_utf_width_k0, loopF, iter, hg, h1, widthOf]
  by_cases h2 : n ≥ 2048
  · simp [Fn.f_utf_width, Fn.f_utf_width_b0, Fn.f_utf_width_k0, loopF, iter, hg, h1, h2, widthOf, wrap_i64]
  by_cases h3 : n ≥ 128
  · simp [Fn.f_utf_width, Fn.f_utf_width_b0, Fn.f_utf_width_k0, loopF, iter, hg, h1, h2, h3, widthOf, wrap_i64]
  · simp [Fn.f_utf_width, Fn.f_utf_width_b0, Fn.f_utf_width_k0, loopF, iter, hg, h1, h2, h3, widthOf, wrap_i64]
def byte (x : Int) : UInt8 := UInt8.ofNat (x % 256).toNat
theorem ref_one (h : E.fn 17 = some Fn.f_haulageref03_one) (k : Nat) (n : Int) (m : Mem) : denF E (k + 1) 17 [.p (.int .i64 n)] m = some (.ret (.p (.str [byte n])), m) := by
  rw [denF_pure h rfl]
  simp [Fn.f_haulageref03_one, unBytes, unByte, byte, wrap_u8_mod, List.replicate]
def utf8 (n : Int) : List UInt8 :=
  if n < 128 then [byte n]
  else if n < 2048 then [byte (192 + n / 64), byte (128 + n % 64)]
  else if n < 65536 then [byte (224 + n / 4096), byte (128 + n / 64 % 64), byte (128 + n % 64)]
  else [byte (240 + n / 262144), byte (128 + n / 4096 % 64), byte (128 + n / 64 % 64), byte (128 + n % 64)]
theorem ref_Put (h : E.fn 3 = some Fn.f_haulageref03_Put) (h1 : E.fn 17 = some Fn.f_haulageref03_one) (k : Nat) (n : Int) (hn : 0 ≤ n) (hn' : n ≤ 1114111) (m : Mem) :
    denF E (k + 2) 3 [.p (.int .i64 n)] m = some (.ret (.p (.str (utf8 n))), m) := by
  rw [denF_pure h rfl]
  have q : ∀ d : Int, 0 < d → n.tdiv d = n / d := fun d _ => Int.tdiv_eq_ediv_of_nonneg hn
  have r : ∀ x d : Int, 0 ≤ x → x.tmod d = x % d := fun x d hx => Int.tmod_eq_emod_of_nonneg hx
  have b1 := Int.ediv_nonneg hn (by decide : (0:Int) ≤ 64)
  have b2 := Int.ediv_nonneg hn (by decide : (0:Int) ≤ 4096)
  have c1 : n / 64 ≤ n := Int.ediv_le_self _ hn
  have c2 : n / 4096 ≤ n := Int.ediv_le_self _ hn
  have c3 : n / 262144 ≤ n := Int.ediv_le_self _ hn
  by_cases h2 : n < 128
  · simp [Fn.f_haulageref03_Put, ref_one h1, h2, utf8]
  by_cases h3 : n < 2048
  · simp [Fn.f_haulageref03_Put, ref_one h1, h2, h3, utf8, strLim]
    simp (disch := omega) only [q, r, wrap_i64, and_self]
  by_cases h4 : n < 65536
  · simp [Fn.f_haulageref03_Put, ref_one h1, h2, h3, h4, utf8, strLim]
    simp (disch := omega) only [q, r, wrap_i64, and_self]
  · simp [Fn.f_haulageref03_Put, ref_one h1, h2, h3, h4, utf8, strLim]
    simp (disch := omega) only [q, r, wrap_i64, and_self]
theorem and_u8_31 {x : Int} (h1 : 0 ≤ x) (h2 : x ≤ 255) : bitsI .and .u8 x 31 = some (x % 32) := u8_all (P := fun x => bitsI .and .u8 x 31 = some (x % 32)) (by decide +kernel) x h1 h2
theorem and_u8_15 {x : Int} (h1 : 0 ≤ x) (h2 : x ≤ 255) : bitsI .and .u8 x 15 = some (x % 16) := u8_all (P := fun x => bitsI .and .u8 x 15 = some (x % 16)) (by decide +kernel) x h1 h2
theorem and_u8_7 {x : Int} (h1 : 0 ≤ x) (h2 : x ≤ 255) : bitsI .and .u8 x 7 = some (x % 8) := u8_all (P := fun x => bitsI .and .u8 x 7 = some (x % 8)) (by decide +kernel) x h1 h2
theorem and_u8_63 {x : Int} (h1 : 0 ≤ x) (h2 : x ≤ 255) : bitsI .and .u8 x 63 = some (x % 64) := u8_all (P := fun x => bitsI .and .u8 x 63 = some (x % 64)) (by decide +kernel) x h1 h2
def leadOf (c : Int) : Int × Int := if c < 128 then (1, c) else if c / 32 = 6 then (2, c % 32) else if c / 16 = 14 then (3, c % 16) else if c / 8 = 30 then (4, c % 8) else (0, 0)
theorem utf_lead (h : E.fn 18 = some Fn.f_utf_lead) (k : Nat) (c : Int) (hc : 0 ≤ c) (hc' : c ≤ 255) (m : Mem) :
    denF E (k + 1) 18 [.p (.int .u8 c)] m = some (.ret (.tup [.p (.int .i64 (leadOf c).1), .p (.int .i64 (leadOf c).2)]), m) := by
  rw [denF_pure h rfl]
  by_cases h1 : c < 128
  · simp [Fn.f_utf_lead, leadOf, h1]
    rw [wrap_i64 (by omega) (by omega)]
  have e1 : c.fdiv 32 = c / 32 := Int.fdiv_eq_ediv_of_nonneg _ (by decide)
  have e2 : c.fdiv 16 = c / 16 := Int.fdiv_eq_ediv_of_nonneg _ (by decide)
  have e3 : c.fdiv 8 = c / 8 := Int.fdiv_eq_ediv_of_nonneg _ (by decide)
  cases h2 : (c / 32 == 6) with
  | true =>
    have := of_decide_eq_true (p := c / 32 = 6) (by simpa using h2)
    simp [Fn.f_utf_lead, leadOf, h1, h2, this, e1, and_u8_31 hc hc']
    rw [wrap_i64 (by omega) (by omega)]
  | false =>
  have n2 : ¬ c / 32 = 6 := by simpa using h2
  cases h3 : (c / 16 == 14) with
  | true =>
    have := of_decide_eq_true (p := c / 16 = 14) (by simpa using h3)
    simp [Fn.f_utf_lead, leadOf, h1, h2, h3, n2, this, e1, e2, and_u8_15 hc hc']
    rw [wrap_i64 (by omega) (by omega)]
  | false =>
  have n3 : ¬ c / 16 = 14 := by simpa using h3
  cases h4 : (c / 8 == 30) with
  | true =>
    have := of_decide_eq_true (p := c / 8 = 30) (by simpa using h4)
    simp [Fn.f_utf_lead, leadOf, h1, h2, h3, h4, n2, n3, this, e1, e2, e3, and_u8_7 hc hc']
    rw [wrap_i64 (by omega) (by omega)]
  | false =>
    have n4 : ¬ c / 8 = 30 := by simpa using h4
    simp [Fn.f_utf_lead, leadOf, h1, h2, h3, h4, n2, n3, n4, e1, e2, e3]
end Hx

namespace Hx
open Go
set_option linter.unusedSimpArgs false
set_option linter.unusedVariables false
variable {E : Env}
theorem fdiv64 (x : Int) : x.fdiv 64 = x / 64 := Int.fdiv_eq_ediv_of_nonneg _ (by decide)
structure V03 (E : Env) : Prop where
  is : E.fn 15 = some Fn.f_utf_is
  width : E.fn 19 = some Fn.f_utf_width
  lead : E.fn 18 = some Fn.f_utf_lead
  read : E.fn 4 = some Fn.f_utf_Read
  rIs : E.fn 2 = some Fn.f_haulageref03_Is
  rPut : E.fn 3 = some Fn.f_haulageref03_Put
  rRead : E.fn 5 = some Fn.f_haulageref03_Read
  rOne : E.fn 17 = some Fn.f_haulageref03_one
  least : E.gl 1 = [.int .i64 0, .int .i64 0, .int .i64 128, .int .i64 2048, .int .i64 65536]
structure U03 (E : Env) : Prop extends V03 E where
  fill : E.fn 16 = some Fn.f_utf_fill
  put : E.fn 1 = some Fn.f_utf_Put
  first : E.gl 0 = [.int .u8 0, .int .u8 0, .int .u8 192, .int .u8 224, .int .u8 240]
end Hx

namespace Hx
set_option linter.unusedSimpArgs false
open Go
variable {E : Env}
end Hx
