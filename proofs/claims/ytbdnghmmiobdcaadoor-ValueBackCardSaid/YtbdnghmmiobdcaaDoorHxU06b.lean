/-
  HxU06b: numbers that fit 32 bits; right values; values that fit a type.
-/
import Derived.Test.YtbdnghmmiobdcaaDoorHxU06
namespace Hx
open Go
set_option linter.unusedSimpArgs false
set_option linter.unusedVariables false
set_option maxHeartbeats 4000000
variable {E : Env}
attribute [-simp] List.getD_eq_getElem?_getD getElem?_pos
attribute [local simp] intBeq maxIf
def fits32 (n : Int) : Bool := decide (-2147483648 ≤ n ∧ n < 2147483648)
structure F06 (E : Env) : Prop where
  low : E.fn 70 = some Fn.f_word_Low
  fits : E.fn 55 = some Fn.f_word_Fits
  half : E.fn 56 = some Fn.f_haulageref01_Half
  rFits : E.fn 36 = some Fn.f_haulageref01_Fits
theorem low32 (n : Int) (h1 : -9223372036854775808 ≤ n) (h2 : n ≤ 9223372036854775807) : decide ((IntKind.i64.wrap (n * 4294967296)).fdiv 4294967296 = n) = fits32 n := by
  have : IntKind.i64.wrap (n * 4294967296) = (n * 4294967296 + 9223372036854775808) % 18446744073709551616 - 9223372036854775808 := by
    simp only [IntKind.wrap, IntKind.signed, IntKind.bits]
    simp
    split <;> omega
  rw [this, Int.fdiv_eq_ediv_of_nonneg _ (by omega)]
  unfold fits32
  congr 1
  apply propext
  omega
theorem word_Fits (u : F06 E) (k : Nat) (n : Int) (h1 : -9223372036854775808 ≤ n) (h2 : n ≤ 9223372036854775807) (m : Mem) : denF E (k + 2) 55 [.p (.int .i64 n), .p (.int .i64 32)] m = some (.ret (.p (.bool (fits32 n))), m) := by
  have hlow : ∀ m, denF E (k + 1) 70 [.p (.int .i64 n), .p (.int .i64 32)] m = some (.ret (.p (.int .i64 ((IntKind.i64.wrap (n * 4294967296)).fdiv 4294967296))), m) := by
    intro m
    refine denF_wp u.low rfl (args' := [.p (.int .i64 n), .p (.int .i64 32)]) rfl ?_
    have hw : IntKind.i64.wrap 32 = 32 := rfl
    simp [Fn.f_word_Low, hw]
  refine denF_wp u.fits rfl (args' := [.p (.int .i64 n), .p (.int .i64 32)]) rfl ?_
  simp [Fn.f_word_Fits, hlow]
  rw [low32 n h1 h2]
def pw (i : Nat) : Int := ((2 ^ i : Nat) : Int)
theorem pw_succ (i : Nat) : pw (i + 1) = 2 * pw i := by
  unfold pw
  rw [Nat.pow_succ]
  omega
theorem pw_pos (i : Nat) : 0 ≤ pw i := Int.natCast_nonneg _
theorem pw_le {i : Nat} (h : i ≤ 30) : pw i ≤ 1073741824 := by
  have : 2 ^ i ≤ 2 ^ 30 := Nat.pow_le_pow_right (by omega) h
  unfold pw
  omega
theorem ref_Half (u : F06 E) (k : Nat) (m : Mem) : denF E (k + 40) 56 [.p (.int .i64 32)] m = some (.ret (.p (.int .i64 2147483648)), m) := by
  refine denF_wp u.half rfl (args' := [.p (.int .i64 32)]) rfl ?_
  simp [Fn.f_haulageref01_Half]
  refine (loop_wp (α := Nat) (I := fun i st => i ≤ 31 ∧ Live Fn.f_haulageref01_Half_k0 (Fn.f_haulageref01_Half_s0 (.p (.int .i64 32)) (.p (.int .i64 (pw i))) (.p (.int .i64 (i + 1)))) [] st) (meas := fun i => 31 - i)
    (Q := fun e st => e = .exit 0 ∧ st.ds = [] ∧ st.ts.length = 13 ∧ st.ts.getD 3 (.tup []) = .p (.int .i64 2147483648)) ?_ (k + 39) 0 _ ⟨Nat.zero_le _, rfl, rfl, rfl, rfl⟩ (by omega)).mono ?_
  · rintro i st ⟨hi0, hlive⟩
    rw [loopF_live hlive]
    have hw1 : IntKind.i64.wrap ((i : Int) + 1 + 1) = i + 2 := by rw [wrap_i64] <;> omega
    by_cases hi : i = 31
    · subst hi
      have h31 : pw 31 = 2147483648 := rfl
      simp [Fn.f_haulageref01_Half_b0, Fn.f_haulageref01_Half_s0, h31]
    · have hi' : (i : Int) + 1 < 32 := by omega
      have hw2 : IntKind.i64.wrap (2 * pw i) = pw (i + 1) := by
        have := pw_pos i
        have := pw_le (i := i) (by omega)
        rw [wrap_i64 (by omega) (by omega), pw_succ]
      simp [Fn.f_haulageref01_Half_b0, Fn.f_haulageref01_Half_s0, hi', hw1, hw2]
      exact ⟨i + 1, by omega, by omega, rfl, by simp [keep, Fn.f_haulageref01_Half_k0, Fn.f_haulageref01_Half_s0]; omega, rfl, rfl⟩
  · rintro e st ⟨rfl, h1, h2, h3⟩
    obtain ⟨ts, m', ds⟩ := st
    simp only at h1 h2 h3
    match ts, h2, h3 with
    | [t0, t1, t2, t3, t4, t5, t6, t7, t8, t9, t10, t11, t12], h2, h3 =>
      simp at h3
      simp [h1, h3]
theorem ref_Fits (u : F06 E) (k : Nat) (n : Int) (m : Mem) : denF E (k + 41) 36 [.p (.int .i64 n), .p (.int .i64 32)] m = some (.ret (.p (.bool (fits32 n))), m) := by
  refine denF_wp u.rFits rfl (args' := [.p (.int .i64 n), .p (.int .i64 32)]) rfl ?_
  have hh := fun m => ref_Half u k m
  have hw : IntKind.i64.wrap (-2147483648) = -2147483648 := rfl
  unfold fits32
  by_cases h : -2147483648 ≤ n
  · simp [Fn.f_haulageref01_Fits, hh, hw, h]
  · simp [Fn.f_haulageref01_Fits, hh, hw, h]
end Hx
