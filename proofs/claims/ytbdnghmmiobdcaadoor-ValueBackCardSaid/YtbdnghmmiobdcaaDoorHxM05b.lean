/-
  HxM05b: the number that a text begins with: plain laws.
-/
import Derived.Test.YtbdnghmmiobdcaaDoorHxM05
namespace Hx
def isDig (c : UInt8) : Bool := decide (48 ≤ c.toNat) && decide (c.toNat ≤ 57)
def dval (c : UInt8) : Nat := c.toNat - 48
def stepD (a : Nat) (c : UInt8) : Nat := 10 * a + dval c
def numVal (a : Nat) (x : List UInt8) : Nat := x.foldl stepD a
theorem numVal_nil (a : Nat) : numVal a [] = a := rfl
theorem numVal_cons (a : Nat) (c : UInt8) (r : List UInt8) : numVal a (c :: r) = numVal (10 * a + dval c) r := by
  unfold numVal
  rw [List.foldl_cons, stepD]
theorem numVal_app : ∀ (a : Nat) (x y : List UInt8), numVal a (x ++ y) = numVal (numVal a x) y
  | _, [], _ => rfl
  | a, c :: x, y => by rw [List.cons_append, numVal_cons, numVal_cons, numVal_app]
theorem numVal_ge : ∀ (a : Nat) (x : List UInt8), a ≤ numVal a x
  | _, [] => Nat.le_refl _
  | a, c :: x => by
    have := numVal_ge (10 * a + dval c) x
    rw [numVal_cons]
    omega
theorem numVal_lt : ∀ (a : Nat) (x : List UInt8), (∀ c ∈ x, isDig c = true) → numVal a x < (a + 1) * 10 ^ x.length
  | a, [], _ => by simp [numVal_nil]
  | a, c :: x, h => by
    have hc := h c (by simp)
    unfold isDig at hc
    simp only [Bool.and_eq_true, decide_eq_true_eq] at hc
    have := numVal_lt (10 * a + dval c) x (fun d hd => h d (List.mem_cons_of_mem _ hd))
    rw [numVal_cons, List.length_cons, Nat.pow_succ, Nat.mul_comm (10 ^ x.length) 10, ← Nat.mul_assoc]
    refine Nat.lt_of_lt_of_le this (Nat.mul_le_mul_right _ ?_)
    unfold dval
    omega
/-- Digits without a needless 0 ahead are the digits of their number. -/
theorem digs_numVal : ∀ (x : List UInt8) (a : Nat), 0 < a → (∀ c ∈ x, isDig c = true) → digs (numVal a x) = digs a ++ x
  | [], a, _, _ => by simp [numVal_nil]
  | c :: x, a, ha, h => by
    have hc := h c (by simp)
    unfold isDig at hc
    simp only [Bool.and_eq_true, decide_eq_true_eq] at hc
    rw [numVal_cons, digs_numVal x _ (by omega) (fun d hd => h d (List.mem_cons_of_mem _ hd))]
    have hb : ¬ 10 * a + dval c < 10 := by omega
    have h1 : (10 * a + dval c) / 10 = a := by unfold dval; omega
    have h2 : (10 * a + dval c) % 10 = dval c := by unfold dval; omega
    rw [digs_big hb, h1, h2, List.append_assoc]
    have : dgt (dval c) = c := by
      unfold dgt dval
      have : 48 + (c.toNat - 48) = c.toNat := by omega
      rw [this]
      exact UInt8.ofNat_toNat
    rw [this]
    rfl
theorem digs_of_run {x : List UInt8} (h : ∀ c ∈ x, isDig c = true) (hne : x ≠ []) (h0 : x.head? = some 48 → x = [48]) : digs (numVal 0 x) = x := by
  cases x with
  | nil => exact absurd rfl hne
  | cons c x =>
    have hc := h c (by simp)
    unfold isDig at hc
    simp only [Bool.and_eq_true, decide_eq_true_eq] at hc
    by_cases hz : c = 48
    · subst hz
      have := h0 rfl
      rw [this]
      have : numVal 0 [48] = 0 := by decide +kernel
      rw [this, digs_small (by omega)]
      rfl
    · have hd : 0 < dval c := by
        have : c.toNat ≠ 48 := fun q => hz (UInt8.toNat_inj.1 q)
        unfold dval
        omega
      rw [numVal_cons, digs_numVal x _ (by omega) (fun d hd => h d (List.mem_cons_of_mem _ hd))]
      have e : 10 * 0 + dval c = dval c := by omega
      have : dgt (dval c) = c := by
        unfold dgt dval
        have : 48 + (c.toNat - 48) = c.toNat := by omega
        rw [this]
        exact UInt8.ofNat_toNat
      rw [e, digs_small (by unfold dval; omega), this]
      rfl
end Hx
