/-
  HxM07: keys of values: plain laws.
-/
import Derived.Test.YtpgnoaacdommbaaDoorHxSimp
namespace Hx
open Go
def be : Nat → Nat → List UInt8
  | 0, _ => []
  | w + 1, n => UInt8.ofNat (n / 256 ^ w % 256) :: be w n
def le : Nat → Nat → List UInt8
  | 0, _ => []
  | w + 1, n => UInt8.ofNat (n % 256) :: le w (n / 256)
theorem be_last : ∀ (w n : Nat), be (w + 1) n = be w (n / 256) ++ [UInt8.ofNat (n % 256)]
  | 0, n => by simp [be]
  | w + 1, n => by
    rw [be, be_last w n, be, List.cons_append, Nat.div_div_eq_div_mul, ← Nat.pow_succ']
theorem le_rev : ∀ (w n : Nat), (le w n).reverse = be w n
  | 0, _ => rfl
  | w + 1, n => by rw [le, List.reverse_cons, le_rev w (n / 256), be_last]
theorem be_len : ∀ (w n : Nat), (be w n).length = w
  | 0, _ => rfl
  | w + 1, n => by rw [be, List.length_cons, be_len w n]
/-- The number that bytes are, the highest first. -/
def ofBe : List UInt8 → Nat
  | [] => 0
  | c :: r => c.toNat * 256 ^ r.length + ofBe r
theorem ofBe_lt : ∀ l : List UInt8, ofBe l < 256 ^ l.length
  | [] => by simp [ofBe]
  | c :: r => by
    have h := ofBe_lt r
    have hc : c.toNat < 256 := UInt8.toNat_lt c
    rw [ofBe, List.length_cons, Nat.pow_succ]
    have : (c.toNat + 1) * 256 ^ r.length ≤ 256 * 256 ^ r.length := Nat.mul_le_mul_right _ (by omega)
    rw [Nat.add_mul, Nat.one_mul] at this
    rw [Nat.mul_comm (256 ^ r.length) 256]
    omega
theorem ofBe_be : ∀ (w n : Nat), ofBe (be w n) = n % 256 ^ w
  | 0, n => by simp [be, ofBe, Nat.mod_one]
  | w + 1, n => by
    rw [be, ofBe, ofBe_be w n, be_len, UInt8.toNat_ofNat']
    rw [Nat.mod_mod_of_dvd _ (by decide : (256 : Nat) ∣ 256)]
    rw [Nat.pow_succ, Nat.mod_mul, Nat.mul_comm (256 ^ w)]
    omega
theorem be_ofBe : ∀ l : List UInt8, be l.length (ofBe l) = l
  | [] => rfl
  | c :: r => by
    have h := ofBe_lt r
    have hc : c.toNat < 256 := UInt8.toNat_lt c
    have hp : 0 < 256 ^ r.length := Nat.pow_pos (by omega)
    have hd : (c.toNat * 256 ^ r.length + ofBe r) / 256 ^ r.length = c.toNat := by
      rw [Nat.mul_comm, Nat.mul_add_div hp, Nat.div_eq_of_lt h, Nat.add_zero]
    have hm : ∀ (w k a : Nat), w ≤ k → be w (a * 256 ^ k + ofBe r) = be w (ofBe r) := by
      intro w
      induction w with
      | zero => intro k a _; rfl
      | succ w ih =>
        intro k a hk
        rw [be, be, ih k a (by omega)]
        congr 2
        have : a * 256 ^ k = 256 ^ w * (a * 256 ^ (k - w - 1) * 256) := by
          have : (256 : Nat) ^ k = 256 ^ w * (256 ^ (k - w - 1) * 256) := by
            rw [← Nat.pow_succ, ← Nat.pow_add]
            congr 1
            omega
          rw [this]
          simp only [Nat.mul_assoc, Nat.mul_left_comm]
        rw [this, Nat.mul_add_div (Nat.pow_pos (by omega)), Nat.mul_add_mod_self_right]
    rw [List.length_cons, ofBe, be, hd, hm _ _ _ (Nat.le_refl _), be_ofBe r]
    congr 1
    rw [Nat.mod_eq_of_lt hc]
    exact UInt8.ofNat_toNat
theorem xor_high {k x : Nat} (h : x < 2 ^ k) : x ^^^ 2 ^ k = x + 2 ^ k := by
  apply Nat.eq_of_testBit_eq
  intro i
  rw [Nat.testBit_xor, Nat.testBit_two_pow, Nat.add_comm x]
  by_cases hi : k = i
  · subst hi
    rw [Nat.testBit_two_pow_add_eq]
    simp
  · by_cases hlt : i < k
    · rw [Nat.testBit_two_pow_add_gt hlt]
      simp [hi]
    · have h1 : x.testBit i = false := Nat.testBit_lt_two_pow (Nat.lt_of_lt_of_le h (Nat.pow_le_pow_right (by omega) (by omega)))
      have h2 : (2 ^ k + x).testBit i = false := Nat.testBit_lt_two_pow (by
        have : 2 ^ (k + 1) ≤ 2 ^ i := Nat.pow_le_pow_right (by omega) (by omega)
        rw [Nat.pow_succ] at this
        omega)
      rw [h1, h2]
      simp [hi]
theorem xor_off {k x : Nat} (h : x < 2 ^ k) : (x + 2 ^ k) ^^^ 2 ^ k = x := by
  rw [← xor_high h, Nat.xor_assoc, Nat.xor_self, Nat.xor_zero]
/-- A number's highest bit turned. -/
def flip (k x : Nat) : Nat := if x < 2 ^ k then x + 2 ^ k else x - 2 ^ k
theorem xor_flip {k x : Nat} (h : x < 2 ^ (k + 1)) : x ^^^ 2 ^ k = flip k x := by
  unfold flip
  split
  · exact xor_high (by assumption)
  · rw [Nat.pow_succ] at h
    have := xor_off (k := k) (x := x - 2 ^ k) (by omega)
    rw [Nat.sub_add_cancel (by omega)] at this
    exact this
def esc (s : List UInt8) : List UInt8 := s.flatMap fun c => if c = 0 then [0, 255] else [c]
/-- The key of a right value. -/
def keyOf (k n : Int) (s : List UInt8) : List UInt8 :=
  UInt8.ofNat k.toNat :: (if k = 1 then be 4 (n + 2147483648).toNat else if k = 2 then be 8 (n + 9223372036854775808).toNat else if k = 3 ∨ k = 4 then esc s ++ [0, 0] else [])
end Hx
