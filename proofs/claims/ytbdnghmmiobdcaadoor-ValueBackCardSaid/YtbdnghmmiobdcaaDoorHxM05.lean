/-
  HxM05: the digits of a number: plain laws.
-/
namespace Hx
def dgt (d : Nat) : UInt8 := UInt8.ofNat (48 + d)
def digs (n : Nat) : List UInt8 := if n < 10 then [dgt n] else digs (n / 10) ++ [dgt (n % 10)]
termination_by n
decreasing_by omega
def digits (n : Int) : List UInt8 := if n < 0 then 45 :: digs n.natAbs else digs n.natAbs
theorem digs_small {n : Nat} (h : n < 10) : digs n = [dgt n] := by rw [digs, if_pos h]
theorem digs_big {n : Nat} (h : ¬ n < 10) : digs n = digs (n / 10) ++ [dgt (n % 10)] := by rw [digs, if_neg h]
theorem digs_ne (n : Nat) : digs n ≠ [] := by
  by_cases h : n < 10
  · rw [digs_small h]; simp
  · rw [digs_big h]; simp
theorem digs_pos (n : Nat) : 0 < (digs n).length := by
  cases h : digs n with
  | nil => exact absurd h (digs_ne n)
  | cons => simp
theorem digs_len : ∀ (k n : Nat), n < 10 ^ (k + 1) → (digs n).length ≤ k + 1
  | 0, n, h => by
    rw [digs_small (by simpa using h)]
    simp
  | k + 1, n, h => by
    by_cases hn : n < 10
    · rw [digs_small hn]; simp
    · rw [digs_big hn, List.length_append]
      have := digs_len k (n / 10) (by
        have e : 10 ^ (k + 1 + 1) = 10 * 10 ^ (k + 1) := by rw [Nat.pow_succ, Nat.mul_comm]
        rw [e] at h
        exact Nat.div_lt_of_lt_mul h)
      simp only [List.length_cons, List.length_nil]
      omega
theorem dgt_toNat {d : Nat} (h : d < 10) : (dgt d).toNat = 48 + d := by
  unfold dgt
  rw [UInt8.toNat_ofNat']
  omega
theorem dgt_inj {a b : Nat} (ha : a < 10) (hb : b < 10) (h : dgt a = dgt b) : a = b := by
  have := congrArg UInt8.toNat h
  rw [dgt_toNat ha, dgt_toNat hb] at this
  omega
theorem digs_mem {c : UInt8} : ∀ (k n : Nat), n ≤ k → c ∈ digs n → 48 ≤ c.toNat ∧ c.toNat ≤ 57
  | 0, n, hk, h => by
    rw [digs_small (by omega)] at h
    simp only [List.mem_cons, List.not_mem_nil, or_false] at h
    subst h
    rw [dgt_toNat (by omega)]
    omega
  | k + 1, n, hk, h => by
    by_cases hn : n < 10
    · rw [digs_small hn] at h
      simp only [List.mem_cons, List.not_mem_nil, or_false] at h
      subst h
      rw [dgt_toNat (by omega)]
      omega
    · rw [digs_big hn] at h
      simp only [List.mem_append, List.mem_cons, List.not_mem_nil, or_false] at h
      rcases h with h | rfl
      · exact digs_mem k (n / 10) (by omega) h
      · rw [dgt_toNat (by omega)]
        omega
theorem digs_inj : ∀ (k a b : Nat), a ≤ k → digs a = digs b → a = b
  | 0, a, b, hk, h => by
    have ha : a = 0 := by omega
    subst ha
    rw [digs_small (by omega)] at h
    by_cases hb : b < 10
    · rw [digs_small hb] at h
      exact dgt_inj (by omega) hb (List.head_eq_of_cons_eq h)
    · rw [digs_big hb] at h
      have := congrArg List.length h
      have := digs_pos (b / 10)
      simp only [List.length_append, List.length_cons, List.length_nil] at *
      omega
  | k + 1, a, b, hk, h => by
    by_cases ha : a < 10
    · rw [digs_small ha] at h
      by_cases hb : b < 10
      · rw [digs_small hb] at h
        exact dgt_inj ha hb (List.head_eq_of_cons_eq h)
      · rw [digs_big hb] at h
        have := congrArg List.length h
        have := digs_pos (b / 10)
        simp only [List.length_append, List.length_cons, List.length_nil] at *
        omega
    · rw [digs_big ha] at h
      by_cases hb : b < 10
      · rw [digs_small hb] at h
        have := congrArg List.length h
        have := digs_pos (a / 10)
        simp only [List.length_append, List.length_cons, List.length_nil] at *
        omega
      · rw [digs_big hb] at h
        obtain ⟨h1, h2⟩ := List.append_inj' h rfl
        have e1 := digs_inj k (a / 10) (b / 10) (by omega) h1
        have e2 := dgt_inj (by omega) (by omega) (List.head_eq_of_cons_eq h2)
        omega
theorem digits_inj {a b : Int} (h : digits a = digits b) : a = b := by
  have hd : ∀ n : Nat, ∀ t, digs n ≠ 45 :: t := by
    intro n t e
    have := digs_mem (c := 45) n n (Nat.le_refl _) (by rw [e]; simp)
    simp at this
  unfold digits at h
  split at h <;> split at h
  · have := digs_inj _ _ _ (Nat.le_refl _) (List.tail_eq_of_cons_eq h)
    omega
  · exact absurd h.symm (hd _ _)
  · exact absurd h (hd _ _)
  · have := digs_inj _ _ _ (Nat.le_refl _) h
    omega
theorem digits_mem {c : UInt8} {n : Int} (h : c ∈ digits n) : c.toNat < 128 := by
  unfold digits at h
  split at h
  · simp only [List.mem_cons] at h
    rcases h with rfl | h
    · decide
    · have := digs_mem _ _ (Nat.le_refl _) h; omega
  · have := digs_mem _ _ (Nat.le_refl _) h; omega
theorem digits_32 {n : Int} (h1 : -2147483648 ≤ n) (h2 : n < 2147483648) : (digits n).length ≤ 11 := by
  have := digs_len 9 n.natAbs (by omega)
  unfold digits
  split <;> (try simp only [List.length_cons]) <;> omega
theorem digits_64 {n : Int} (h1 : -9223372036854775808 ≤ n) (h2 : n ≤ 9223372036854775807) : (digits n).length ≤ 20 := by
  have := digs_len 18 n.natAbs (by omega)
  unfold digits
  split <;> (try simp only [List.length_cons]) <;> omega
theorem digits_ne (n : Int) : digits n ≠ [] := by
  unfold digits
  split
  · simp
  · exact digs_ne _
end Hx
