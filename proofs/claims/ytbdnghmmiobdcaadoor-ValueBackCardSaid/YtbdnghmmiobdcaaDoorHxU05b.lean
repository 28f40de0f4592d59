/-
  HxU05b: the document's digits of a number.
-/
import Derived.Test.YtbdnghmmiobdcaaDoorHxU05
namespace Hx
open Go
set_option linter.unusedSimpArgs false
set_option linter.unusedVariables false
set_option maxHeartbeats 4000000
variable {E : Env}
attribute [-simp] List.getD_eq_getElem?_getD getElem?_pos
theorem ref_Dig1 (h : E.fn 40 = some Fn.f_haulageref05_Digits) (k : Nat) (n : Int) (h1 : 0 ≤ n) (h2 : n < 10) (m : Mem) : denF E (k + 1) 40 [.p (.int .i64 n)] m = some (.ret (.p (.str (digits n))), m) := by
  refine denF_wp h rfl (args' := [.p (.int .i64 n)]) rfl ?_
  have hd : digits n = [dgt n.toNat] := by
    unfold digits
    rw [if_neg (by omega), digs_small (by omega)]
    congr 2
    omega
  rw [hd]
  have : n = 0 ∨ n = 1 ∨ n = 2 ∨ n = 3 ∨ n = 4 ∨ n = 5 ∨ n = 6 ∨ n = 7 ∨ n = 8 ∨ n = 9 := by omega
  have w : ∀ n : Int, 0 ≤ n → n < 11 → IntKind.i64.wrap n = n := fun n a b => wrap_i64 (by omega) (by omega)
  rcases this with rfl | rfl | rfl | rfl | rfl | rfl | rfl | rfl | rfl | rfl <;> simp [Fn.f_haulageref05_Digits, w, dgt, bounds, asNat, asInt]
theorem ref_Dig2 (h : E.fn 40 = some Fn.f_haulageref05_Digits) (k : Nat) (n : Int) (h1 : n < 0) (h2 : -10 < n) (m : Mem) : denF E (k + 2) 40 [.p (.int .i64 n)] m = some (.ret (.p (.str (digits n))), m) := by
  refine denF_wp h rfl (args' := [.p (.int .i64 n)]) rfl ?_
  have hd : digits n = 45 :: digits (-n) := by
    unfold digits
    rw [if_pos h1, if_neg (by omega), Int.natAbs_neg]
  rw [hd]
  have hr := fun m => ref_Dig1 h k (-n) (by omega) (by omega) m
  have w : IntKind.i64.wrap (0 - n) = -n := by rw [wrap_i64] <;> omega
  have w' : IntKind.i64.wrap (- n) = -n := by rw [wrap_i64] <;> omega
  have hl := digits_64 (n := -n) (by omega) (by omega)
  have hb : 1 + (digits (-n)).length ≤ strLim := by unfold strLim; omega
  simp [Fn.f_haulageref05_Digits, h1, h2, w, w', hr, hb]
  try omega
theorem digits_step {n : Int} (h : n ≤ -10 ∨ 10 ≤ n) : digits n = digits (n.tdiv 10) ++ digits ((n.natAbs % 10 : Nat) : Int) := by
  have e2 : digits ((n.natAbs % 10 : Nat) : Int) = [dgt (n.natAbs % 10)] := by
    unfold digits
    rw [if_neg (by omega), Int.natAbs_natCast, digs_small (by omega)]
  rw [e2]
  have e1 : (n.tdiv 10).natAbs = n.natAbs / 10 := by rw [Int.natAbs_tdiv]; rfl
  unfold digits
  rw [digs_big (by omega : ¬ n.natAbs < 10), e1]
  by_cases hn : n < 0
  · have : n.tdiv 10 < 0 := by
      have : n.tdiv 10 = -((-n) / 10) := by
        rw [← Int.tdiv_eq_ediv_of_nonneg (by omega : 0 ≤ -n), Int.neg_tdiv, Int.neg_neg]
      omega
    rw [if_pos hn, if_pos this, List.cons_append]
  · have : ¬ n.tdiv 10 < 0 := by
      rw [Int.tdiv_eq_ediv_of_nonneg (by omega)]
      omega
    rw [if_neg hn, if_neg this]
theorem ref_Digits (h : E.fn 40 = some Fn.f_haulageref05_Digits) : ∀ (j : Nat) (n : Int), n.natAbs < 10 ^ (j + 1) → -9223372036854775808 ≤ n → n ≤ 9223372036854775807 → ∀ (k : Nat) (m : Mem),
    denF E (k + j + 2) 40 [.p (.int .i64 n)] m = some (.ret (.p (.str (digits n))), m) := by
  intro j
  induction j with
  | zero =>
    intro n hn _ _ k m
    by_cases h0 : n < 0
    · exact ref_Dig2 h k n h0 (by omega) m
    · exact ref_Dig1 h (k + 1) n (by omega) (by omega) m
  | succ j ih =>
    intro n hn hlo hhi k m
    by_cases hs : -10 < n ∧ n < 10
    · by_cases h0 : n < 0
      · have := ref_Dig2 h (k + j + 1) n h0 hs.1 m
        exact this
      · have := ref_Dig1 h (k + j + 2) n (by omega) hs.2 m
        exact this
    · have hb : n ≤ -10 ∨ 10 ≤ n := by omega
      have e1 : (n.tdiv 10).natAbs = n.natAbs / 10 := by rw [Int.natAbs_tdiv]; rfl
      have hlt : (n.tdiv 10).natAbs < 10 ^ (j + 1) := by
        rw [e1]
        have e : 10 ^ (j + 1 + 1) = 10 * 10 ^ (j + 1) := by rw [Nat.pow_succ, Nat.mul_comm]
        rw [e] at hn
        exact Nat.div_lt_of_lt_mul hn
      have hA : ∀ m, denF E (k + (j + 1) + 1) 40 [.p (.int .i64 (n.tdiv 10))] m = some (.ret (.p (.str (digits (n.tdiv 10)))), m) := fun m => ih (n.tdiv 10) hlt (by omega) (by omega) k m
      have hB : ∀ m, denF E (k + (j + 1) + 1) 40 [.p (.int .i64 ((n.natAbs % 10 : Nat) : Int))] m = some (.ret (.p (.str (digits ((n.natAbs % 10 : Nat) : Int)))), m) := fun m => ref_Dig1 h (k + j + 1) ((n.natAbs % 10 : Nat) : Int) (by omega) (by omega) m
      have hl1 := digits_64 (n := n) hlo hhi
      have hst := digits_step hb
      have hl : (digits (n.tdiv 10)).length + (digits ((n.natAbs % 10 : Nat) : Int)).length ≤ strLim := by
        have := congrArg List.length hst
        simp only [List.length_append] at this
        unfold strLim
        omega
      rw [hst]
      refine denF_wp h rfl (args' := [.p (.int .i64 n)]) rfl ?_
      have w1 : IntKind.i64.wrap (n.tdiv 10) = n.tdiv 10 := wrap_i64 (by omega) (by omega)
      have n1 : ¬ (-10 < n ∧ n < 0) := by omega
      have n2 : ¬ (0 ≤ n ∧ n < 10) := by omega
      by_cases h0 : n < 0
      · have t1 : n.tmod 10 = -((n.natAbs % 10 : Nat) : Int) := by
          have : n.tmod 10 = -((-n) % 10) := by
            rw [← Int.tmod_eq_emod_of_nonneg (by omega : 0 ≤ -n), Int.neg_tmod, Int.neg_neg]
          omega
        obtain ⟨l, hl0⟩ : ∃ l : Int, l = ((n.natAbs % 10 : Nat) : Int) := ⟨_, rfl⟩
        rw [← hl0] at t1 hB hl ⊢
        have hlr : 0 ≤ l ∧ l < 10 := by omega
        have w2 : IntKind.i64.wrap (0 - -l) = l := by rw [wrap_i64] <;> omega
        have w3 : IntKind.i64.wrap l = l := by rw [wrap_i64] <;> omega
        have g1 : ¬ -10 < n := by omega
        have g2 : ¬ 0 ≤ n := by omega
        by_cases hl1 : l = 0
        · subst hl1
          simp [Fn.f_haulageref05_Digits, g1, g2, w1, w2, w3, t1, hA, hB, hl]
        · have hl2 : 0 < l := by omega
          simp [Fn.f_haulageref05_Digits, g1, g2, w1, w2, w3, t1, hA, hB, hl, hl2]
      · have t1 : n.tmod 10 = ((n.natAbs % 10 : Nat) : Int) := by
          rw [Int.tmod_eq_emod_of_nonneg (by omega)]; omega
        obtain ⟨l, hl0⟩ : ∃ l : Int, l = ((n.natAbs % 10 : Nat) : Int) := ⟨_, rfl⟩
        rw [← hl0] at t1 hB hl ⊢
        have hlr : ¬ l < 0 := by omega
        have g1 : -10 < n := by omega
        have g2 : 0 ≤ n := by omega
        have g3 : ¬ n < 10 := by omega
        simp [Fn.f_haulageref05_Digits, g1, g2, g3, h0, w1, t1, hA, hB, hl, hlr]
theorem ref_Digits' (h : E.fn 40 = some Fn.f_haulageref05_Digits) (n : Int) (h1 : -9223372036854775808 ≤ n) (h2 : n ≤ 9223372036854775807) (k : Nat) (m : Mem) :
    denF E (k + 22) 40 [.p (.int .i64 n)] m = some (.ret (.p (.str (digits n))), m) := by
  have := ref_Digits h 20 n (by omega) h1 h2 k m
  exact this
end Hx
