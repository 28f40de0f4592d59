/-
  HxV05c: the number of a number's digits, whatever else stands behind; the law ValueNumbers on the evaluator.
-/
import Derived.Test.YtbdnghmmiobdcaaDoorHxFn05
import Derived.Test.YtbdnghmmiobdcaaDoorHxU05g
import Derived.Test.YtbdnghmmiobdcaaDoorHxArg
namespace Hx
open Go
set_option linter.unusedSimpArgs false
set_option linter.unusedVariables false
set_option maxHeartbeats 4000000
set_option maxRecDepth 20000
variable {E : Env}
attribute [-simp] List.getD_eq_getElem?_getD getElem?_pos
theorem numVal_digs5 : ∀ (k n : Nat), n ≤ k → numVal 0 (digs n) = n
  | 0, n, h => by
    have : n = 0 := by omega
    subst this
    rw [digs_small (by omega), numVal_cons, numVal_nil]
    decide
  | k + 1, n, h => by
    by_cases hn : n < 10
    · rw [digs_small hn, numVal_cons, numVal_nil]
      unfold dval
      rw [dgt_toNat hn]
      omega
    · rw [digs_big hn, numVal_snoc, numVal_digs5 k (n / 10) (by omega)]
      unfold dval
      rw [dgt_toNat (by omega)]
      omega
theorem digs_head5 : ∀ (k n : Nat), n ≤ k → 0 < n → (digs n).head? ≠ some 48
  | 0, n, h, h0 => by omega
  | k + 1, n, h, h0 => by
    by_cases hn : n < 10
    · rw [digs_small hn]
      intro e
      simp at e
      have := congrArg UInt8.toNat e
      rw [dgt_toNat hn] at this
      have e48 : (48 : UInt8).toNat = 48 := rfl
      omega
    · rw [digs_big hn]
      have := digs_head5 k (n / 10) (by omega) (by omega)
      cases hq : digs (n / 10) with
      | nil => exact absurd hq (digs_ne _)
      | cons c r => rw [hq] at this; simpa using this
/-- What stands behind is no digit. -/
def noDig (t : List UInt8) : Prop := ∀ c, t.head? = some c → isDig c = false
theorem numS_digits5 {n : Int} (h1 : -9223372036854775808 ≤ n) (h2 : n ≤ 9223372036854775807) {t : List UInt8} (ht : noDig t) : numS (digits n ++ t) = numT n (digits n).length 0 := by
  have hall : ∀ N : Nat, ∀ c ∈ digs N, isDig c = true := by
    intro N c hc
    have := digs_mem N N (Nat.le_refl _) hc
    unfold isDig
    simp
    exact this
  have htail : t.takeWhile isDig = [] := by
    cases t with
    | nil => rfl
    | cons c r => rw [List.takeWhile_cons, ht c rfl]; rfl
  have hne : ∀ N : Nat, (digs N).isEmpty = false := by
    intro N
    cases hq : digs N with
    | nil => exact absurd hq (digs_ne _)
    | cons => rfl
  have h48 : ∀ N : Nat, 0 < N → ((digs N).head? == some 48) = false := by
    intro N hN
    simpa using digs_head5 N N (Nat.le_refl _) hN
  by_cases hn : n < 0
  · have hd : digits n = 45 :: digs n.natAbs := by unfold digits; rw [if_pos hn]
    rw [hd]
    have hh : ((45 :: digs n.natAbs ++ t).head? == some 45) = true := by simp
    have hrun : runD true (45 :: digs n.natAbs ++ t) = digs n.natAbs := by
      unfold runD ahead
      simp only [if_true, List.cons_append, List.drop_succ_cons, List.drop_zero]
      rw [List.takeWhile_append_of_pos (hall _), htail, List.append_nil]
    unfold numS
    rw [hh, hrun]
    unfold numO
    have hb : bad0 true (digs n.natAbs) = false := by
      unfold bad0
      rw [h48 _ (by omega), hne]
      rfl
    rw [hb, numVal_digs5 _ _ (Nat.le_refl _)]
    have : n.natAbs ≤ mostOf true := by unfold mostOf; simp; omega
    rw [if_neg (by simp), if_pos this]
    unfold ahead
    simp only [if_true, List.length_cons]
    congr 1
    · omega
    · omega
  · have hd : digits n = digs n.natAbs := by unfold digits; rw [if_neg hn]
    rw [hd]
    have hh : ((digs n.natAbs ++ t).head? == some 45) = false := by
      cases hq : digs n.natAbs with
      | nil => exact absurd hq (digs_ne _)
      | cons c r =>
        have := digs_mem (c := c) n.natAbs n.natAbs (Nat.le_refl _) (by rw [hq]; simp)
        simp
        rintro rfl
        have e45 : (45 : UInt8).toNat = 45 := rfl
        omega
    have hrun : runD false (digs n.natAbs ++ t) = digs n.natAbs := by
      unfold runD ahead
      simp only [Bool.false_eq_true, if_false, List.drop_zero]
      rw [List.takeWhile_append_of_pos (hall _), htail, List.append_nil]
    unfold numS
    rw [hh, hrun]
    unfold numO
    have hb : bad0 false (digs n.natAbs) = false := by
      unfold bad0
      by_cases h0 : n.natAbs = 0
      · rw [h0, digs_small (by omega)]
        rfl
      · rw [h48 _ (by omega), hne]
        rfl
    rw [hb, numVal_digs5 _ _ (Nat.le_refl _)]
    have : n.natAbs ≤ mostOf false := by unfold mostOf; simp; omega
    rw [if_neg (by simp), if_pos this]
    unfold ahead
    simp only [Bool.false_eq_true, if_false, Nat.zero_add]
    congr 1
    omega
structure D05 (E : Env) : Prop where
  m : M05 E
  vdig : E.fn 39 = some Fn.f_value_Digits
  rdig : E.fn 40 = some Fn.f_haulageref05_Digits
theorem numS_form5 (s : List UInt8) : ∃ n z e, numS s = numT n z e := by
  unfold numS numO
  split
  · exact ⟨_, _, _, rfl⟩
  · split
    · exact ⟨_, _, _, rfl⟩
    · exact ⟨_, _, _, rfl⟩
theorem law_ValueNumbers (u : D05 E) (h : E.fn 210 = some Fn.f_haulagelaw05_ValueNumbers) (k : Nat) (hlv : ∀ m, denF E (k + 399) 25 [] m = some (.ret (.p (.bool true)), m)) {x0 x1 : PV} (c0 : Conf (.int .i64) x0) (c1 : Conf .str x1) (m : Mem) :
    denF E (k + 400) 210 [.p x0, .p x1] m = some (.ret (.p (.bool true)), m) := by
  simp only [Conf] at c0 c1
  obtain ⟨n, rfl, n1, n2⟩ := c0
  obtain ⟨s, rfl, _⟩ := c1
  have e1 : IntKind.i64.min = -9223372036854775808 := rfl
  have e2 : IntKind.i64.max = 9223372036854775807 := rfl
  rw [e1] at n1
  rw [e2] at n2
  have n1' : -9223372036854775808 ≤ n := n1
  have n2' : n ≤ 9223372036854775807 := n2
  rw [denF_pure h rfl]
  by_cases hs : (100 : Int) < s.length
  · simp (maxSteps := 1000000) [Fn.f_haulagelaw05_ValueNumbers, hlv, hs]
  obtain ⟨n', z, e, hN⟩ := numS_form5 s
  have hl := digits_64 n1' n2'
  have h1 := fun m => value_Number u.m s (by omega) (k + 398) (by omega) m
  have h2 := fun m => ref_Number u.m s (by omega) (k + 398) (by omega) m
  have h3 := fun m => value_Digits u.vdig (k + 374) n n1' n2' m
  have h4 := fun m => ref_Digits' u.rdig n n1' n2' (k + 377) m
  have h5 := fun m => value_Number u.m (digits n) (by omega) (k + 398) (by omega) m
  have h6 := numS_digits5 n1' n2' (t := []) (by intro c hc; cases hc)
  rw [List.append_nil] at h6
  rw [hN] at h1 h2
  rw [h6] at h5
  unfold numT at *
  generalize digits n = D at *
  simp (maxSteps := 4000000) [Fn.f_haulagelaw05_ValueNumbers, hlv, hs, h1, h2, h3, h4, h5]
end Hx
