/-
  HxU06h: the type that a text begins with, as both the program and the document read it.
-/
import Derived.Test.YtompbjamfhkgfaaDoorHxU06g
import Derived.Test.YtompbjamfhkgfaaDoorHxU05d
namespace Hx
open Go
set_option linter.unusedSimpArgs false
set_option linter.unusedVariables false
set_option maxHeartbeats 8000000
variable {E : Env}
attribute [-simp] List.getD_eq_getElem?_getD getElem?_pos
theorem list_beq_comm (a b : List UInt8) : (a == b) = (b == a) := by
  rw [Bool.eq_iff_iff]
  simp only [beq_iff_eq]
  exact ⟨fun h => h.symm, fun h => h.symm⟩
theorem head_drop (s : List UInt8) (n : Nat) (c : UInt8) : ((s.drop n).head? == some c) = decide (s[n]? = some c) := by
  rw [Bool.eq_iff_iff, List.head?_drop]
  simp
/-- What the reading says, by cases. -/
theorem readT_cases (s : List UInt8) (Q : Prop) {n : Nat} (hn : nameLen s = n) {kd : Int} (hk : kindW (s.take n) = kd) {v e : Int} {z : Nat} (hN : numS (s.drop (n + 1)) = numT v z e)
    (q1 : kd = 1 ∨ kd = 2 → readT s = rT kd 0 n 0 → Q)
    (q0 : ¬ (kd = 1 ∨ kd = 2) → kd = 0 → readT s = rT 0 0 0 5 → Q)
    (q2 : ¬ (kd = 1 ∨ kd = 2) → kd ≠ 0 → s[n]? ≠ some 40 → readT s = rT 0 0 0 5 → Q)
    (q3 : ¬ (kd = 1 ∨ kd = 2) → kd ≠ 0 → s[n]? = some 40 → e ≠ 0 → readT s = rT 0 0 0 e → Q)
    (q4 : ¬ (kd = 1 ∨ kd = 2) → kd ≠ 0 → s[n]? = some 40 → e = 0 → s[n + 1 + z]? ≠ some 41 → readT s = rT 0 0 0 5 → Q)
    (q5 : ¬ (kd = 1 ∨ kd = 2) → kd ≠ 0 → s[n]? = some 40 → e = 0 → s[n + 1 + z]? = some 41 → (v < 1 ∨ 120 < v) → readT s = rT 0 0 0 10 → Q)
    (q6 : ¬ (kd = 1 ∨ kd = 2) → kd ≠ 0 → s[n]? = some 40 → e = 0 → s[n + 1 + z]? = some 41 → ¬ (v < 1 ∨ 120 < v) → readT s = rT kd v (n + 1 + z + 1) 0 → Q) : Q := by
  have hr : readT s = if kd = 1 ∨ kd = 2 then rT kd 0 n 0 else if kd = 0 ∨ s[n]? ≠ some 40 then rT 0 0 0 5 else if e ≠ 0 then rT 0 0 0 e
      else if s[n + 1 + z]? ≠ some 41 then rT 0 0 0 5 else if v < 1 ∨ 120 < v then rT 0 0 0 10 else rT kd v (n + 1 + z + 1) 0 := by
    unfold readT
    rw [hn, hk, hN]
    have e1 : nE (numT v z e) = e := rfl
    have e2 : nS (numT v z e) = z := rfl
    have e3 : nN (numT v z e) = v := rfl
    rw [e1, e2, e3, Int.toNat_natCast]
  by_cases h1 : kd = 1 ∨ kd = 2
  · exact q1 h1 (by rw [hr, if_pos h1])
  rw [if_neg h1] at hr
  by_cases h0 : kd = 0
  · exact q0 h1 h0 (by rw [hr, if_pos (.inl h0)])
  by_cases h2 : s[n]? = some 40
  · rw [if_neg (fun h => h.elim h0 (fun g => g h2))] at hr
    by_cases h3 : e = 0
    · rw [if_neg (by simpa using h3)] at hr
      by_cases h4 : s[n + 1 + z]? = some 41
      · rw [if_neg (by simpa using h4)] at hr
        by_cases h5 : v < 1 ∨ 120 < v
        · exact q5 h1 h0 h2 h3 h4 h5 (by rw [hr, if_pos h5])
        · exact q6 h1 h0 h2 h3 h4 h5 (by rw [hr, if_neg h5])
      · exact q4 h1 h0 h2 h3 h4 (by rw [hr, if_pos h4])
    · exact q3 h1 h0 h2 h3 (by rw [hr, if_pos h3])
  · exact q2 h1 h0 h2 (by rw [hr, if_pos (.inr h2)])
theorem typ_Read (u : X06 E) (s : List UInt8) (hs : (s.length : Int) ≤ 1000000000) (k : Nat) (hk : s.length + 40 ≤ k) (m : Mem) : denF E (k + 1) 89 [.p (.str s)] m = some (.ret (readT s), m) := by
  refine denF_wp u.read rfl (args' := [.p (.str s)]) rfl ?_
  obtain ⟨j, rfl⟩ : ∃ j, k = j + 2 := ⟨k - 2, by omega⟩
  have hA := fun m => name_Read u.n04 s (by omega) (j + 1) (by omega) m
  have hn := nameLen_le s
  obtain ⟨n, hnn⟩ : ∃ n, nameLen s = n := ⟨_, rfl⟩
  rw [hnn] at hA hn
  have hB := fun m => typ_kindOf u (j + 1) (by omega) (s.take n) m
  obtain ⟨kd, hkd⟩ : ∃ kd, kindW (s.take n) = kd := ⟨_, rfl⟩
  rw [hkd] at hB
  have hC := fun m => has_prefix1 u.m05 j (s.drop n) 40 m
  rw [head_drop] at hC
  obtain ⟨v, e, z, hN, hz⟩ := numS_form (s.drop (n + 1))
  have hD := fun m => value_Number u.m05 (s.drop (n + 1)) (by rw [List.length_drop]; omega) (j + 1) (by rw [List.length_drop]; omega) m
  rw [hN] at hD
  rw [List.length_drop] at hz
  have hF := fun m => has_prefix1 u.m05 j (s.drop (n + 1 + z)) 41 m
  rw [head_drop] at hF
  have w1 : IntKind.i64.wrap ((n : Int) + 1) = n + 1 := wrap_i64 (by omega) (by omega)
  have t1 : ((n : Int) + 1).toNat = n + 1 := by omega
  have p1 : (0 : Int) ≤ (n : Int) + 1 := by omega
  unfold numT at hD
  refine readT_cases s _ hnn hkd hN ?_ ?_ ?_ ?_ ?_ ?_ ?_
  · intro h1 hr
    rw [hr]
    rcases h1 with rfl | rfl
    · simp (maxSteps := 1000000) [Fn.f_typ_Read, hA, hB, hn, bounds, asNat, asInt, rT, tP]
    · simp (maxSteps := 1000000) [Fn.f_typ_Read, hA, hB, hn, bounds, asNat, asInt, rT, tP]
  · intro h1 h0 hr
    rw [hr]
    subst h0
    simp (maxSteps := 1000000) [Fn.f_typ_Read, hA, hB, hn, bounds, asNat, asInt, rT, tP]
  all_goals
    intro h1 h0
    have b1 : (kd == 1) = false := by simp; omega
    have b2 : (kd == 2) = false := by simp; omega
    have b0 : (kd == 0) = false := by simpa using h0
  · intro h2 hr
    rw [hr]
    rw [decide_eq_false h2] at hC
    simp (maxSteps := 1000000) [Fn.f_typ_Read, hA, hB, hn, bounds, asNat, asInt, b0, b1, b2, hC, rT, tP]
  all_goals
    intro h2
    have hlt : n < s.length := (List.getElem?_eq_some_iff.1 h2).1
    have hlt' : n + 1 ≤ s.length := hlt
    have hz2 : n + 1 + z ≤ s.length := by omega
    have w2 : IntKind.i64.wrap ((n : Int) + 1 + z) = n + 1 + z := wrap_i64 (by omega) (by omega)
    have t2 : ((n : Int) + 1 + z).toNat = n + 1 + z := by omega
    have p2 : (0 : Int) ≤ (n : Int) + 1 + z := by omega
    have w3 : IntKind.i64.wrap ((n : Int) + 1 + z + 1) = n + 1 + z + 1 := wrap_i64 (by omega) (by omega)
    rw [decide_eq_true h2] at hC
  · intro h3 hr
    rw [hr]
    have e0 : (e == 0) = false := by simpa using h3
    simp (maxSteps := 1000000) [Fn.f_typ_Read, hA, hB, hn, bounds, asNat, asInt, b0, b1, b2, hC, w1, t1, p1, hlt', hD, e0, bne, rT, tP]
  all_goals
    intro h3
    subst h3
  · intro h4 hr
    rw [hr]
    rw [decide_eq_false h4] at hF
    simp (maxSteps := 1000000) [Fn.f_typ_Read, hA, hB, hn, bounds, asNat, asInt, b0, b1, b2, hC, w1, t1, p1, hlt', hD, w2, t2, p2, hz2, hF, bne, rT, tP]
  · intro h4 h5 hr
    rw [hr]
    rw [decide_eq_true h4] at hF
    by_cases g1 : v < 1
    · simp (maxSteps := 1000000) [Fn.f_typ_Read, hA, hB, hn, bounds, asNat, asInt, b0, b1, b2, hC, w1, t1, p1, hlt', hD, w2, t2, p2, hz2, hF, bne, rT, tP, g1]
    · have g2 : 120 < v := by omega
      simp (maxSteps := 1000000) [Fn.f_typ_Read, hA, hB, hn, bounds, asNat, asInt, b0, b1, b2, hC, w1, t1, p1, hlt', hD, w2, t2, p2, hz2, hF, bne, rT, tP, g1, g2]
  · intro h4 h5 hr
    rw [hr]
    rw [decide_eq_true h4] at hF
    have g1 : ¬ v < 1 := by omega
    have g2 : ¬ 120 < v := by omega
    simp (maxSteps := 1000000) [Fn.f_typ_Read, hA, hB, hn, bounds, asNat, asInt, b0, b1, b2, hC, w1, t1, p1, hlt', hD, w2, t2, p2, hz2, hF, bne, rT, tP, g1, g2, w3]
end Hx
