/-
  HxTabS: a variable that is a table of texts.
-/
import Derived.Test.YtifcegbomagcpaaDoorHxU10p
import Derived.Test.YtifcegbomagcpaaDoorHxU05e
import Derived.Test.YtifcegbomagcpaaDoorHxRow
namespace Hx
open Go
set_option linter.unusedSimpArgs false
set_option linter.unusedVariables false
set_option maxHeartbeats 8000000
variable {E : Env}
attribute [-simp] List.getD_eq_getElem?_getD getElem?_pos
theorem list_beq_comm (a b : List UInt8) : (a == b) = (b == a) := by
  rw [Bool.eq_iff_iff]
  simp only [beq_iff_eq]
  exact ⟨fun h => h.symm, fun h => h.symm⟩
theorem head_drop (s : List UInt8) (n : Nat) (c : UInt8) : ((s.drop n).head? == some c) = decide (s[n]? = some c) := by
  rw [Bool.eq_iff_iff, List.head?_drop]
  simp
theorem readT_cases (s : List UInt8) (Q : Prop) {n : Nat} (hn : nameLen s = n) {kd : Int} (hk : kindW (s.take n) = kd) {v e : Int} {z : Nat} (hN : numS (s.drop (n + 1)) = numT v z e)
    (q1 : kd = 1 ∨ kd = 2 → readT s = rT kd 0 n 0 → Q)
    (q0 : ¬ (kd = 1 ∨ kd = 2) → kd = 0 → readT s = rT 0 0 0 5 → Q)
    (q2 : ¬ (kd = 1 ∨ kd = 2) → kd ≠ 0 → s[n]? ≠ some 40 → readT s = rT 0 0 0 5 → Q)
    (q3 : ¬ (kd = 1 ∨ kd = 2) → kd ≠ 0 → s[n]? = some 40 → e ≠ 0 → readT s = rT 0 0 0 e → Q)
    (q4 : ¬ (kd = 1 ∨ kd = 2) → kd ≠ 0 → s[n]? = some 40 → e = 0 → s[n + 1 + z]? ≠ some 41 → readT s = rT 0 0 0 5 → Q)
    (q5 : ¬ (kd = 1 ∨ kd = 2) → kd ≠ 0 → s[n]? = some 40 → e = 0 → s[n + 1 + z]? = some 41 → (v < 1 ∨ 120 < v) → readT s = rT 0 0 0 10 → Q)
    (q6 : ¬ (kd = 1 ∨ kd = 2) → kd ≠ 0 → s[n]? = some 40 → e = 0 → s[n + 1 + z]? = some 41 → ¬ (v < 1 ∨ 120 < v) → readT s = rT kd v (n + 1 + z + 1) 0 → Q) : Q := by
  have hr : readT s = if kd = 1 ∨ kd = 2 then rT kd 0 n 0 else if kd = 0 ∨ s[n]? ≠ some 40 then rT 0 0 0 5 else if e ≠ 0 then rT 0 0 0 e
      else if s[n + 1 + z]? ≠ some 41 then rT 0 0 0 5 else if v < 1 ∨ 120 < v then rT 0 0 0 10 else rT kd v (n + 1 + z + 1) 0 := by
    unfold readT
    rw [hn, hk, hN]
    have e1 : nE (numT v z e) = e := rfl
    have e2 : nS (numT v z e) = z := rfl
    have e3 : nN (numT v z e) = v := rfl
    rw [e1, e2, e3, Int.toNat_natCast]
  by_cases h1 : kd = 1 ∨ kd = 2
  · exact q1 h1 (by rw [hr, if_pos h1])
  rw [if_neg h1] at hr
  by_cases h0 : kd = 0
  · exact q0 h1 h0 (by rw [hr, if_pos (.inl h0)])
  by_cases h2 : s[n]? = some 40
  · rw [if_neg (fun h => h.elim h0 (fun g => g h2))] at hr
    by_cases h3 : e = 0
    · rw [if_neg (by simpa using h3)] at hr
      by_cases h4 : s[n + 1 + z]? = some 41
      · rw [if_neg (by simpa using h4)] at hr
        by_cases h5 : v < 1 ∨ 120 < v
        · exact q5 h1 h0 h2 h3 h4 h5 (by rw [hr, if_pos h5])
        · exact q6 h1 h0 h2 h3 h4 h5 (by rw [hr, if_neg h5])
      · exact q4 h1 h0 h2 h3 h4 (by rw [hr, if_pos h4])
    · exact q3 h1 h0 h2 h3 (by rw [hr, if_pos h3])
  · exact q2 h1 h0 h2 (by rw [hr, if_pos (.inr h2)])
theorem typ_Read (u : X06 E) (s : List UInt8) (hs : (s.length : Int) ≤ 1000000000) (k : Nat) (hk : s.length + 40 ≤ k) (m : Mem) : denF E (k + 1) 89 [.p (.str s)] m = some (.ret (readT s), m) := by
  refine denF_wp u.read rfl (args' := [.p (.str s)]) rfl ?_
  obtain ⟨j, rfl⟩ : ∃ j, k = j + 2 := ⟨k - 2, by omega⟩
  have hA := fun m => name_Read u.n04 s (by omega) (j + 1) (by omega) m
  have hn := nameLen_le s
  obtain ⟨n, hnn⟩ : ∃ n, nameLen s = n := ⟨_, rfl⟩
  rw [hnn] at hA hn
  have hB := fun m => typ_kindOf u (j + 1) (by omega) (s.take n) m
  obtain ⟨kd, hkd⟩ : ∃ kd, kindW (s.take n) = kd := ⟨_, rfl⟩
  rw [hkd] at hB
  have hC := fun m => has_prefix1 u.m05 j (s.drop n) 40 m
  rw [head_drop] at hC
  obtain ⟨v, e, z, hN, hz⟩ := numS_form (s.drop (n + 1))
  have hD := fun m => value_Number u.m05 (s.drop (n + 1)) (by rw [List.length_drop]; omega) (j + 1) (by rw [List.length_drop]; omega) m
  rw [hN] at hD
  rw [List.length_drop] at hz
  have hF := fun m => has_prefix1 u.m05 j (s.drop (n + 1 + z)) 41 m
  rw [head_drop] at hF
  have w1 : IntKind.i64.wrap ((n : Int) + 1) = n + 1 := wrap_i64 (by omega) (by omega)
  have t1 : ((n : Int) + 1).toNat = n + 1 := by omega
  have p1 : (0 : Int) ≤ (n : Int) + 1 := by omega
  unfold numT at hD
  refine readT_cases s _ hnn hkd hN ?_ ?_ ?_ ?_ ?_ ?_ ?_
  · intro h1 hr
    rw [hr]
    rcases h1 with rfl | rfl
    · simp (maxSteps := 1000000) [Fn.f_typ_Read, hA, hB, hn, bounds, asNat, asInt, rT, tP]
    · simp (maxSteps := 1000000) [Fn.f_typ_Read, hA, hB, hn, bounds, asNat, asInt, rT, tP]
  · intro h1 h0 hr
    rw [hr]
    subst h0
    simp (maxSteps := 1000000) [Fn.f_typ_Read, hA, hB, hn, bounds, asNat, asInt, rT, tP]
  all_goals
    intro h1 h0
    have b1 : (kd == 1) = false := by simp; omega
    have b2 : (kd == 2) = false := by simp; omega
    have b0 : (kd == 0) = false := by simpa using h0
  · intro h2 hr
    rw [hr]
    rw [decide_eq_false h2] at hC
    simp (maxSteps := 1000000) [Fn.f_typ_Read, hA, hB, hn, bounds, asNat, asInt, b0, b1, b2, hC, rT, tP]
  all_goals
    intro h2
    have hlt : n < s.length := (List.getElem?_eq_some_iff.1 h2).1
    have hlt' : n + 1 ≤ s.length := hlt
    have hz2 : n + 1 + z ≤ s.length := by omega
    have w2 : IntKind.i64.wrap ((n : Int) + 1 + z) = n + 1 + z := wrap_i64 (by omega) (by omega)
    have t2 : ((n : Int) + 1 + z).toNat = n + 1 + z := by omega
    have p2 : (0 : Int) ≤ (n : Int) + 1 + z := by omega
    have w3 : IntKind.i64.wrap ((n : Int) + 1 + z + 1) = n + 1 + z + 1 := wrap_i64 (by omega) (by omega)
    rw [decide_eq_true h2] at hC
  · intro h3 hr
    rw [hr]
    have e0 : (e == 0) = false := by simpa using h3
    simp (maxSteps := 1000000) [Fn.f_typ_Read, hA, hB, hn, bounds, asNat, asInt, b0, b1, b2, hC, w1, t1, p1, hlt', hD, e0, bne, rT, tP]
  all_goals
    intro h3
    subst h3
  · intro h4 hr
    rw [hr]
    rw [decide_eq_false h4] at hF
    simp (maxSteps := 1000000) [Fn.f_typ_Read, hA, hB, hn, bounds, asNat, asInt, b0, b1, b2, hC, w1, t1, p1, hlt', hD, w2, t2, p2, hz2, hF, bne, rT, tP]
  · intro h4 h5 hr
    rw [hr]
    rw [decide_eq_true h4] at hF
    by_cases g1 : v < 1
    · simp (maxSteps := 1000000) [Fn.f_typ_Read, hA, hB, hn, bounds, asNat, asInt, b0, b1, b2, hC, w1, t1, p1, hlt', hD, w2, t2, p2, hz2, hF, bne, rT, tP, g1]
    · have g2 : 120 < v := by omega
      simp (maxSteps := 1000000) [Fn.f_typ_Read, hA, hB, hn, bounds, asNat, asInt, b0, b1, b2, hC, w1, t1, p1, hlt', hD, w2, t2, p2, hz2, hF, bne, rT, tP, g1, g2]
  · intro h4 h5 hr
    rw [hr]
    rw [decide_eq_true h4] at hF
    have g1 : ¬ v < 1 := by omega
    have g2 : ¬ 120 < v := by omega
    simp (maxSteps := 1000000) [Fn.f_typ_Read, hA, hB, hn, bounds, asNat, asInt, b0, b1, b2, hC, w1, t1, p1, hlt', hD, w2, t2, p2, hz2, hF, bne, rT, tP, g1, g2, w3]
end Hx

namespace Hx
open Go
set_option linter.unusedSimpArgs false
set_option linter.unusedVariables false
set_option maxHeartbeats 8000000
variable {E : Env}
attribute [-simp] List.getD_eq_getElem?_getD getElem?_pos
def NumOk (E : Env) : Prop := ∀ (s : List UInt8), (s.length : Int) ≤ 1000000000 → ∀ (k : Nat), s.length + 30 ≤ k → ∀ m : Mem, denF E (k + 1) 38 [.p (.str s)] m = some (.ret (numS s), m)
theorem kindW_cases (s : List UInt8) (Q : Prop) (q1 : (s == [105, 110, 116]) = true → kindW s = 1 → Q) (q2 : (s == [105, 110, 116]) = false → (s == [108, 111, 110, 103]) = true → kindW s = 2 → Q)
    (q3 : (s == [105, 110, 116]) = false → (s == [108, 111, 110, 103]) = false → (s == [116, 101, 120, 116]) = true → kindW s = 3 → Q)
    (q4 : (s == [105, 110, 116]) = false → (s == [108, 111, 110, 103]) = false → (s == [116, 101, 120, 116]) = false → (s == [98, 121, 116, 101, 115]) = true → kindW s = 4 → Q)
    (q5 : (s == [105, 110, 116]) = false → (s == [108, 111, 110, 103]) = false → (s == [116, 101, 120, 116]) = false → (s == [98, 121, 116, 101, 115]) = false → kindW s = 0 → Q) : Q := by
  have e1 : (wInt == s) = (s == [105, 110, 116]) := list_beq_comm _ _
  have e2 : (wLong == s) = (s == [108, 111, 110, 103]) := list_beq_comm _ _
  have e3 : (wText == s) = (s == [116, 101, 120, 116]) := list_beq_comm _ _
  have e4 : (wBytes == s) = (s == [98, 121, 116, 101, 115]) := list_beq_comm _ _
  have hk : kindW s = if (s == [105, 110, 116]) then 1 else if (s == [108, 111, 110, 103]) then 2 else if (s == [116, 101, 120, 116]) then 3 else if (s == [98, 121, 116, 101, 115]) then 4 else 0 := by
    unfold kindW
    rw [e1, e2, e3, e4]
  cases h1 : (s == [105, 110, 116]) with
  | true => exact q1 h1 (by rw [hk, h1]; rfl)
  | false =>
    cases h2 : (s == [108, 111, 110, 103]) with
    | true => exact q2 h1 h2 (by rw [hk, h1, h2]; rfl)
    | false =>
      cases h3 : (s == [116, 101, 120, 116]) with
      | true => exact q3 h1 h2 h3 (by rw [hk, h1, h2, h3]; rfl)
      | false =>
        cases h4 : (s == [98, 121, 116, 101, 115]) with
        | true => exact q4 h1 h2 h3 h4 (by rw [hk, h1, h2, h3, h4]; rfl)
        | false => exact q5 h1 h2 h3 h4 (by rw [hk, h1, h2, h3, h4]; rfl)
theorem ref_TRead (u : X06 E) (h90 : E.fn 90 = some Fn.f_haulageref06_Read) (hNum : NumOk E) (s : List UInt8) (hs : (s.length : Int) ≤ 1000000000) (k : Nat) (hk : s.length + 40 ≤ k) (m : Mem) : denF E (k + 1) 90 [.p (.str s)] m = some (.ret (readT s), m) := by
  refine denF_wp h90 rfl (args' := [.p (.str s)]) rfl ?_
  obtain ⟨j, rfl⟩ : ∃ j, k = j + 2 := ⟨k - 2, by omega⟩
  have hA := fun m => ref_NRead u.n04 s (by omega) (j + 1) (by omega) m
  have hn := nameLen_le s
  obtain ⟨n, hnn⟩ : ∃ n, nameLen s = n := ⟨_, rfl⟩
  rw [hnn] at hA hn
  obtain ⟨v, e, z, hN, hz⟩ := numS_form (s.drop (n + 1))
  have hD := fun m => hNum (s.drop (n + 1)) (by rw [List.length_drop]; omega) (j + 1) (by rw [List.length_drop]; omega) m
  rw [hN] at hD
  rw [List.length_drop] at hz
  have w1 : IntKind.i64.wrap ((n : Int) + 1) = n + 1 := wrap_i64 (by omega) (by omega)
  have t1 : ((n : Int) + 1).toNat = n + 1 := by omega
  have p1 : (0 : Int) ≤ (n : Int) + 1 := by omega
  unfold numT at hD
  have main : ∀ kd : Int, (kd = 3 ∨ kd = 4) → kindW (s.take n) = kd → (s.take n == [105, 110, 116]) = false → (s.take n == [108, 111, 110, 103]) = false → (s.take n == [116, 101, 120, 116]) = decide (kd = 3) → (s.take n == [98, 121, 116, 101, 115]) = decide (kd = 4) →
      Wp (den E (denF E (j + 2)) (j + 2) Fn.f_haulageref06_Read.body ⟨[.p (.str s)] ++ List.replicate (Fn.f_haulageref06_Read.ntmps - [AV.p (PV.str s)].length) (.tup []), [], []⟩)
        (fun e st => ∃ out1 m1, leave Fn.f_haulageref06_Read (some (e, st)) = some (out1, m1) ∧ stripOut out1 = some (.ret (readT s))) := by
    intro kd hkd hk a1 a2 a3 a4
    have fin : ∀ (q : AV), readT s = q → Wp (den E (denF E (j + 2)) (j + 2) Fn.f_haulageref06_Read.body ⟨[.p (.str s)] ++ List.replicate (Fn.f_haulageref06_Read.ntmps - [AV.p (PV.str s)].length) (.tup []), [], []⟩)
        (fun e st => ∃ out1 m1, leave Fn.f_haulageref06_Read (some (e, st)) = some (out1, m1) ∧ stripOut out1 = some (.ret q)) → Wp (den E (denF E (j + 2)) (j + 2) Fn.f_haulageref06_Read.body ⟨[.p (.str s)] ++ List.replicate (Fn.f_haulageref06_Read.ntmps - [AV.p (PV.str s)].length) (.tup []), [], []⟩)
        (fun e st => ∃ out1 m1, leave Fn.f_haulageref06_Read (some (e, st)) = some (out1, m1) ∧ stripOut out1 = some (.ret (readT s))) := by
      intro q h1 h2
      rw [h1]
      exact h2
    refine readT_cases s _ hnn hk hN ?_ ?_ ?_ ?_ ?_ ?_ ?_
    · intro h1 _; omega
    · intro h1 h0 _; omega
    · intro _ _ h2 hr
      refine fin _ hr ?_
      clear fin hr
      by_cases hlt : n < s.length
      · obtain ⟨c, hc⟩ : ∃ c, s[n]? = some c := ⟨_, List.getElem?_eq_getElem hlt⟩
        have hlt' : ¬ (s.length : Int) ≤ n := by omega
        have hc40 : ((c.toNat : Int) == 40) = false := by
          have : c ≠ 40 := by rintro rfl; exact h2 hc
          have e : (c == 40) = ((c.toNat : Int) == 40) := u8_beq
          rw [← e]
          simpa using this
        rcases hkd with rfl | rfl <;> simp (maxSteps := 1000000) [Fn.f_haulageref06_Read, hA, hn, bounds, asNat, asInt, a1, a2, a3, a4, hc, hc40, hlt', bne, rT, tP]
      · have hlt' : (s.length : Int) ≤ n := by omega
        rcases hkd with rfl | rfl <;> simp (maxSteps := 1000000) [Fn.f_haulageref06_Read, hA, hn, bounds, asNat, asInt, a1, a2, a3, a4, hlt', bne, rT, tP]
    all_goals
      intro _ _ h2
      have hlt : n < s.length := (List.getElem?_eq_some_iff.1 h2).1
      have hlt' : n + 1 ≤ s.length := hlt
      have hlt2 : ¬ (s.length : Int) ≤ n := by omega
      have hz2 : n + 1 + z ≤ s.length := by omega
      have w2 : IntKind.i64.wrap ((n : Int) + 1 + z) = n + 1 + z := wrap_i64 (by omega) (by omega)
      have t2 : ((n : Int) + 1 + z).toNat = n + 1 + z := by omega
      have p2 : (0 : Int) ≤ (n : Int) + 1 + z := by omega
      have w3 : IntKind.i64.wrap ((n : Int) + 1 + z + 1) = n + 1 + z + 1 := wrap_i64 (by omega) (by omega)
      have e40 : ((40 : UInt8).toNat : Int) = 40 := rfl
    · intro h3 hr
      refine fin _ hr ?_
      clear fin hr
      have e0 : (e == 0) = false := by simpa using h3
      rcases hkd with rfl | rfl <;> simp (maxSteps := 1000000) [Fn.f_haulageref06_Read, hA, hn, bounds, asNat, asInt, a1, a2, a3, a4, h2, hlt2, e40, w1, t1, p1, hlt', hD, e0, bne, rT, tP]
    all_goals
      intro h3
      subst h3
    · intro h4 hr
      refine fin _ hr ?_
      clear fin hr
      by_cases hl4 : n + 1 + z < s.length
      · obtain ⟨c, hc⟩ : ∃ c, s[n + 1 + z]? = some c := ⟨_, List.getElem?_eq_getElem hl4⟩
        have hl4' : ¬ (s.length : Int) ≤ n + 1 + z := by omega
        have hc41 : ((c.toNat : Int) == 41) = false := by
          have : c ≠ 41 := by rintro rfl; exact h4 hc
          have e : (c == 41) = ((c.toNat : Int) == 41) := u8_beq
          rw [← e]
          simpa using this
        rcases hkd with rfl | rfl <;> simp (maxSteps := 1000000) [Fn.f_haulageref06_Read, hA, hn, bounds, asNat, asInt, a1, a2, a3, a4, h2, hlt2, e40, w1, t1, p1, hlt', hD, w2, t2, p2, hc, hc41, hl4', bne, rT, tP]
      · have hl4' : (s.length : Int) ≤ n + 1 + z := by omega
        rcases hkd with rfl | rfl <;> simp (maxSteps := 1000000) [Fn.f_haulageref06_Read, hA, hn, bounds, asNat, asInt, a1, a2, a3, a4, h2, hlt2, e40, w1, t1, p1, hlt', hD, w2, t2, p2, hl4', bne, rT, tP]
    all_goals
      intro h4
      have hl4 : n + 1 + z < s.length := (List.getElem?_eq_some_iff.1 h4).1
      have hl4' : ¬ (s.length : Int) ≤ n + 1 + z := by omega
      have e41 : ((41 : UInt8).toNat : Int) = 41 := rfl
    · intro h5 hr
      refine fin _ hr ?_
      clear fin hr
      by_cases g1 : v < 1
      · rcases hkd with rfl | rfl <;> simp (maxSteps := 1000000) [Fn.f_haulageref06_Read, hA, hn, bounds, asNat, asInt, a1, a2, a3, a4, h2, hlt2, e40, w1, t1, p1, hlt', hD, w2, t2, p2, h4, e41, hl4', bne, rT, tP, g1]
      · have g2 : 120 < v := by omega
        rcases hkd with rfl | rfl <;> simp (maxSteps := 1000000) [Fn.f_haulageref06_Read, hA, hn, bounds, asNat, asInt, a1, a2, a3, a4, h2, hlt2, e40, w1, t1, p1, hlt', hD, w2, t2, p2, h4, e41, hl4', bne, rT, tP, g1, g2]
    · intro h5 hr
      refine fin _ hr ?_
      clear fin hr
      have g1 : ¬ v < 1 := by omega
      have g2 : ¬ 120 < v := by omega
      rcases hkd with rfl | rfl <;> simp (maxSteps := 1000000) [Fn.f_haulageref06_Read, hA, hn, bounds, asNat, asInt, a1, a2, a3, a4, h2, hlt2, e40, w1, t1, p1, hlt', hD, w2, t2, p2, h4, e41, hl4', bne, rT, tP, g1, g2, w3]
  refine kindW_cases (s.take n) _ ?_ ?_ ?_ ?_ ?_
  · intro a1 hk
    have hr : readT s = rT 1 0 n 0 := by unfold readT; rw [hnn, hk, if_pos (.inl rfl)]
    rw [hr]
    simp (maxSteps := 1000000) [Fn.f_haulageref06_Read, hA, hn, bounds, asNat, asInt, a1, rT, tP]
  · intro a1 a2 hk
    have hr : readT s = rT 2 0 n 0 := by unfold readT; rw [hnn, hk, if_pos (.inr rfl)]
    rw [hr]
    simp (maxSteps := 1000000) [Fn.f_haulageref06_Read, hA, hn, bounds, asNat, asInt, a1, a2, rT, tP]
  · intro a1 a2 a3 hk
    refine main 3 (.inl rfl) hk a1 a2 a3 ?_
    rw [beq_iff_eq.1 a3]
    rfl
  · intro a1 a2 a3 a4 hk
    exact main 4 (.inr rfl) hk a1 a2 a3 a4
  · intro a1 a2 a3 a4 hk
    have hr : readT s = rT 0 0 0 5 := by unfold readT; rw [hnn, hk, if_neg (by omega), if_pos (.inl rfl)]
    rw [hr]
    simp (maxSteps := 1000000) [Fn.f_haulageref06_Read, hA, hn, bounds, asNat, asInt, a1, a2, a3, a4, rT, tP]
end Hx

namespace Hx
open Go Go.RowKit
def strData {H : Type} (zs : List (List UInt8)) : DataW H := .agg (zs.map fun z => .lit (.string z))
def strV (z : List UInt8) : Value := .string ⟨z.toArray⟩
theorem cells_of_strs {H : Type} {enc : TypeId × Value → H} {P : Program} {w : World} {base : Nat} {sp : Nat → Bool} {held : Bool} {fuel : Nat} {t e : TypeId} {n : Nat} {cs : List Value} {zs : List (List UInt8)} {p : List MemPlace}
    (ht : P.underlying t = some (.array n e)) (he : P.underlying e = some .string) (hce : P.cellsOf e = 1) (hct : P.cellsOf t = n)
    (h : DataW.trod enc P w base sp held fuel t cs = some (strData zs, p)) : cs = zs.map strV := by
  cases fuel with
  | zero => simp [DataW.trod] at h
  | succ fuel =>
    simp only [DataW.trod, ht, hce, hct, Nat.mul_one] at h
    split at h
    · rename_i hl
      obtain ⟨xs, hm, hx⟩ := Option.map_eq_some_iff.1 h
      have hxs : xs.map (·.1) = zs.map fun z => (DataW.lit (.string z) : DataW H) := by
        have := congrArg Prod.fst hx
        simpa [strData] using this
      have hxl : xs.length = n := by simpa using Lib.mapM_length hm
      have hzl : zs.length = n := by
        have := congrArg List.length hxs
        simp at this
        omega
      apply List.ext_getElem?
      intro i
      by_cases hi : i < n
      · obtain ⟨b, hb, hf⟩ := Lib.mapM_at hm i i (by simp [hi])
        obtain ⟨z, hc, rfl, _⟩ := DataW.trod_string he hf
        have h1 : cs[i]? = some (.string z) := by
          have := congrArg (·[0]?) hc
          simpa [List.getElem?_take, List.getElem?_drop] using this
        have h2 : (xs.map (·.1))[i]? = some (DataW.lit (.string z.data.toList) : DataW H) := by simp [hb]
        rw [hxs] at h2
        simp only [List.getElem?_map, Option.map_eq_some_iff, DataW.lit.injEq, Lit.string.injEq] at h2
        obtain ⟨z', hz', hzz⟩ := h2
        subst hzz
        rw [h1, List.getElem?_map, hz']
        rfl
      · rw [List.getElem?_eq_none (by omega), List.getElem?_eq_none (by simp; omega)]
    · cases h
theorem strs_of {P : Program} {W : World} {name : String} {zs : List (List UInt8)} {rest : List (String × DataW Unit)} {g : Nat} {t e : TypeId} {n : Nat}
    (hg : P.globalNamed name = some g) (hty : (P.globals[g]?).map (·.type) = some t) (ht : P.underlying t = some (.array n e)) (he : P.underlying e = some .string) (hce : P.cellsOf e = 1) (hct : P.cellsOf t = n)
    (h : laidMet P ((name, strData zs) :: rest) W) : W.var? P name = some (zs.map strV).toArray := by
  obtain ⟨ps, ⟨g', t', cs, fuel, p, q, hg', ht', hvar, hd, _, _⟩, _⟩ := h
  obtain rfl := Option.some.inj (hg.symm.trans hg')
  obtain rfl := Option.some.inj (hty.symm.trans ht')
  rw [hvar, ← cells_of_strs ht he hce hct hd]
theorem gl_strs {F : Fix} {W : World} {name : String} {g : Nat} : ∀ {zs : List (List UInt8)} {n : Nat}, (∀ i, i < zs.length → W.cell? ⟨g, n + i, none⟩ = (zs.map strV)[i]?) → RPcells F (cx0 W) g n (zs.map .str)
  | [], n, _ => by simp [RPcells]
  | z :: zs, n, h => by
    simp only [List.map_cons, RPcells]
    have h0 := h 0 (by simp)
    simp only [Nat.add_zero, List.map_cons, List.getElem?_cons_zero] at h0
    refine ⟨⟨cx0_safe.2 ?_, rfl, _, h0, by simp [RP, strV]⟩, gl_strs (name := name) fun i hi => ?_⟩
    · simp only [World.cell?] at h0
      cases hh : W.heap[g]? with
      | none => rw [hh] at h0; cases h0
      | some o => exact (Array.getElem?_eq_some_iff.1 hh).1
    · have := h (i + 1) (by simpa using hi)
      rw [show n + 1 + i = n + (i + 1) by omega]
      simpa using this
end Hx
