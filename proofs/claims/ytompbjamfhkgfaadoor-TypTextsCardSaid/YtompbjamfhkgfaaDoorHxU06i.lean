/-
  HxU06i: the document's reading of a type; whole texts; types written.
-/
import Derived.Test.YtompbjamfhkgfaaDoorHxU06h
namespace Hx
open Go
set_option linter.unusedSimpArgs false
set_option linter.unusedVariables false
set_option maxHeartbeats 8000000
variable {E : Env}
attribute [-simp] List.getD_eq_getElem?_getD getElem?_pos
def NumOk (E : Env) : Prop := ∀ (s : List UInt8), (s.length : Int) ≤ 1000000000 → ∀ (k : Nat), s.length + 30 ≤ k → ∀ m : Mem, denF E (k + 1) 38 [.p (.str s)] m = some (.ret (numS s), m)
/-- Which word a text is. -/
theorem kindW_cases (s : List UInt8) (Q : Prop) (q1 : (s == [105, 110, 116]) = true → kindW s = 1 → Q) (q2 : (s == [105, 110, 116]) = false → (s == [108, 111, 110, 103]) = true → kindW s = 2 → Q)
    (q3 : (s == [105, 110, 116]) = false → (s == [108, 111, 110, 103]) = false → (s == [116, 101, 120, 116]) = true → kindW s = 3 → Q)
    (q4 : (s == [105, 110, 116]) = false → (s == [108, 111, 110, 103]) = false → (s == [116, 101, 120, 116]) = false → (s == [98, 121, 116, 101, 115]) = true → kindW s = 4 → Q)
    (q5 : (s == [105, 110, 116]) = false → (s == [108, 111, 110, 103]) = false → (s == [116, 101, 120, 116]) = false → (s == [98, 121, 116, 101, 115]) = false → kindW s = 0 → Q) : Q := by
  have e1 : (wInt == s) = (s == [105, 110, 116]) := list_beq_comm _ _
  have e2 : (wLong == s) = (s == [108, 111, 110, 103]) := list_beq_comm _ _
  have e3 : (wText == s) = (s == [116, 101, 120, 116]) := list_beq_comm _ _
  have e4 : (wBytes == s) = (s == [98, 121, 116, 101, 115]) := list_beq_comm _ _
  have hk : kindW s = if (s == [105, 110, 116]) then 1 else if (s == [108, 111, 110, 103]) then 2 else if (s == [116, 101, 120, 116]) then 3 else if (s == [98, 121, 116, 101, 115]) then 4 else 0 := by
    unfold kindW
    rw [e1, e2, e3, e4]
  cases h1 : (s == [105, 110, 116]) with
  | true => exact q1 h1 (by rw [hk, h1]; rfl)
  | false =>
    cases h2 : (s == [108, 111, 110, 103]) with
    | true => exact q2 h1 h2 (by rw [hk, h1, h2]; rfl)
    | false =>
      cases h3 : (s == [116, 101, 120, 116]) with
      | true => exact q3 h1 h2 h3 (by rw [hk, h1, h2, h3]; rfl)
      | false =>
        cases h4 : (s == [98, 121, 116, 101, 115]) with
        | true => exact q4 h1 h2 h3 h4 (by rw [hk, h1, h2, h3, h4]; rfl)
        | false => exact q5 h1 h2 h3 h4 (by rw [hk, h1, h2, h3, h4]; rfl)
theorem ref_TRead (u : X06 E) (hNum : NumOk E) (s : List UInt8) (hs : (s.length : Int) ≤ 1000000000) (k : Nat) (hk : s.length + 40 ≤ k) (m : Mem) : denF E (k + 1) 90 [.p (.str s)] m = some (.ret (readT s), m) := by
  refine denF_wp u.rread rfl (args' := [.p (.str s)]) rfl ?_
  obtain ⟨j, rfl⟩ : ∃ j, k = j + 2 := ⟨k - 2, by omega⟩
  have hA := fun m => ref_NRead u.n04 s (by omega) (j + 1) (by omega) m
  have hn := nameLen_le s
  obtain ⟨n, hnn⟩ : ∃ n, nameLen s = n := ⟨_, rfl⟩
  rw [hnn] at hA hn
  obtain ⟨v, e, z, hN, hz⟩ := numS_form (s.drop (n + 1))
  have hD := fun m => hNum (s.drop (n + 1)) (by rw [List.length_drop]; omega) (j + 1) (by rw [List.length_drop]; omega) m
  rw [hN] at hD
  rw [List.length_drop] at hz
  have w1 : IntKind.i64.wrap ((n : Int) + 1) = n + 1 := wrap_i64 (by omega) (by omega)
  have t1 : ((n : Int) + 1).toNat = n + 1 := by omega
  have p1 : (0 : Int) ≤ (n : Int) + 1 := by omega
  unfold numT at hD
  have main : ∀ kd : Int, (kd = 3 ∨ kd = 4) → kindW (s.take n) = kd → (s.take n == [105, 110, 116]) = false → (s.take n == [108, 111, 110, 103]) = false → (s.take n == [116, 101, 120, 116]) = decide (kd = 3) → (s.take n == [98, 121, 116, 101, 115]) = decide (kd = 4) →
      Wp (den E (denF E (j + 2)) (j + 2) Fn.f_haulageref06_Read.body ⟨[.p (.str s)] ++ List.replicate (Fn.f_haulageref06_Read.ntmps - [AV.p (PV.str s)].length) (.tup []), [], []⟩)
        (fun e st => ∃ out1 m1, leave Fn.f_haulageref06_Read (some (e, st)) = some (out1, m1) ∧ stripOut out1 = some (.ret (readT s))) := by
    intro kd hkd hk a1 a2 a3 a4
    have fin : ∀ (q : AV), readT s = q → Wp (den E (denF E (j + 2)) (j + 2) Fn.f_haulageref06_Read.body ⟨[.p (.str s)] ++ List.replicate (Fn.f_haulageref06_Read.ntmps - [AV.p (PV.str s)].length) (.tup []), [], []⟩)
        (fun e st => ∃ out1 m1, leave Fn.f_haulageref06_Read (some (e, st)) = some (out1, m1) ∧ stripOut out1 = some (.ret q)) → Wp (den E (denF E (j + 2)) (j + 2) Fn.f_haulageref06_Read.body ⟨[.p (.str s)] ++ List.replicate (Fn.f_haulageref06_Read.ntmps - [AV.p (PV.str s)].length) (.tup []), [], []⟩)
        (fun e st => ∃ out1 m1, leave Fn.f_haulageref06_Read (some (e, st)) = some (out1, m1) ∧ stripOut out1 = some (.ret (readT s))) := by
      intro q h1 h2
      rw [h1]
      exact h2
    refine readT_cases s _ hnn hk hN ?_ ?_ ?_ ?_ ?_ ?_ ?_
    · intro h1 _; omega
    · intro h1 h0 _; omega
    · intro _ _ h2 hr
      refine fin _ hr ?_
      clear fin hr
      by_cases hlt : n < s.length
      · obtain ⟨c, hc⟩ : ∃ c, s[n]? = some c := ⟨_, List.getElem?_eq_getElem hlt⟩
        have hlt' : ¬ (s.length : Int) ≤ n := by omega
        have hc40 : ((c.toNat : Int) == 40) = false := by
          have : c ≠ 40 := by rintro rfl; exact h2 hc
          have e : (c == 40) = ((c.toNat : Int) == 40) := u8_beq
          rw [← e]
          simpa using this
        rcases hkd with rfl | rfl <;> simp (maxSteps := 1000000) [Fn.f_haulageref06_Read, hA, hn, bounds, asNat, asInt, a1, a2, a3, a4, hc, hc40, hlt', bne, rT, tP]
      · have hlt' : (s.length : Int) ≤ n := by omega
        rcases hkd with rfl | rfl <;> simp (maxSteps := 1000000) [Fn.f_haulageref06_Read, hA, hn, bounds, asNat, asInt, a1, a2, a3, a4, hlt', bne, rT, tP]
    all_goals
      intro _ _ h2
      have hlt : n < s.length := (List.getElem?_eq_some_iff.1 h2).1
      have hlt' : n + 1 ≤ s.length := hlt
      have hlt2 : ¬ (s.length : Int) ≤ n := by omega
      have hz2 : n + 1 + z ≤ s.length := by omega
      have w2 : IntKind.i64.wrap ((n : Int) + 1 + z) = n + 1 + z := wrap_i64 (by omega) (by omega)
      have t2 : ((n : Int) + 1 + z).toNat = n + 1 + z := by omega
      have p2 : (0 : Int) ≤ (n : Int) + 1 + z := by omega
      have w3 : IntKind.i64.wrap ((n : Int) + 1 + z + 1) = n + 1 + z + 1 := wrap_i64 (by omega) (by omega)
      have e40 : ((40 : UInt8).toNat : Int) = 40 := rfl
    · intro h3 hr
      refine fin _ hr ?_
      clear fin hr
      have e0 : (e == 0) = false := by simpa using h3
      rcases hkd with rfl | rfl <;> simp (maxSteps := 1000000) [Fn.f_haulageref06_Read, hA, hn, bounds, asNat, asInt, a1, a2, a3, a4, h2, hlt2, e40, w1, t1, p1, hlt', hD, e0, bne, rT, tP]
    all_goals
      intro h3
      subst h3
    · intro h4 hr
      refine fin _ hr ?_
      clear fin hr
      by_cases hl4 : n + 1 + z < s.length
      · obtain ⟨c, hc⟩ : ∃ c, s[n + 1 + z]? = some c := ⟨_, List.getElem?_eq_getElem hl4⟩
        have hl4' : ¬ (s.length : Int) ≤ n + 1 + z := by omega
        have hc41 : ((c.toNat : Int) == 41) = false := by
          have : c ≠ 41 := by rintro rfl; exact h4 hc
          have e : (c == 41) = ((c.toNat : Int) == 41) := u8_beq
          rw [← e]
          simpa using this
        rcases hkd with rfl | rfl <;> simp (maxSteps := 1000000) [Fn.f_haulageref06_Read, hA, hn, bounds, asNat, asInt, a1, a2, a3, a4, h2, hlt2, e40, w1, t1, p1, hlt', hD, w2, t2, p2, hc, hc41, hl4', bne, rT, tP]
      · have hl4' : (s.length : Int) ≤ n + 1 + z := by omega
        rcases hkd with rfl | rfl <;> simp (maxSteps := 1000000) [Fn.f_haulageref06_Read, hA, hn, bounds, asNat, asInt, a1, a2, a3, a4, h2, hlt2, e40, w1, t1, p1, hlt', hD, w2, t2, p2, hl4', bne, rT, tP]
    all_goals
      intro h4
      have hl4 : n + 1 + z < s.length := (List.getElem?_eq_some_iff.1 h4).1
      have hl4' : ¬ (s.length : Int) ≤ n + 1 + z := by omega
      have e41 : ((41 : UInt8).toNat : Int) = 41 := rfl
    · intro h5 hr
      refine fin _ hr ?_
      clear fin hr
      by_cases g1 : v < 1
      · rcases hkd with rfl | rfl <;> simp (maxSteps := 1000000) [Fn.f_haulageref06_Read, hA, hn, bounds, asNat, asInt, a1, a2, a3, a4, h2, hlt2, e40, w1, t1, p1, hlt', hD, w2, t2, p2, h4, e41, hl4', bne, rT, tP, g1]
      · have g2 : 120 < v := by omega
        rcases hkd with rfl | rfl <;> simp (maxSteps := 1000000) [Fn.f_haulageref06_Read, hA, hn, bounds, asNat, asInt, a1, a2, a3, a4, h2, hlt2, e40, w1, t1, p1, hlt', hD, w2, t2, p2, h4, e41, hl4', bne, rT, tP, g1, g2]
    · intro h5 hr
      refine fin _ hr ?_
      clear fin hr
      have g1 : ¬ v < 1 := by omega
      have g2 : ¬ 120 < v := by omega
      rcases hkd with rfl | rfl <;> simp (maxSteps := 1000000) [Fn.f_haulageref06_Read, hA, hn, bounds, asNat, asInt, a1, a2, a3, a4, h2, hlt2, e40, w1, t1, p1, hlt', hD, w2, t2, p2, h4, e41, hl4', bne, rT, tP, g1, g2, w3]
  refine kindW_cases (s.take n) _ ?_ ?_ ?_ ?_ ?_
  · intro a1 hk
    have hr : readT s = rT 1 0 n 0 := by unfold readT; rw [hnn, hk, if_pos (.inl rfl)]
    rw [hr]
    simp (maxSteps := 1000000) [Fn.f_haulageref06_Read, hA, hn, bounds, asNat, asInt, a1, rT, tP]
  · intro a1 a2 hk
    have hr : readT s = rT 2 0 n 0 := by unfold readT; rw [hnn, hk, if_pos (.inr rfl)]
    rw [hr]
    simp (maxSteps := 1000000) [Fn.f_haulageref06_Read, hA, hn, bounds, asNat, asInt, a1, a2, rT, tP]
  · intro a1 a2 a3 hk
    refine main 3 (.inl rfl) hk a1 a2 a3 ?_
    rw [beq_iff_eq.1 a3]
    rfl
  · intro a1 a2 a3 a4 hk
    exact main 4 (.inr rfl) hk a1 a2 a3 a4
  · intro a1 a2 a3 a4 hk
    have hr : readT s = rT 0 0 0 5 := by unfold readT; rw [hnn, hk, if_neg (by omega), if_pos (.inl rfl)]
    rw [hr]
    simp (maxSteps := 1000000) [Fn.f_haulageref06_Read, hA, hn, bounds, asNat, asInt, a1, a2, a3, a4, rT, tP]
end Hx
