/-
  HxU06v: right values.
-/
import Derived.Test.YtbdnghmmiobdcaaDoorHxU06b
namespace Hx
open Go
set_option linter.unusedSimpArgs false
set_option linter.unusedVariables false
set_option maxHeartbeats 4000000
variable {E : Env}
attribute [-simp] List.getD_eq_getElem?_getD getElem?_pos
structure V06 (E : Env) : Prop where
  r : R03 E
  f : F06 E
  vRight : E.fn 33 = some Fn.f_value_Right
  wRight : E.fn 34 = some Fn.f_haulageref05_Right
def rightV (k n : Int) (s : List UInt8) : Bool :=
  if k = 0 then (n == 0) && s.isEmpty else if k = 1 then fits32 n && s.isEmpty else if k = 2 then s.isEmpty
  else if k = 3 then (n == 0) && decide (s.length ≤ 120) && (signs s).isSome else if k = 4 then (n == 0) && decide (s.length ≤ 120) else false
def isI64 (n : Int) : Prop := -9223372036854775808 ≤ n ∧ n ≤ 9223372036854775807
theorem value_Right (u : V06 E) (a n : Int) (s : List UInt8) (hn : isI64 n) (hs : (s.length : Int) ≤ 1000000000000) (k : Nat) (hk : s.length + 41 ≤ k) (m : Mem) :
    denF E (k + 1) 33 [.p (vP a n s)] m = some (.ret (.p (.bool (rightV a n s))), m) := by
  refine denF_wp u.vRight rfl (args' := [.p (vP a n s)]) rfl ?_
  obtain ⟨j, rfl⟩ : ∃ j, k = j + 2 := ⟨k - 2, by omega⟩
  have hF := fun m => word_Fits u.f j n hn.1 hn.2 m
  have hU := fun m => utf_Right u.r s hs (j + 1) (by omega) m
  have hl : ∃ b : Bool, decide ((s.length : Int) ≤ 120) = b ∧ decide ((120 : Int) < s.length) = !b ∧ decide (s.length ≤ 120) = b := by
    by_cases h : s.length ≤ 120
    · exact ⟨true, by simp; omega, by simp; omega, by simp; omega⟩
    · exact ⟨false, by simp; omega, by simp; omega, by simp; omega⟩
  obtain ⟨b, hb1, hb2, hb3⟩ := hl
  have he : (s == []) = s.isEmpty := by cases s <;> rfl
  obtain ⟨z, hz⟩ : ∃ z, (n == 0) = z := ⟨_, rfl⟩
  obtain ⟨g, hg⟩ : ∃ g, (signs s).isSome = g := ⟨_, rfl⟩
  obtain ⟨f, hf⟩ : ∃ f, fits32 n = f := ⟨_, rfl⟩
  obtain ⟨e, hee⟩ : ∃ e, s.isEmpty = e := ⟨_, rfl⟩
  rw [hee] at he
  rw [hg] at hU
  rw [hf] at hF
  have hzf : z = true → f = true := by
    intro h
    rw [h] at hz
    have := beq_iff_eq.1 hz
    subst this
    rw [← hf]
    rfl
  have hsb : e = true → b = true ∧ g = true := by
    intro h
    have : s = [] := by cases s with
      | nil => rfl
      | cons => rw [← hee] at h; cases h
    subst this
    rw [← hb3, ← hg, signs_nil]
    exact ⟨rfl, rfl⟩
  unfold rightV vP
  by_cases h0 : a = 0
  · subst h0
    cases z <;> cases e <;> cases b <;> first | exact absurd (hsb rfl).1 Bool.false_ne_true | exact absurd (hsb rfl).2 Bool.false_ne_true | exact absurd (hzf rfl) Bool.false_ne_true | simp (maxSteps := 400000) [Fn.f_value_Right, hF, hU, bne, he, hb1, hb2, hb3, hz, hg, hf, hee]
  by_cases h1 : a = 1
  · subst h1
    cases z <;> cases f <;> cases e <;> cases b <;> first | exact absurd (hsb rfl).1 Bool.false_ne_true | exact absurd (hsb rfl).2 Bool.false_ne_true | exact absurd (hzf rfl) Bool.false_ne_true | simp (maxSteps := 400000) [Fn.f_value_Right, hF, hU, bne, he, hb1, hb2, hb3, hz, hg, hf, hee]
  by_cases h2 : a = 2
  · subst h2
    cases z <;> cases e <;> cases b <;> first | exact absurd (hsb rfl).1 Bool.false_ne_true | exact absurd (hsb rfl).2 Bool.false_ne_true | exact absurd (hzf rfl) Bool.false_ne_true | simp (maxSteps := 400000) [Fn.f_value_Right, hF, hU, bne, he, hb1, hb2, hb3, hz, hg, hf, hee]
  by_cases h3 : a = 3
  · subst h3
    cases z <;> cases g <;> cases e <;> cases b <;> first | exact absurd (hsb rfl).1 Bool.false_ne_true | exact absurd (hsb rfl).2 Bool.false_ne_true | exact absurd (hzf rfl) Bool.false_ne_true | simp (maxSteps := 400000) [Fn.f_value_Right, hF, hU, bne, he, hb1, hb2, hb3, hz, hg, hf, hee]
  by_cases h4 : a = 4
  · subst h4
    cases z <;> cases e <;> cases b <;> first | exact absurd (hsb rfl).1 Bool.false_ne_true | exact absurd (hsb rfl).2 Bool.false_ne_true | exact absurd (hzf rfl) Bool.false_ne_true | simp (maxSteps := 400000) [Fn.f_value_Right, hF, hU, bne, he, hb1, hb2, hb3, hz, hg, hf, hee]
  have e0 : (a == 0) = false := by simpa using h0
  have e1 : (a == 1) = false := by simpa using h1
  have e2 : (a == 2) = false := by simpa using h2
  have e3 : (a == 3) = false := by simpa using h3
  have e4 : (a == 4) = false := by simpa using h4
  simp (maxSteps := 1000000) [Fn.f_value_Right, h0, h1, h2, h3, h4, e0, e1, e2, e3, e4]
theorem ref_VRight (u : V06 E) (a n : Int) (s : List UInt8) (hn : isI64 n) (hs : (s.length : Int) ≤ 1000000000000) (k : Nat) (hk : s.length + 41 ≤ k) (m : Mem) :
    denF E (k + 1) 34 [.p (vP a n s)] m = some (.ret (.p (.bool (rightV a n s))), m) := by
  refine denF_wp u.wRight rfl (args' := [.p (vP a n s)]) rfl ?_
  obtain ⟨j, rfl⟩ : ∃ j, k = j + 41 := ⟨k - 41, by omega⟩
  have hF := fun m => ref_Fits u.f j n m
  have hU := fun m => ref_Right u.r s hs (j + 40) (by omega) m
  have hl : ∃ b : Bool, decide ((s.length : Int) ≤ 120) = b ∧ decide ((120 : Int) < s.length) = !b ∧ decide (s.length ≤ 120) = b := by
    by_cases h : s.length ≤ 120
    · exact ⟨true, by simp; omega, by simp; omega, by simp; omega⟩
    · exact ⟨false, by simp; omega, by simp; omega, by simp; omega⟩
  obtain ⟨b, hb1, hb2, hb3⟩ := hl
  have he : (s == []) = s.isEmpty := by cases s <;> rfl
  obtain ⟨z, hz⟩ : ∃ z, (n == 0) = z := ⟨_, rfl⟩
  obtain ⟨g, hg⟩ : ∃ g, (signs s).isSome = g := ⟨_, rfl⟩
  obtain ⟨f, hf⟩ : ∃ f, fits32 n = f := ⟨_, rfl⟩
  obtain ⟨e, hee⟩ : ∃ e, s.isEmpty = e := ⟨_, rfl⟩
  rw [hee] at he
  rw [hg] at hU
  rw [hf] at hF
  have hzf : z = true → f = true := by
    intro h
    rw [h] at hz
    have := beq_iff_eq.1 hz
    subst this
    rw [← hf]
    rfl
  have hsb : e = true → b = true ∧ g = true := by
    intro h
    have : s = [] := by cases s with
      | nil => rfl
      | cons => rw [← hee] at h; cases h
    subst this
    rw [← hb3, ← hg, signs_nil]
    exact ⟨rfl, rfl⟩
  unfold rightV vP
  by_cases h0 : a = 0
  · subst h0
    cases z <;> cases e <;> cases b <;> first | exact absurd (hsb rfl).1 Bool.false_ne_true | exact absurd (hsb rfl).2 Bool.false_ne_true | exact absurd (hzf rfl) Bool.false_ne_true | simp (maxSteps := 400000) [Fn.f_haulageref05_Right, hF, hU, bne, he, hb1, hb2, hb3, hz, hg, hf, hee]
  by_cases h1 : a = 1
  · subst h1
    cases z <;> cases f <;> cases e <;> cases b <;> first | exact absurd (hsb rfl).1 Bool.false_ne_true | exact absurd (hsb rfl).2 Bool.false_ne_true | exact absurd (hzf rfl) Bool.false_ne_true | simp (maxSteps := 400000) [Fn.f_haulageref05_Right, hF, hU, bne, he, hb1, hb2, hb3, hz, hg, hf, hee]
  by_cases h2 : a = 2
  · subst h2
    cases z <;> cases e <;> cases b <;> first | exact absurd (hsb rfl).1 Bool.false_ne_true | exact absurd (hsb rfl).2 Bool.false_ne_true | exact absurd (hzf rfl) Bool.false_ne_true | simp (maxSteps := 400000) [Fn.f_haulageref05_Right, hF, hU, bne, he, hb1, hb2, hb3, hz, hg, hf, hee]
  by_cases h3 : a = 3
  · subst h3
    cases z <;> cases g <;> cases e <;> cases b <;> first | exact absurd (hsb rfl).1 Bool.false_ne_true | exact absurd (hsb rfl).2 Bool.false_ne_true | exact absurd (hzf rfl) Bool.false_ne_true | simp (maxSteps := 400000) [Fn.f_haulageref05_Right, hF, hU, bne, he, hb1, hb2, hb3, hz, hg, hf, hee]
  by_cases h4 : a = 4
  · subst h4
    cases z <;> cases e <;> cases b <;> first | exact absurd (hsb rfl).1 Bool.false_ne_true | exact absurd (hsb rfl).2 Bool.false_ne_true | exact absurd (hzf rfl) Bool.false_ne_true | simp (maxSteps := 400000) [Fn.f_haulageref05_Right, hF, hU, bne, he, hb1, hb2, hb3, hz, hg, hf, hee]
  have e0 : (a == 0) = false := by simpa using h0
  have e1 : (a == 1) = false := by simpa using h1
  have e2 : (a == 2) = false := by simpa using h2
  have e3 : (a == 3) = false := by simpa using h3
  have e4 : (a == 4) = false := by simpa using h4
  simp (maxSteps := 1000000) [Fn.f_haulageref05_Right, h0, h1, h2, h3, h4, e0, e1, e2, e3, e4]
end Hx
