/-
  HxU06d: a value as one of a type.
-/
import Derived.Test.YtompbjamfhkgfaaDoorHxU06c
import Derived.Test.YtompbjamfhkgfaaDoorHxU05b
namespace Hx
open Go
set_option linter.unusedSimpArgs false
set_option linter.unusedVariables false
set_option maxHeartbeats 4000000
variable {E : Env}
attribute [-simp] List.getD_eq_getElem?_getD getElem?_pos
attribute [local simp] intBeq
theorem rightV_cases {k n : Int} {s : List UInt8} (h : rightV k n s = true) : (k = 0 ∧ n = 0 ∧ s = []) ∨ (k = 1 ∧ s = [] ∧ fits32 n = true) ∨ (k = 2 ∧ s = []) ∨ (k = 3 ∧ n = 0 ∧ s.length ≤ 120 ∧ (signs s).isSome = true) ∨ (k = 4 ∧ n = 0 ∧ s.length ≤ 120) := by
  have he : s.isEmpty = true → s = [] := by intro h; cases s with | nil => rfl | cons => cases h
  unfold rightV at h
  split at h
  · simp only [Bool.and_eq_true, beq_iff_eq] at h
    exact .inl ⟨by assumption, h.1, he h.2⟩
  split at h
  · simp only [Bool.and_eq_true] at h
    exact .inr (.inl ⟨by assumption, he h.2, h.1⟩)
  split at h
  · exact .inr (.inr (.inl ⟨by assumption, he h⟩))
  split at h
  · simp only [Bool.and_eq_true, beq_iff_eq, decide_eq_true_eq] at h
    exact .inr (.inr (.inr (.inl ⟨by assumption, h.1.1, h.1.2, h.2⟩)))
  split at h
  · simp only [Bool.and_eq_true, beq_iff_eq, decide_eq_true_eq] at h
    exact .inr (.inr (.inr (.inr ⟨by assumption, h.1, h.2⟩)))
  · cases h
def castR (k n : Int) (s : List UInt8) (e : Int) : AV := .tup [.p (vP k n s), .p (.int .i64 e)]
def castS (a n : Int) (s : List UInt8) : List UInt8 := if a = 3 ∨ a = 4 then s else digits n
def castV (a n : Int) (s : List UInt8) (c d : Int) : AV :=
  if rightV a n s && rightT c d then
    if a = 0 then castR 0 n s 0 else if c < a then castR 0 0 [] 9 else if c < 3 then castR c n [] 0
    else if d < (castS a n s).length then castR 0 0 [] 10 else castR c 0 (castS a n s) 0
  else castR 0 0 [] 2
structure C06 (E : Env) : Prop where
  u : U06 E
  digs : E.fn 39 = some Fn.f_value_Digits
  rdigs : E.fn 40 = some Fn.f_haulageref05_Digits
  cast : E.fn 81 = some Fn.f_typ_Cast
  rcast : E.fn 82 = some Fn.f_haulageref06_Cast
theorem typ_Cast (u : C06 E) (a n c d : Int) (s : List UInt8) (hn : isI64 n) (hs : (s.length : Int) ≤ 1000000000000) (k : Nat) (hk : s.length + 42 ≤ k) (m : Mem) :
    denF E (k + 1) 81 [.p (vP a n s), .p (tP c d)] m = some (.ret (castV a n s c d), m) := by
  refine denF_wp u.cast rfl (args' := [.p (vP a n s), .p (tP c d)]) rfl ?_
  obtain ⟨j, rfl⟩ : ∃ j, k = j + 41 := ⟨k - 41, by omega⟩
  have hr := fun m => typ_Right u.u.t.right (j + 40) c d m
  have hv := fun m => value_Right u.u a n s hn hs (j + 40) (by omega) m
  have hL := fun a m => typ_long u.u.t.long (j + 40) a m
  have hD := fun m => value_Digits u.digs (j + 16) n hn.1 hn.2 m
  unfold castV castR
  unfold vP tP at *
  cases h1 : rightV a n s with
  | false => simp (maxSteps := 400000) [Fn.f_typ_Cast, hv, h1]
  | true =>
  cases h2 : rightT c d with
  | false => simp (maxSteps := 400000) [Fn.f_typ_Cast, hv, hr, h1, h2]
  | true =>
  rw [h1] at hv
  rw [h2] at hr
  rcases rightV_cases h1 with ⟨rfl, rfl, rfl⟩ | ⟨rfl, rfl, _⟩ | ⟨rfl, rfl⟩ | ⟨rfl, rfl, _, _⟩ | ⟨rfl, rfl, _⟩
  · rcases right_cases h2 with ⟨rfl, rfl⟩ | ⟨rfl, rfl⟩ | ⟨rfl, _⟩ | ⟨rfl, _⟩
    · simp (maxSteps := 400000) [Fn.f_typ_Cast, hv, hr, hL, hD, longT, castS]
    · simp (maxSteps := 400000) [Fn.f_typ_Cast, hv, hr, hL, hD, longT, castS]
    · simp (maxSteps := 400000) [Fn.f_typ_Cast, hv, hr, hL, hD, longT, castS]
    · simp (maxSteps := 400000) [Fn.f_typ_Cast, hv, hr, hL, hD, longT, castS]
  · rcases right_cases h2 with ⟨rfl, rfl⟩ | ⟨rfl, rfl⟩ | ⟨rfl, _⟩ | ⟨rfl, _⟩
    · simp (maxSteps := 400000) [Fn.f_typ_Cast, hv, hr, hL, hD, longT, castS]
    · simp (maxSteps := 400000) [Fn.f_typ_Cast, hv, hr, hL, hD, longT, castS]
    · by_cases hl : d < ((digits n).length : Int)
      · simp (maxSteps := 400000) [Fn.f_typ_Cast, hv, hr, hL, hD, longT, castS, hl]
      · simp (maxSteps := 400000) [Fn.f_typ_Cast, hv, hr, hL, hD, longT, castS, hl]
    · by_cases hl : d < ((digits n).length : Int)
      · simp (maxSteps := 400000) [Fn.f_typ_Cast, hv, hr, hL, hD, longT, castS, hl]
      · simp (maxSteps := 400000) [Fn.f_typ_Cast, hv, hr, hL, hD, longT, castS, hl]
  · rcases right_cases h2 with ⟨rfl, rfl⟩ | ⟨rfl, rfl⟩ | ⟨rfl, _⟩ | ⟨rfl, _⟩
    · simp (maxSteps := 400000) [Fn.f_typ_Cast, hv, hr, hL, hD, longT, castS]
    · simp (maxSteps := 400000) [Fn.f_typ_Cast, hv, hr, hL, hD, longT, castS]
    · by_cases hl : d < ((digits n).length : Int)
      · simp (maxSteps := 400000) [Fn.f_typ_Cast, hv, hr, hL, hD, longT, castS, hl]
      · simp (maxSteps := 400000) [Fn.f_typ_Cast, hv, hr, hL, hD, longT, castS, hl]
    · by_cases hl : d < ((digits n).length : Int)
      · simp (maxSteps := 400000) [Fn.f_typ_Cast, hv, hr, hL, hD, longT, castS, hl]
      · simp (maxSteps := 400000) [Fn.f_typ_Cast, hv, hr, hL, hD, longT, castS, hl]
  · rcases right_cases h2 with ⟨rfl, rfl⟩ | ⟨rfl, rfl⟩ | ⟨rfl, _⟩ | ⟨rfl, _⟩
    · simp (maxSteps := 400000) [Fn.f_typ_Cast, hv, hr, hL, hD, longT, castS]
    · simp (maxSteps := 400000) [Fn.f_typ_Cast, hv, hr, hL, hD, longT, castS]
    · by_cases hl : d < (s.length : Int)
      · simp (maxSteps := 400000) [Fn.f_typ_Cast, hv, hr, hL, hD, longT, castS, hl]
      · simp (maxSteps := 400000) [Fn.f_typ_Cast, hv, hr, hL, hD, longT, castS, hl]
    · by_cases hl : d < (s.length : Int)
      · simp (maxSteps := 400000) [Fn.f_typ_Cast, hv, hr, hL, hD, longT, castS, hl]
      · simp (maxSteps := 400000) [Fn.f_typ_Cast, hv, hr, hL, hD, longT, castS, hl]
  · rcases right_cases h2 with ⟨rfl, rfl⟩ | ⟨rfl, rfl⟩ | ⟨rfl, _⟩ | ⟨rfl, _⟩
    · simp (maxSteps := 400000) [Fn.f_typ_Cast, hv, hr, hL, hD, longT, castS]
    · simp (maxSteps := 400000) [Fn.f_typ_Cast, hv, hr, hL, hD, longT, castS]
    · simp (maxSteps := 400000) [Fn.f_typ_Cast, hv, hr, hL, hD, longT, castS]
    · by_cases hl : d < (s.length : Int)
      · simp (maxSteps := 400000) [Fn.f_typ_Cast, hv, hr, hL, hD, longT, castS, hl]
      · simp (maxSteps := 400000) [Fn.f_typ_Cast, hv, hr, hL, hD, longT, castS, hl]
theorem ref_Cast (u : C06 E) (a n c d : Int) (s : List UInt8) (hn : isI64 n) (hs : (s.length : Int) ≤ 1000000000000) (k : Nat) (hk : s.length + 42 ≤ k) (m : Mem) :
    denF E (k + 1) 82 [.p (vP a n s), .p (tP c d)] m = some (.ret (castV a n s c d), m) := by
  refine denF_wp u.rcast rfl (args' := [.p (vP a n s), .p (tP c d)]) rfl ?_
  obtain ⟨j, rfl⟩ : ∃ j, k = j + 41 := ⟨k - 41, by omega⟩
  have hr := fun m => ref_TRight u.u.t.rRight (j + 40) c d m
  have hv := fun m => ref_VRight u.u a n s hn hs (j + 40) (by omega) m
  have hD := fun m => ref_Digits' u.rdigs n hn.1 hn.2 (j + 19) m
  unfold castV castR
  unfold vP tP at *
  cases h1 : rightV a n s with
  | false => simp (maxSteps := 400000) [Fn.f_haulageref06_Cast, hv, h1]
  | true =>
  cases h2 : rightT c d with
  | false => simp (maxSteps := 400000) [Fn.f_haulageref06_Cast, hv, hr, h1, h2]
  | true =>
  rw [h1] at hv
  rw [h2] at hr
  rcases rightV_cases h1 with ⟨rfl, rfl, rfl⟩ | ⟨rfl, rfl, _⟩ | ⟨rfl, rfl⟩ | ⟨rfl, rfl, _, _⟩ | ⟨rfl, rfl, _⟩
  · rcases right_cases h2 with ⟨rfl, rfl⟩ | ⟨rfl, rfl⟩ | ⟨rfl, _⟩ | ⟨rfl, _⟩
    · simp (maxSteps := 400000) [Fn.f_haulageref06_Cast, hv, hr, hD, castS]
    · simp (maxSteps := 400000) [Fn.f_haulageref06_Cast, hv, hr, hD, castS]
    · simp (maxSteps := 400000) [Fn.f_haulageref06_Cast, hv, hr, hD, castS]
    · simp (maxSteps := 400000) [Fn.f_haulageref06_Cast, hv, hr, hD, castS]
  · rcases right_cases h2 with ⟨rfl, rfl⟩ | ⟨rfl, rfl⟩ | ⟨rfl, _⟩ | ⟨rfl, _⟩
    · simp (maxSteps := 400000) [Fn.f_haulageref06_Cast, hv, hr, hD, castS]
    · simp (maxSteps := 400000) [Fn.f_haulageref06_Cast, hv, hr, hD, castS]
    · by_cases hl : d < ((digits n).length : Int)
      · simp (maxSteps := 400000) [Fn.f_haulageref06_Cast, hv, hr, hD, castS, hl]
      · simp (maxSteps := 400000) [Fn.f_haulageref06_Cast, hv, hr, hD, castS, hl]
    · by_cases hl : d < ((digits n).length : Int)
      · simp (maxSteps := 400000) [Fn.f_haulageref06_Cast, hv, hr, hD, castS, hl]
      · simp (maxSteps := 400000) [Fn.f_haulageref06_Cast, hv, hr, hD, castS, hl]
  · rcases right_cases h2 with ⟨rfl, rfl⟩ | ⟨rfl, rfl⟩ | ⟨rfl, _⟩ | ⟨rfl, _⟩
    · simp (maxSteps := 400000) [Fn.f_haulageref06_Cast, hv, hr, hD, castS]
    · simp (maxSteps := 400000) [Fn.f_haulageref06_Cast, hv, hr, hD, castS]
    · by_cases hl : d < ((digits n).length : Int)
      · simp (maxSteps := 400000) [Fn.f_haulageref06_Cast, hv, hr, hD, castS, hl]
      · simp (maxSteps := 400000) [Fn.f_haulageref06_Cast, hv, hr, hD, castS, hl]
    · by_cases hl : d < ((digits n).length : Int)
      · simp (maxSteps := 400000) [Fn.f_haulageref06_Cast, hv, hr, hD, castS, hl]
      · simp (maxSteps := 400000) [Fn.f_haulageref06_Cast, hv, hr, hD, castS, hl]
  · rcases right_cases h2 with ⟨rfl, rfl⟩ | ⟨rfl, rfl⟩ | ⟨rfl, _⟩ | ⟨rfl, _⟩
    · simp (maxSteps := 400000) [Fn.f_haulageref06_Cast, hv, hr, hD, castS]
    · simp (maxSteps := 400000) [Fn.f_haulageref06_Cast, hv, hr, hD, castS]
    · by_cases hl : d < (s.length : Int)
      · simp (maxSteps := 400000) [Fn.f_haulageref06_Cast, hv, hr, hD, castS, hl]
      · simp (maxSteps := 400000) [Fn.f_haulageref06_Cast, hv, hr, hD, castS, hl]
    · by_cases hl : d < (s.length : Int)
      · simp (maxSteps := 400000) [Fn.f_haulageref06_Cast, hv, hr, hD, castS, hl]
      · simp (maxSteps := 400000) [Fn.f_haulageref06_Cast, hv, hr, hD, castS, hl]
  · rcases right_cases h2 with ⟨rfl, rfl⟩ | ⟨rfl, rfl⟩ | ⟨rfl, _⟩ | ⟨rfl, _⟩
    · simp (maxSteps := 400000) [Fn.f_haulageref06_Cast, hv, hr, hD, castS]
    · simp (maxSteps := 400000) [Fn.f_haulageref06_Cast, hv, hr, hD, castS]
    · simp (maxSteps := 400000) [Fn.f_haulageref06_Cast, hv, hr, hD, castS]
    · by_cases hl : d < (s.length : Int)
      · simp (maxSteps := 400000) [Fn.f_haulageref06_Cast, hv, hr, hD, castS, hl]
      · simp (maxSteps := 400000) [Fn.f_haulageref06_Cast, hv, hr, hD, castS, hl]
end Hx
