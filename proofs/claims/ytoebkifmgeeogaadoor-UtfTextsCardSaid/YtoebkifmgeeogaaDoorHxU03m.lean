/-
  HxU03m: the longest right beginning of a text.
-/
import Derived.Test.YtoebkifmgeeogaaDoorHxU03l
namespace Hx
open Go
set_option linter.unusedSimpArgs false
set_option maxHeartbeats 1000000
variable {E : Env}
attribute [-simp] List.getD_eq_getElem?_getD getElem?_pos
theorem signs_append (k : Nat) : ∀ (a b : List UInt8) (l : List Int), a.length ≤ k → signs a = some l → signs (a ++ b) = (signs b).map (l ++ ·) := by
  have nil : ∀ (b : List UInt8) (l : List Int), signs [] = some l → signs ([] ++ b) = (signs b).map (l ++ ·) := by
    intro b l h
    rw [signs_nil] at h
    cases h
    simp
  induction k with
  | zero =>
    intro a b l hk h
    have : a = [] := List.length_eq_zero_iff.1 (by omega)
    subst this
    exact nil b l h
  | succ k ih =>
    intro a b l hk h
    by_cases ha : a = []
    · subst ha; exact nil b l h
    rw [signs_step ha] at h
    cases hr : readU a with
    | none => rw [hr] at h; cases h
    | some p =>
      obtain ⟨n, size⟩ := p
      rw [hr] at h
      simp only at h
      obtain ⟨h1, rest, he, hz⟩ := readU_some hr
      have hlen := utf8_len_pos n
      have hd : a.drop size.toNat = rest := by rw [he, hz, Int.toNat_natCast, List.drop_left]
      rw [hd] at h
      cases hs : signs rest with
      | none => rw [hs] at h; cases h
      | some l' =>
        rw [hs] at h
        simp only [Option.some.injEq] at h
        subst h
        have hl : rest.length ≤ k := by
          have := congrArg List.length he
          simp only [List.length_append] at this
          omega
        rw [he, List.append_assoc, signs_step (by intro e; have := congrArg List.length e; rw [List.length_append, List.length_nil] at this; omega), readU_utf8 h1]
        simp only [Int.toNat_natCast, List.drop_left]
        rw [ih rest b l' hl hs]
        cases signs b <;> simp
def mark (s : List UInt8) (n : Nat) : Prop := (signs (s.take n)).isSome = true
theorem mark_0 (s : List UInt8) : mark s 0 := rfl
theorem mark_step {s : List UInt8} {i : Nat} {n size : Int} (h : mark s i) (hr : readU (s.drop i) = some (n, size)) : mark s (i + size.toNat) ∧ ∀ j, i < j → j < i + size.toNat → ¬ mark s j := by
  unfold mark at h
  obtain ⟨l, hl⟩ := Option.isSome_iff_exists.1 h
  obtain ⟨h1, rest, he, hz⟩ := readU_some hr
  have tk : ∀ z, s.take (i + z) = s.take i ++ (s.drop i).take z := fun z => List.take_add
  have hsz : size.toNat = (utf8 n).length := by omega
  constructor
  · unfold mark
    rw [tk, signs_append _ _ _ l (Nat.le_refl _) hl, he, hsz, List.take_left, signs_step (utf8_ne n)]
    have := readU_utf8 h1 []
    rw [List.append_nil] at this
    rw [this]
    simp [signs_nil]
  · intro j hj1 hj2 hm
    obtain ⟨z, rfl⟩ : ∃ z, j = i + z := ⟨j - i, by omega⟩
    unfold mark at hm
    rw [tk, signs_append _ _ _ l (Nat.le_refl _) hl] at hm
    have hp : (s.drop i).take z ≠ [] := by
      intro e
      have := congrArg List.length e
      rw [List.length_take, he, List.length_append, List.length_nil] at this
      omega
    rw [signs_step hp] at hm
    cases hq : readU ((s.drop i).take z) with
    | none => rw [hq] at hm; simp at hm
    | some p =>
      obtain ⟨n', size'⟩ := p
      obtain ⟨h1', rest', he', hz'⟩ := readU_some hq
      have e1 : s.drop i = utf8 n' ++ (rest' ++ (s.drop i).drop z) := by
        rw [← List.append_assoc, ← he', List.take_append_drop]
      have : n = n' := utf8_prefix h1 h1' (he.symm.trans e1)
      subst this
      have := congrArg List.length he'
      rw [List.length_take, List.length_append] at this
      omega
/-- The greatest right beginning of at most so many bytes. -/
def Best (s : List UInt8) (most : Int) (e : Nat) : Prop := e ≤ s.length ∧ (e = 0 ∨ mark s e ∧ (e : Int) ≤ most) ∧ ∀ j, j ≤ s.length → mark s j → (j : Int) ≤ most → j ≤ e
theorem best_one {s : List UInt8} {most : Int} {e e' : Nat} (h : Best s most e) (h' : Best s most e') : e = e' := by
  obtain ⟨h1, h2, h3⟩ := h
  obtain ⟨g1, g2, g3⟩ := h'
  have a : e ≤ e' := by
    rcases h2 with rfl | ⟨h2, h4⟩
    · exact Nat.zero_le _
    · exact g3 e h1 h2 h4
  have b : e' ≤ e := by
    rcases g2 with rfl | ⟨g2, g4⟩
    · exact Nat.zero_le _
    · exact h3 e' g1 g2 g4
  omega
/-- As far as 'walk' has come. -/
def CutFar (s : List UInt8) (most : Int) (i : Nat) (e : Nat) : Prop := i ≤ s.length ∧ mark s i ∧ ((s.length : Int) ≤ most → e = s.length) ∧
  (most < s.length → e ≤ i ∧ (e = 0 ∨ mark s e ∧ (e : Int) ≤ most) ∧ ∀ j, j < i → mark s j → (j : Int) ≤ most → j ≤ e)
theorem utf_Cut1 (u : W03 E) (k : Nat) (a most e : Int) (n : AV) : denF E (k + 1) 20 [.p (.int .i64 a), n, .ptr 0 0, .ptr 1 0] [.cells [.p (.int .i64 most)], .cells [.p (.int .i64 e)]] =
    some (.ret (.tup []), [.cells [.p (.int .i64 most)], .cells [.p (.int .i64 (if a ≤ most ∧ e < a then a else e))]]) := by
  refine denF_wp_own u.cut1 rfl ?_
  by_cases h1 : a ≤ most <;> by_cases h2 : e < a <;> simp [Fn.f_utf_Cut_1, h1, h2]
end Hx
