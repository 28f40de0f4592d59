/-
  HxW03c: the law UtfBack on the evaluator.
-/
import Derived.Test.YtoebkifmgeeogaaDoorHxW03b
namespace Hx
open Go
set_option linter.unusedSimpArgs false
set_option maxHeartbeats 8000000
variable {E : Env}
attribute [-simp] List.getD_eq_getElem?_getD getElem?_pos
theorem textOf_signs (k : Nat) : ∀ (s : List UInt8) (l : List Int), s.length ≤ k → signs s = some l → textOf l = some s := by
  have nil : ∀ l, signs [] = some l → textOf l = some [] := by
    intro l h
    rw [signs_nil] at h
    cases h
    rfl
  induction k with
  | zero =>
    intro s l hk h
    have : s = [] := List.length_eq_zero_iff.1 (by omega)
    subst this
    exact nil l h
  | succ k ih =>
    intro s l hk h
    by_cases hs : s = []
    · subst hs; exact nil l h
    rw [signs_step hs] at h
    cases hr : readU s with
    | none => rw [hr] at h; cases h
    | some p =>
      obtain ⟨n, size⟩ := p
      rw [hr] at h
      simp only at h
      obtain ⟨h1, rest, he, hz⟩ := readU_some hr
      have hlen := utf8_len_pos n
      have hd : s.drop size.toNat = rest := by rw [he, hz, Int.toNat_natCast, List.drop_left]
      rw [hd] at h
      cases hq : signs rest with
      | none => rw [hq] at h; cases h
      | some l' =>
        rw [hq] at h
        simp only [Option.some.injEq] at h
        subst h
        have hl : rest.length ≤ k := by
          have := congrArg List.length he
          simp only [List.length_append] at this
          omega
        rw [textOf, h1]
        simp only [ih rest l' hl hq, he]
theorem isInts_signs {s : List UInt8} {l : List Int} (h : signs s = some l) : IsInts (signsV s) l := by
  unfold signsV
  rw [h]
  cases l with
  | nil => exact .inl ⟨rfl, rfl⟩
  | cons a r => exact .inr rfl
theorem signs_len {s : List UInt8} {l : List Int} : ∀ (k : Nat), s.length ≤ k → signs s = some l → l.length ≤ s.length := by
  intro k
  induction k generalizing s l with
  | zero =>
    intro hk h
    have : s = [] := List.length_eq_zero_iff.1 (by omega)
    subst this
    rw [signs_nil] at h; cases h; exact Nat.le_refl _
  | succ k ih =>
    intro hk h
    by_cases hs : s = []
    · subst hs; rw [signs_nil] at h; cases h; exact Nat.le_refl _
    rw [signs_step hs] at h
    cases hr : readU s with
    | none => rw [hr] at h; cases h
    | some p =>
      obtain ⟨n, size⟩ := p
      rw [hr] at h
      simp only at h
      obtain ⟨z1, z2, _⟩ := readU_size hr
      cases hq : signs (s.drop size.toNat) with
      | none => rw [hq] at h; cases h
      | some l' =>
        rw [hq] at h
        simp only [Option.some.injEq] at h
        subst h
        have hd : (s.drop size.toNat).length = s.length - size.toNat := List.length_drop
        have := ih (by omega) hq
        simp only [List.length_cons]
        omega
theorem isCut_whole {s t : List UInt8} (h : IsCut s s.length t) (hs : (signs s).isSome = true) : t = s := by
  rcases h with ⟨h, _⟩ | ⟨_, e, ⟨h1, _, h3⟩, rfl⟩
  · rw [h] at hs; cases hs
  · have := h3 s.length (Nat.le_refl _) (by unfold mark; rw [List.take_length]; exact hs) (by omega)
    rw [List.take_of_length_le (by omega)]
theorem law_UtfBack (u : W03 E) (h : E.fn 207 = some Fn.f_haulagelaw03_UtfBack) (k : Nat) (hlv : ∀ m, denF E (k + 119) 0 [] m = some (yes, m)) (n : Int) (s : List UInt8) (hn : s.length ≤ 9223372036854775807) (m : Mem) :
    denF E (k + 120) 207 [.p (.int .i64 n), .p (.str s)] m = some (yes, m) := by
  rw [denF_pure h rfl]
  by_cases hs : (100 : Int) < s.length
  · simp (maxSteps := 1000000) [Fn.f_haulagelaw03_UtfBack, hlv, yes, hs]
  have hP := fun m => utf_Put u.toU03 (k + 112) n m
  have hRt := fun m => utf_Right u s (by omega) (k + 118) (by omega) m
  have hC := fun m => utf_Count u s (by omega) (k + 118) (by omega) m
  have hS := fun m => utf_Signs u s (by omega) (k + 118) (by omega) m
  obtain ⟨t, hCut, hcut⟩ := utf_Cut u s (by omega) s.length (k + 118) (by omega) []
  have hb : s.length ≤ strLim := by unfold strLim; omega
  have h4 := utf8_len4 n
  have hb2 : (utf8 n).length + s.length ≤ strLim := by unfold strLim; omega
  cases i1 : isSign n with
  | false =>
    rw [putV, i1, if_neg (by decide)] at hP
    have hR := fun m => utf_Read u.toU03 (k + 113) s m
    cases hsg : signs s with
    | none =>
      rw [hsg] at hRt
      simp only [countOf, signsV, hsg] at hC hS
      cases r : readU s with
      | none => rw [r] at hR; simp (maxSteps := 1000000) [Fn.f_haulagelaw03_UtfBack, hlv, yes, hs, hP, hb, hR, readV, hRt, hC, hS]
      | some p =>
        obtain ⟨a, b⟩ := p
        rw [r] at hR; simp (maxSteps := 1000000) [Fn.f_haulagelaw03_UtfBack, hlv, yes, hs, hP, hb, hR, readV, hRt, hC, hS]
    | some l =>
      have ht := isCut_whole hcut (by rw [hsg]; rfl)
      subst ht
      rw [hsg] at hRt
      have hll := signs_len _ (Nat.le_refl _) hsg
      have hT := fun m => utf_Text u (signsV t) l (isInts_signs hsg) (by omega) (k + 118) (by omega) m
      simp only [textV, textOf_signs _ t l (Nat.le_refl _) hsg] at hT
      cases r : readU t with
      | none => rw [r] at hR; simp (maxSteps := 1000000) [Fn.f_haulagelaw03_UtfBack, hlv, yes, hs, hP, hb, hR, readV, hRt, hS, hT, hCut]
      | some p =>
        obtain ⟨a, b⟩ := p
        rw [r] at hR; simp (maxSteps := 1000000) [Fn.f_haulagelaw03_UtfBack, hlv, yes, hs, hP, hb, hR, readV, hRt, hS, hT, hCut]
  | true =>
    rw [putV, i1, if_pos rfl] at hP
    have hR := fun m => utf_Read u.toU03 (k + 113) (utf8 n ++ s) m
    rw [readU_utf8 i1] at hR
    cases hsg : signs s with
    | none =>
      rw [hsg] at hRt
      simp only [countOf, signsV, hsg] at hC hS
      simp (maxSteps := 1000000) [Fn.f_haulagelaw03_UtfBack, hlv, yes, hs, hP, hb2, hR, readV, hRt, hC, hS, bne]
    | some l =>
      have ht := isCut_whole hcut (by rw [hsg]; rfl)
      subst ht
      rw [hsg] at hRt
      have hll := signs_len _ (Nat.le_refl _) hsg
      have hT := fun m => utf_Text u (signsV t) l (isInts_signs hsg) (by omega) (k + 118) (by omega) m
      simp only [textV, textOf_signs _ t l (Nat.le_refl _) hsg] at hT
      simp (maxSteps := 1000000) [Fn.f_haulagelaw03_UtfBack, hlv, yes, hs, hP, hb2, hR, readV, hRt, hS, hT, hCut, bne]
end Hx
