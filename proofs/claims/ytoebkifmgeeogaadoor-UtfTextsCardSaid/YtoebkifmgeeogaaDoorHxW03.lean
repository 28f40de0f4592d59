/-
  HxW03: the laws UtfPuts and UtfPrefix on the evaluator.
-/
import Derived.Test.YtoebkifmgeeogaaDoorHxU03e
import Derived.Test.YtoebkifmgeeogaaDoorHxL03
namespace Hx
open Go
set_option linter.unusedSimpArgs false
set_option maxHeartbeats 4000000
variable {E : Env}
attribute [-simp] List.getD_eq_getElem?_getD getElem?_pos
def yes : Out := .ret (.p (.bool true))
theorem law_UtfPuts (u : U03 E) (h : E.fn 203 = some Fn.f_haulagelaw03_UtfPuts) (k : Nat) (hlv : ∀ m, denF E (k + 39) 0 [] m = some (yes, m)) (n : Int) (s : List UInt8) (m : Mem) :
    denF E (k + 40) 203 [.p (.int .i64 n), .p (.str s)] m = some (yes, m) := by
  rw [denF_pure h rfl]
  have hP := fun m => utf_Put u (k + 32) n m
  have hI := fun m => ref_Is u.rIs (k + 38) n m
  have hR := fun m => utf_Read u (k + 33) s m
  have hR' := fun m => ref_Read u (k + 33) s m
  rw [refR_eq] at hR'
  by_cases hs : (100 : Int) < s.length
  · simp [Fn.f_haulagelaw03_UtfPuts, hlv, yes, hs]
  cases i1 : isSign n with
  | false =>
    rw [i1] at hI
    rw [putV, i1, if_neg (by decide)] at hP
    cases r : readU s with
    | none =>
      rw [r] at hR hR'
      simp [Fn.f_haulagelaw03_UtfPuts, hlv, yes, hs, hP, hI, hR, hR', readV, bne]
    | some p =>
      obtain ⟨a, b⟩ := p
      rw [r] at hR hR'
      simp [Fn.f_haulagelaw03_UtfPuts, hlv, yes, hs, hP, hI, hR, hR', readV, bne]
  | true =>
    rw [i1] at hI
    rw [putV, i1, if_pos rfl] at hP
    obtain ⟨n1, n2, _⟩ := isSign_iff.1 i1
    have hP' := fun m => ref_Put u.rPut u.rOne (k + 37) n n1 n2 m
    cases r : readU s with
    | none =>
      rw [r] at hR hR'
      simp [Fn.f_haulagelaw03_UtfPuts, hlv, yes, hs, hP, hP', hI, hR, hR', readV, bne]
    | some p =>
      obtain ⟨a, b⟩ := p
      rw [r] at hR hR'
      simp [Fn.f_haulagelaw03_UtfPuts, hlv, yes, hs, hP, hP', hI, hR, hR', readV, bne]
theorem law_UtfPrefix (u : U03 E) (h : E.fn 204 = some Fn.f_haulagelaw03_UtfPrefix) (k : Nat) (hlv : ∀ m, denF E (k + 39) 0 [] m = some (yes, m)) (n n' : Int) (m : Mem) :
    denF E (k + 40) 204 [.p (.int .i64 n), .p (.int .i64 n')] m = some (yes, m) := by
  rw [denF_pure h rfl]
  have hP := fun m => utf_Put u (k + 32) n m
  have hP' := fun m => utf_Put u (k + 32) n' m
  cases i1 : isSign n with
  | false =>
    rw [putV, i1, if_neg (by decide)] at hP
    cases i2 : isSign n' with
    | false =>
      rw [putV, i2, if_neg (by decide)] at hP'
      simp [Fn.f_haulagelaw03_UtfPrefix, hlv, yes, hP, hP']
    | true =>
      rw [putV, i2, if_pos rfl] at hP'
      simp [Fn.f_haulagelaw03_UtfPrefix, hlv, yes, hP, hP']
  | true =>
    rw [putV, i1, if_pos rfl] at hP
    cases i2 : isSign n' with
    | false =>
      rw [putV, i2, if_neg (by decide)] at hP'
      simp [Fn.f_haulagelaw03_UtfPrefix, hlv, yes, hP, hP']
    | true =>
      rw [putV, i2, if_pos rfl] at hP'
      by_cases e : n = n'
      · subst e
        simp [Fn.f_haulagelaw03_UtfPrefix, hlv, yes, hP, hP']
      have e' : (n == n') = false := by simpa using e
      by_cases hl : (utf8 n').length < (utf8 n).length
      · simp [Fn.f_haulagelaw03_UtfPrefix, hlv, yes, hP, hP', e, e', hl]
      · have hl' : (utf8 n).length ≤ (utf8 n').length := by omega
        have q : ((utf8 n').take (utf8 n).length == utf8 n) = false := by
          simp only [beq_eq_false_iff_ne, ne_eq]
          intro q
          refine e (utf8_prefix i1 i2 (a := (utf8 n').drop (utf8 n).length) (b := []) ?_)
          rw [List.append_nil, ← q]
          simp only [List.length_take, Nat.min_eq_left hl']
          exact List.take_append_drop _ _
        simp [Fn.f_haulagelaw03_UtfPrefix, hlv, yes, hP, hP', e, e', hl, hl', q]
end Hx
