/-
  HxW03b: the laws UtfCuts and UtfBack on the evaluator.
-/
import Derived.Test.YtoebkifmgeeogaaDoorHxU03n
import Derived.Test.YtoebkifmgeeogaaDoorHxW03
namespace Hx
open Go
set_option linter.unusedSimpArgs false
set_option maxHeartbeats 4000000
variable {E : Env}
attribute [-simp] List.getD_eq_getElem?_getD getElem?_pos
theorem law_UtfCuts (u : W03 E) (h : E.fn 205 = some Fn.f_haulagelaw03_UtfCuts) (k : Nat) (hlv : ∀ m, denF E (k + 119) 0 [] m = some (yes, m)) (s : List UInt8) (most : Int) (m : Mem) :
    denF E (k + 120) 205 [.p (.str s), .p (.int .i64 most)] m = some (yes, m) := by
  rw [denF_pure h rfl]
  by_cases hs : (60 : Int) < s.length
  · simp [Fn.f_haulagelaw03_UtfCuts, hlv, yes, hs]
  · obtain ⟨t, h1, h2⟩ := utf_Cut u s (by omega) most (k + 118) (by omega) []
    obtain ⟨t', h3, h4⟩ := ref_Cut u s (by omega) most (k + 118) (by omega) []
    have := isCut_one h2 h4
    subst this
    simp [Fn.f_haulagelaw03_UtfCuts, hlv, yes, hs, h1, h3]
end Hx
