/-
  HxW06d: the law TypCasts on the evaluator.
-/
import Derived.Test.YtompbjamfhkgfaaDoorHxU06d
import Derived.Test.YtompbjamfhkgfaaDoorHxConf
namespace Hx
open Go
set_option linter.unusedSimpArgs false
set_option linter.unusedVariables false
set_option maxHeartbeats 8000000
variable {E : Env}
attribute [-simp] List.getD_eq_getElem?_getD getElem?_pos
theorem castV_cases (a n : Int) (s : List UInt8) (c d : Int) : ∃ (k x : Int) (t : List UInt8) (e : Int), castV a n s c d = castR k x t e := by
  unfold castV
  split
  · split
    · exact ⟨_, _, _, _, rfl⟩
    split
    · exact ⟨_, _, _, _, rfl⟩
    split
    · exact ⟨_, _, _, _, rfl⟩
    split
    · exact ⟨_, _, _, _, rfl⟩
    · exact ⟨_, _, _, _, rfl⟩
  · exact ⟨_, _, _, _, rfl⟩
theorem law_TypCasts (u : C06 E) (h : E.fn 216 = some Fn.f_haulagelaw06_TypCasts) (k : Nat) (hlv : ∀ m, denF E (k + 399) 78 [] m = some (.ret (.p (.bool true)), m)) {x0 x1 : List PV}
    (c0 : Confs [.int .i64, .int .i64, .str] x0) (c1 : Confs [.int .i64, .int .i64] x1) (m : Mem) :
    denF E (k + 400) 216 [.p (.agg x0), .p (.agg x1)] m = some (.ret (.p (.bool true)), m) := by
  obtain ⟨a, n, s, rfl, _, hn, _⟩ := conf_value c0
  obtain ⟨c, d, rfl, _, _⟩ := conf_type c1
  rw [denF_pure h rfl]
  by_cases hs : (300 : Int) < s.length
  · simp (maxSteps := 1000000) [Fn.f_haulagelaw06_TypCasts, hlv, hs]
  have hC := fun m => typ_Cast u a n c d s hn (by omega) (k + 398) (by omega) m
  have hC' := fun m => ref_Cast u a n c d s hn (by omega) (k + 398) (by omega) m
  obtain ⟨q, x, t, e, he⟩ := castV_cases a n s c d
  rw [he] at hC hC'
  unfold castR at hC hC'
  unfold tP vP at *
  simp (maxSteps := 1000000) [Fn.f_haulagelaw06_TypCasts, hlv, hs, hC, hC', eq_vP]
end Hx
