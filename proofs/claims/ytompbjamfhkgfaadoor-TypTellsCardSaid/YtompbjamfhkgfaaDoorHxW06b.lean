/-
  HxW06b: the law TypTells on the evaluator.
-/
import Derived.Test.YtompbjamfhkgfaaDoorHxU06c
import Derived.Test.YtompbjamfhkgfaaDoorHxConf
namespace Hx
open Go
set_option linter.unusedSimpArgs false
set_option linter.unusedVariables false
set_option maxHeartbeats 8000000
variable {E : Env}
attribute [-simp] List.getD_eq_getElem?_getD getElem?_pos
theorem law_TypTells (u : U06 E) (h : E.fn 218 = some Fn.f_haulagelaw06_TypTells) (k : Nat) (hlv : ∀ m, denF E (k + 399) 78 [] m = some (.ret (.p (.bool true)), m)) {x0 x1 x2 : List PV}
    (c0 : Confs [.int .i64, .int .i64] x0) (c1 : Confs [.int .i64, .int .i64] x1) (c2 : Confs [.int .i64, .int .i64, .str] x2) (m : Mem) :
    denF E (k + 400) 218 [.p (.agg x0), .p (.agg x1), .p (.agg x2)] m = some (.ret (.p (.bool true)), m) := by
  obtain ⟨a, b, rfl, _, _⟩ := conf_type c0
  obtain ⟨c, d, rfl, _, _⟩ := conf_type c1
  obtain ⟨e, n, s, rfl, _, hn, _⟩ := conf_value c2
  rw [denF_pure h rfl]
  by_cases hs : (300 : Int) < s.length
  · simp (maxSteps := 1000000) [Fn.f_haulagelaw06_TypTells, hlv, hs]
  have hW := fun a b c d m => typ_Wide u.t (k + 396) a b c d m
  have hW' := fun a b c d m => ref_Wide u.t (k + 397) a b c d m
  have hR := fun m => typ_Right u.t.right (k + 398) a b m
  have hR' := fun m => ref_TRight u.t.rRight (k + 398) a b m
  have hF := fun m => typ_Fits u a b e n s hn (by omega) (k + 398) (by omega) m
  have hF' := fun m => ref_TFits u a b e n s hn (by omega) (k + 398) (by omega) m
  unfold tP vP at *
  have f3 := u.t.wide
  have f4 := u.t.right
  have f5 := u.t.rWide
  have f6 := u.t.rRight
  have f7 := u.tFits
  have f8 := u.rTFits
  have p3 : Fn.f_typ_Wide.pure = true := rfl
  have p4 : Fn.f_typ_Right.pure = true := rfl
  have p5 : Fn.f_haulageref06_Wide.pure = true := rfl
  have p6 : Fn.f_haulageref06_Right.pure = true := rfl
  have p7 : Fn.f_typ_Fits.pure = true := rfl
  have p8 : Fn.f_haulageref06_Fits.pure = true := rfl
  simp (maxSteps := 1000000) [Fn.f_haulagelaw06_TypTells, hlv, hs, hW, hW', hR, hR', hF, hF', f3, f4, f5, f6, f7, f8, p3, p4, p5, p6, p7, p8]
end Hx
