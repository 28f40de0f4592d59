/-
  HxV05b: values that are made of a number, a text, bytes; the law ValueMakes on the evaluator.
-/
import Derived.Test.YtbdnghmmiobdcaaDoorHxFn05
import Derived.Test.YtbdnghmmiobdcaaDoorHxU06v
import Derived.Test.YtbdnghmmiobdcaaDoorHxU03l
import Derived.Test.YtbdnghmmiobdcaaDoorHxConf
namespace Hx
open Go
set_option linter.unusedSimpArgs false
set_option linter.unusedVariables false
set_option maxHeartbeats 4000000
set_option maxRecDepth 20000
variable {E : Env}
attribute [-simp] List.getD_eq_getElem?_getD getElem?_pos
structure W05 (E : Env) : Prop where
  v : V06 E
  int : E.fn 30 = some Fn.f_value_Int
  text : E.fn 31 = some Fn.f_value_Text
  bytes : E.fn 32 = some Fn.f_value_Bytes
  long : E.fn 35 = some Fn.f_value_Long
/-- A value and an error's number. -/
def valE (k n : Int) (s : List UInt8) (e : Int) : AV := .tup [.p (.agg [.int .i64 k, .int .i64 n, .str s]), .p (.int .i64 e)]
def intE (n : Int) : AV := if fits32 n then valE 1 n [] 0 else valE 0 0 [] 10
def textE (s : List UInt8) : AV := if 120 < s.length then valE 0 0 [] 3 else if (signs s).isSome then valE 3 0 s 0 else valE 0 0 [] 5
def bytesE (s : List UInt8) : AV := if 120 < s.length then valE 0 0 [] 3 else valE 4 0 s 0
theorem value_Int (u : W05 E) (n : Int) (hn : isI64 n) (k : Nat) (m : Mem) : denF E (k + 3) 30 [.p (.int .i64 n)] m = some (.ret (intE n), m) := by
  refine denF_wp u.int rfl (args' := [.p (.int .i64 n)]) rfl ?_
  have hF := fun m => word_Fits u.v.f k n hn.1 hn.2 m
  unfold intE valE
  cases h : fits32 n <;> rw [h] at hF <;> simp [Fn.f_value_Int, hF]
theorem value_Long (u : W05 E) (n : Int) (k : Nat) (m : Mem) : denF E (k + 1) 35 [.p (.int .i64 n)] m = some (.ret (.p (.agg [.int .i64 2, .int .i64 n, .str []])), m) := by
  refine denF_wp u.long rfl (args' := [.p (.int .i64 n)]) rfl ?_
  simp [Fn.f_value_Long]
theorem value_Bytes (u : W05 E) (s : List UInt8) (k : Nat) (m : Mem) : denF E (k + 1) 32 [.p (.str s)] m = some (.ret (bytesE s), m) := by
  refine denF_wp u.bytes rfl (args' := [.p (.str s)]) rfl ?_
  unfold bytesE valE
  by_cases h : 120 < s.length
  · have h' : (120 : Int) < s.length := by omega
    rw [if_pos h]
    simp [Fn.f_value_Bytes, h']
  · have h' : ¬ (120 : Int) < s.length := by omega
    rw [if_neg h]
    simp [Fn.f_value_Bytes, h']
theorem value_Text (u : W05 E) (s : List UInt8) (hs : (s.length : Int) ≤ 1000000000000) (k : Nat) (hk : s.length + 10 ≤ k) (m : Mem) : denF E (k + 1) 31 [.p (.str s)] m = some (.ret (textE s), m) := by
  refine denF_wp u.text rfl (args' := [.p (.str s)]) rfl ?_
  obtain ⟨j, rfl⟩ : ∃ j, k = j + 1 := ⟨k - 1, by omega⟩
  have hR := fun m => utf_Right u.v.r s hs j (by omega) m
  unfold textE valE
  by_cases h : 120 < s.length
  · have h' : (120 : Int) < s.length := by omega
    rw [if_pos h]
    simp [Fn.f_value_Text, h']
  · have h' : ¬ (120 : Int) < s.length := by omega
    rw [if_neg h]
    cases hr : (signs s).isSome <;> rw [hr] at hR
    · simp [Fn.f_value_Text, h', hR]
    · simp [Fn.f_value_Text, h', hR]
theorem fits_64 {n : Int} (h : fits32 n = true) : True := trivial
theorem law_ValueMakes (u : W05 E) (h : E.fn 209 = some Fn.f_haulagelaw05_ValueMakes) (k : Nat) (hlv : ∀ m, denF E (k + 399) 25 [] m = some (.ret (.p (.bool true)), m)) {x0 : List PV} {x1 x2 : PV} (c0 : Confs [.int .i64, .int .i64, .str] x0) (c1 : Conf (.int .i64) x1) (c2 : Conf .str x2) (m : Mem) :
    denF E (k + 400) 209 [.p (.agg x0), .p x1, .p x2] m = some (.ret (.p (.bool true)), m) := by
  obtain ⟨a, b, t, rfl, ha, hb, _⟩ := conf_value c0
  simp only [Conf] at c1 c2
  obtain ⟨n, rfl, n1, n2⟩ := c1
  obtain ⟨s, rfl, _⟩ := c2
  have e1 : IntKind.i64.min = -9223372036854775808 := rfl
  have e2 : IntKind.i64.max = 9223372036854775807 := rfl
  have hn : isI64 n := ⟨by rw [e1] at n1; exact n1, by rw [e2] at n2; exact n2⟩
  rw [denF_pure h rfl]
  by_cases ht : (300 : Int) < t.length
  · simp (maxSteps := 1000000) [Fn.f_haulagelaw05_ValueMakes, hlv, ht]
  by_cases hs : (300 : Int) < s.length
  · simp (maxSteps := 1000000) [Fn.f_haulagelaw05_ValueMakes, hlv, ht, hs]
  have f1 := u.v.vRight
  have f2 := u.v.wRight
  have f3 := u.long
  have f4 := u.v.f.rFits
  have p1 : Fn.f_value_Right.pure = true := rfl
  have p2 : Fn.f_haulageref05_Right.pure = true := rfl
  have p3 : Fn.f_value_Long.pure = true := rfl
  have p4 : Fn.f_haulageref01_Fits.pure = true := rfl
  have h1 := fun m => value_Int u n hn (k + 396) m
  have h2 := fun m => value_Text u s (by omega) (k + 398) (by omega) m
  have h3 := fun m => value_Bytes u s (k + 398) m
  have h4 := fun m => value_Right u.v a b t hb (by omega) (k + 398) (by omega) m
  have h5 := fun m => ref_VRight u.v a b t hb (by omega) (k + 398) (by omega) m
  have h6 := fun m => value_Long u n (k + 398) m
  have h7 := fun m => ref_Fits u.v.f (k + 358) n m
  have h8 := fun m => ref_Right u.v.r s (by omega) (k + 398) (by omega) m
  unfold vP at h4 h5
  have es : ∀ (x y : Int) (z : List UInt8), eqTree (.struct [(0, 1, .int), (1, 1, .int), (2, 1, .str)]) (.agg [.int .i64 x, .int .i64 y, .str z]) (.agg [.int .i64 x, .int .i64 y, .str z]) = some true := fun x y z => by rw [eq_vP]; simp
  generalize rightV a b t = rv at *
  unfold intE at h1
  unfold textE at h2
  unfold bytesE at h3
  unfold valE at *
  cases hF : fits32 n <;> rw [hF] at h1 h7 <;> simp only [if_true, Bool.false_eq_true, if_false] at h1
  · by_cases hl : 120 < s.length
    · have hl' : (120 : Int) < s.length := by omega
      rw [if_pos hl] at h2 h3
      simp (maxSteps := 4000000) [Fn.f_haulagelaw05_ValueMakes, hlv, ht, hs, hl', h1, h2, h3, h4, h5, h6, h7, f1, f2, f3, f4, p1, p2, p3, p4, es, bne]
    · have hl' : ¬ (120 : Int) < s.length := by omega
      rw [if_neg hl] at h2 h3
      cases hr : (signs s).isSome <;> rw [hr] at h2 h8 <;> simp only [if_true, Bool.false_eq_true, if_false] at h2
      · simp (maxSteps := 4000000) [Fn.f_haulagelaw05_ValueMakes, hlv, ht, hs, hl', h1, h2, h3, h4, h5, h6, h7, h8, f1, f2, f3, f4, p1, p2, p3, p4, es, bne]
      · simp (maxSteps := 4000000) [Fn.f_haulagelaw05_ValueMakes, hlv, ht, hs, hl', h1, h2, h3, h4, h5, h6, h7, h8, f1, f2, f3, f4, p1, p2, p3, p4, es, bne]
  · by_cases hl : 120 < s.length
    · have hl' : (120 : Int) < s.length := by omega
      rw [if_pos hl] at h2 h3
      simp (maxSteps := 4000000) [Fn.f_haulagelaw05_ValueMakes, hlv, ht, hs, hl', h1, h2, h3, h4, h5, h6, h7, f1, f2, f3, f4, p1, p2, p3, p4, es, bne]
    · have hl' : ¬ (120 : Int) < s.length := by omega
      rw [if_neg hl] at h2 h3
      cases hr : (signs s).isSome <;> rw [hr] at h2 h8 <;> simp only [if_true, Bool.false_eq_true, if_false] at h2
      · simp (maxSteps := 4000000) [Fn.f_haulagelaw05_ValueMakes, hlv, ht, hs, hl', h1, h2, h3, h4, h5, h6, h7, h8, f1, f2, f3, f4, p1, p2, p3, p4, es, bne]
      · simp (maxSteps := 4000000) [Fn.f_haulagelaw05_ValueMakes, hlv, ht, hs, hl', h1, h2, h3, h4, h5, h6, h7, h8, f1, f2, f3, f4, p1, p2, p3, p4, es, bne]
end Hx
