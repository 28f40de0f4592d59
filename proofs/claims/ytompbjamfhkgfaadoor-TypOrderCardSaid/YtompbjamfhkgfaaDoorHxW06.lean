/-
  HxW06: the law TypOrder on the evaluator.
-/
import Derived.Test.YtompbjamfhkgfaaDoorHxU06
import Derived.Test.YtompbjamfhkgfaaDoorHxArg
namespace Hx
open Go
set_option linter.unusedSimpArgs false
set_option linter.unusedVariables false
set_option maxHeartbeats 8000000
variable {E : Env}
attribute [-simp] List.getD_eq_getElem?_getD getElem?_pos
theorem conf_type {x : List PV} (h : Confs [.int .i64, .int .i64] x) : ∃ a b : Int, x = [.int .i64 a, .int .i64 b] ∧ (-9223372036854775808 ≤ a ∧ a ≤ 9223372036854775807) ∧ (-9223372036854775808 ≤ b ∧ b ≤ 9223372036854775807) := by
  simp only [Confs, Conf] at h
  obtain ⟨_, _, rfl, ⟨a, rfl, h1, h2⟩, _, _, rfl, ⟨b, rfl, h3, h4⟩, rfl⟩ := h
  exact ⟨a, b, rfl, ⟨h1, h2⟩, ⟨h3, h4⟩⟩
theorem conf_value {x : List PV} (h : Confs [.int .i64, .int .i64, .str] x) : ∃ (a b : Int) (s : List UInt8), x = [.int .i64 a, .int .i64 b, .str s] ∧ (-9223372036854775808 ≤ a ∧ a ≤ 9223372036854775807) ∧ (-9223372036854775808 ≤ b ∧ b ≤ 9223372036854775807) ∧ s.length ≤ 9223372036854775807 := by
  simp only [Confs, Conf] at h
  obtain ⟨_, _, rfl, ⟨a, rfl, h1, h2⟩, _, _, rfl, ⟨b, rfl, h3, h4⟩, _, _, rfl, ⟨s, rfl, h5⟩, rfl⟩ := h
  exact ⟨a, b, s, rfl, ⟨h1, h2⟩, ⟨h3, h4⟩, h5⟩
theorem wide_l {a b c d : Int} (h : rightT a b = false) : wideT a b c d = false := by
  unfold wideT; rw [h]; rfl
theorem wide_r {a b c d : Int} (h : rightT c d = false) : wideT a b c d = false := by
  unfold wideT; rw [h, Bool.and_false]; rfl
theorem eq_tP {a b c d : Int} : eqTree (.struct [(0, 1, .int), (1, 1, .int)]) (.agg [.int .i64 a, .int .i64 b]) (.agg [.int .i64 c, .int .i64 d]) = some (a == c && b == d) := by
  simp [eqTree, eqFs, partP, EqT.agg]
theorem eq_vP {a b c d : Int} {s t : List UInt8} : eqTree (.struct [(0, 1, .int), (1, 1, .int), (2, 1, .str)]) (.agg [.int .i64 a, .int .i64 b, .str s]) (.agg [.int .i64 c, .int .i64 d, .str t]) = some (a == c && (b == d && s == t)) := by
  simp [eqTree, eqFs, partP, EqT.agg]
theorem law_TypOrder (u : T06 E) (h : E.fn 217 = some Fn.f_haulagelaw06_TypOrder) (k : Nat) (hlv : ∀ m, denF E (k + 119) 78 [] m = some (.ret (.p (.bool true)), m)) {x0 x1 x2 : List PV}
    (c0 : Confs [.int .i64, .int .i64] x0) (c1 : Confs [.int .i64, .int .i64] x1) (c2 : Confs [.int .i64, .int .i64] x2) (m : Mem) :
    denF E (k + 120) 217 [.p (.agg x0), .p (.agg x1), .p (.agg x2)] m = some (.ret (.p (.bool true)), m) := by
  obtain ⟨a, b, rfl, _, _⟩ := conf_type c0
  obtain ⟨c, d, rfl, _, _⟩ := conf_type c1
  obtain ⟨e, f, rfl, _, _⟩ := conf_type c2
  rw [denF_pure h rfl]
  have hW := fun a b c d m => typ_Wide u (k + 116) a b c d m
  have hR := fun a b m => typ_Right u.right (k + 118) a b m
  have hJ := fun m => typ_Join u (k + 116) a b c d m
  unfold tP at *
  have f3 := u.wide
  have f4 := u.right
  have p3 : Fn.f_typ_Wide.pure = true := rfl
  have p4 : Fn.f_typ_Right.pure = true := rfl
  have haa : wideT a b a b = rightT a b := wide_refl
  have heq : eqTree (.struct [(0, 1, .int), (1, 1, .int)]) (.agg [.int .i64 a, .int .i64 b]) (.agg [.int .i64 c, .int .i64 d]) = some (a == c && b == d) := eq_tP
  have hsame : (a == c && b == d) = true → a = c ∧ b = d := by
    intro h
    simpa using h
  generalize hq : (a == c && b == d) = q at *
  cases r1 : rightT a b with
  | false =>
    have w1 := wide_l (c := c) (d := d) r1
    rw [r1] at hJ
    simp only [Bool.false_and, Bool.false_eq_true, if_false] at hJ
    cases q <;> simp (maxSteps := 1000000) [Fn.f_haulagelaw06_TypOrder, hlv, hW, hR, hJ, f3, f4, p3, p4, haa, heq, r1, w1]
  | true =>
    cases r2 : rightT c d with
    | false =>
      have w1 := wide_r (a := a) (b := b) r2
      rw [r1, r2] at hJ
      simp only [Bool.and_false, Bool.false_eq_true, if_false] at hJ
      cases q with
      | true =>
        obtain ⟨rfl, rfl⟩ := hsame rfl
        rw [r1] at r2
        cases r2
      | false => simp (maxSteps := 1000000) [Fn.f_haulagelaw06_TypOrder, hlv, hW, hR, hJ, f3, f4, p3, p4, haa, heq, r1, r2, w1]
    | true =>
      rw [r1, r2] at hJ
      simp only [Bool.and_true, if_true] at hJ
      obtain ⟨t1, t2⟩ := join_above r1 r2
      have tc : wideT e f a b = true → wideT e f c d = true → wideT e f (max a c) (joinM a b c d) = true := join_least
      have hba : q = false → wideT a b c d = true → wideT c d a b = false := by
        rintro rfl w
        cases w' : wideT c d a b with
        | false => rfl
        | true =>
          obtain ⟨rfl, rfl⟩ := wide_anti w w'
          simp at hq
      generalize max a c = tk at *
      generalize joinM a b c d = tm at *
      cases q with
      | true =>
        obtain ⟨rfl, rfl⟩ := hsame rfl
        clear hq hsame hba
        cases m2 : wideT a b e f with
        | false =>
          cases n1 : wideT e f a b with
          | false => simp (maxSteps := 1000000) [Fn.f_haulagelaw06_TypOrder, hlv, hW, hR, hJ, f3, f4, p3, p4, haa, heq, r1, t1, n1, m2]
          | true =>
            have n3 := tc n1 n1
            simp (maxSteps := 1000000) [Fn.f_haulagelaw06_TypOrder, hlv, hW, hR, hJ, f3, f4, p3, p4, haa, heq, r1, t1, n1, n3, m2]
        | true =>
          cases n1 : wideT e f a b with
          | false => simp (maxSteps := 1000000) [Fn.f_haulagelaw06_TypOrder, hlv, hW, hR, hJ, f3, f4, p3, p4, haa, heq, r1, t1, n1, m2]
          | true =>
            have n3 := tc n1 n1
            simp (maxSteps := 1000000) [Fn.f_haulagelaw06_TypOrder, hlv, hW, hR, hJ, f3, f4, p3, p4, haa, heq, r1, t1, n1, n3, m2]
      | false =>
        clear hq hsame
        cases m1 : wideT a b c d with
        | false =>
          cases n1 : wideT e f a b with
          | false => simp (maxSteps := 1000000) [Fn.f_haulagelaw06_TypOrder, hlv, hW, hR, hJ, f3, f4, p3, p4, haa, heq, r1, r2, t1, t2, n1, m1]
          | true =>
            cases n2 : wideT e f c d with
            | false => simp (maxSteps := 1000000) [Fn.f_haulagelaw06_TypOrder, hlv, hW, hR, hJ, f3, f4, p3, p4, haa, heq, r1, r2, t1, t2, n1, n2, m1]
            | true =>
              have n3 := tc n1 n2
              simp (maxSteps := 1000000) [Fn.f_haulagelaw06_TypOrder, hlv, hW, hR, hJ, f3, f4, p3, p4, haa, heq, r1, r2, t1, t2, n1, n2, n3, m1]
        | true =>
          have m0 := hba rfl m1
          cases m2 : wideT c d e f with
          | false =>
            cases n1 : wideT e f a b with
            | false => simp (maxSteps := 1000000) [Fn.f_haulagelaw06_TypOrder, hlv, hW, hR, hJ, f3, f4, p3, p4, haa, heq, r1, r2, t1, t2, n1, m1, m0, m2]
            | true =>
              cases n2 : wideT e f c d with
              | false => simp (maxSteps := 1000000) [Fn.f_haulagelaw06_TypOrder, hlv, hW, hR, hJ, f3, f4, p3, p4, haa, heq, r1, r2, t1, t2, n1, n2, m1, m0, m2]
              | true =>
                have n3 := tc n1 n2
                simp (maxSteps := 1000000) [Fn.f_haulagelaw06_TypOrder, hlv, hW, hR, hJ, f3, f4, p3, p4, haa, heq, r1, r2, t1, t2, n1, n2, n3, m1, m0, m2]
          | true =>
            have m3 := wide_trans m1 m2
            cases n1 : wideT e f a b with
            | false => simp (maxSteps := 1000000) [Fn.f_haulagelaw06_TypOrder, hlv, hW, hR, hJ, f3, f4, p3, p4, haa, heq, r1, r2, t1, t2, n1, m1, m0, m2, m3]
            | true =>
              cases n2 : wideT e f c d with
              | false => simp (maxSteps := 1000000) [Fn.f_haulagelaw06_TypOrder, hlv, hW, hR, hJ, f3, f4, p3, p4, haa, heq, r1, r2, t1, t2, n1, n2, m1, m0, m2, m3]
              | true =>
                have n3 := tc n1 n2
                simp (maxSteps := 1000000) [Fn.f_haulagelaw06_TypOrder, hlv, hW, hR, hJ, f3, f4, p3, p4, haa, heq, r1, r2, t1, t2, n1, n2, n3, m1, m0, m2, m3]
end Hx
