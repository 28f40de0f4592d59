/-
  HxU06: the small functions of the chapters 05 and 06: which values and types are right, which of two types is as wide.
-/
import Derived.Test.YtbdnghmmiobdcaaDoorHxFn06
import Derived.Test.YtbdnghmmiobdcaaDoorHxM06
import Derived.Test.YtbdnghmmiobdcaaDoorHxU03l
namespace Hx
open Go
set_option linter.unusedSimpArgs false
set_option linter.unusedVariables false
set_option maxHeartbeats 4000000
variable {E : Env}
attribute [-simp] List.getD_eq_getElem?_getD getElem?_pos
theorem intBeq {a b : Int} : (a == b) = decide (a = b) := by
  rw [Bool.eq_iff_iff]; simp
theorem maxIf {a c : Int} : (if a < c then c else a) = max a c := by
  split <;> omega
attribute [local simp] intBeq maxIf
def vP (k n : Int) (s : List UInt8) : PV := .agg [.int .i64 k, .int .i64 n, .str s]
def tP (k m : Int) : PV := .agg [.int .i64 k, .int .i64 m]
def boolR (b : Bool) : AV := .p (.bool b)
structure T06 (E : Env) : Prop where
  right : E.fn 84 = some Fn.f_typ_Right
  long : E.fn 95 = some Fn.f_typ_long
  need : E.fn 96 = some Fn.f_typ_need
  digits : E.fn 99 = some Fn.f_typ_digits
  wide : E.fn 83 = some Fn.f_typ_Wide
  join : E.fn 79 = some Fn.f_typ_Join
  rRight : E.fn 85 = some Fn.f_haulageref06_Right
  rWide : E.fn 88 = some Fn.f_haulageref06_Wide
theorem typ_Right (h : E.fn 84 = some Fn.f_typ_Right) (k : Nat) (a b : Int) (m : Mem) : denF E (k + 1) 84 [.p (tP a b)] m = some (.ret (.p (.bool (rightT a b))), m) := by
  refine denF_wp h rfl (args' := [.p (tP a b)]) rfl ?_
  unfold rightT tP
  by_cases h1 : a = 1
  · subst h1; simp [Fn.f_typ_Right]
  by_cases h2 : a = 2
  · subst h2; simp [Fn.f_typ_Right]
  by_cases h3 : a = 3
  · subst h3; by_cases hb : 1 ≤ b <;> simp [Fn.f_typ_Right, hb]
  by_cases h4 : a = 4
  · subst h4; by_cases hb : 1 ≤ b <;> simp [Fn.f_typ_Right, hb]
  simp [Fn.f_typ_Right, h1, h2, h3, h4]
theorem ref_TRight (h : E.fn 85 = some Fn.f_haulageref06_Right) (k : Nat) (a b : Int) (m : Mem) : denF E (k + 1) 85 [.p (tP a b)] m = some (.ret (.p (.bool (rightT a b))), m) := by
  refine denF_wp h rfl (args' := [.p (tP a b)]) rfl ?_
  unfold rightT tP
  by_cases h1 : a = 1
  · subst h1; simp [Fn.f_haulageref06_Right]
  by_cases h2 : a = 2
  · subst h2; simp [Fn.f_haulageref06_Right]
  by_cases h3 : a = 3
  · subst h3; by_cases hb : 1 ≤ b <;> simp [Fn.f_haulageref06_Right, hb]
  by_cases h4 : a = 4
  · subst h4; by_cases hb : 1 ≤ b <;> simp [Fn.f_haulageref06_Right, hb]
  simp [Fn.f_haulageref06_Right, h1, h2, h3, h4]
def longT (a : Int) : Bool := decide (a = 3 ∨ a = 4)
theorem typ_long (h : E.fn 95 = some Fn.f_typ_long) (k : Nat) (a : Int) (m : Mem) : denF E (k + 1) 95 [.p (.int .i64 a)] m = some (.ret (.p (.bool (longT a))), m) := by
  refine denF_wp h rfl (args' := [.p (.int .i64 a)]) rfl ?_
  unfold longT
  by_cases h3 : a = 3
  · subst h3; simp [Fn.f_typ_long]
  by_cases h4 : a = 4
  · subst h4; simp [Fn.f_typ_long]
  simp [Fn.f_typ_long, h3, h4]
theorem typ_digits (h : E.fn 99 = some Fn.f_typ_digits) (k : Nat) (a : Int) (m : Mem) : denF E (k + 1) 99 [.p (.int .i64 a)] m = some (.ret (.p (.int .i64 (if a = 1 then 11 else 20))), m) := by
  refine denF_wp h rfl (args' := [.p (.int .i64 a)]) rfl ?_
  by_cases h3 : a = 1
  · subst h3; simp [Fn.f_typ_digits]
  simp [Fn.f_typ_digits, h3]
theorem typ_need (u : T06 E) (k : Nat) (a b : Int) (m : Mem) : denF E (k + 2) 96 [.p (tP a b)] m = some (.ret (.p (.int .i64 (needT a b))), m) := by
  refine denF_wp u.need rfl (args' := [.p (tP a b)]) rfl ?_
  have hl := fun m => typ_long u.long k a m
  have hd := fun m => typ_digits u.digits k a m
  unfold needT tP
  by_cases h : a = 3 ∨ a = 4
  · have : longT a = true := decide_eq_true h
    simp [Fn.f_typ_need, hl, this, h]
  · have : longT a = false := decide_eq_false h
    simp [Fn.f_typ_need, hl, hd, this, h]
theorem typ_Wide (u : T06 E) (k : Nat) (a b c d : Int) (m : Mem) : denF E (k + 3) 83 [.p (tP a b), .p (tP c d)] m = some (.ret (.p (.bool (wideT a b c d))), m) := by
  refine denF_wp u.wide rfl (args' := [.p (tP a b), .p (tP c d)]) rfl ?_
  have hr := fun m => typ_Right u.right (k + 1) a b m
  have hr' := fun m => typ_Right u.right (k + 1) c d m
  have hl := fun m => typ_long u.long (k + 1) a m
  have hn := fun m => typ_need u k c d m
  have hf := u.need
  have hp : Fn.f_typ_need.pure = true := rfl
  unfold wideT
  unfold tP at *
  cases h1 : rightT a b with
  | false => rw [h1] at hr; simp [Fn.f_typ_Wide, hr]
  | true =>
    rw [h1] at hr
    cases h2 : rightT c d with
    | false => rw [h2] at hr'; simp [Fn.f_typ_Wide, hr, hr']
    | true =>
      rw [h2] at hr'
      by_cases h3 : a < c
      · have : ¬ c ≤ a := by omega
        simp [Fn.f_typ_Wide, hr, hr', h3, this]
      · have : c ≤ a := by omega
        by_cases h : a = 3 ∨ a = 4
        · have hq : longT a = true := decide_eq_true h
          simp [Fn.f_typ_Wide, hr, hr', h3, this, hl, hq, h, hn, hf, hp]
        · have hq : longT a = false := decide_eq_false h
          simp [Fn.f_typ_Wide, hr, hr', h3, this, hl, hq, h, hn, hf, hp]
theorem ref_Wide (u : T06 E) (k : Nat) (a b c d : Int) (m : Mem) : denF E (k + 2) 88 [.p (tP a b), .p (tP c d)] m = some (.ret (.p (.bool (wideT a b c d))), m) := by
  refine denF_wp u.rWide rfl (args' := [.p (tP a b), .p (tP c d)]) rfl ?_
  have hr := fun m => ref_TRight u.rRight k a b m
  have hr' := fun m => ref_TRight u.rRight k c d m
  unfold wideT
  unfold tP at *
  cases h1 : rightT a b with
  | false => rw [h1] at hr; simp [Fn.f_haulageref06_Wide, hr]
  | true =>
    rw [h1] at hr
    cases h2 : rightT c d with
    | false => rw [h2] at hr'; simp [Fn.f_haulageref06_Wide, hr, hr']
    | true =>
      rw [h2] at hr'
      rcases right_cases h1 with ⟨rfl, rfl⟩ | ⟨rfl, rfl⟩ | ⟨rfl, _⟩ | ⟨rfl, _⟩ <;> rcases right_cases h2 with ⟨rfl, rfl⟩ | ⟨rfl, rfl⟩ | ⟨rfl, _⟩ | ⟨rfl, _⟩ <;> simp [Fn.f_haulageref06_Wide, hr, hr', needT]
theorem typ_Join (u : T06 E) (k : Nat) (a b c d : Int) (m : Mem) : denF E (k + 3) 79 [.p (tP a b), .p (tP c d)] m =
    some (.ret (if rightT a b && rightT c d then .tup [.p (tP (max a c) (joinM a b c d)), .p (.bool true)] else .tup [.p (tP 0 0), .p (.bool false)]), m) := by
  refine denF_wp u.join rfl (args' := [.p (tP a b), .p (tP c d)]) rfl ?_
  have hr := fun m => typ_Right u.right (k + 1) a b m
  have hr' := fun m => typ_Right u.right (k + 1) c d m
  have hl := fun m => typ_long u.long (k + 1) (max a c) m
  have hn := fun m => typ_need u k a b m
  have hn' := fun m => typ_need u k c d m
  have hf := u.need
  have hp : Fn.f_typ_need.pure = true := rfl
  unfold joinM
  unfold tP at *
  cases h1 : rightT a b with
  | false => rw [h1] at hr; simp [Fn.f_typ_Join, hr]
  | true =>
    rw [h1] at hr
    cases h2 : rightT c d with
    | false => rw [h2] at hr'; simp [Fn.f_typ_Join, hr, hr']
    | true =>
      rw [h2] at hr'
      by_cases h : max a c = 3 ∨ max a c = 4
      · have hq : longT (max a c) = true := decide_eq_true h
        simp [Fn.f_typ_Join, hr, hr', hl, hq, h, hn, hn', hf, hp]
      · have hq : longT (max a c) = false := decide_eq_false h
        simp [Fn.f_typ_Join, hr, hr', hl, hq, h, hn, hn', hf, hp]
end Hx
