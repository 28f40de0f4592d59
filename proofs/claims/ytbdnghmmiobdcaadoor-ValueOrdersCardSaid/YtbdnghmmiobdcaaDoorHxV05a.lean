/-
  HxV05a: which of two values stands first, as the program and the document tell it; the law ValueOrders on the evaluator.
-/
import Derived.Test.YtbdnghmmiobdcaaDoorHxFn05
import Derived.Test.YtbdnghmmiobdcaaDoorHxFn07
import Derived.Test.YtbdnghmmiobdcaaDoorHxU07a
import Derived.Test.YtbdnghmmiobdcaaDoorHxConf
namespace Hx
open Go
set_option linter.unusedSimpArgs false
set_option linter.unusedVariables false
set_option maxHeartbeats 4000000
variable {E : Env}
attribute [-simp] List.getD_eq_getElem?_getD getElem?_pos
def ord5 (p q : Int × Int × List UInt8) : Int :=
  if p.1 < q.1 ∨ (p.1 = q.1 ∧ p.2.1 < q.2.1) then -1 else if q.1 < p.1 ∨ (p.1 = q.1 ∧ q.2.1 < p.2.1) then 1 else ordL p.2.2 q.2.2
theorem ord5_0 {p q : Int × Int × List UInt8} (h : ord5 p q = 0) : p = q := by
  unfold ord5 at h
  split at h
  · omega
  split at h
  · omega
  · have := ordL_eq h
    obtain ⟨a, b, c⟩ := p
    obtain ⟨d, e, f⟩ := q
    simp only at *
    have h1 : a = d := by omega
    have h2 : b = e := by omega
    rw [h1, h2, this]
theorem ord5_self (p : Int × Int × List UInt8) : ord5 p p = 0 := by
  unfold ord5
  rw [if_neg (by omega), if_neg (by omega), ordL_self]
theorem less_ord : ∀ a b : List UInt8, Op.bytesLess a b = decide (ordL a b = -1)
  | [], [] => rfl
  | [], _ :: _ => rfl
  | _ :: _, [] => rfl
  | x :: a, y :: b => by
    rw [Op.bytesLess, ordL, less_ord a b]
    by_cases h1 : x < y
    · simp [h1]
    · by_cases h2 : y < x
      · have : ¬ x = y := fun e => by subst e; exact h1 h2
        simp [h1, h2, this]
      · have : x = y := UInt8.le_antisymm (UInt8.not_lt.mp h2) (UInt8.not_lt.mp h1)
        subst this
        simp [h1]
theorem ordL_0 {a b : List UInt8} : ordL a b = 0 ↔ a = b := ⟨ordL_eq, fun e => by subst e; exact ordL_self a⟩
structure B05 (E : Env) : Prop where
  order : E.fn 41 = some Fn.f_value_Order
  sign : E.fn 57 = some Fn.f_value_sign
  norder : E.fn 58 = some Fn.f_name_Order
  rnorder : E.fn 59 = some Fn.f_haulageref04_Order
  rorder : E.fn 42 = some Fn.f_haulageref05_Order
theorem value_sign (h : E.fn 57 = some Fn.f_value_sign) (k : Nat) (b : Bool) (m : Mem) : denF E (k + 1) 57 [.p (.bool b)] m = some (.ret (.p (.int .i64 (if b then -1 else 1))), m) := by
  refine denF_wp h rfl (args' := [.p (.bool b)]) rfl ?_
  cases b <;> simp [Fn.f_value_sign]
theorem name_Order (h : E.fn 58 = some Fn.f_name_Order) (k : Nat) (a b : List UInt8) (m : Mem) : denF E (k + 1) 58 [.p (.str a), .p (.str b)] m = some (.ret (.p (.int .i64 (ordL a b))), m) := by
  refine denF_wp h rfl (args' := [.p (.str a), .p (.str b)]) rfl ?_
  have hL := less_ord a b
  have he : (a == b) = decide (ordL a b = 0) := by
    by_cases h : a = b
    · subst h; simp [ordL_self]
    · have : ¬ ordL a b = 0 := fun e => h (ordL_eq e)
      simp [h, this]
  rcases ordL_vals a b with h | h | h
  · simp [Fn.f_name_Order, hL, he, h]
  · simp [Fn.f_name_Order, hL, he, h]
  · simp [Fn.f_name_Order, hL, he, h]
theorem value_Order (u : B05 E) (k : Nat) (a n a' n' : Int) (s s' : List UInt8) (m : Mem) :
    denF E (k + 2) 41 [.p (.agg [.int .i64 a, .int .i64 n, .str s]), .p (.agg [.int .i64 a', .int .i64 n', .str s'])] m = some (.ret (.p (.int .i64 (ord5 (a, n, s) (a', n', s')))), m) := by
  refine denF_wp u.order rfl (args' := [.p (.agg [.int .i64 a, .int .i64 n, .str s]), .p (.agg [.int .i64 a', .int .i64 n', .str s'])]) rfl ?_
  have hS := fun b m => value_sign u.sign k b m
  have hN := fun m => name_Order u.norder k s s' m
  unfold ord5
  dsimp only
  by_cases h1 : a = a'
  · subst h1
    by_cases h2 : n = n'
    · subst h2
      rw [if_neg (by omega), if_neg (by omega)]
      by_cases h3 : s = s'
      · subst h3
        simp (maxSteps := 1000000) [Fn.f_value_Order, eq_vP, ordL_self]
      · have h3b : (s == s') = false := by simpa using h3
        simp (maxSteps := 1000000) [Fn.f_value_Order, eq_vP, h3b, hN, bne]
    · have h2b : (n == n') = false := by simpa using h2
      by_cases h4 : n < n'
      · rw [if_pos (.inr ⟨rfl, h4⟩)]
        simp (maxSteps := 1000000) [Fn.f_value_Order, eq_vP, h2b, h4, hS, bne]
      · rw [if_neg (by omega), if_pos (.inr ⟨rfl, by omega⟩)]
        simp (maxSteps := 1000000) [Fn.f_value_Order, eq_vP, h2b, h4, hS, bne]
  · have h1b : (a == a') = false := by simpa using h1
    by_cases h4 : a < a'
    · rw [if_pos (.inl h4)]
      simp (maxSteps := 1000000) [Fn.f_value_Order, eq_vP, h1b, h4, hS, bne]
    · rw [if_neg (by omega), if_pos (.inl (by omega))]
      simp (maxSteps := 1000000) [Fn.f_value_Order, eq_vP, h1b, h4, hS, bne]
theorem ref_VOrder5 (q : B05 E) (k : Nat) (a n a' n' : Int) (s s' : List UInt8) (hs : (s.length : Int) ≤ 1000000000) (hk : s.length + 4 ≤ k) (m : Mem) :
    denF E (k + 1) 42 [.p (.agg [.int .i64 a, .int .i64 n, .str s]), .p (.agg [.int .i64 a', .int .i64 n', .str s'])] m = some (.ret (.p (.int .i64 (ord5 (a, n, s) (a', n', s')))), m) := by
  refine denF_wp q.rorder rfl (args' := [.p (.agg [.int .i64 a, .int .i64 n, .str s]), .p (.agg [.int .i64 a', .int .i64 n', .str s'])]) rfl ?_
  obtain ⟨j, rfl⟩ : ∃ j, k = j + 1 := ⟨k - 1, by omega⟩
  have hN := fun m => ref_NOrder q.rnorder s s' (by omega) j (by omega) m
  unfold ord5
  dsimp only
  by_cases h1 : a < a'
  · rw [if_pos (.inl h1)]
    simp (maxSteps := 1000000) [Fn.f_haulageref05_Order, h1]
  · by_cases h2 : a' < a
    · have e1 : (a == a') = false := by simp; omega
      rw [if_neg (by omega), if_pos (by omega)]
      simp (maxSteps := 1000000) [Fn.f_haulageref05_Order, h1, h2, e1]
    · have : a = a' := by omega
      subst this
      by_cases h3 : n < n'
      · rw [if_pos (.inr ⟨rfl, h3⟩)]
        simp (maxSteps := 1000000) [Fn.f_haulageref05_Order, h3]
      · by_cases h4 : n' < n
        · rw [if_neg (by omega), if_pos (.inr ⟨rfl, h4⟩)]
          simp (maxSteps := 1000000) [Fn.f_haulageref05_Order, h3, h4]
        · rw [if_neg (by omega), if_neg (by omega)]
          simp (maxSteps := 1000000) [Fn.f_haulageref05_Order, h3, h4, hN]
theorem ord5_neg (p q : Int × Int × List UInt8) : ord5 q p = - ord5 p q := by
  unfold ord5
  by_cases h1 : p.1 < q.1 ∨ (p.1 = q.1 ∧ p.2.1 < q.2.1)
  · rw [if_pos h1, if_neg (by omega), if_pos (by omega)]; rfl
  · by_cases h2 : q.1 < p.1 ∨ (p.1 = q.1 ∧ q.2.1 < p.2.1)
    · rw [if_neg h1, if_pos h2, if_pos (by omega)]
    · rw [if_neg h1, if_neg h2, if_neg (by omega), if_neg (by omega), ordL_neg]
theorem ord5_vals (p q : Int × Int × List UInt8) : ord5 p q = -1 ∨ ord5 p q = 0 ∨ ord5 p q = 1 := by
  unfold ord5
  split
  · exact .inl rfl
  · split
    · exact .inr (.inr rfl)
    · exact ordL_vals _ _
theorem law_ValueOrders (u : B05 E) (h : E.fn 211 = some Fn.f_haulagelaw05_ValueOrders) (k : Nat) (hlv : ∀ m, denF E (k + 399) 25 [] m = some (.ret (.p (.bool true)), m)) {x0 x1 : List PV} (c0 : Confs [.int .i64, .int .i64, .str] x0) (c1 : Confs [.int .i64, .int .i64, .str] x1) (m : Mem) :
    denF E (k + 400) 211 [.p (.agg x0), .p (.agg x1)] m = some (.ret (.p (.bool true)), m) := by
  obtain ⟨a, n, s, rfl, _, _, _⟩ := conf_value c0
  obtain ⟨a', n', s', rfl, _, _, _⟩ := conf_value c1
  rw [denF_pure h rfl]
  by_cases hs : (300 : Int) < s.length
  · simp (maxSteps := 1000000) [Fn.f_haulagelaw05_ValueOrders, hlv, hs]
  by_cases hs' : (300 : Int) < s'.length
  · simp (maxSteps := 1000000) [Fn.f_haulagelaw05_ValueOrders, hlv, hs, hs']
  have f1 := u.order
  have f2 := u.rorder
  have p1 : Fn.f_value_Order.pure = true := rfl
  have p2 : Fn.f_haulageref05_Order.pure = true := rfl
  have h1 := fun m => value_Order u (k + 397) a n a' n' s s' m
  have h2 := fun m => value_Order u (k + 397) a' n' a n s' s m
  have h3 := fun m => value_Order u (k + 397) a n a n s s m
  have h4 := fun m => ref_VOrder5 u (k + 398) a n a' n' s s' (by omega) (by omega) m
  rw [ord5_neg (a, n, s) (a', n', s')] at h2
  rw [ord5_self] at h3
  have hz : (a == a' && (n == n' && s == s')) = decide (ord5 (a, n, s) (a', n', s') = 0) := by
    by_cases e : ord5 (a, n, s) (a', n', s') = 0
    · have := ord5_0 e
      simp only [Prod.mk.injEq] at this
      obtain ⟨rfl, rfl, rfl⟩ := this
      simp [e]
    · have : ¬ (a = a' ∧ (n = n' ∧ s = s')) := by
        rintro ⟨rfl, rfl, rfl⟩
        exact e (ord5_self _)
      simp [e]
      simpa using this
  have hv := ord5_vals (a, n, s) (a', n', s')
  generalize ord5 (a, n, s) (a', n', s') = r at *
  have w1 : IntKind.i64.wrap 1 = 1 := by decide
  have w0 : IntKind.i64.wrap 0 = 0 := by decide
  have w2 : IntKind.i64.wrap (-1) = -1 := by decide
  rcases hv with rfl | rfl | rfl
  · simp (maxSteps := 4000000) [Fn.f_haulagelaw05_ValueOrders, hlv, hs, hs', h1, h2, h3, h4, f1, f2, p1, p2, eq_vP, hz, w0, w1, w2, bne]
  · simp (maxSteps := 4000000) [Fn.f_haulagelaw05_ValueOrders, hlv, hs, hs', h1, h2, h3, h4, f1, f2, p1, p2, eq_vP, hz, w0, w1, w2, bne]
  · simp (maxSteps := 4000000) [Fn.f_haulagelaw05_ValueOrders, hlv, hs, hs', h1, h2, h3, h4, f1, f2, p1, p2, eq_vP, hz, w0, w1, w2, bne]
end Hx
