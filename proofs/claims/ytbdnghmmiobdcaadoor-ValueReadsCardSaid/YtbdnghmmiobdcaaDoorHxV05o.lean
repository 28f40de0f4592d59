/-
  HxV05o: the value that a text is; the law ValueReads on the evaluator.
-/
import Derived.Test.YtbdnghmmiobdcaaDoorHxV05s
namespace Hx
open Go
set_option linter.unusedSimpArgs false
set_option linter.unusedVariables false
set_option maxHeartbeats 8000000
set_option maxRecDepth 20000
variable {E : Env}
attribute [-simp] List.getD_eq_getElem?_getD getElem?_pos
/-- The value that a text is, and an error's number. -/
def parseR (s : List UInt8) : Int × Int × List UInt8 × Int := if (readR s).2.2.2.2 = 0 ∧ (readR s).2.2.2.1 < s.length then (0, 0, [], 6) else ((readR s).1, (readR s).2.1, (readR s).2.2.1, (readR s).2.2.2.2)
def prV (r : Int × Int × List UInt8 × Int) : AV := valE r.1 r.2.1 r.2.2.1 r.2.2.2
theorem value_Parse (u : P05 E) (s : List UInt8) (hs : (s.length : Int) ≤ 1000000000) (k : Nat) (hk : s.length + 61 ≤ k) (m : Mem) : denF E (k + 1) 28 [.p (.str s)] m = some (.ret (prV (parseR s)), m) := by
  refine denF_wp u.parse rfl (args' := [.p (.str s)]) rfl ?_
  obtain ⟨j, rfl⟩ : ∃ j, k = j + 1 := ⟨k - 1, by omega⟩
  have hR := fun m => value_Read u s hs j (by omega) m
  unfold parseR
  generalize readR s = R at *
  obtain ⟨r1, r2, r3, r4, r5⟩ := R
  unfold rdV rT5 at hR
  simp only at hR ⊢
  unfold prV valE
  by_cases h0 : r5 = 0
  · subst h0
    by_cases hl : r4 < s.length
    · rw [if_pos ⟨rfl, hl⟩]
      simp [Fn.f_value_Parse, hR, hl]
    · rw [if_neg (fun h => hl h.2)]
      simp [Fn.f_value_Parse, hR, hl]
  · have : (r5 == 0) = false := by simpa using h0
    rw [if_neg (fun h => h0 h.1)]
    simp [Fn.f_value_Parse, hR, this]
theorem ref_VParse (u : P05 E) (s : List UInt8) (hs : (s.length : Int) ≤ 1000000000) (k : Nat) (hk : s.length + 301 ≤ k) (m : Mem) : denF E (k + 1) 29 [.p (.str s)] m = some (.ret (prV (parseR s)), m) := by
  refine denF_wp u.rparse rfl (args' := [.p (.str s)]) rfl ?_
  obtain ⟨j, rfl⟩ : ∃ j, k = j + 1 := ⟨k - 1, by omega⟩
  have hR := fun m => ref_VRead u s hs j (by omega) m
  unfold parseR
  generalize readR s = R at *
  obtain ⟨r1, r2, r3, r4, r5⟩ := R
  unfold rdV rT5 at hR
  simp only at hR ⊢
  unfold prV valE
  by_cases h0 : r5 = 0
  · subst h0
    by_cases hl : r4 < s.length
    · rw [if_pos ⟨rfl, hl⟩]
      simp [Fn.f_haulageref05_Parse, hR, hl]
    · rw [if_neg (fun h => hl h.2)]
      simp [Fn.f_haulageref05_Parse, hR, hl]
  · have : (r5 == 0) = false := by simpa using h0
    rw [if_neg (fun h => h0 h.1)]
    simp [Fn.f_haulageref05_Parse, hR, this]
theorem eq_v5 (x y : Int) (z : List UInt8) : eqTree (.struct [(0, 1, .int), (1, 1, .int), (2, 1, .str)]) (.agg [.int .i64 x, .int .i64 y, .str z]) (.agg [.int .i64 x, .int .i64 y, .str z]) = some true := by rw [eq_vP]; simp
theorem law_ValueReads (u : P05 E) (h : E.fn 208 = some Fn.f_haulagelaw05_ValueReads) (k : Nat) (hlv : ∀ m, denF E (k + 799) 25 [] m = some (.ret (.p (.bool true)), m)) {x0 : PV} (c0 : Conf .str x0) (m : Mem) :
    denF E (k + 800) 208 [.p x0] m = some (.ret (.p (.bool true)), m) := by
  simp only [Conf] at c0
  obtain ⟨s, rfl, _⟩ := c0
  rw [denF_pure h rfl]
  by_cases hs : (400 : Int) < s.length
  · simp (maxSteps := 1000000) [Fn.f_haulagelaw05_ValueReads, hlv, hs]
  have h1 := fun m => value_Read u s (by omega) (k + 798) (by omega) m
  have h2 := fun m => ref_VRead u s (by omega) (k + 798) (by omega) m
  have h3 := fun m => value_Parse u s (by omega) (k + 798) (by omega) m
  have h4 := fun m => ref_VParse u s (by omega) (k + 798) (by omega) m
  generalize readR s = R at *
  obtain ⟨r1, r2, r3, r4, r5⟩ := R
  generalize parseR s = P at *
  obtain ⟨p1, p2, p3, p4⟩ := P
  unfold rdV rT5 at h1 h2
  unfold prV valE at h3 h4
  simp only at h1 h2 h3 h4
  simp (maxSteps := 4000000) [Fn.f_haulagelaw05_ValueReads, hlv, hs, h1, h2, h3, h4, eq_v5]
end Hx
