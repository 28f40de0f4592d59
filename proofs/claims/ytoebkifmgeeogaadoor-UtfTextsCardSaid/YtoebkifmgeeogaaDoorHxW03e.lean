/-
  HxW03e: arguments of plain types as the laws take them.
-/
import Derived.Test.YtoebkifmgeeogaaDoorHxW03d
import Derived.Test.YtoebkifmgeeogaaDoorHxArg
namespace Hx
open Go
theorem conf_str {x : PV} (h : Conf .str x) : ∃ s : List UInt8, x = .str s ∧ s.length ≤ 9223372036854775807 := by
  simpa only [Conf] using h
theorem conf_i64 {x : PV} (h : Conf (.int .i64) x) : ∃ n : Int, x = .int .i64 n ∧ -9223372036854775808 ≤ n ∧ n ≤ 9223372036854775807 := by
  simp only [Conf] at h
  obtain ⟨n, rfl, h1, h2⟩ := h
  exact ⟨n, rfl, h1, h2⟩
theorem conf_ints {x : PV} (h : Conf (.slice 1 [.int .i64]) x) : ∃ l : List Int, IsInts x l := by
  simp only [Conf] at h
  rcases h with rfl | ⟨rows, rfl, hq, h⟩
  · exact ⟨[], .inl ⟨rfl, rfl⟩⟩
  · have : ∃ l : List Int, rows = l.map rowI := by
      clear hq
      induction rows with
      | nil => exact ⟨[], rfl⟩
      | cons r rows ih =>
        obtain ⟨l, rfl⟩ := ih fun q hq => h q (List.mem_cons_of_mem _ hq)
        have := h r (by simp)
        simp only [Confs, Conf] at this
        obtain ⟨x, r', rfl, ⟨n, rfl, _⟩, rfl⟩ := this
        exact ⟨n :: l, rfl⟩
    obtain ⟨l, rfl⟩ := this
    exact ⟨l, .inr rfl⟩
theorem law_UtfTexts' {E : Env} (u : W03 E) (h : E.fn 206 = some Fn.f_haulagelaw03_UtfTexts) (k : Nat) (hlv : ∀ m, denF E (k + 119) 0 [] m = some (yes, m)) {x0 x1 : PV} (c0 : Conf .str x0) (c1 : Conf (.slice 1 [.int .i64]) x1) (m : Mem) :
    denF E (k + 120) 206 [.p x0, .p x1] m = some (yes, m) := by
  obtain ⟨s, rfl, hs⟩ := conf_str c0
  obtain ⟨l, hl⟩ := conf_ints c1
  exact law_UtfTexts u h k hlv s hs x1 l hl m
end Hx
