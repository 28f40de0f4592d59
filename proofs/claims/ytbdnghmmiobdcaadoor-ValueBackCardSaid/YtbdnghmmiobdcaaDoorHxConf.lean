/-
  HxConf: types and values as arguments; how they are compared.
-/
import Derived.Test.YtbdnghmmiobdcaaDoorHxArg
import Derived.Test.YtbdnghmmiobdcaaDoorHxSimp
namespace Hx
open Go
theorem conf_type {x : List PV} (h : Confs [.int .i64, .int .i64] x) : ∃ a b : Int, x = [.int .i64 a, .int .i64 b] ∧ (-9223372036854775808 ≤ a ∧ a ≤ 9223372036854775807) ∧ (-9223372036854775808 ≤ b ∧ b ≤ 9223372036854775807) := by
  simp only [Confs, Conf] at h
  obtain ⟨_, _, rfl, ⟨a, rfl, h1, h2⟩, _, _, rfl, ⟨b, rfl, h3, h4⟩, rfl⟩ := h
  exact ⟨a, b, rfl, ⟨h1, h2⟩, ⟨h3, h4⟩⟩
theorem conf_value {x : List PV} (h : Confs [.int .i64, .int .i64, .str] x) : ∃ (a b : Int) (s : List UInt8), x = [.int .i64 a, .int .i64 b, .str s] ∧ (-9223372036854775808 ≤ a ∧ a ≤ 9223372036854775807) ∧ (-9223372036854775808 ≤ b ∧ b ≤ 9223372036854775807) ∧ s.length ≤ 9223372036854775807 := by
  simp only [Confs, Conf] at h
  obtain ⟨_, _, rfl, ⟨a, rfl, h1, h2⟩, _, _, rfl, ⟨b, rfl, h3, h4⟩, _, _, rfl, ⟨s, rfl, h5⟩, rfl⟩ := h
  exact ⟨a, b, s, rfl, ⟨h1, h2⟩, ⟨h3, h4⟩, h5⟩
theorem eq_tP {a b c d : Int} : eqTree (.struct [(0, 1, .int), (1, 1, .int)]) (.agg [.int .i64 a, .int .i64 b]) (.agg [.int .i64 c, .int .i64 d]) = some (a == c && b == d) := by
  simp [eqTree, eqFs, partP, EqT.agg]
theorem eq_vP {a b c d : Int} {s t : List UInt8} : eqTree (.struct [(0, 1, .int), (1, 1, .int), (2, 1, .str)]) (.agg [.int .i64 a, .int .i64 b, .str s]) (.agg [.int .i64 c, .int .i64 d, .str t]) = some (a == c && (b == d && s == t)) := by
  simp [eqTree, eqFs, partP, EqT.agg]
end Hx
