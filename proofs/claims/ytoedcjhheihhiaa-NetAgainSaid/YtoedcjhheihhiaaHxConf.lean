/-
  HxConf: types and values as arguments; how they are compared.
-/
import Derived.Test.YtoedcjhheihhiaaHxArg
import Derived.Test.YtoedcjhheihhiaaHxSimp
namespace Hx
open Go
theorem eq_tP {a b c d : Int} : eqTree (.struct [(0, 1, .int), (1, 1, .int)]) (.agg [.int .i64 a, .int .i64 b]) (.agg [.int .i64 c, .int .i64 d]) = some (a == c && b == d) := by
  simp [eqTree, eqFs, partP, EqT.agg]
theorem eq_vP {a b c d : Int} {s t : List UInt8} : eqTree (.struct [(0, 1, .int), (1, 1, .int), (2, 1, .str)]) (.agg [.int .i64 a, .int .i64 b, .str s]) (.agg [.int .i64 c, .int .i64 d, .str t]) = some (a == c && (b == d && s == t)) := by
  simp [eqTree, eqFs, partP, EqT.agg]
end Hx
