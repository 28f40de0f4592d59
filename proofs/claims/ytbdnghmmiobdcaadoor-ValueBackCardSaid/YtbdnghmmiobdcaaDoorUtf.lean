/- The laws of this seat on the evaluator. -/
import Derived.Test.YtbdnghmmiobdcaaDoorHx
import Derived.Test.YtbdnghmmiobdcaaDoorTie
import Derived.Test.YtbdnghmmiobdcaaDoorCards
import Derived.Test.YtbdnghmmiobdcaaDoorHxArg
import Derived.Test.YtbdnghmmiobdcaaDoorHxSimp
import Derived.WalkKit
namespace Go.Proofs.YtbdnghmmiobdcaaDoor.Tab
open Go _root_.Hx Go.RowKit
def gl (g : Nat) : List PV := match g with
  | 0 => []
  | 1 => [.int .i64 0, .int .i64 0, .int .i64 128, .int .i64 2048, .int .i64 65536]
  | _ => []
def E : Env := envOf L gl
theorem link : Link F E := link_of all_ok
theorem gn0 : Tryd.prog.globalNamed "haulage/utf.least" = some 1 := by kernel_rfl
theorem gt0 : (Tryd.prog.globals[1]?).map (·.type) = some 96 := by kernel_rfl
theorem ua0 : Tryd.prog.underlying 96 = some (.array 5 3) := by kernel_rfl
theorem ue0 : Tryd.prog.underlying 3 = some (.int .i64) := by kernel_rfl
theorem ca0 : Tryd.prog.cellsOf 96 = 5 := by kernel_rfl
theorem ce0 : Tryd.prog.cellsOf 3 = 1 := by kernel_rfl
theorem tab0 {W : World} (h : laidMetH Tryd.prog [("haulage/utf.least", Rows.laid_haulage_utf_least)] W) : Lib.TabIs Tryd.prog W "haulage/utf.least" .i64 [0, 0, 128, 2048, 65536] :=
  Lib.tabIs_of_head (rest := []) gn0 gt0 ua0 ue0 ce0 ca0 h
theorem globs {W : World} (h : laidMetH Tryd.prog [("haulage/utf.least", Rows.laid_haulage_utf_least)] W) : ∀ g, RPcells F (cx0 W) (F.gnum g) 0 (E.gl g) := by
  intro g
  match g with
  | 0 => exact trivial
  | 1 => exact gl_tab (F := F) (k := .i64) (zs := [0, 0, 128, 2048, 65536]) (name := "haulage/utf.least") gn0 (by intro i hi; rw [Nat.zero_add]; exact (tab0 h).cell gn0 i hi)
  | _ + 2 => exact trivial
noncomputable def laidWorld (os : Os) : World :=
  { World.holding Tryd.prog os ⟨#[], #[], []⟩ with heap := ((World.holding Tryd.prog os ⟨#[], #[], []⟩).heap.modify 1 fun | .cells _ t frozen => .cells #[.int .i64 0, .int .i64 0, .int .i64 128, .int .i64 2048, .int .i64 65536] t frozen | o => o) }
theorem lives (k : Nat) (m : Mem) : denF E (k + 119) 25 [] m = some (.ret (.p (.bool true)), m) := by
  kernel_rfl
end Go.Proofs.YtbdnghmmiobdcaaDoor.Tab
