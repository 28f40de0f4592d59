/- The laws of this seat on the evaluator. -/
import Derived.Test.YtoebkifmgeeogaaDoorHx
import Derived.Test.YtoebkifmgeeogaaDoorTie
import Derived.Test.YtoebkifmgeeogaaDoorCards
import Derived.Test.YtoebkifmgeeogaaDoorHxW03c
import Derived.Test.YtoebkifmgeeogaaDoorHxRow
import Derived.WalkKit
namespace Go.Proofs.YtoebkifmgeeogaaDoor.Tab
open Go _root_.Hx Go.RowKit
def gl (g : Nat) : List PV := match g with
  | 0 => [.int .u8 0, .int .u8 0, .int .u8 192, .int .u8 224, .int .u8 240]
  | 1 => [.int .i64 0, .int .i64 0, .int .i64 128, .int .i64 2048, .int .i64 65536]
  | _ => []
def E : Env := envOf L gl
theorem link : Link F E := link_of all_ok
theorem u03 : U03 E := ⟨rfl, rfl, rfl, rfl, rfl, rfl, rfl, rfl, rfl, rfl, rfl, rfl⟩
theorem w03 : W03 E := ⟨u03, rfl, rfl, rfl, rfl, rfl, rfl, rfl, rfl, rfl, rfl, rfl, rfl, rfl, rfl⟩
theorem lives (k : Nat) (m : Mem) : denF E (k + 39) 0 [] m = some (yes, m) := by
  kernel_rfl
theorem gn0 : Tryd.prog.globalNamed "haulage/utf.first" = some 0 := by kernel_rfl
theorem gt0 : (Tryd.prog.globals[0]?).map (·.type) = some 52 := by kernel_rfl
theorem ua0 : Tryd.prog.underlying 52 = some (.array 5 5) := by kernel_rfl
theorem ue0 : Tryd.prog.underlying 5 = some (.int .u8) := by kernel_rfl
theorem ca0 : Tryd.prog.cellsOf 52 = 5 := by kernel_rfl
theorem ce0 : Tryd.prog.cellsOf 5 = 1 := by kernel_rfl
theorem tab0 {W : World} (h : laidMetH Tryd.prog [("haulage/utf.first", Rows.laid_haulage_utf_first), ("haulage/utf.least", Rows.laid_haulage_utf_least)] W) : Lib.TabIs Tryd.prog W "haulage/utf.first" .u8 [0, 0, 192, 224, 240] :=
  Lib.tabIs_of_head (rest := [("haulage/utf.least", Rows.laid_haulage_utf_least)]) gn0 gt0 ua0 ue0 ce0 ca0 h
theorem gn1 : Tryd.prog.globalNamed "haulage/utf.least" = some 1 := by kernel_rfl
theorem gt1 : (Tryd.prog.globals[1]?).map (·.type) = some 53 := by kernel_rfl
theorem ua1 : Tryd.prog.underlying 53 = some (.array 5 3) := by kernel_rfl
theorem ue1 : Tryd.prog.underlying 3 = some (.int .i64) := by kernel_rfl
theorem ca1 : Tryd.prog.cellsOf 53 = 5 := by kernel_rfl
theorem ce1 : Tryd.prog.cellsOf 3 = 1 := by kernel_rfl
theorem tab1 {W : World} (h : laidMetH Tryd.prog [("haulage/utf.first", Rows.laid_haulage_utf_first), ("haulage/utf.least", Rows.laid_haulage_utf_least)] W) : Lib.TabIs Tryd.prog W "haulage/utf.least" .i64 [0, 0, 128, 2048, 65536] :=
  Lib.tabIs_of_head (rest := []) gn1 gt1 ua1 ue1 ce1 ca1 (h.filter fun x => x.1 == "haulage/utf.least")
theorem globs {W : World} (h : laidMetH Tryd.prog [("haulage/utf.first", Rows.laid_haulage_utf_first), ("haulage/utf.least", Rows.laid_haulage_utf_least)] W) : ∀ g, RPcells F (cx0 W) (F.gnum g) 0 (E.gl g) := by
  intro g
  match g with
  | 0 => exact gl_tab (F := F) (k := .u8) (zs := [0, 0, 192, 224, 240]) (name := "haulage/utf.first") gn0 (by intro i hi; rw [Nat.zero_add]; exact (tab0 h).cell gn0 i hi)
  | 1 => exact gl_tab (F := F) (k := .i64) (zs := [0, 0, 128, 2048, 65536]) (name := "haulage/utf.least") gn1 (by intro i hi; rw [Nat.zero_add]; exact (tab1 h).cell gn1 i hi)
  | _ + 2 => exact trivial
noncomputable def laidWorld (os : Os) : World :=
  { World.holding Tryd.prog os ⟨#[], #[], []⟩ with heap := (((World.holding Tryd.prog os ⟨#[], #[], []⟩).heap.modify 0 fun | .cells _ t frozen => .cells #[.int .u8 0, .int .u8 0, .int .u8 192, .int .u8 224, .int .u8 240] t frozen | o => o).modify 1 fun | .cells _ t frozen => .cells #[.int .i64 0, .int .i64 0, .int .i64 128, .int .i64 2048, .int .i64 65536] t frozen | o => o) }
end Go.Proofs.YtoebkifmgeeogaaDoor.Tab
