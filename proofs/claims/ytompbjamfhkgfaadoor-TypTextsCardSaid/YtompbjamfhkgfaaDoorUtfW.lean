/- The laws of this seat on the evaluator. -/
import Derived.Test.YtompbjamfhkgfaaDoorHx
import Derived.Test.YtompbjamfhkgfaaDoorTie
import Derived.Test.YtompbjamfhkgfaaDoorCards
import Derived.Test.YtompbjamfhkgfaaDoorHxU06g
import Derived.Test.YtompbjamfhkgfaaDoorHxArg
import Derived.Test.YtompbjamfhkgfaaDoorHxTabS
import Derived.WalkKit
namespace Go.Proofs.YtompbjamfhkgfaaDoor.Tab
open Go _root_.Hx Go.RowKit
def gl (g : Nat) : List PV := match g with
  | 0 => []
  | 1 => [.int .i64 0, .int .i64 0, .int .i64 128, .int .i64 2048, .int .i64 65536]
  | 2 => [.str [], .str [105, 110, 116], .str [108, 111, 110, 103], .str [116, 101, 120, 116], .str [98, 121, 116, 101, 115]]
  | _ => []
def E : Env := envOf L gl
theorem link : Link F E := link_of all_ok
theorem gn0 : Tryd.prog.globalNamed "haulage/utf.least" = some 1 := by kernel_rfl
theorem gt0 : (Tryd.prog.globals[1]?).map (·.type) = some 87 := by kernel_rfl
theorem ua0 : Tryd.prog.underlying 87 = some (.array 5 3) := by kernel_rfl
theorem ue0 : Tryd.prog.underlying 3 = some (.int .i64) := by kernel_rfl
theorem ca0 : Tryd.prog.cellsOf 87 = 5 := by kernel_rfl
theorem ce0 : Tryd.prog.cellsOf 3 = 1 := by kernel_rfl
theorem tab0 {W : World} (h : laidMetH Tryd.prog [("haulage/utf.least", Rows.laid_haulage_utf_least), ("haulage/typ.words", Rows.laid_haulage_typ_words)] W) : Lib.TabIs Tryd.prog W "haulage/utf.least" .i64 [0, 0, 128, 2048, 65536] :=
  Lib.tabIs_of_head (rest := [("haulage/typ.words", Rows.laid_haulage_typ_words)]) gn0 gt0 ua0 ue0 ce0 ca0 h
theorem gn1 : Tryd.prog.globalNamed "haulage/typ.words" = some 0 := by kernel_rfl
theorem gt1 : (Tryd.prog.globals[0]?).map (·.type) = some 65 := by kernel_rfl
theorem ua1 : Tryd.prog.underlying 65 = some (.array 5 9) := by kernel_rfl
theorem ue1 : Tryd.prog.underlying 9 = some (.string) := by kernel_rfl
theorem ca1 : Tryd.prog.cellsOf 65 = 5 := by kernel_rfl
theorem ce1 : Tryd.prog.cellsOf 9 = 1 := by kernel_rfl
theorem tab1 {W : World} (h : laidMetH Tryd.prog [("haulage/utf.least", Rows.laid_haulage_utf_least), ("haulage/typ.words", Rows.laid_haulage_typ_words)] W) : W.var? Tryd.prog "haulage/typ.words" = some (([[], [105, 110, 116], [108, 111, 110, 103], [116, 101, 120, 116], [98, 121, 116, 101, 115]] : List (List UInt8)).map strV).toArray :=
  strs_of (rest := []) gn1 gt1 ua1 ue1 ce1 ca1 (h.filter fun x => x.1 == "haulage/typ.words")
theorem globs {W : World} (h : laidMetH Tryd.prog [("haulage/utf.least", Rows.laid_haulage_utf_least), ("haulage/typ.words", Rows.laid_haulage_typ_words)] W) : ∀ g, RPcells F (cx0 W) (F.gnum g) 0 (E.gl g) := by
  intro g
  match g with
  | 0 => exact trivial
  | 1 => exact gl_tab (F := F) (k := .i64) (zs := [0, 0, 128, 2048, 65536]) (name := "haulage/utf.least") gn0 (by intro i hi; rw [Nat.zero_add]; exact (tab0 h).cell gn0 i hi)
  | 2 => exact gl_strs (F := F) (zs := [[], [105, 110, 116], [108, 111, 110, 103], [116, 101, 120, 116], [98, 121, 116, 101, 115]]) (name := "haulage/typ.words") (by intro i hi; rw [Nat.zero_add]; show W.cell? ⟨0, i, none⟩ = _; have := World.var?_cell gn1 (tab1 h) i; simpa using this)
  | _ + 3 => exact trivial
noncomputable def laidWorld (os : Os) : World :=
  { World.holding Tryd.prog os ⟨#[], #[], []⟩ with heap := (((World.holding Tryd.prog os ⟨#[], #[], []⟩).heap.modify 1 fun | .cells _ t frozen => .cells #[.int .i64 0, .int .i64 0, .int .i64 128, .int .i64 2048, .int .i64 65536] t frozen | o => o).modify 0 fun | .cells _ t frozen => .cells #[.string ⟨#[]⟩, .string ⟨#[105, 110, 116]⟩, .string ⟨#[108, 111, 110, 103]⟩, .string ⟨#[116, 101, 120, 116]⟩, .string ⟨#[98, 121, 116, 101, 115]⟩] t frozen | o => o) }
theorem n04 : N04 E := ⟨rfl, rfl, rfl, rfl, rfl⟩
theorem m05 : M05 E := ⟨rfl, rfl, rfl, rfl, rfl, rfl⟩
theorem t06 : T06 E := ⟨rfl, rfl, rfl, rfl, rfl, rfl, rfl, rfl⟩
theorem x06 : X06 E := ⟨n04, m05, t06, rfl, rfl, rfl, rfl, rfl, rfl, rfl, rfl, rfl⟩
theorem lives (k : Nat) (m : Mem) : denF E (k + 119) 78 [] m = some (.ret (.p (.bool true)), m) := by
  kernel_rfl
end Go.Proofs.YtompbjamfhkgfaaDoor.Tab
