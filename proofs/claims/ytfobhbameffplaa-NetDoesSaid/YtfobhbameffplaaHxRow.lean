/-
  HxRow: from what a row asks to the evaluator, and back: the arguments as values of the evaluator; what is said behind the call.
-/
import Derived.Test.YtfobhbameffplaaProg
import Derived.Test.YtfobhbameffplaaHxFn05
import Derived.Test.YtfobhbameffplaaHxFn06
import Derived.Test.YtfobhbameffplaaHxFn10b
import Derived.Test.YtfobhbameffplaaHxFn25
import Derived.Test.YtfobhbameffplaaHxFn15
import Derived.Test.YtfobhbameffplaaHxCall
import Derived.KernelRfl
import Derived.ProofKit
import Derived.OpenShut
import Derived.Deep.DeepHandedRow
import Derived.Lib.LaidTab
import Derived.LaidSub
namespace Go.Proofs.Ytfobhbameffplaa.Tab
open Go _root_.Hx
noncomputable def F : Fix where
  P := Go.Proofs.Try.prog
  num := fun g => [0, 0, 91, 92, 0, 90, 0, 0, 89, 0, 0, 0, 0, 0, 0, 0, 0, 93, 0, 0, 0, 0, 86, 0, 0, 0, 0, 0, 0, 0, 0, 0, 0, 0, 77, 0, 85, 0, 0, 0, 87, 0, 48, 0, 0, 0, 0, 0, 0, 0, 0, 75, 0, 0, 0, 0, 88, 0, 0, 65, 0, 0, 0, 0, 0, 0, 83, 84, 0, 0, 0, 0, 0, 0, 0, 0, 0, 0, 0, 0, 0, 0, 81, 0, 0, 76, 0, 64, 80, 0, 0, 0, 0, 0, 0, 0, 0, 0, 0, 0, 0, 0, 0, 0, 0, 0, 0, 0, 0, 0, 0, 0, 0, 0, 0, 0, 0, 0, 0, 0, 0, 0, 5, 6, 7, 8, 9, 10, 11, 12, 13, 0, 0, 0, 14, 0, 0, 15, 16, 17, 18, 19, 20, 21, 22, 23, 24, 25, 26, 27, 28, 29, 30, 31, 32, 33, 34, 35, 36, 37, 39, 38, 40, 41, 49, 0, 0, 0, 0, 43, 44, 45, 46, 47, 50, 52, 53, 54, 55, 56, 57, 58, 59, 60, 0, 0, 0, 0, 61, 62, 63, 66, 67, 68, 69, 70, 71, 72, 73, 74, 78, 79, 82, 0, 0, 0, 0, 0, 0, 0, 0, 0, 0, 0, 0, 0, 0, 0, 0, 0, 0, 0, 0, 0, 0, 0, 0, 0, 0, 0, 0, 0, 0, 0, 0, 0, 0, 0, 0, 0, 0, 0, 0, 0, 0, 0, 0, 0, 0, 0, 0, 0, 0, 0, 0, 0, 0, 0, 0, 0, 0, 0, 0, 0, 0, 0, 0, 0, 0, 0, 0, 0, 0, 0, 0, 0, 0, 0, 2, 0, 0, 42, 51, 1, 3, 4].getD g 0
  tnum := fun t => [0, 5, 0].getD t 0
  gnum := fun g => [0, 0, 0, 0].getD g 0
theorem ok_haulagelaw25_NetDoes : okFunc F 284 _root_.Hx.Fn.f_haulagelaw25_NetDoes = true := by kernel_rfl
theorem ok_haulagelaw25_lives : okFunc F 122 _root_.Hx.Fn.f_haulagelaw25_lives = true := by kernel_rfl
theorem ok_haulagelaw15_FewState : okFunc F 123 _root_.Hx.Fn.f_haulagelaw15_FewState = true := by kernel_rfl
theorem ok_haulagelaw25_few : okFunc F 124 _root_.Hx.Fn.f_haulagelaw25_few = true := by kernel_rfl
theorem ok_haulageref15_Right : okFunc F 125 _root_.Hx.Fn.f_haulageref15_Right = true := by kernel_rfl
theorem ok_haulageref20_Apply : okFunc F 126 _root_.Hx.Fn.f_haulageref20_Apply = true := by kernel_rfl
theorem ok_net_Of : okFunc F 127 _root_.Hx.Fn.f_net_Of = true := by kernel_rfl
theorem ok_haulageref15_Same : okFunc F 128 _root_.Hx.Fn.f_haulageref15_Same = true := by kernel_rfl
theorem ok_net_Rows : okFunc F 134 _root_.Hx.Fn.f_net_Rows = true := by kernel_rfl
theorem ok_haulagelaw08_FewAll : okFunc F 137 _root_.Hx.Fn.f_haulagelaw08_FewAll = true := by kernel_rfl
theorem ok_haulagelaw08_FewValues : okFunc F 138 _root_.Hx.Fn.f_haulagelaw08_FewValues = true := by kernel_rfl
theorem ok_haulagelaw15_FewChange : okFunc F 139 _root_.Hx.Fn.f_haulagelaw15_FewChange = true := by kernel_rfl
theorem ok_haulageref08_Right : okFunc F 140 _root_.Hx.Fn.f_haulageref08_Right = true := by kernel_rfl
theorem ok_haulageref15_rising : okFunc F 141 _root_.Hx.Fn.f_haulageref15_rising = true := by kernel_rfl
theorem ok_haulageref15_Redo : okFunc F 142 _root_.Hx.Fn.f_haulageref15_Redo = true := by kernel_rfl
theorem ok_net_began : okFunc F 143 _root_.Hx.Fn.f_net_began = true := by kernel_rfl
theorem ok_state_PlainChange : okFunc F 144 _root_.Hx.Fn.f_state_PlainChange = true := by kernel_rfl
theorem ok_slices_Clone_api_Cell_api_Cell : okFunc F 145 _root_.Hx.Fn.f_slices_Clone_api_Cell_api_Cell = true := by kernel_rfl
theorem ok_slices_Clone_api_Column_api_Column : okFunc F 146 _root_.Hx.Fn.f_slices_Clone_api_Column_api_Column = true := by kernel_rfl
theorem ok_net_run_end : okFunc F 147 _root_.Hx.Fn.f_net_run_end = true := by kernel_rfl
theorem ok_net_run_add : okFunc F 148 _root_.Hx.Fn.f_net_run_add = true := by kernel_rfl
theorem ok_haulageref08_Same : okFunc F 149 _root_.Hx.Fn.f_haulageref08_Same = true := by kernel_rfl
theorem ok_haulageref15_SameRows : okFunc F 150 _root_.Hx.Fn.f_haulageref15_SameRows = true := by kernel_rfl
theorem ok_haulageref15_change : okFunc F 153 _root_.Hx.Fn.f_haulageref15_change = true := by kernel_rfl
theorem ok_haulageref08_Find : okFunc F 154 _root_.Hx.Fn.f_haulageref08_Find = true := by kernel_rfl
theorem ok_haulageref15_row : okFunc F 156 _root_.Hx.Fn.f_haulageref15_row = true := by kernel_rfl
theorem ok_haulageref08_Key : okFunc F 157 _root_.Hx.Fn.f_haulageref08_Key = true := by kernel_rfl
theorem ok_haulageref15_Find : okFunc F 159 _root_.Hx.Fn.f_haulageref15_Find = true := by kernel_rfl
theorem ok_haulageref15_with : okFunc F 161 _root_.Hx.Fn.f_haulageref15_with = true := by kernel_rfl
theorem ok_haulageref15_cut : okFunc F 160 _root_.Hx.Fn.f_haulageref15_cut = true := by kernel_rfl
theorem ok_haulageref15_put : okFunc F 163 _root_.Hx.Fn.f_haulageref15_put = true := by kernel_rfl
theorem ok_net_rowOf : okFunc F 281 _root_.Hx.Fn.f_net_rowOf = true := by kernel_rfl
theorem ok_haulagelaw08_Few : okFunc F 169 _root_.Hx.Fn.f_haulagelaw08_Few = true := by kernel_rfl
theorem ok_haulagelaw08_short : okFunc F 170 _root_.Hx.Fn.f_haulagelaw08_short = true := by kernel_rfl
theorem ok_haulagelaw09_Few : okFunc F 171 _root_.Hx.Fn.f_haulagelaw09_Few = true := by kernel_rfl
theorem ok_haulageref08_Table : okFunc F 172 _root_.Hx.Fn.f_haulageref08_Table = true := by kernel_rfl
theorem ok_haulageref08_Row : okFunc F 173 _root_.Hx.Fn.f_haulageref08_Row = true := by kernel_rfl
theorem ok_haulageref05_Order : okFunc F 42 _root_.Hx.Fn.f_haulageref05_Order = true := by kernel_rfl
theorem ok_haulageref15_PlainChange : okFunc F 164 _root_.Hx.Fn.f_haulageref15_PlainChange = true := by kernel_rfl
theorem ok_ddl_Same : okFunc F 174 _root_.Hx.Fn.f_ddl_Same = true := by kernel_rfl
theorem ok_net_both_comes : okFunc F 282 _root_.Hx.Fn.f_net_both_comes = true := by kernel_rfl
theorem ok_haulageref08_SameTable : okFunc F 175 _root_.Hx.Fn.f_haulageref08_SameTable = true := by kernel_rfl
theorem ok_haulageref08_SameRow : okFunc F 176 _root_.Hx.Fn.f_haulageref08_SameRow = true := by kernel_rfl
theorem ok_haulageref09_Same : okFunc F 178 _root_.Hx.Fn.f_haulageref09_Same = true := by kernel_rfl
theorem ok_haulageref09_Apply : okFunc F 179 _root_.Hx.Fn.f_haulageref09_Apply = true := by kernel_rfl
theorem ok_haulageref08_ById : okFunc F 180 _root_.Hx.Fn.f_haulageref08_ById = true := by kernel_rfl
theorem ok_haulageref15_moved : okFunc F 181 _root_.Hx.Fn.f_haulageref15_moved = true := by kernel_rfl
theorem ok_haulageref04_Right : okFunc F 188 _root_.Hx.Fn.f_haulageref04_Right = true := by kernel_rfl
theorem ok_haulageref08_Column : okFunc F 189 _root_.Hx.Fn.f_haulageref08_Column = true := by kernel_rfl
theorem ok_haulageref08_Col : okFunc F 190 _root_.Hx.Fn.f_haulageref08_Col = true := by kernel_rfl
theorem ok_haulageref06_Fits : okFunc F 87 _root_.Hx.Fn.f_haulageref06_Fits = true := by kernel_rfl
theorem ok_haulageref04_Order : okFunc F 59 _root_.Hx.Fn.f_haulageref04_Order = true := by kernel_rfl
theorem ok_slices_Equal_api_Column_api_Column : okFunc F 191 _root_.Hx.Fn.f_slices_Equal_api_Column_api_Column = true := by kernel_rfl
theorem ok_ddl_flat : okFunc F 192 _root_.Hx.Fn.f_ddl_flat = true := by kernel_rfl
theorem ok_haulageref08_SameCols : okFunc F 193 _root_.Hx.Fn.f_haulageref08_SameCols = true := by kernel_rfl
theorem ok_haulageref09_Plain : okFunc F 194 _root_.Hx.Fn.f_haulageref09_Plain = true := by kernel_rfl
theorem ok_haulageref09_create : okFunc F 195 _root_.Hx.Fn.f_haulageref09_create = true := by kernel_rfl
theorem ok_haulageref09_made : okFunc F 196 _root_.Hx.Fn.f_haulageref09_made = true := by kernel_rfl
theorem ok_haulageref09_wrong : okFunc F 197 _root_.Hx.Fn.f_haulageref09_wrong = true := by kernel_rfl
theorem ok_haulageref09_Table : okFunc F 198 _root_.Hx.Fn.f_haulageref09_Table = true := by kernel_rfl
theorem ok_haulageref13_Move : okFunc F 199 _root_.Hx.Fn.f_haulageref13_Move = true := by kernel_rfl
theorem ok_haulageref04_Read : okFunc F 51 _root_.Hx.Fn.f_haulageref04_Read = true := by kernel_rfl
theorem ok_haulageref06_Right : okFunc F 85 _root_.Hx.Fn.f_haulageref06_Right = true := by kernel_rfl
theorem ok_haulageref05_Right : okFunc F 34 _root_.Hx.Fn.f_haulageref05_Right = true := by kernel_rfl
theorem ok_haulageref09_preset : okFunc F 200 _root_.Hx.Fn.f_haulageref09_preset = true := by kernel_rfl
theorem ok_haulageref09_add : okFunc F 201 _root_.Hx.Fn.f_haulageref09_add = true := by kernel_rfl
theorem ok_haulageref06_Wide : okFunc F 88 _root_.Hx.Fn.f_haulageref06_Wide = true := by kernel_rfl
theorem ok_haulageref06_Cast : okFunc F 82 _root_.Hx.Fn.f_haulageref06_Cast = true := by kernel_rfl
theorem ok_haulageref13_place : okFunc F 202 _root_.Hx.Fn.f_haulageref13_place = true := by kernel_rfl
theorem ok_haulageref04_Part : okFunc F 66 _root_.Hx.Fn.f_haulageref04_Part = true := by kernel_rfl
theorem ok_haulageref04_letter : okFunc F 67 _root_.Hx.Fn.f_haulageref04_letter = true := by kernel_rfl
theorem ok_haulageref01_Fits : okFunc F 36 _root_.Hx.Fn.f_haulageref01_Fits = true := by kernel_rfl
theorem ok_haulageref03_Right : okFunc F 22 _root_.Hx.Fn.f_haulageref03_Right = true := by kernel_rfl
theorem ok_haulageref05_Digits : okFunc F 40 _root_.Hx.Fn.f_haulageref05_Digits = true := by kernel_rfl
theorem ok_haulageref01_Half : okFunc F 56 _root_.Hx.Fn.f_haulageref01_Half = true := by kernel_rfl
theorem ok_haulageref03_Signs : okFunc F 8 _root_.Hx.Fn.f_haulageref03_Signs = true := by kernel_rfl
theorem ok_haulageref03_Read : okFunc F 5 _root_.Hx.Fn.f_haulageref03_Read = true := by kernel_rfl
theorem ok_haulageref03_Is : okFunc F 2 _root_.Hx.Fn.f_haulageref03_Is = true := by kernel_rfl
theorem ok_haulageref03_Put : okFunc F 3 _root_.Hx.Fn.f_haulageref03_Put = true := by kernel_rfl
theorem ok_haulageref03_one : okFunc F 17 _root_.Hx.Fn.f_haulageref03_one = true := by kernel_rfl
def L : List (Nat × XFunc) := [(284, _root_.Hx.Fn.f_haulagelaw25_NetDoes), (122, _root_.Hx.Fn.f_haulagelaw25_lives), (123, _root_.Hx.Fn.f_haulagelaw15_FewState), (124, _root_.Hx.Fn.f_haulagelaw25_few), (125, _root_.Hx.Fn.f_haulageref15_Right), (126, _root_.Hx.Fn.f_haulageref20_Apply), (127, _root_.Hx.Fn.f_net_Of), (128, _root_.Hx.Fn.f_haulageref15_Same), (134, _root_.Hx.Fn.f_net_Rows), (137, _root_.Hx.Fn.f_haulagelaw08_FewAll), (138, _root_.Hx.Fn.f_haulagelaw08_FewValues), (139, _root_.Hx.Fn.f_haulagelaw15_FewChange), (140, _root_.Hx.Fn.f_haulageref08_Right), (141, _root_.Hx.Fn.f_haulageref15_rising), (142, _root_.Hx.Fn.f_haulageref15_Redo), (143, _root_.Hx.Fn.f_net_began), (144, _root_.Hx.Fn.f_state_PlainChange), (145, _root_.Hx.Fn.f_slices_Clone_api_Cell_api_Cell), (146, _root_.Hx.Fn.f_slices_Clone_api_Column_api_Column), (147, _root_.Hx.Fn.f_net_run_end), (148, _root_.Hx.Fn.f_net_run_add), (149, _root_.Hx.Fn.f_haulageref08_Same), (150, _root_.Hx.Fn.f_haulageref15_SameRows), (153, _root_.Hx.Fn.f_haulageref15_change), (154, _root_.Hx.Fn.f_haulageref08_Find), (156, _root_.Hx.Fn.f_haulageref15_row), (157, _root_.Hx.Fn.f_haulageref08_Key), (159, _root_.Hx.Fn.f_haulageref15_Find), (161, _root_.Hx.Fn.f_haulageref15_with), (160, _root_.Hx.Fn.f_haulageref15_cut), (163, _root_.Hx.Fn.f_haulageref15_put), (281, _root_.Hx.Fn.f_net_rowOf), (169, _root_.Hx.Fn.f_haulagelaw08_Few), (170, _root_.Hx.Fn.f_haulagelaw08_short), (171, _root_.Hx.Fn.f_haulagelaw09_Few), (172, _root_.Hx.Fn.f_haulageref08_Table), (173, _root_.Hx.Fn.f_haulageref08_Row), (42, _root_.Hx.Fn.f_haulageref05_Order), (164, _root_.Hx.Fn.f_haulageref15_PlainChange), (174, _root_.Hx.Fn.f_ddl_Same), (282, _root_.Hx.Fn.f_net_both_comes), (175, _root_.Hx.Fn.f_haulageref08_SameTable), (176, _root_.Hx.Fn.f_haulageref08_SameRow), (178, _root_.Hx.Fn.f_haulageref09_Same), (179, _root_.Hx.Fn.f_haulageref09_Apply), (180, _root_.Hx.Fn.f_haulageref08_ById), (181, _root_.Hx.Fn.f_haulageref15_moved), (188, _root_.Hx.Fn.f_haulageref04_Right), (189, _root_.Hx.Fn.f_haulageref08_Column), (190, _root_.Hx.Fn.f_haulageref08_Col), (87, _root_.Hx.Fn.f_haulageref06_Fits), (59, _root_.Hx.Fn.f_haulageref04_Order), (191, _root_.Hx.Fn.f_slices_Equal_api_Column_api_Column), (192, _root_.Hx.Fn.f_ddl_flat), (193, _root_.Hx.Fn.f_haulageref08_SameCols), (194, _root_.Hx.Fn.f_haulageref09_Plain), (195, _root_.Hx.Fn.f_haulageref09_create), (196, _root_.Hx.Fn.f_haulageref09_made), (197, _root_.Hx.Fn.f_haulageref09_wrong), (198, _root_.Hx.Fn.f_haulageref09_Table), (199, _root_.Hx.Fn.f_haulageref13_Move), (51, _root_.Hx.Fn.f_haulageref04_Read), (85, _root_.Hx.Fn.f_haulageref06_Right), (34, _root_.Hx.Fn.f_haulageref05_Right), (200, _root_.Hx.Fn.f_haulageref09_preset), (201, _root_.Hx.Fn.f_haulageref09_add), (88, _root_.Hx.Fn.f_haulageref06_Wide), (82, _root_.Hx.Fn.f_haulageref06_Cast), (202, _root_.Hx.Fn.f_haulageref13_place), (66, _root_.Hx.Fn.f_haulageref04_Part), (67, _root_.Hx.Fn.f_haulageref04_letter), (36, _root_.Hx.Fn.f_haulageref01_Fits), (22, _root_.Hx.Fn.f_haulageref03_Right), (40, _root_.Hx.Fn.f_haulageref05_Digits), (56, _root_.Hx.Fn.f_haulageref01_Half), (8, _root_.Hx.Fn.f_haulageref03_Signs), (5, _root_.Hx.Fn.f_haulageref03_Read), (2, _root_.Hx.Fn.f_haulageref03_Is), (3, _root_.Hx.Fn.f_haulageref03_Put), (17, _root_.Hx.Fn.f_haulageref03_one)]
theorem all_ok : ∀ p ∈ L, okFunc F p.1 p.2 = true := by
  intro p hp
  simp only [L, List.mem_cons, List.not_mem_nil, or_false] at hp
  rcases hp with rfl | rfl | rfl | rfl | rfl | rfl | rfl | rfl | rfl | rfl | rfl | rfl | rfl | rfl | rfl | rfl | rfl | rfl | rfl | rfl | rfl | rfl | rfl | rfl | rfl | rfl | rfl | rfl | rfl | rfl | rfl | rfl | rfl | rfl | rfl | rfl | rfl | rfl | rfl | rfl | rfl | rfl | rfl | rfl | rfl | rfl | rfl | rfl | rfl | rfl | rfl | rfl | rfl | rfl | rfl | rfl | rfl | rfl | rfl | rfl | rfl | rfl | rfl | rfl | rfl | rfl | rfl | rfl | rfl | rfl | rfl | rfl | rfl | rfl | rfl | rfl | rfl | rfl | rfl | rfl
  · exact ok_haulagelaw25_NetDoes
  · exact ok_haulagelaw25_lives
  · exact ok_haulagelaw15_FewState
  · exact ok_haulagelaw25_few
  · exact ok_haulageref15_Right
  · exact ok_haulageref20_Apply
  · exact ok_net_Of
  · exact ok_haulageref15_Same
  · exact ok_net_Rows
  · exact ok_haulagelaw08_FewAll
  · exact ok_haulagelaw08_FewValues
  · exact ok_haulagelaw15_FewChange
  · exact ok_haulageref08_Right
  · exact ok_haulageref15_rising
  · exact ok_haulageref15_Redo
  · exact ok_net_began
  · exact ok_state_PlainChange
  · exact ok_slices_Clone_api_Cell_api_Cell
  · exact ok_slices_Clone_api_Column_api_Column
  · exact ok_net_run_end
  · exact ok_net_run_add
  · exact ok_haulageref08_Same
  · exact ok_haulageref15_SameRows
  · exact ok_haulageref15_change
  · exact ok_haulageref08_Find
  · exact ok_haulageref15_row
  · exact ok_haulageref08_Key
  · exact ok_haulageref15_Find
  · exact ok_haulageref15_with
  · exact ok_haulageref15_cut
  · exact ok_haulageref15_put
  · exact ok_net_rowOf
  · exact ok_haulagelaw08_Few
  · exact ok_haulagelaw08_short
  · exact ok_haulagelaw09_Few
  · exact ok_haulageref08_Table
  · exact ok_haulageref08_Row
  · exact ok_haulageref05_Order
  · exact ok_haulageref15_PlainChange
  · exact ok_ddl_Same
  · exact ok_net_both_comes
  · exact ok_haulageref08_SameTable
  · exact ok_haulageref08_SameRow
  · exact ok_haulageref09_Same
  · exact ok_haulageref09_Apply
  · exact ok_haulageref08_ById
  · exact ok_haulageref15_moved
  · exact ok_haulageref04_Right
  · exact ok_haulageref08_Column
  · exact ok_haulageref08_Col
  · exact ok_haulageref06_Fits
  · exact ok_haulageref04_Order
  · exact ok_slices_Equal_api_Column_api_Column
  · exact ok_ddl_flat
  · exact ok_haulageref08_SameCols
  · exact ok_haulageref09_Plain
  · exact ok_haulageref09_create
  · exact ok_haulageref09_made
  · exact ok_haulageref09_wrong
  · exact ok_haulageref09_Table
  · exact ok_haulageref13_Move
  · exact ok_haulageref04_Read
  · exact ok_haulageref06_Right
  · exact ok_haulageref05_Right
  · exact ok_haulageref09_preset
  · exact ok_haulageref09_add
  · exact ok_haulageref06_Wide
  · exact ok_haulageref06_Cast
  · exact ok_haulageref13_place
  · exact ok_haulageref04_Part
  · exact ok_haulageref04_letter
  · exact ok_haulageref01_Fits
  · exact ok_haulageref03_Right
  · exact ok_haulageref05_Digits
  · exact ok_haulageref01_Half
  · exact ok_haulageref03_Signs
  · exact ok_haulageref03_Read
  · exact ok_haulageref03_Is
  · exact ok_haulageref03_Put
  · exact ok_haulageref03_one
end Go.Proofs.Ytfobhbameffplaa.Tab

namespace Hx
open Go Go.ChangeShapes Go.WideShapes Go.ChangeAt Go.RowKit

section
variable {H : Type} {enc : TypeId × Value → H} {P : Program}

theorem trodAll_below (hl : laidOutB P = true) {W W' : World} (hb : Below W.heap.size W W') : ∀ {ts : List TypeId} {vs : List Value} {ds : List (DataW H)} {ps : List MemPlace},
    (∀ t ∈ ts, P.readableRec t = true ∧ t < P.types.size) → DataW.TrodAll enc P W 0 (fun _ => true) true ts vs ds ps → (∀ x ∈ ps, x.block < W.heap.size) →
    ∀ sp : Nat → Bool, (∀ p ∈ ps, sp p.block = true) → DataW.TrodAll enc P W' 0 sp true ts vs ds ps
  | [], _, _, _, _, h, _, _, _ => by
    obtain ⟨rfl, rfl, rfl⟩ := trodAll_nil h
    exact trodAll_mk0
  | t :: ts, vs, ds, ps, ht, h, hlt, sp, hsp => by
    obtain ⟨v, vs', d, ds', p, q, rfl, rfl, rfl, h1, h2⟩ := trodAll_cons h
    have hp := fun x (hx : x ∈ p) => hlt x (List.mem_append_left _ hx)
    refine trodAll_cons_mk (WideElems.Trod_stays hl (ht t (by simp)).1 (ht t (by simp)).2 h1 (fun x hx => hb.same (hp x hx)) fun x hx => hsp x (List.mem_append_left _ hx)) ?_
    exact trodAll_below hl hb (fun t' h' => ht t' (List.mem_cons_of_mem _ h')) h2 (fun x hx => hlt x (List.mem_append_right _ hx)) sp fun x hx => hsp x (List.mem_append_right _ hx)

theorem post_true {f : Func} {s : ChangeSpec} {apart fresh handsOn again : Bool} {W W' : World} {args : Array Value} {ds gs : List (DataW H)} {before : List MemPlace} {tb : TypeId}
    (hW : DataW.Whole enc P f.params.toList s.vars apart W args.toList ds gs before) (hv : s.vars = []) (hs : s.fn H (ds ++ gs) = { results := [.lit (.bool true)], args := ds })
    (hr : f.resultTypes = #[tb]) (ht : P.underlying tb = some .bool) (hl : laidOutB P = true) (hts : ∀ t ∈ f.params.toList, P.readableRec t = true ∧ t < P.types.size) (hb : Below W.heap.size W W') :
    s.post enc P f apart fresh handsOn again W args (.bool true) W' := by
  have hlt := hW.lt
  have hW0 := hW
  obtain ⟨p, q, hA, hV, hpq, hz, hn⟩ := hW
  rw [hv] at hV
  obtain ⟨rfl, rfl⟩ := trodVars_none hV
  rw [List.append_nil] at hpq
  subst hpq
  have hargs : ∀ sp : Nat → Bool, (∀ x ∈ before, sp x.block = true) → DataW.TrodAll enc P W' 0 sp true f.params.toList args.toList (s.fn H (ds ++ [])).args before := by
    intro sp hsp
    rw [hs]
    exact trodAll_below hl hb hts hA hlt sp hsp
  have hvars : ∀ sp : Nat → Bool, DataW.TrodVars enc P W' sp s.vars (s.fn H (ds ++ [])).vars [] := by
    intro sp
    rw [hs, hv]
    rfl
  have hres : ∀ (b : Nat) (sp : Nat → Bool) (hd : Bool), DataW.TrodAll enc P W' b sp hd f.resultTypes.toList ((Value.bool true).resultList f.resultTypes.size) (s.fn H (ds ++ [])).results [] := by
    intro b sp hd
    rw [hs, hr]
    exact trodAll_mk1 (shut_bool ht true)
  have hold : ∀ x ∈ before, (fun b => decide (b < W.heap.size)) x.block = true := fun x hx => by simpa using hlt x hx
  refine ⟨ds, [], before, [], before, [], hW0, hres _ _ _, hargs _ hold, hvars _, World.keptBut_mono (fun x hx => ?_) (hb.frame fun x => x ∈ before), fun _ => ⟨ok_one hr rfl (okWide_bool_mk ht true), ?_⟩⟩
  · exact ⟨hx, .inr (.inl hx)⟩
  · refine ⟨_, _, ([] ++ before) ++ [], ⟨[] ++ before, [], trodAll_append (hargs _ fun _ _ => rfl) (hres _ _ _), hvars _, rfl, ?_, ?_⟩, ?_⟩
    · intro b off hx
      have hx' : MemPlace.cell b off ∈ before := by simpa using hx
      rw [hb.frozen (hlt _ hx')]
      exact hz b off (by simpa using hx')
    · intro ha
      simpa using hn ha
    · intro x hx _
      simpa using hx
end


def cx0 (W : World) : Cx := { w := W, K := fun _ => none, N := 0, ρ := fun _ => (0, 0), tok := fun _ => none }
theorem cx0_safe {W : World} {b o : Nat} : (cx0 W).safe b o ↔ b < W.heap.size := by
  simp [Cx.safe, cx0]
theorem inv0 {F : Fix} {E : Env} {W : World} (hg : ∀ g, RPcells F (cx0 W) (F.gnum g) 0 (E.gl g)) : Inv F E ⟨W, fun _ => none⟩ (cx0 W) [] :=
  ⟨Below.refl _ _, rfl, (by intro b k h; cases h), fun _ _ => rfl, (by intro i b h; simp [ownB] at h), (by intro i x h; simp at h), (by intro i j b h; simp [ownB] at h), hg⟩

section
variable {H : Type} {enc : TypeId × Value → H} {F : Fix} {W : World}
end


def envOf (L : List (Nat × XFunc)) (gl : Nat → List PV) : Env := { fn := fun g => (L.find? fun p => p.1 == g).map (·.2), gl := gl }
theorem link_of {F : Fix} {L : List (Nat × XFunc)} {gl : Nat → List PV} (h : ∀ p ∈ L, okFunc F p.1 p.2 = true) : Link F (envOf L gl) := by
  refine ⟨fun g xf hg => ?_⟩
  simp only [envOf, Option.map_eq_some_iff] at hg
  obtain ⟨p, hp, rfl⟩ := hg
  have h1 := List.find?_some hp
  have h2 := List.mem_of_find?_eq_some hp
  have := h p h2
  rw [beq_iff_eq.1 h1] at this
  exact this

theorem calls_true {F : Fix} {E : Env} (hl : Link F E) {n g : Nat} {args : List AV} {m : Mem} {W : World} {argsV : List Value} (hg : ∀ g, RPcells F (cx0 W) (F.gnum g) 0 (E.gl g)) (ha : Rs F (cx0 W) args argsV)
    (hd : denF E n g args [] = some (.ret (.p (.bool true)), m)) : Calls F.P (F.num g) argsV.toArray W fun e W' => e = .returned (.bool true) ∧ Below W.heap.size W W' := by
  obtain ⟨_, _, h⟩ := denF_sound hl n ⟨W, fun _ => none⟩ g args [] _ m hd
  refine (h (cx0 W) argsV (inv0 hg) ha).mono ?_
  rintro e W' ⟨c', rfl, he, hi, hans⟩
  cases e with
  | returned v => simp only [R, RP] at hans; exact ⟨by rw [hans], hi.below⟩
  | _ => exact hans.elim
end Hx
