/- The numbers of this seat, and that each literal is a right reading of her function. -/
import Derived.Test.YtoedcjhheihhiaaProg
import Derived.Test.YtoedcjhheihhiaaHxFn25
import Derived.Test.YtoedcjhheihhiaaHxCall
import Derived.KernelRfl
namespace Go.Proofs.Ytoedcjhheihhiaa.Tab
open Go _root_.Hx
noncomputable def F : Fix where
  P := Go.Proofs.Try.prog
  num := fun g => [0, 0, 0, 0, 0, 0, 0, 0, 0, 0, 0, 0, 0, 0, 0, 0, 0, 0, 0, 0, 0, 0, 0, 0, 0, 0, 0, 0, 0, 0, 0, 0, 0, 0, 0, 0, 0, 0, 0, 0, 0, 0, 0, 0, 0, 0, 0, 0, 0, 0, 0, 0, 0, 0, 0, 0, 0, 0, 0, 0, 0, 0, 0, 0, 0, 0, 0, 0, 0, 0, 0, 0, 0, 0, 0, 0, 0, 0, 0, 0, 0, 0, 0, 0, 0, 0, 0, 0, 0, 0, 0, 0, 0, 0, 0, 0, 0, 0, 0, 0, 0, 0, 0, 0, 0, 0, 0, 0, 0, 0, 0, 0, 0, 0, 0, 0, 0, 0, 0, 0, 0, 0, 5, 0, 6, 0, 0, 7, 0, 0, 0, 8, 9, 10, 11, 12, 13, 0, 0, 14, 0, 0, 0, 15, 16, 17, 18, 19, 20, 0, 0, 0, 0, 0, 0, 0, 0, 0, 0, 0, 0, 0, 0, 0, 21, 22, 23, 24, 26, 35, 39, 27, 0, 0, 28, 0, 0, 0, 30, 0, 0, 0, 0, 0, 31, 32, 33, 34, 0, 0, 0, 36, 37, 38, 0, 0, 0, 0, 0, 0, 0, 0, 0, 0, 0, 0, 0, 0, 0, 0, 0, 0, 0, 0, 0, 0, 0, 0, 0, 0, 0, 0, 0, 0, 0, 0, 0, 0, 0, 0, 0, 0, 0, 0, 0, 0, 0, 0, 0, 0, 0, 0, 0, 0, 0, 0, 0, 0, 0, 0, 0, 0, 0, 0, 0, 0, 0, 0, 0, 0, 0, 0, 0, 0, 0, 0, 0, 0, 0, 0, 0, 0, 0, 0, 0, 0, 0, 0, 2, 3, 4, 25, 29, 1].getD g 0
  tnum := fun t => [0, 5, 0].getD t 0
  gnum := fun g => [0, 0, 0, 0].getD g 0
theorem ok_haulagelaw25_NetAgain : okFunc F 280 _root_.Hx.Fn.f_haulagelaw25_NetAgain = true := by kernel_rfl
theorem ok_haulagelaw25_lives : okFunc F 122 _root_.Hx.Fn.f_haulagelaw25_lives = true := by kernel_rfl
theorem ok_haulagelaw25_few : okFunc F 124 _root_.Hx.Fn.f_haulagelaw25_few = true := by kernel_rfl
theorem ok_net_Of : okFunc F 127 _root_.Hx.Fn.f_net_Of = true := by kernel_rfl
theorem ok_haulageref25_Of : okFunc F 131 _root_.Hx.Fn.f_haulageref25_Of = true := by kernel_rfl
theorem ok_net_Count : okFunc F 132 _root_.Hx.Fn.f_net_Count = true := by kernel_rfl
theorem ok_haulageref25_Same : okFunc F 133 _root_.Hx.Fn.f_haulageref25_Same = true := by kernel_rfl
theorem ok_net_Rows : okFunc F 134 _root_.Hx.Fn.f_net_Rows = true := by kernel_rfl
theorem ok_haulageref25_Rows : okFunc F 135 _root_.Hx.Fn.f_haulageref25_Rows = true := by kernel_rfl
theorem ok_haulageref25_Many : okFunc F 136 _root_.Hx.Fn.f_haulageref25_Many = true := by kernel_rfl
theorem ok_haulagelaw15_FewChange : okFunc F 139 _root_.Hx.Fn.f_haulagelaw15_FewChange = true := by kernel_rfl
theorem ok_net_began : okFunc F 143 _root_.Hx.Fn.f_net_began = true := by kernel_rfl
theorem ok_state_PlainChange : okFunc F 144 _root_.Hx.Fn.f_state_PlainChange = true := by kernel_rfl
theorem ok_slices_Clone_api_Cell_api_Cell : okFunc F 145 _root_.Hx.Fn.f_slices_Clone_api_Cell_api_Cell = true := by kernel_rfl
theorem ok_slices_Clone_api_Column_api_Column : okFunc F 146 _root_.Hx.Fn.f_slices_Clone_api_Column_api_Column = true := by kernel_rfl
theorem ok_net_run_end : okFunc F 147 _root_.Hx.Fn.f_net_run_end = true := by kernel_rfl
theorem ok_net_run_add : okFunc F 148 _root_.Hx.Fn.f_net_run_add = true := by kernel_rfl
theorem ok_haulageref15_PlainChange : okFunc F 164 _root_.Hx.Fn.f_haulageref15_PlainChange = true := by kernel_rfl
theorem ok_haulageref25_run : okFunc F 165 _root_.Hx.Fn.f_haulageref25_run = true := by kernel_rfl
theorem ok_haulageref25_wrong : okFunc F 166 _root_.Hx.Fn.f_haulageref25_wrong = true := by kernel_rfl
theorem ok_haulageref15_SameChange : okFunc F 167 _root_.Hx.Fn.f_haulageref15_SameChange = true := by kernel_rfl
theorem ok_net_rowOf : okFunc F 281 _root_.Hx.Fn.f_net_rowOf = true := by kernel_rfl
theorem ok_haulageref25_last : okFunc F 168 _root_.Hx.Fn.f_haulageref25_last = true := by kernel_rfl
theorem ok_haulagelaw09_Few : okFunc F 171 _root_.Hx.Fn.f_haulagelaw09_Few = true := by kernel_rfl
theorem ok_ddl_Same : okFunc F 174 _root_.Hx.Fn.f_ddl_Same = true := by kernel_rfl
theorem ok_net_both_comes : okFunc F 282 _root_.Hx.Fn.f_net_both_comes = true := by kernel_rfl
theorem ok_haulageref09_Same : okFunc F 178 _root_.Hx.Fn.f_haulageref09_Same = true := by kernel_rfl
theorem ok_haulageref25_first : okFunc F 184 _root_.Hx.Fn.f_haulageref25_first = true := by kernel_rfl
theorem ok_haulageref25_comes : okFunc F 185 _root_.Hx.Fn.f_haulageref25_comes = true := by kernel_rfl
theorem ok_haulageref08_SameCells : okFunc F 186 _root_.Hx.Fn.f_haulageref08_SameCells = true := by kernel_rfl
theorem ok_haulageref25_same : okFunc F 187 _root_.Hx.Fn.f_haulageref25_same = true := by kernel_rfl
theorem ok_haulagelaw08_Few : okFunc F 169 _root_.Hx.Fn.f_haulagelaw08_Few = true := by kernel_rfl
theorem ok_slices_Equal_api_Column_api_Column : okFunc F 191 _root_.Hx.Fn.f_slices_Equal_api_Column_api_Column = true := by kernel_rfl
theorem ok_ddl_flat : okFunc F 192 _root_.Hx.Fn.f_ddl_flat = true := by kernel_rfl
theorem ok_haulageref08_SameCols : okFunc F 193 _root_.Hx.Fn.f_haulageref08_SameCols = true := by kernel_rfl
theorem ok_haulagelaw08_short : okFunc F 170 _root_.Hx.Fn.f_haulagelaw08_short = true := by kernel_rfl
def L : List (Nat × XFunc) := [(280, _root_.Hx.Fn.f_haulagelaw25_NetAgain), (122, _root_.Hx.Fn.f_haulagelaw25_lives), (124, _root_.Hx.Fn.f_haulagelaw25_few), (127, _root_.Hx.Fn.f_net_Of), (131, _root_.Hx.Fn.f_haulageref25_Of), (132, _root_.Hx.Fn.f_net_Count), (133, _root_.Hx.Fn.f_haulageref25_Same), (134, _root_.Hx.Fn.f_net_Rows), (135, _root_.Hx.Fn.f_haulageref25_Rows), (136, _root_.Hx.Fn.f_haulageref25_Many), (139, _root_.Hx.Fn.f_haulagelaw15_FewChange), (143, _root_.Hx.Fn.f_net_began), (144, _root_.Hx.Fn.f_state_PlainChange), (145, _root_.Hx.Fn.f_slices_Clone_api_Cell_api_Cell), (146, _root_.Hx.Fn.f_slices_Clone_api_Column_api_Column), (147, _root_.Hx.Fn.f_net_run_end), (148, _root_.Hx.Fn.f_net_run_add), (164, _root_.Hx.Fn.f_haulageref15_PlainChange), (165, _root_.Hx.Fn.f_haulageref25_run), (166, _root_.Hx.Fn.f_haulageref25_wrong), (167, _root_.Hx.Fn.f_haulageref15_SameChange), (281, _root_.Hx.Fn.f_net_rowOf), (168, _root_.Hx.Fn.f_haulageref25_last), (171, _root_.Hx.Fn.f_haulagelaw09_Few), (174, _root_.Hx.Fn.f_ddl_Same), (282, _root_.Hx.Fn.f_net_both_comes), (178, _root_.Hx.Fn.f_haulageref09_Same), (184, _root_.Hx.Fn.f_haulageref25_first), (185, _root_.Hx.Fn.f_haulageref25_comes), (186, _root_.Hx.Fn.f_haulageref08_SameCells), (187, _root_.Hx.Fn.f_haulageref25_same), (169, _root_.Hx.Fn.f_haulagelaw08_Few), (191, _root_.Hx.Fn.f_slices_Equal_api_Column_api_Column), (192, _root_.Hx.Fn.f_ddl_flat), (193, _root_.Hx.Fn.f_haulageref08_SameCols), (170, _root_.Hx.Fn.f_haulagelaw08_short)]
theorem all_ok : ∀ p ∈ L, okFunc F p.1 p.2 = true := by
  intro p hp
  simp only [L, List.mem_cons, List.not_mem_nil, or_false] at hp
  rcases hp with rfl | rfl | rfl | rfl | rfl | rfl | rfl | rfl | rfl | rfl | rfl | rfl | rfl | rfl | rfl | rfl | rfl | rfl | rfl | rfl | rfl | rfl | rfl | rfl | rfl | rfl | rfl | rfl | rfl | rfl | rfl | rfl | rfl | rfl | rfl | rfl
  · exact ok_haulagelaw25_NetAgain
  · exact ok_haulagelaw25_lives
  · exact ok_haulagelaw25_few
  · exact ok_net_Of
  · exact ok_haulageref25_Of
  · exact ok_net_Count
  · exact ok_haulageref25_Same
  · exact ok_net_Rows
  · exact ok_haulageref25_Rows
  · exact ok_haulageref25_Many
  · exact ok_haulagelaw15_FewChange
  · exact ok_net_began
  · exact ok_state_PlainChange
  · exact ok_slices_Clone_api_Cell_api_Cell
  · exact ok_slices_Clone_api_Column_api_Column
  · exact ok_net_run_end
  · exact ok_net_run_add
  · exact ok_haulageref15_PlainChange
  · exact ok_haulageref25_run
  · exact ok_haulageref25_wrong
  · exact ok_haulageref15_SameChange
  · exact ok_net_rowOf
  · exact ok_haulageref25_last
  · exact ok_haulagelaw09_Few
  · exact ok_ddl_Same
  · exact ok_net_both_comes
  · exact ok_haulageref09_Same
  · exact ok_haulageref25_first
  · exact ok_haulageref25_comes
  · exact ok_haulageref08_SameCells
  · exact ok_haulageref25_same
  · exact ok_haulagelaw08_Few
  · exact ok_slices_Equal_api_Column_api_Column
  · exact ok_ddl_flat
  · exact ok_haulageref08_SameCols
  · exact ok_haulagelaw08_short
end Go.Proofs.Ytoedcjhheihhiaa.Tab
