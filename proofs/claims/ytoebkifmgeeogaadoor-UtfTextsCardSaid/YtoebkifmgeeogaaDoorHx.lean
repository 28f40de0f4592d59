/- The numbers of this seat, and that each literal is a right reading of her function. -/
import Derived.Test.YtoebkifmgeeogaaDoorProg
import Derived.Test.YtoebkifmgeeogaaDoorHxFn03
import Derived.Test.YtoebkifmgeeogaaDoorHxCall
import Derived.KernelRfl
namespace Go.Proofs.YtoebkifmgeeogaaDoor.Tab
open Go _root_.Hx
noncomputable def F : Fix where
  P := Go.Proofs.Tryd.prog
  num := fun g => [8, 9, 10, 11, 12, 13, 14, 15, 16, 17, 18, 19, 20, 22, 21, 23, 24, 25, 26, 27, 29, 28, 30, 31, 32, 0, 0, 0, 0, 0, 0, 0, 0, 0, 0, 0, 0, 0, 0, 0, 0, 0, 0, 0, 0, 0, 0, 0, 0, 0, 0, 0, 0, 0, 0, 0, 0, 0, 0, 0, 0, 0, 0, 0, 0, 0, 0, 0, 0, 0, 0, 0, 0, 0, 0, 0, 0, 0, 0, 0, 0, 0, 0, 0, 0, 0, 0, 0, 0, 0, 0, 0, 0, 0, 0, 0, 0, 0, 0, 0, 0, 0, 0, 0, 0, 0, 0, 0, 0, 0, 0, 0, 0, 0, 0, 0, 0, 0, 0, 0, 0, 0, 0, 0, 0, 0, 0, 0, 0, 0, 0, 0, 0, 0, 0, 0, 0, 0, 0, 0, 0, 0, 0, 0, 0, 0, 0, 0, 0, 0, 0, 0, 0, 0, 0, 0, 0, 0, 0, 0, 0, 0, 0, 0, 0, 0, 0, 0, 0, 0, 0, 0, 0, 0, 0, 0, 0, 0, 0, 0, 0, 0, 0, 0, 0, 0, 0, 0, 0, 0, 0, 0, 0, 0, 0, 0, 0, 0, 0, 0, 0, 0, 0, 3, 4, 5, 6, 7, 0, 0, 0, 0, 0, 0, 0, 0, 0, 0, 0, 0, 0, 0, 0, 0, 0, 0].getD g 0
  tnum := fun t => [].getD t 0
  gnum := fun g => [0, 1, 0].getD g 0
theorem ok_haulagelaw03_UtfPuts : okFunc F 203 _root_.Hx.Fn.f_haulagelaw03_UtfPuts = true := by kernel_rfl
theorem ok_haulagelaw03_UtfPrefix : okFunc F 204 _root_.Hx.Fn.f_haulagelaw03_UtfPrefix = true := by kernel_rfl
theorem ok_haulagelaw03_UtfCuts : okFunc F 205 _root_.Hx.Fn.f_haulagelaw03_UtfCuts = true := by kernel_rfl
theorem ok_haulagelaw03_UtfTexts : okFunc F 206 _root_.Hx.Fn.f_haulagelaw03_UtfTexts = true := by kernel_rfl
theorem ok_haulagelaw03_UtfBack : okFunc F 207 _root_.Hx.Fn.f_haulagelaw03_UtfBack = true := by kernel_rfl
theorem ok_haulagelaw03_lives : okFunc F 0 _root_.Hx.Fn.f_haulagelaw03_lives = true := by kernel_rfl
theorem ok_utf_Put : okFunc F 1 _root_.Hx.Fn.f_utf_Put = true := by kernel_rfl
theorem ok_haulageref03_Is : okFunc F 2 _root_.Hx.Fn.f_haulageref03_Is = true := by kernel_rfl
theorem ok_haulageref03_Put : okFunc F 3 _root_.Hx.Fn.f_haulageref03_Put = true := by kernel_rfl
theorem ok_utf_Read : okFunc F 4 _root_.Hx.Fn.f_utf_Read = true := by kernel_rfl
theorem ok_haulageref03_Read : okFunc F 5 _root_.Hx.Fn.f_haulageref03_Read = true := by kernel_rfl
theorem ok_utf_Cut : okFunc F 6 _root_.Hx.Fn.f_utf_Cut = true := by kernel_rfl
theorem ok_haulageref03_Cut : okFunc F 7 _root_.Hx.Fn.f_haulageref03_Cut = true := by kernel_rfl
theorem ok_haulageref03_Signs : okFunc F 8 _root_.Hx.Fn.f_haulageref03_Signs = true := by kernel_rfl
theorem ok_utf_Text : okFunc F 9 _root_.Hx.Fn.f_utf_Text = true := by kernel_rfl
theorem ok_haulageref03_Text : okFunc F 10 _root_.Hx.Fn.f_haulageref03_Text = true := by kernel_rfl
theorem ok_utf_Right : okFunc F 11 _root_.Hx.Fn.f_utf_Right = true := by kernel_rfl
theorem ok_utf_Count : okFunc F 12 _root_.Hx.Fn.f_utf_Count = true := by kernel_rfl
theorem ok_haulageref03_Same : okFunc F 14 _root_.Hx.Fn.f_haulageref03_Same = true := by kernel_rfl
theorem ok_utf_Signs : okFunc F 13 _root_.Hx.Fn.f_utf_Signs = true := by kernel_rfl
theorem ok_utf_is : okFunc F 15 _root_.Hx.Fn.f_utf_is = true := by kernel_rfl
theorem ok_utf_fill : okFunc F 16 _root_.Hx.Fn.f_utf_fill = true := by kernel_rfl
theorem ok_haulageref03_one : okFunc F 17 _root_.Hx.Fn.f_haulageref03_one = true := by kernel_rfl
theorem ok_utf_lead : okFunc F 18 _root_.Hx.Fn.f_utf_lead = true := by kernel_rfl
theorem ok_utf_width : okFunc F 19 _root_.Hx.Fn.f_utf_width = true := by kernel_rfl
theorem ok_utf_walk : okFunc F 21 _root_.Hx.Fn.f_utf_walk = true := by kernel_rfl
theorem ok_utf_Cut_1 : okFunc F 20 _root_.Hx.Fn.f_utf_Cut_1 = true := by kernel_rfl
theorem ok_haulageref03_Right : okFunc F 22 _root_.Hx.Fn.f_haulageref03_Right = true := by kernel_rfl
theorem ok_utf_Count_1 : okFunc F 23 _root_.Hx.Fn.f_utf_Count_1 = true := by kernel_rfl
theorem ok_utf_Signs_1 : okFunc F 24 _root_.Hx.Fn.f_utf_Signs_1 = true := by kernel_rfl
def L : List (Nat × XFunc) := [(203, _root_.Hx.Fn.f_haulagelaw03_UtfPuts), (204, _root_.Hx.Fn.f_haulagelaw03_UtfPrefix), (205, _root_.Hx.Fn.f_haulagelaw03_UtfCuts), (206, _root_.Hx.Fn.f_haulagelaw03_UtfTexts), (207, _root_.Hx.Fn.f_haulagelaw03_UtfBack), (0, _root_.Hx.Fn.f_haulagelaw03_lives), (1, _root_.Hx.Fn.f_utf_Put), (2, _root_.Hx.Fn.f_haulageref03_Is), (3, _root_.Hx.Fn.f_haulageref03_Put), (4, _root_.Hx.Fn.f_utf_Read), (5, _root_.Hx.Fn.f_haulageref03_Read), (6, _root_.Hx.Fn.f_utf_Cut), (7, _root_.Hx.Fn.f_haulageref03_Cut), (8, _root_.Hx.Fn.f_haulageref03_Signs), (9, _root_.Hx.Fn.f_utf_Text), (10, _root_.Hx.Fn.f_haulageref03_Text), (11, _root_.Hx.Fn.f_utf_Right), (12, _root_.Hx.Fn.f_utf_Count), (14, _root_.Hx.Fn.f_haulageref03_Same), (13, _root_.Hx.Fn.f_utf_Signs), (15, _root_.Hx.Fn.f_utf_is), (16, _root_.Hx.Fn.f_utf_fill), (17, _root_.Hx.Fn.f_haulageref03_one), (18, _root_.Hx.Fn.f_utf_lead), (19, _root_.Hx.Fn.f_utf_width), (21, _root_.Hx.Fn.f_utf_walk), (20, _root_.Hx.Fn.f_utf_Cut_1), (22, _root_.Hx.Fn.f_haulageref03_Right), (23, _root_.Hx.Fn.f_utf_Count_1), (24, _root_.Hx.Fn.f_utf_Signs_1)]
theorem all_ok : ∀ p ∈ L, okFunc F p.1 p.2 = true := by
  intro p hp
  simp only [L, List.mem_cons, List.not_mem_nil, or_false] at hp
  rcases hp with rfl | rfl | rfl | rfl | rfl | rfl | rfl | rfl | rfl | rfl | rfl | rfl | rfl | rfl | rfl | rfl | rfl | rfl | rfl | rfl | rfl | rfl | rfl | rfl | rfl | rfl | rfl | rfl | rfl | rfl
  · exact ok_haulagelaw03_UtfPuts
  · exact ok_haulagelaw03_UtfPrefix
  · exact ok_haulagelaw03_UtfCuts
  · exact ok_haulagelaw03_UtfTexts
  · exact ok_haulagelaw03_UtfBack
  · exact ok_haulagelaw03_lives
  · exact ok_utf_Put
  · exact ok_haulageref03_Is
  · exact ok_haulageref03_Put
  · exact ok_utf_Read
  · exact ok_haulageref03_Read
  · exact ok_utf_Cut
  · exact ok_haulageref03_Cut
  · exact ok_haulageref03_Signs
  · exact ok_utf_Text
  · exact ok_haulageref03_Text
  · exact ok_utf_Right
  · exact ok_utf_Count
  · exact ok_haulageref03_Same
  · exact ok_utf_Signs
  · exact ok_utf_is
  · exact ok_utf_fill
  · exact ok_haulageref03_one
  · exact ok_utf_lead
  · exact ok_utf_width
  · exact ok_utf_walk
  · exact ok_utf_Cut_1
  · exact ok_haulageref03_Right
  · exact ok_utf_Count_1
  · exact ok_utf_Signs_1
end Go.Proofs.YtoebkifmgeeogaaDoor.Tab
