/- The numbers of this seat, and that each literal is a right reading of her function. -/
import Derived.Test.YtpgnoaacdommbaaDoorProg
import Derived.Test.YtpgnoaacdommbaaDoorHxFn03
import Derived.Test.YtpgnoaacdommbaaDoorHxFn06
import Derived.Test.YtpgnoaacdommbaaDoorHxFn07
import Derived.Test.YtpgnoaacdommbaaDoorHxCall
import Derived.KernelRfl
namespace Go.Proofs.YtpgnoaacdommbaaDoor.Tab
open Go _root_.Hx
noncomputable def F : Fix where
  P := Go.Proofs.Tryd.prog
  num := fun g => [0, 0, 46, 47, 45, 44, 0, 0, 39, 0, 0, 29, 37, 0, 0, 49, 0, 51, 48, 50, 0, 42, 31, 43, 0, 0, 0, 0, 0, 0, 0, 0, 0, 23, 22, 0, 32, 0, 0, 0, 0, 0, 26, 0, 0, 0, 0, 0, 0, 0, 0, 0, 0, 0, 0, 33, 40, 0, 0, 15, 0, 0, 0, 0, 0, 0, 0, 0, 0, 0, 41, 0, 0, 0, 0, 0, 0, 0, 0, 0, 0, 0, 0, 0, 0, 0, 0, 0, 0, 0, 0, 0, 0, 0, 0, 0, 0, 0, 0, 0, 8, 9, 10, 11, 12, 13, 14, 16, 17, 18, 19, 20, 21, 24, 25, 27, 28, 30, 34, 36, 35, 38, 0, 0, 0, 0, 0, 0, 0, 0, 0, 0, 0, 0, 0, 0, 0, 0, 0, 0, 0, 0, 0, 0, 0, 0, 0, 0, 0, 0, 0, 0, 0, 0, 0, 0, 0, 0, 0, 0, 0, 0, 0, 0, 0, 0, 0, 0, 0, 0, 0, 0, 0, 0, 0, 0, 0, 0, 0, 0, 0, 0, 0, 0, 0, 0, 0, 0, 0, 0, 0, 0, 0, 0, 0, 0, 0, 0, 0, 0, 0, 0, 0, 0, 0, 0, 0, 0, 0, 0, 0, 0, 0, 0, 0, 0, 0, 0, 0, 0, 0, 3, 4, 5, 6, 7].getD g 0
  tnum := fun t => [].getD t 0
  gnum := fun g => [0, 0, 0].getD g 0
theorem ok_haulagelaw07_SortkeyOf : okFunc F 221 _root_.Hx.Fn.f_haulagelaw07_SortkeyOf = true := by kernel_rfl
theorem ok_haulagelaw07_SortkeyNext : okFunc F 222 _root_.Hx.Fn.f_haulagelaw07_SortkeyNext = true := by kernel_rfl
theorem ok_haulagelaw07_SortkeyOrders : okFunc F 223 _root_.Hx.Fn.f_haulagelaw07_SortkeyOrders = true := by kernel_rfl
theorem ok_haulagelaw07_SortkeyReads : okFunc F 224 _root_.Hx.Fn.f_haulagelaw07_SortkeyReads = true := by kernel_rfl
theorem ok_haulagelaw07_SortkeyBack : okFunc F 225 _root_.Hx.Fn.f_haulagelaw07_SortkeyBack = true := by kernel_rfl
theorem ok_haulagelaw07_lives : okFunc F 100 _root_.Hx.Fn.f_haulagelaw07_lives = true := by kernel_rfl
theorem ok_haulagelaw07_Few : okFunc F 101 _root_.Hx.Fn.f_haulagelaw07_Few = true := by kernel_rfl
theorem ok_sortkey_Of : okFunc F 102 _root_.Hx.Fn.f_sortkey_Of = true := by kernel_rfl
theorem ok_haulageref07_Right : okFunc F 103 _root_.Hx.Fn.f_haulageref07_Right = true := by kernel_rfl
theorem ok_haulageref07_Of : okFunc F 104 _root_.Hx.Fn.f_haulageref07_Of = true := by kernel_rfl
theorem ok_sortkey_Next : okFunc F 105 _root_.Hx.Fn.f_sortkey_Next = true := by kernel_rfl
theorem ok_haulageref07_Next : okFunc F 106 _root_.Hx.Fn.f_haulageref07_Next = true := by kernel_rfl
theorem ok_haulageref04_Order : okFunc F 59 _root_.Hx.Fn.f_haulageref04_Order = true := by kernel_rfl
theorem ok_haulageref07_Order : okFunc F 107 _root_.Hx.Fn.f_haulageref07_Order = true := by kernel_rfl
theorem ok_sortkey_Read : okFunc F 108 _root_.Hx.Fn.f_sortkey_Read = true := by kernel_rfl
theorem ok_haulageref07_Read : okFunc F 109 _root_.Hx.Fn.f_haulageref07_Read = true := by kernel_rfl
theorem ok_sortkey_All : okFunc F 110 _root_.Hx.Fn.f_sortkey_All = true := by kernel_rfl
theorem ok_haulageref07_All : okFunc F 111 _root_.Hx.Fn.f_haulageref07_All = true := by kernel_rfl
theorem ok_haulageref07_Same : okFunc F 112 _root_.Hx.Fn.f_haulageref07_Same = true := by kernel_rfl
theorem ok_haulageref05_Right : okFunc F 34 _root_.Hx.Fn.f_haulageref05_Right = true := by kernel_rfl
theorem ok_value_Right : okFunc F 33 _root_.Hx.Fn.f_value_Right = true := by kernel_rfl
theorem ok_sortkey_add : okFunc F 113 _root_.Hx.Fn.f_sortkey_add = true := by kernel_rfl
theorem ok_haulageref07_One : okFunc F 114 _root_.Hx.Fn.f_haulageref07_One = true := by kernel_rfl
theorem ok_haulageref05_Order : okFunc F 42 _root_.Hx.Fn.f_haulageref05_Order = true := by kernel_rfl
theorem ok_sortkey_number : okFunc F 115 _root_.Hx.Fn.f_sortkey_number = true := by kernel_rfl
theorem ok_sortkey_bytes : okFunc F 116 _root_.Hx.Fn.f_sortkey_bytes = true := by kernel_rfl
theorem ok_utf_Right : okFunc F 11 _root_.Hx.Fn.f_utf_Right = true := by kernel_rfl
theorem ok_haulageref07_number : okFunc F 117 _root_.Hx.Fn.f_haulageref07_number = true := by kernel_rfl
theorem ok_haulageref03_Right : okFunc F 22 _root_.Hx.Fn.f_haulageref03_Right = true := by kernel_rfl
theorem ok_haulageref01_Fits : okFunc F 36 _root_.Hx.Fn.f_haulageref01_Fits = true := by kernel_rfl
theorem ok_word_Fits : okFunc F 55 _root_.Hx.Fn.f_word_Fits = true := by kernel_rfl
theorem ok_sortkey_put : okFunc F 118 _root_.Hx.Fn.f_sortkey_put = true := by kernel_rfl
theorem ok_haulageref07_back : okFunc F 120 _root_.Hx.Fn.f_haulageref07_back = true := by kernel_rfl
theorem ok_haulageref01_Put : okFunc F 119 _root_.Hx.Fn.f_haulageref01_Put = true := by kernel_rfl
theorem ok_utf_Count : okFunc F 12 _root_.Hx.Fn.f_utf_Count = true := by kernel_rfl
theorem ok_haulageref01_Get : okFunc F 121 _root_.Hx.Fn.f_haulageref01_Get = true := by kernel_rfl
theorem ok_haulageref03_Signs : okFunc F 8 _root_.Hx.Fn.f_haulageref03_Signs = true := by kernel_rfl
theorem ok_haulageref01_Half : okFunc F 56 _root_.Hx.Fn.f_haulageref01_Half = true := by kernel_rfl
theorem ok_word_Low : okFunc F 70 _root_.Hx.Fn.f_word_Low = true := by kernel_rfl
theorem ok_utf_walk : okFunc F 21 _root_.Hx.Fn.f_utf_walk = true := by kernel_rfl
theorem ok_utf_Count_1 : okFunc F 23 _root_.Hx.Fn.f_utf_Count_1 = true := by kernel_rfl
theorem ok_haulageref03_Read : okFunc F 5 _root_.Hx.Fn.f_haulageref03_Read = true := by kernel_rfl
theorem ok_utf_Read : okFunc F 4 _root_.Hx.Fn.f_utf_Read = true := by kernel_rfl
theorem ok_haulageref03_Is : okFunc F 2 _root_.Hx.Fn.f_haulageref03_Is = true := by kernel_rfl
theorem ok_haulageref03_Put : okFunc F 3 _root_.Hx.Fn.f_haulageref03_Put = true := by kernel_rfl
theorem ok_utf_lead : okFunc F 18 _root_.Hx.Fn.f_utf_lead = true := by kernel_rfl
theorem ok_utf_is : okFunc F 15 _root_.Hx.Fn.f_utf_is = true := by kernel_rfl
theorem ok_utf_width : okFunc F 19 _root_.Hx.Fn.f_utf_width = true := by kernel_rfl
theorem ok_haulageref03_one : okFunc F 17 _root_.Hx.Fn.f_haulageref03_one = true := by kernel_rfl
def L : List (Nat × XFunc) := [(221, _root_.Hx.Fn.f_haulagelaw07_SortkeyOf), (222, _root_.Hx.Fn.f_haulagelaw07_SortkeyNext), (223, _root_.Hx.Fn.f_haulagelaw07_SortkeyOrders), (224, _root_.Hx.Fn.f_haulagelaw07_SortkeyReads), (225, _root_.Hx.Fn.f_haulagelaw07_SortkeyBack), (100, _root_.Hx.Fn.f_haulagelaw07_lives), (101, _root_.Hx.Fn.f_haulagelaw07_Few), (102, _root_.Hx.Fn.f_sortkey_Of), (103, _root_.Hx.Fn.f_haulageref07_Right), (104, _root_.Hx.Fn.f_haulageref07_Of), (105, _root_.Hx.Fn.f_sortkey_Next), (106, _root_.Hx.Fn.f_haulageref07_Next), (59, _root_.Hx.Fn.f_haulageref04_Order), (107, _root_.Hx.Fn.f_haulageref07_Order), (108, _root_.Hx.Fn.f_sortkey_Read), (109, _root_.Hx.Fn.f_haulageref07_Read), (110, _root_.Hx.Fn.f_sortkey_All), (111, _root_.Hx.Fn.f_haulageref07_All), (112, _root_.Hx.Fn.f_haulageref07_Same), (34, _root_.Hx.Fn.f_haulageref05_Right), (33, _root_.Hx.Fn.f_value_Right), (113, _root_.Hx.Fn.f_sortkey_add), (114, _root_.Hx.Fn.f_haulageref07_One), (42, _root_.Hx.Fn.f_haulageref05_Order), (115, _root_.Hx.Fn.f_sortkey_number), (116, _root_.Hx.Fn.f_sortkey_bytes), (11, _root_.Hx.Fn.f_utf_Right), (117, _root_.Hx.Fn.f_haulageref07_number), (22, _root_.Hx.Fn.f_haulageref03_Right), (36, _root_.Hx.Fn.f_haulageref01_Fits), (55, _root_.Hx.Fn.f_word_Fits), (118, _root_.Hx.Fn.f_sortkey_put), (120, _root_.Hx.Fn.f_haulageref07_back), (119, _root_.Hx.Fn.f_haulageref01_Put), (12, _root_.Hx.Fn.f_utf_Count), (121, _root_.Hx.Fn.f_haulageref01_Get), (8, _root_.Hx.Fn.f_haulageref03_Signs), (56, _root_.Hx.Fn.f_haulageref01_Half), (70, _root_.Hx.Fn.f_word_Low), (21, _root_.Hx.Fn.f_utf_walk), (23, _root_.Hx.Fn.f_utf_Count_1), (5, _root_.Hx.Fn.f_haulageref03_Read), (4, _root_.Hx.Fn.f_utf_Read), (2, _root_.Hx.Fn.f_haulageref03_Is), (3, _root_.Hx.Fn.f_haulageref03_Put), (18, _root_.Hx.Fn.f_utf_lead), (15, _root_.Hx.Fn.f_utf_is), (19, _root_.Hx.Fn.f_utf_width), (17, _root_.Hx.Fn.f_haulageref03_one)]
theorem all_ok : ∀ p ∈ L, okFunc F p.1 p.2 = true := by
  intro p hp
  simp only [L, List.mem_cons, List.not_mem_nil, or_false] at hp
  rcases hp with rfl | rfl | rfl | rfl | rfl | rfl | rfl | rfl | rfl | rfl | rfl | rfl | rfl | rfl | rfl | rfl | rfl | rfl | rfl | rfl | rfl | rfl | rfl | rfl | rfl | rfl | rfl | rfl | rfl | rfl | rfl | rfl | rfl | rfl | rfl | rfl | rfl | rfl | rfl | rfl | rfl | rfl | rfl | rfl | rfl | rfl | rfl | rfl | rfl
  · exact ok_haulagelaw07_SortkeyOf
  · exact ok_haulagelaw07_SortkeyNext
  · exact ok_haulagelaw07_SortkeyOrders
  · exact ok_haulagelaw07_SortkeyReads
  · exact ok_haulagelaw07_SortkeyBack
  · exact ok_haulagelaw07_lives
  · exact ok_haulagelaw07_Few
  · exact ok_sortkey_Of
  · exact ok_haulageref07_Right
  · exact ok_haulageref07_Of
  · exact ok_sortkey_Next
  · exact ok_haulageref07_Next
  · exact ok_haulageref04_Order
  · exact ok_haulageref07_Order
  · exact ok_sortkey_Read
  · exact ok_haulageref07_Read
  · exact ok_sortkey_All
  · exact ok_haulageref07_All
  · exact ok_haulageref07_Same
  · exact ok_haulageref05_Right
  · exact ok_value_Right
  · exact ok_sortkey_add
  · exact ok_haulageref07_One
  · exact ok_haulageref05_Order
  · exact ok_sortkey_number
  · exact ok_sortkey_bytes
  · exact ok_utf_Right
  · exact ok_haulageref07_number
  · exact ok_haulageref03_Right
  · exact ok_haulageref01_Fits
  · exact ok_word_Fits
  · exact ok_sortkey_put
  · exact ok_haulageref07_back
  · exact ok_haulageref01_Put
  · exact ok_utf_Count
  · exact ok_haulageref01_Get
  · exact ok_haulageref03_Signs
  · exact ok_haulageref01_Half
  · exact ok_word_Low
  · exact ok_utf_walk
  · exact ok_utf_Count_1
  · exact ok_haulageref03_Read
  · exact ok_utf_Read
  · exact ok_haulageref03_Is
  · exact ok_haulageref03_Put
  · exact ok_utf_lead
  · exact ok_utf_is
  · exact ok_utf_width
  · exact ok_haulageref03_one
end Go.Proofs.YtpgnoaacdommbaaDoor.Tab
