/- The numbers of this seat, and that each literal is a right reading of her function. -/
import Derived.Test.YtompbjamfhkgfaaDoorProg
import Derived.Test.YtompbjamfhkgfaaDoorHxFn03
import Derived.Test.YtompbjamfhkgfaaDoorHxFn06
import Derived.Test.YtompbjamfhkgfaaDoorHxCall
import Derived.KernelRfl
namespace Go.Proofs.YtompbjamfhkgfaaDoor.Tab
open Go _root_.Hx
noncomputable def F : Fix where
  P := Go.Proofs.Tryd.prog
  num := fun g => [0, 0, 57, 58, 56, 55, 0, 0, 52, 0, 0, 41, 50, 0, 0, 60, 0, 62, 59, 61, 0, 53, 43, 54, 0, 0, 0, 0, 0, 0, 0, 0, 0, 29, 31, 0, 42, 36, 38, 30, 32, 0, 0, 0, 0, 46, 0, 0, 35, 0, 33, 37, 0, 0, 0, 40, 51, 0, 0, 0, 0, 0, 0, 45, 0, 44, 47, 48, 0, 0, 49, 0, 0, 0, 0, 0, 0, 0, 9, 10, 11, 12, 13, 14, 15, 16, 17, 18, 19, 20, 21, 22, 23, 24, 25, 26, 27, 28, 34, 39, 0, 0, 0, 0, 0, 0, 0, 0, 0, 0, 0, 0, 0, 0, 0, 0, 0, 0, 0, 0, 0, 0, 0, 0, 0, 0, 0, 0, 0, 0, 0, 0, 0, 0, 0, 0, 0, 0, 0, 0, 0, 0, 0, 0, 0, 0, 0, 0, 0, 0, 0, 0, 0, 0, 0, 0, 0, 0, 0, 0, 0, 0, 0, 0, 0, 0, 0, 0, 0, 0, 0, 0, 0, 0, 0, 0, 0, 0, 0, 0, 0, 0, 0, 0, 0, 0, 0, 0, 0, 0, 0, 0, 0, 0, 0, 0, 0, 0, 0, 0, 0, 0, 0, 0, 0, 0, 0, 0, 0, 0, 0, 0, 0, 0, 0, 3, 4, 5, 6, 7, 8, 0, 0, 0, 0, 0].getD g 0
  tnum := fun t => [].getD t 0
  gnum := fun g => [0, 1, 0].getD g 0
theorem ok_haulagelaw06_TypJoins : okFunc F 215 _root_.Hx.Fn.f_haulagelaw06_TypJoins = true := by kernel_rfl
theorem ok_haulagelaw06_TypCasts : okFunc F 216 _root_.Hx.Fn.f_haulagelaw06_TypCasts = true := by kernel_rfl
theorem ok_haulagelaw06_TypOrder : okFunc F 217 _root_.Hx.Fn.f_haulagelaw06_TypOrder = true := by kernel_rfl
theorem ok_haulagelaw06_TypTells : okFunc F 218 _root_.Hx.Fn.f_haulagelaw06_TypTells = true := by kernel_rfl
theorem ok_haulagelaw06_TypWidens : okFunc F 219 _root_.Hx.Fn.f_haulagelaw06_TypWidens = true := by kernel_rfl
theorem ok_haulagelaw06_TypTexts : okFunc F 220 _root_.Hx.Fn.f_haulagelaw06_TypTexts = true := by kernel_rfl
theorem ok_haulagelaw06_lives : okFunc F 78 _root_.Hx.Fn.f_haulagelaw06_lives = true := by kernel_rfl
theorem ok_typ_Join : okFunc F 79 _root_.Hx.Fn.f_typ_Join = true := by kernel_rfl
theorem ok_haulageref06_Join : okFunc F 80 _root_.Hx.Fn.f_haulageref06_Join = true := by kernel_rfl
theorem ok_typ_Cast : okFunc F 81 _root_.Hx.Fn.f_typ_Cast = true := by kernel_rfl
theorem ok_haulageref06_Cast : okFunc F 82 _root_.Hx.Fn.f_haulageref06_Cast = true := by kernel_rfl
theorem ok_typ_Wide : okFunc F 83 _root_.Hx.Fn.f_typ_Wide = true := by kernel_rfl
theorem ok_typ_Right : okFunc F 84 _root_.Hx.Fn.f_typ_Right = true := by kernel_rfl
theorem ok_haulageref06_Right : okFunc F 85 _root_.Hx.Fn.f_haulageref06_Right = true := by kernel_rfl
theorem ok_typ_Fits : okFunc F 86 _root_.Hx.Fn.f_typ_Fits = true := by kernel_rfl
theorem ok_haulageref06_Fits : okFunc F 87 _root_.Hx.Fn.f_haulageref06_Fits = true := by kernel_rfl
theorem ok_haulageref06_Wide : okFunc F 88 _root_.Hx.Fn.f_haulageref06_Wide = true := by kernel_rfl
theorem ok_typ_Read : okFunc F 89 _root_.Hx.Fn.f_typ_Read = true := by kernel_rfl
theorem ok_haulageref06_Read : okFunc F 90 _root_.Hx.Fn.f_haulageref06_Read = true := by kernel_rfl
theorem ok_typ_Parse : okFunc F 91 _root_.Hx.Fn.f_typ_Parse = true := by kernel_rfl
theorem ok_haulageref06_Parse : okFunc F 92 _root_.Hx.Fn.f_haulageref06_Parse = true := by kernel_rfl
theorem ok_typ_Print : okFunc F 93 _root_.Hx.Fn.f_typ_Print = true := by kernel_rfl
theorem ok_haulageref06_Print : okFunc F 94 _root_.Hx.Fn.f_haulageref06_Print = true := by kernel_rfl
theorem ok_typ_long : okFunc F 95 _root_.Hx.Fn.f_typ_long = true := by kernel_rfl
theorem ok_typ_need : okFunc F 96 _root_.Hx.Fn.f_typ_need = true := by kernel_rfl
theorem ok_haulageref06_All : okFunc F 97 _root_.Hx.Fn.f_haulageref06_All = true := by kernel_rfl
theorem ok_value_Right : okFunc F 33 _root_.Hx.Fn.f_value_Right = true := by kernel_rfl
theorem ok_value_Digits : okFunc F 39 _root_.Hx.Fn.f_value_Digits = true := by kernel_rfl
theorem ok_haulageref05_Right : okFunc F 34 _root_.Hx.Fn.f_haulageref05_Right = true := by kernel_rfl
theorem ok_haulageref05_Digits : okFunc F 40 _root_.Hx.Fn.f_haulageref05_Digits = true := by kernel_rfl
theorem ok_name_Read : okFunc F 50 _root_.Hx.Fn.f_name_Read = true := by kernel_rfl
theorem ok_typ_kindOf : okFunc F 98 _root_.Hx.Fn.f_typ_kindOf = true := by kernel_rfl
theorem ok_strings_HasPrefix : okFunc F 48 _root_.Hx.Fn.f_strings_HasPrefix = true := by kernel_rfl
theorem ok_value_Number : okFunc F 37 _root_.Hx.Fn.f_value_Number = true := by kernel_rfl
theorem ok_haulageref04_Read : okFunc F 51 _root_.Hx.Fn.f_haulageref04_Read = true := by kernel_rfl
theorem ok_haulageref05_Number : okFunc F 38 _root_.Hx.Fn.f_haulageref05_Number = true := by kernel_rfl
theorem ok_typ_digits : okFunc F 99 _root_.Hx.Fn.f_typ_digits = true := by kernel_rfl
theorem ok_word_Fits : okFunc F 55 _root_.Hx.Fn.f_word_Fits = true := by kernel_rfl
theorem ok_utf_Right : okFunc F 11 _root_.Hx.Fn.f_utf_Right = true := by kernel_rfl
theorem ok_haulageref01_Fits : okFunc F 36 _root_.Hx.Fn.f_haulageref01_Fits = true := by kernel_rfl
theorem ok_haulageref03_Right : okFunc F 22 _root_.Hx.Fn.f_haulageref03_Right = true := by kernel_rfl
theorem ok_name_part : okFunc F 65 _root_.Hx.Fn.f_name_part = true := by kernel_rfl
theorem ok_internal_stringslite_HasPrefix : okFunc F 63 _root_.Hx.Fn.f_internal_stringslite_HasPrefix = true := by kernel_rfl
theorem ok_value_digit : okFunc F 45 _root_.Hx.Fn.f_value_digit = true := by kernel_rfl
theorem ok_haulageref04_Part : okFunc F 66 _root_.Hx.Fn.f_haulageref04_Part = true := by kernel_rfl
theorem ok_haulageref04_letter : okFunc F 67 _root_.Hx.Fn.f_haulageref04_letter = true := by kernel_rfl
theorem ok_word_Low : okFunc F 70 _root_.Hx.Fn.f_word_Low = true := by kernel_rfl
theorem ok_utf_Count : okFunc F 12 _root_.Hx.Fn.f_utf_Count = true := by kernel_rfl
theorem ok_haulageref01_Half : okFunc F 56 _root_.Hx.Fn.f_haulageref01_Half = true := by kernel_rfl
theorem ok_haulageref03_Signs : okFunc F 8 _root_.Hx.Fn.f_haulageref03_Signs = true := by kernel_rfl
theorem ok_utf_walk : okFunc F 21 _root_.Hx.Fn.f_utf_walk = true := by kernel_rfl
theorem ok_utf_Count_1 : okFunc F 23 _root_.Hx.Fn.f_utf_Count_1 = true := by kernel_rfl
theorem ok_haulageref03_Read : okFunc F 5 _root_.Hx.Fn.f_haulageref03_Read = true := by kernel_rfl
theorem ok_utf_Read : okFunc F 4 _root_.Hx.Fn.f_utf_Read = true := by kernel_rfl
theorem ok_haulageref03_Is : okFunc F 2 _root_.Hx.Fn.f_haulageref03_Is = true := by kernel_rfl
theorem ok_haulageref03_Put : okFunc F 3 _root_.Hx.Fn.f_haulageref03_Put = true := by kernel_rfl
theorem ok_utf_lead : okFunc F 18 _root_.Hx.Fn.f_utf_lead = true := by kernel_rfl
theorem ok_utf_is : okFunc F 15 _root_.Hx.Fn.f_utf_is = true := by kernel_rfl
theorem ok_utf_width : okFunc F 19 _root_.Hx.Fn.f_utf_width = true := by kernel_rfl
theorem ok_haulageref03_one : okFunc F 17 _root_.Hx.Fn.f_haulageref03_one = true := by kernel_rfl
def L : List (Nat × XFunc) := [(215, _root_.Hx.Fn.f_haulagelaw06_TypJoins), (216, _root_.Hx.Fn.f_haulagelaw06_TypCasts), (217, _root_.Hx.Fn.f_haulagelaw06_TypOrder), (218, _root_.Hx.Fn.f_haulagelaw06_TypTells), (219, _root_.Hx.Fn.f_haulagelaw06_TypWidens), (220, _root_.Hx.Fn.f_haulagelaw06_TypTexts), (78, _root_.Hx.Fn.f_haulagelaw06_lives), (79, _root_.Hx.Fn.f_typ_Join), (80, _root_.Hx.Fn.f_haulageref06_Join), (81, _root_.Hx.Fn.f_typ_Cast), (82, _root_.Hx.Fn.f_haulageref06_Cast), (83, _root_.Hx.Fn.f_typ_Wide), (84, _root_.Hx.Fn.f_typ_Right), (85, _root_.Hx.Fn.f_haulageref06_Right), (86, _root_.Hx.Fn.f_typ_Fits), (87, _root_.Hx.Fn.f_haulageref06_Fits), (88, _root_.Hx.Fn.f_haulageref06_Wide), (89, _root_.Hx.Fn.f_typ_Read), (90, _root_.Hx.Fn.f_haulageref06_Read), (91, _root_.Hx.Fn.f_typ_Parse), (92, _root_.Hx.Fn.f_haulageref06_Parse), (93, _root_.Hx.Fn.f_typ_Print), (94, _root_.Hx.Fn.f_haulageref06_Print), (95, _root_.Hx.Fn.f_typ_long), (96, _root_.Hx.Fn.f_typ_need), (97, _root_.Hx.Fn.f_haulageref06_All), (33, _root_.Hx.Fn.f_value_Right), (39, _root_.Hx.Fn.f_value_Digits), (34, _root_.Hx.Fn.f_haulageref05_Right), (40, _root_.Hx.Fn.f_haulageref05_Digits), (50, _root_.Hx.Fn.f_name_Read), (98, _root_.Hx.Fn.f_typ_kindOf), (48, _root_.Hx.Fn.f_strings_HasPrefix), (37, _root_.Hx.Fn.f_value_Number), (51, _root_.Hx.Fn.f_haulageref04_Read), (38, _root_.Hx.Fn.f_haulageref05_Number), (99, _root_.Hx.Fn.f_typ_digits), (55, _root_.Hx.Fn.f_word_Fits), (11, _root_.Hx.Fn.f_utf_Right), (36, _root_.Hx.Fn.f_haulageref01_Fits), (22, _root_.Hx.Fn.f_haulageref03_Right), (65, _root_.Hx.Fn.f_name_part), (63, _root_.Hx.Fn.f_internal_stringslite_HasPrefix), (45, _root_.Hx.Fn.f_value_digit), (66, _root_.Hx.Fn.f_haulageref04_Part), (67, _root_.Hx.Fn.f_haulageref04_letter), (70, _root_.Hx.Fn.f_word_Low), (12, _root_.Hx.Fn.f_utf_Count), (56, _root_.Hx.Fn.f_haulageref01_Half), (8, _root_.Hx.Fn.f_haulageref03_Signs), (21, _root_.Hx.Fn.f_utf_walk), (23, _root_.Hx.Fn.f_utf_Count_1), (5, _root_.Hx.Fn.f_haulageref03_Read), (4, _root_.Hx.Fn.f_utf_Read), (2, _root_.Hx.Fn.f_haulageref03_Is), (3, _root_.Hx.Fn.f_haulageref03_Put), (18, _root_.Hx.Fn.f_utf_lead), (15, _root_.Hx.Fn.f_utf_is), (19, _root_.Hx.Fn.f_utf_width), (17, _root_.Hx.Fn.f_haulageref03_one)]
theorem all_ok : ∀ p ∈ L, okFunc F p.1 p.2 = true := by
  intro p hp
  simp only [L, List.mem_cons, List.not_mem_nil, or_false] at hp
  rcases hp with rfl | rfl | rfl | rfl | rfl | rfl | rfl | rfl | rfl | rfl | rfl | rfl | rfl | rfl | rfl | rfl | rfl | rfl | rfl | rfl | rfl | rfl | rfl | rfl | rfl | rfl | rfl | rfl | rfl | rfl | rfl | rfl | rfl | rfl | rfl | rfl | rfl | rfl | rfl | rfl | rfl | rfl | rfl | rfl | rfl | rfl | rfl | rfl | rfl | rfl | rfl | rfl | rfl | rfl | rfl | rfl | rfl | rfl | rfl | rfl
  · exact ok_haulagelaw06_TypJoins
  · exact ok_haulagelaw06_TypCasts
  · exact ok_haulagelaw06_TypOrder
  · exact ok_haulagelaw06_TypTells
  · exact ok_haulagelaw06_TypWidens
  · exact ok_haulagelaw06_TypTexts
  · exact ok_haulagelaw06_lives
  · exact ok_typ_Join
  · exact ok_haulageref06_Join
  · exact ok_typ_Cast
  · exact ok_haulageref06_Cast
  · exact ok_typ_Wide
  · exact ok_typ_Right
  · exact ok_haulageref06_Right
  · exact ok_typ_Fits
  · exact ok_haulageref06_Fits
  · exact ok_haulageref06_Wide
  · exact ok_typ_Read
  · exact ok_haulageref06_Read
  · exact ok_typ_Parse
  · exact ok_haulageref06_Parse
  · exact ok_typ_Print
  · exact ok_haulageref06_Print
  · exact ok_typ_long
  · exact ok_typ_need
  · exact ok_haulageref06_All
  · exact ok_value_Right
  · exact ok_value_Digits
  · exact ok_haulageref05_Right
  · exact ok_haulageref05_Digits
  · exact ok_name_Read
  · exact ok_typ_kindOf
  · exact ok_strings_HasPrefix
  · exact ok_value_Number
  · exact ok_haulageref04_Read
  · exact ok_haulageref05_Number
  · exact ok_typ_digits
  · exact ok_word_Fits
  · exact ok_utf_Right
  · exact ok_haulageref01_Fits
  · exact ok_haulageref03_Right
  · exact ok_name_part
  · exact ok_internal_stringslite_HasPrefix
  · exact ok_value_digit
  · exact ok_haulageref04_Part
  · exact ok_haulageref04_letter
  · exact ok_word_Low
  · exact ok_utf_Count
  · exact ok_haulageref01_Half
  · exact ok_haulageref03_Signs
  · exact ok_utf_walk
  · exact ok_utf_Count_1
  · exact ok_haulageref03_Read
  · exact ok_utf_Read
  · exact ok_haulageref03_Is
  · exact ok_haulageref03_Put
  · exact ok_utf_lead
  · exact ok_utf_is
  · exact ok_utf_width
  · exact ok_haulageref03_one
end Go.Proofs.YtompbjamfhkgfaaDoor.Tab
