/- The numbers of this seat, and that each literal is a right reading of her function. -/
import Derived.Test.YtbdnghmmiobdcaaDoorProg
import Derived.Test.YtbdnghmmiobdcaaDoorHxFn03
import Derived.Test.YtbdnghmmiobdcaaDoorHxFn05
import Derived.Test.YtbdnghmmiobdcaaDoorHxFn06
import Derived.Test.YtbdnghmmiobdcaaDoorHxFn07
import Derived.Test.YtbdnghmmiobdcaaDoorHxCall
import Derived.KernelRfl
namespace Go.Proofs.YtbdnghmmiobdcaaDoor.Tab
open Go _root_.Hx
noncomputable def F : Fix where
  P := Go.Proofs.Tryd.prog
  num := fun g => [0, 0, 69, 70, 73, 60, 0, 0, 43, 0, 0, 41, 59, 0, 0, 77, 0, 74, 76, 78, 0, 67, 21, 68, 0, 9, 10, 11, 12, 13, 14, 15, 16, 17, 18, 19, 20, 22, 23, 24, 25, 26, 27, 28, 29, 30, 31, 32, 33, 34, 35, 36, 37, 38, 39, 40, 42, 44, 45, 46, 48, 49, 50, 51, 52, 53, 54, 55, 56, 57, 58, 61, 62, 63, 64, 65, 66, 71, 0, 0, 0, 0, 0, 0, 0, 0, 0, 0, 0, 0, 0, 0, 0, 0, 0, 0, 0, 0, 0, 0, 0, 0, 0, 0, 0, 0, 0, 0, 0, 0, 0, 0, 0, 0, 0, 0, 0, 0, 0, 0, 0, 0, 0, 0, 0, 0, 0, 0, 0, 0, 0, 0, 0, 0, 0, 0, 0, 0, 0, 0, 0, 0, 0, 0, 0, 0, 0, 0, 0, 0, 0, 0, 0, 0, 0, 0, 0, 0, 0, 0, 0, 0, 0, 0, 0, 0, 0, 0, 0, 0, 0, 0, 0, 0, 0, 0, 0, 0, 0, 0, 0, 0, 0, 0, 0, 0, 0, 0, 0, 0, 0, 0, 0, 0, 0, 0, 0, 0, 0, 0, 0, 0, 0, 0, 0, 0, 0, 0, 3, 4, 5, 6, 7, 8, 47, 0, 0, 0, 0, 0, 0, 0, 0, 0, 0, 0, 72, 75].getD g 0
  tnum := fun t => [77, 5].getD t 0
  gnum := fun g => [0, 1, 0].getD g 0
theorem ok_haulagelaw05_ValueReads : okFunc F 208 _root_.Hx.Fn.f_haulagelaw05_ValueReads = true := by kernel_rfl
theorem ok_haulagelaw05_ValueMakes : okFunc F 209 _root_.Hx.Fn.f_haulagelaw05_ValueMakes = true := by kernel_rfl
theorem ok_haulagelaw05_ValueNumbers : okFunc F 210 _root_.Hx.Fn.f_haulagelaw05_ValueNumbers = true := by kernel_rfl
theorem ok_haulagelaw05_ValueOrders : okFunc F 211 _root_.Hx.Fn.f_haulagelaw05_ValueOrders = true := by kernel_rfl
theorem ok_haulagelaw05_ValueWrites : okFunc F 212 _root_.Hx.Fn.f_haulagelaw05_ValueWrites = true := by kernel_rfl
theorem ok_haulagelaw05_ValueBack : okFunc F 213 _root_.Hx.Fn.f_haulagelaw05_ValueBack = true := by kernel_rfl
theorem ok_haulagelaw05_lives : okFunc F 25 _root_.Hx.Fn.f_haulagelaw05_lives = true := by kernel_rfl
theorem ok_value_Read : okFunc F 26 _root_.Hx.Fn.f_value_Read = true := by kernel_rfl
theorem ok_haulageref05_Read : okFunc F 27 _root_.Hx.Fn.f_haulageref05_Read = true := by kernel_rfl
theorem ok_value_Parse : okFunc F 28 _root_.Hx.Fn.f_value_Parse = true := by kernel_rfl
theorem ok_haulageref05_Parse : okFunc F 29 _root_.Hx.Fn.f_haulageref05_Parse = true := by kernel_rfl
theorem ok_value_Int : okFunc F 30 _root_.Hx.Fn.f_value_Int = true := by kernel_rfl
theorem ok_value_Text : okFunc F 31 _root_.Hx.Fn.f_value_Text = true := by kernel_rfl
theorem ok_value_Bytes : okFunc F 32 _root_.Hx.Fn.f_value_Bytes = true := by kernel_rfl
theorem ok_value_Right : okFunc F 33 _root_.Hx.Fn.f_value_Right = true := by kernel_rfl
theorem ok_haulageref05_Right : okFunc F 34 _root_.Hx.Fn.f_haulageref05_Right = true := by kernel_rfl
theorem ok_value_Long : okFunc F 35 _root_.Hx.Fn.f_value_Long = true := by kernel_rfl
theorem ok_haulageref01_Fits : okFunc F 36 _root_.Hx.Fn.f_haulageref01_Fits = true := by kernel_rfl
theorem ok_haulageref03_Right : okFunc F 22 _root_.Hx.Fn.f_haulageref03_Right = true := by kernel_rfl
theorem ok_value_Number : okFunc F 37 _root_.Hx.Fn.f_value_Number = true := by kernel_rfl
theorem ok_haulageref05_Number : okFunc F 38 _root_.Hx.Fn.f_haulageref05_Number = true := by kernel_rfl
theorem ok_value_Digits : okFunc F 39 _root_.Hx.Fn.f_value_Digits = true := by kernel_rfl
theorem ok_haulageref05_Digits : okFunc F 40 _root_.Hx.Fn.f_haulageref05_Digits = true := by kernel_rfl
theorem ok_value_Order : okFunc F 41 _root_.Hx.Fn.f_value_Order = true := by kernel_rfl
theorem ok_haulageref05_Order : okFunc F 42 _root_.Hx.Fn.f_haulageref05_Order = true := by kernel_rfl
theorem ok_value_Print : okFunc F 43 _root_.Hx.Fn.f_value_Print = true := by kernel_rfl
theorem ok_haulageref05_Print : okFunc F 44 _root_.Hx.Fn.f_haulageref05_Print = true := by kernel_rfl
theorem ok_value_digit : okFunc F 45 _root_.Hx.Fn.f_value_digit = true := by kernel_rfl
theorem ok_value_number : okFunc F 46 _root_.Hx.Fn.f_value_number = true := by kernel_rfl
theorem ok_value_text : okFunc F 47 _root_.Hx.Fn.f_value_text = true := by kernel_rfl
theorem ok_strings_HasPrefix : okFunc F 48 _root_.Hx.Fn.f_strings_HasPrefix = true := by kernel_rfl
theorem ok_value_bytes : okFunc F 49 _root_.Hx.Fn.f_value_bytes = true := by kernel_rfl
theorem ok_name_Read : okFunc F 50 _root_.Hx.Fn.f_name_Read = true := by kernel_rfl
theorem ok_haulageref04_Read : okFunc F 51 _root_.Hx.Fn.f_haulageref04_Read = true := by kernel_rfl
theorem ok_haulageref04_Unquote : okFunc F 52 _root_.Hx.Fn.f_haulageref04_Unquote = true := by kernel_rfl
theorem ok_haulageref05_long : okFunc F 53 _root_.Hx.Fn.f_haulageref05_long = true := by kernel_rfl
theorem ok_haulageref05_unhex : okFunc F 54 _root_.Hx.Fn.f_haulageref05_unhex = true := by kernel_rfl
theorem ok_word_Fits : okFunc F 55 _root_.Hx.Fn.f_word_Fits = true := by kernel_rfl
theorem ok_utf_Right : okFunc F 11 _root_.Hx.Fn.f_utf_Right = true := by kernel_rfl
theorem ok_haulageref01_Half : okFunc F 56 _root_.Hx.Fn.f_haulageref01_Half = true := by kernel_rfl
theorem ok_haulageref03_Signs : okFunc F 8 _root_.Hx.Fn.f_haulageref03_Signs = true := by kernel_rfl
theorem ok_value_sign : okFunc F 57 _root_.Hx.Fn.f_value_sign = true := by kernel_rfl
theorem ok_name_Order : okFunc F 58 _root_.Hx.Fn.f_name_Order = true := by kernel_rfl
theorem ok_haulageref04_Order : okFunc F 59 _root_.Hx.Fn.f_haulageref04_Order = true := by kernel_rfl
theorem ok_name_Quote : okFunc F 214 _root_.Hx.Fn.f_name_Quote = true := by kernel_rfl
theorem ok_haulageref04_Quote : okFunc F 60 _root_.Hx.Fn.f_haulageref04_Quote = true := by kernel_rfl
theorem ok_haulageref05_hex : okFunc F 61 _root_.Hx.Fn.f_haulageref05_hex = true := by kernel_rfl
theorem ok_name_Unquote : okFunc F 62 _root_.Hx.Fn.f_name_Unquote = true := by kernel_rfl
theorem ok_internal_stringslite_HasPrefix : okFunc F 63 _root_.Hx.Fn.f_internal_stringslite_HasPrefix = true := by kernel_rfl
theorem ok_strings_IndexByte : okFunc F 64 _root_.Hx.Fn.f_strings_IndexByte = true := by kernel_rfl
theorem ok_name_part : okFunc F 65 _root_.Hx.Fn.f_name_part = true := by kernel_rfl
theorem ok_haulageref04_Part : okFunc F 66 _root_.Hx.Fn.f_haulageref04_Part = true := by kernel_rfl
theorem ok_haulageref04_letter : okFunc F 67 _root_.Hx.Fn.f_haulageref04_letter = true := by kernel_rfl
theorem ok_haulageref04_one : okFunc F 68 _root_.Hx.Fn.f_haulageref04_one = true := by kernel_rfl
theorem ok_haulageref04_starts : okFunc F 69 _root_.Hx.Fn.f_haulageref04_starts = true := by kernel_rfl
theorem ok_word_Low : okFunc F 70 _root_.Hx.Fn.f_word_Low = true := by kernel_rfl
theorem ok_utf_Count : okFunc F 12 _root_.Hx.Fn.f_utf_Count = true := by kernel_rfl
theorem ok_haulageref03_Read : okFunc F 5 _root_.Hx.Fn.f_haulageref03_Read = true := by kernel_rfl
theorem ok_strings_Builder_WriteByte : okFunc F 71 _root_.Hx.Fn.f_strings_Builder_WriteByte = true := by kernel_rfl
theorem ok_name_plain : okFunc F 72 _root_.Hx.Fn.f_name_plain = true := by kernel_rfl
theorem ok_strings_Builder_WriteString : okFunc F 73 _root_.Hx.Fn.f_strings_Builder_WriteString = true := by kernel_rfl
theorem ok_strings_Builder_String : okFunc F 74 _root_.Hx.Fn.f_strings_Builder_String = true := by kernel_rfl
theorem ok_name_escaped : okFunc F 75 _root_.Hx.Fn.f_name_escaped = true := by kernel_rfl
theorem ok_internal_stringslite_IndexByte : okFunc F 76 _root_.Hx.Fn.f_internal_stringslite_IndexByte = true := by kernel_rfl
theorem ok_utf_walk : okFunc F 21 _root_.Hx.Fn.f_utf_walk = true := by kernel_rfl
theorem ok_utf_Count_1 : okFunc F 23 _root_.Hx.Fn.f_utf_Count_1 = true := by kernel_rfl
theorem ok_haulageref03_Is : okFunc F 2 _root_.Hx.Fn.f_haulageref03_Is = true := by kernel_rfl
theorem ok_haulageref03_Put : okFunc F 3 _root_.Hx.Fn.f_haulageref03_Put = true := by kernel_rfl
theorem ok_strings_Builder_copyCheck : okFunc F 77 _root_.Hx.Fn.f_strings_Builder_copyCheck = true := by kernel_rfl
theorem ok_utf_Read : okFunc F 4 _root_.Hx.Fn.f_utf_Read = true := by kernel_rfl
theorem ok_haulageref03_one : okFunc F 17 _root_.Hx.Fn.f_haulageref03_one = true := by kernel_rfl
theorem ok_utf_lead : okFunc F 18 _root_.Hx.Fn.f_utf_lead = true := by kernel_rfl
theorem ok_utf_is : okFunc F 15 _root_.Hx.Fn.f_utf_is = true := by kernel_rfl
theorem ok_utf_width : okFunc F 19 _root_.Hx.Fn.f_utf_width = true := by kernel_rfl
def L : List (Nat × XFunc) := [(208, _root_.Hx.Fn.f_haulagelaw05_ValueReads), (209, _root_.Hx.Fn.f_haulagelaw05_ValueMakes), (210, _root_.Hx.Fn.f_haulagelaw05_ValueNumbers), (211, _root_.Hx.Fn.f_haulagelaw05_ValueOrders), (212, _root_.Hx.Fn.f_haulagelaw05_ValueWrites), (213, _root_.Hx.Fn.f_haulagelaw05_ValueBack), (25, _root_.Hx.Fn.f_haulagelaw05_lives), (26, _root_.Hx.Fn.f_value_Read), (27, _root_.Hx.Fn.f_haulageref05_Read), (28, _root_.Hx.Fn.f_value_Parse), (29, _root_.Hx.Fn.f_haulageref05_Parse), (30, _root_.Hx.Fn.f_value_Int), (31, _root_.Hx.Fn.f_value_Text), (32, _root_.Hx.Fn.f_value_Bytes), (33, _root_.Hx.Fn.f_value_Right), (34, _root_.Hx.Fn.f_haulageref05_Right), (35, _root_.Hx.Fn.f_value_Long), (36, _root_.Hx.Fn.f_haulageref01_Fits), (22, _root_.Hx.Fn.f_haulageref03_Right), (37, _root_.Hx.Fn.f_value_Number), (38, _root_.Hx.Fn.f_haulageref05_Number), (39, _root_.Hx.Fn.f_value_Digits), (40, _root_.Hx.Fn.f_haulageref05_Digits), (41, _root_.Hx.Fn.f_value_Order), (42, _root_.Hx.Fn.f_haulageref05_Order), (43, _root_.Hx.Fn.f_value_Print), (44, _root_.Hx.Fn.f_haulageref05_Print), (45, _root_.Hx.Fn.f_value_digit), (46, _root_.Hx.Fn.f_value_number), (47, _root_.Hx.Fn.f_value_text), (48, _root_.Hx.Fn.f_strings_HasPrefix), (49, _root_.Hx.Fn.f_value_bytes), (50, _root_.Hx.Fn.f_name_Read), (51, _root_.Hx.Fn.f_haulageref04_Read), (52, _root_.Hx.Fn.f_haulageref04_Unquote), (53, _root_.Hx.Fn.f_haulageref05_long), (54, _root_.Hx.Fn.f_haulageref05_unhex), (55, _root_.Hx.Fn.f_word_Fits), (11, _root_.Hx.Fn.f_utf_Right), (56, _root_.Hx.Fn.f_haulageref01_Half), (8, _root_.Hx.Fn.f_haulageref03_Signs), (57, _root_.Hx.Fn.f_value_sign), (58, _root_.Hx.Fn.f_name_Order), (59, _root_.Hx.Fn.f_haulageref04_Order), (214, _root_.Hx.Fn.f_name_Quote), (60, _root_.Hx.Fn.f_haulageref04_Quote), (61, _root_.Hx.Fn.f_haulageref05_hex), (62, _root_.Hx.Fn.f_name_Unquote), (63, _root_.Hx.Fn.f_internal_stringslite_HasPrefix), (64, _root_.Hx.Fn.f_strings_IndexByte), (65, _root_.Hx.Fn.f_name_part), (66, _root_.Hx.Fn.f_haulageref04_Part), (67, _root_.Hx.Fn.f_haulageref04_letter), (68, _root_.Hx.Fn.f_haulageref04_one), (69, _root_.Hx.Fn.f_haulageref04_starts), (70, _root_.Hx.Fn.f_word_Low), (12, _root_.Hx.Fn.f_utf_Count), (5, _root_.Hx.Fn.f_haulageref03_Read), (71, _root_.Hx.Fn.f_strings_Builder_WriteByte), (72, _root_.Hx.Fn.f_name_plain), (73, _root_.Hx.Fn.f_strings_Builder_WriteString), (74, _root_.Hx.Fn.f_strings_Builder_String), (75, _root_.Hx.Fn.f_name_escaped), (76, _root_.Hx.Fn.f_internal_stringslite_IndexByte), (21, _root_.Hx.Fn.f_utf_walk), (23, _root_.Hx.Fn.f_utf_Count_1), (2, _root_.Hx.Fn.f_haulageref03_Is), (3, _root_.Hx.Fn.f_haulageref03_Put), (77, _root_.Hx.Fn.f_strings_Builder_copyCheck), (4, _root_.Hx.Fn.f_utf_Read), (17, _root_.Hx.Fn.f_haulageref03_one), (18, _root_.Hx.Fn.f_utf_lead), (15, _root_.Hx.Fn.f_utf_is), (19, _root_.Hx.Fn.f_utf_width)]
theorem all_ok : ∀ p ∈ L, okFunc F p.1 p.2 = true := by
  intro p hp
  simp only [L, List.mem_cons, List.not_mem_nil, or_false] at hp
  rcases hp with rfl | rfl | rfl | rfl | rfl | rfl | rfl | rfl | rfl | rfl | rfl | rfl | rfl | rfl | rfl | rfl | rfl | rfl | rfl | rfl | rfl | rfl | rfl | rfl | rfl | rfl | rfl | rfl | rfl | rfl | rfl | rfl | rfl | rfl | rfl | rfl | rfl | rfl | rfl | rfl | rfl | rfl | rfl | rfl | rfl | rfl | rfl | rfl | rfl | rfl | rfl | rfl | rfl | rfl | rfl | rfl | rfl | rfl | rfl | rfl | rfl | rfl | rfl | rfl | rfl | rfl | rfl | rfl | rfl | rfl | rfl | rfl | rfl | rfl
  · exact ok_haulagelaw05_ValueReads
  · exact ok_haulagelaw05_ValueMakes
  · exact ok_haulagelaw05_ValueNumbers
  · exact ok_haulagelaw05_ValueOrders
  · exact ok_haulagelaw05_ValueWrites
  · exact ok_haulagelaw05_ValueBack
  · exact ok_haulagelaw05_lives
  · exact ok_value_Read
  · exact ok_haulageref05_Read
  · exact ok_value_Parse
  · exact ok_haulageref05_Parse
  · exact ok_value_Int
  · exact ok_value_Text
  · exact ok_value_Bytes
  · exact ok_value_Right
  · exact ok_haulageref05_Right
  · exact ok_value_Long
  · exact ok_haulageref01_Fits
  · exact ok_haulageref03_Right
  · exact ok_value_Number
  · exact ok_haulageref05_Number
  · exact ok_value_Digits
  · exact ok_haulageref05_Digits
  · exact ok_value_Order
  · exact ok_haulageref05_Order
  · exact ok_value_Print
  · exact ok_haulageref05_Print
  · exact ok_value_digit
  · exact ok_value_number
  · exact ok_value_text
  · exact ok_strings_HasPrefix
  · exact ok_value_bytes
  · exact ok_name_Read
  · exact ok_haulageref04_Read
  · exact ok_haulageref04_Unquote
  · exact ok_haulageref05_long
  · exact ok_haulageref05_unhex
  · exact ok_word_Fits
  · exact ok_utf_Right
  · exact ok_haulageref01_Half
  · exact ok_haulageref03_Signs
  · exact ok_value_sign
  · exact ok_name_Order
  · exact ok_haulageref04_Order
  · exact ok_name_Quote
  · exact ok_haulageref04_Quote
  · exact ok_haulageref05_hex
  · exact ok_name_Unquote
  · exact ok_internal_stringslite_HasPrefix
  · exact ok_strings_IndexByte
  · exact ok_name_part
  · exact ok_haulageref04_Part
  · exact ok_haulageref04_letter
  · exact ok_haulageref04_one
  · exact ok_haulageref04_starts
  · exact ok_word_Low
  · exact ok_utf_Count
  · exact ok_haulageref03_Read
  · exact ok_strings_Builder_WriteByte
  · exact ok_name_plain
  · exact ok_strings_Builder_WriteString
  · exact ok_strings_Builder_String
  · exact ok_name_escaped
  · exact ok_internal_stringslite_IndexByte
  · exact ok_utf_walk
  · exact ok_utf_Count_1
  · exact ok_haulageref03_Is
  · exact ok_haulageref03_Put
  · exact ok_strings_Builder_copyCheck
  · exact ok_utf_Read
  · exact ok_haulageref03_one
  · exact ok_utf_lead
  · exact ok_utf_is
  · exact ok_utf_width
end Go.Proofs.YtbdnghmmiobdcaaDoor.Tab
