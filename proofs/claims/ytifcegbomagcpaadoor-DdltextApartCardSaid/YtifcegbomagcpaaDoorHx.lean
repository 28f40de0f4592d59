/- The numbers of this seat, and that each literal is a right reading of her function. -/
import Derived.Test.YtifcegbomagcpaaDoorProg
import Derived.Test.YtifcegbomagcpaaDoorHxFn03
import Derived.Test.YtifcegbomagcpaaDoorHxFn05
import Derived.Test.YtifcegbomagcpaaDoorHxFn06
import Derived.Test.YtifcegbomagcpaaDoorHxFn07
import Derived.Test.YtifcegbomagcpaaDoorHxFn10
import Derived.Test.YtifcegbomagcpaaDoorHxCall
import Derived.KernelRfl
namespace Go.Proofs.YtifcegbomagcpaaDoor.Tab
open Go _root_.Hx
noncomputable def F : Fix where
  P := Go.Proofs.Tryd.prog
  num := fun g => [0, 0, 117, 118, 111, 113, 0, 0, 110, 0, 0, 69, 90, 0, 0, 115, 0, 119, 114, 116, 0, 106, 104, 107, 0, 0, 62, 66, 0, 0, 95, 97, 98, 51, 0, 94, 85, 77, 84, 72, 100, 0, 0, 56, 0, 78, 79, 80, 76, 81, 57, 63, 86, 87, 88, 68, 101, 0, 0, 0, 0, 105, 96, 93, 99, 74, 82, 83, 102, 103, 89, 53, 92, 54, 30, 108, 109, 70, 0, 0, 0, 0, 0, 0, 50, 0, 0, 0, 0, 61, 65, 0, 0, 55, 0, 71, 0, 0, 75, 0, 0, 0, 0, 0, 0, 0, 0, 0, 0, 0, 0, 0, 0, 0, 0, 0, 0, 0, 0, 0, 0, 0, 0, 0, 0, 0, 0, 0, 0, 0, 0, 0, 0, 0, 0, 0, 0, 0, 0, 0, 0, 0, 0, 0, 0, 0, 0, 0, 0, 0, 0, 0, 0, 0, 0, 0, 0, 0, 0, 0, 0, 0, 0, 0, 0, 0, 0, 0, 0, 22, 46, 10, 0, 0, 0, 0, 0, 0, 9, 0, 0, 0, 0, 0, 0, 0, 0, 0, 64, 0, 0, 0, 67, 21, 0, 0, 0, 0, 0, 0, 0, 0, 0, 0, 0, 0, 0, 0, 0, 0, 0, 0, 0, 0, 73, 0, 0, 0, 0, 0, 0, 0, 0, 0, 0, 0, 112, 91, 3, 4, 5, 6, 7, 8, 11, 12, 13, 14, 15, 16, 17, 18, 19, 20, 23, 24, 25, 26, 27, 28, 29, 31, 32, 33, 34, 35, 36, 37, 38, 39, 40, 41, 42, 43, 44, 45, 47, 48, 49, 52, 58, 59, 60, 0, 0, 0, 0, 0].getD g 0
  tnum := fun t => [63, 5, 46].getD t 0
  gnum := fun g => [0, 3, 1, 0].getD g 0
theorem ok_haulagelaw10_DdltextApart : okFunc F 230 _root_.Hx.Fn.f_haulagelaw10_DdltextApart = true := by kernel_rfl
theorem ok_haulagelaw10_lives : okFunc F 231 _root_.Hx.Fn.f_haulagelaw10_lives = true := by kernel_rfl
theorem ok_ddltext_Parse : okFunc F 232 _root_.Hx.Fn.f_ddltext_Parse = true := by kernel_rfl
theorem ok_haulageref09_Same : okFunc F 178 _root_.Hx.Fn.f_haulageref09_Same = true := by kernel_rfl
theorem ok_haulagelaw09_Few : okFunc F 171 _root_.Hx.Fn.f_haulagelaw09_Few = true := by kernel_rfl
theorem ok_ddltext_Print : okFunc F 234 _root_.Hx.Fn.f_ddltext_Print = true := by kernel_rfl
theorem ok_ddltext_Parse_1 : okFunc F 237 _root_.Hx.Fn.f_ddltext_Parse_1 = true := by kernel_rfl
theorem ok_ddltext_reader_change : okFunc F 238 _root_.Hx.Fn.f_ddltext_reader_change = true := by kernel_rfl
theorem ok_ddltext_reader_left : okFunc F 239 _root_.Hx.Fn.f_ddltext_reader_left = true := by kernel_rfl
theorem ok_ddltext_bad : okFunc F 240 _root_.Hx.Fn.f_ddltext_bad = true := by kernel_rfl
theorem ok_haulageref08_SameCols : okFunc F 193 _root_.Hx.Fn.f_haulageref08_SameCols = true := by kernel_rfl
theorem ok_haulagelaw08_Few : okFunc F 169 _root_.Hx.Fn.f_haulagelaw08_Few = true := by kernel_rfl
theorem ok_ddltext_Can : okFunc F 244 _root_.Hx.Fn.f_ddltext_Can = true := by kernel_rfl
theorem ok_ddltext_writer_word : okFunc F 245 _root_.Hx.Fn.f_ddltext_writer_word = true := by kernel_rfl
theorem ok_ddltext_writer_columns : okFunc F 246 _root_.Hx.Fn.f_ddltext_writer_columns = true := by kernel_rfl
theorem ok_ddltext_writer_rest : okFunc F 247 _root_.Hx.Fn.f_ddltext_writer_rest = true := by kernel_rfl
theorem ok_ddltext_added : okFunc F 248 _root_.Hx.Fn.f_ddltext_added = true := by kernel_rfl
theorem ok_ddltext_writer_of : okFunc F 249 _root_.Hx.Fn.f_ddltext_writer_of = true := by kernel_rfl
theorem ok_ddltext_writer_value : okFunc F 250 _root_.Hx.Fn.f_ddltext_writer_value = true := by kernel_rfl
theorem ok_strings_Builder_String : okFunc F 74 _root_.Hx.Fn.f_strings_Builder_String = true := by kernel_rfl
theorem ok_ddltext_reader_peek : okFunc F 251 _root_.Hx.Fn.f_ddltext_reader_peek = true := by kernel_rfl
theorem ok_ddltext_reader_name : okFunc F 252 _root_.Hx.Fn.f_ddltext_reader_name = true := by kernel_rfl
theorem ok_ddltext_reader_columns : okFunc F 253 _root_.Hx.Fn.f_ddltext_reader_columns = true := by kernel_rfl
theorem ok_ddltext_reader_want : okFunc F 254 _root_.Hx.Fn.f_ddltext_reader_want = true := by kernel_rfl
theorem ok_ddltext_reader_column : okFunc F 255 _root_.Hx.Fn.f_ddltext_reader_column = true := by kernel_rfl
theorem ok_ddltext_reader_kind : okFunc F 256 _root_.Hx.Fn.f_ddltext_reader_kind = true := by kernel_rfl
theorem ok_ddltext_reader_value : okFunc F 257 _root_.Hx.Fn.f_ddltext_reader_value = true := by kernel_rfl
theorem ok_haulagelaw08_short : okFunc F 170 _root_.Hx.Fn.f_haulagelaw08_short = true := by kernel_rfl
theorem ok_ddl_Plain : okFunc F 266 _root_.Hx.Fn.f_ddl_Plain = true := by kernel_rfl
theorem ok_ddltext_names : okFunc F 267 _root_.Hx.Fn.f_ddltext_names = true := by kernel_rfl
theorem ok_ddltext_column : okFunc F 268 _root_.Hx.Fn.f_ddltext_column = true := by kernel_rfl
theorem ok_typ_Right : okFunc F 84 _root_.Hx.Fn.f_typ_Right = true := by kernel_rfl
theorem ok_value_Right : okFunc F 33 _root_.Hx.Fn.f_value_Right = true := by kernel_rfl
theorem ok_strings_Builder_Len : okFunc F 269 _root_.Hx.Fn.f_strings_Builder_Len = true := by kernel_rfl
theorem ok_strings_Builder_WriteByte : okFunc F 71 _root_.Hx.Fn.f_strings_Builder_WriteByte = true := by kernel_rfl
theorem ok_strings_Builder_WriteString : okFunc F 73 _root_.Hx.Fn.f_strings_Builder_WriteString = true := by kernel_rfl
theorem ok_typ_Print : okFunc F 93 _root_.Hx.Fn.f_typ_Print = true := by kernel_rfl
theorem ok_value_Print : okFunc F 43 _root_.Hx.Fn.f_value_Print = true := by kernel_rfl
theorem ok_name_Read : okFunc F 50 _root_.Hx.Fn.f_name_Read = true := by kernel_rfl
theorem ok_name_Right : okFunc F 270 _root_.Hx.Fn.f_name_Right = true := by kernel_rfl
theorem ok_ddltext_reader_sign : okFunc F 271 _root_.Hx.Fn.f_ddltext_reader_sign = true := by kernel_rfl
theorem ok_ddltext_reader_take : okFunc F 272 _root_.Hx.Fn.f_ddltext_reader_take = true := by kernel_rfl
theorem ok_typ_Read : okFunc F 89 _root_.Hx.Fn.f_typ_Read = true := by kernel_rfl
theorem ok_value_Read : okFunc F 26 _root_.Hx.Fn.f_value_Read = true := by kernel_rfl
theorem ok_haulageref04_Read : okFunc F 51 _root_.Hx.Fn.f_haulageref04_Read = true := by kernel_rfl
theorem ok_ddl_flat : okFunc F 192 _root_.Hx.Fn.f_ddl_flat = true := by kernel_rfl
theorem ok_word_Fits : okFunc F 55 _root_.Hx.Fn.f_word_Fits = true := by kernel_rfl
theorem ok_utf_Right : okFunc F 11 _root_.Hx.Fn.f_utf_Right = true := by kernel_rfl
theorem ok_strings_Builder_copyCheck : okFunc F 77 _root_.Hx.Fn.f_strings_Builder_copyCheck = true := by kernel_rfl
theorem ok_typ_long : okFunc F 95 _root_.Hx.Fn.f_typ_long = true := by kernel_rfl
theorem ok_value_Digits : okFunc F 39 _root_.Hx.Fn.f_value_Digits = true := by kernel_rfl
theorem ok_name_Quote : okFunc F 214 _root_.Hx.Fn.f_name_Quote = true := by kernel_rfl
theorem ok_name_part : okFunc F 65 _root_.Hx.Fn.f_name_part = true := by kernel_rfl
theorem ok_typ_kindOf : okFunc F 98 _root_.Hx.Fn.f_typ_kindOf = true := by kernel_rfl
theorem ok_strings_HasPrefix : okFunc F 48 _root_.Hx.Fn.f_strings_HasPrefix = true := by kernel_rfl
theorem ok_value_Number : okFunc F 37 _root_.Hx.Fn.f_value_Number = true := by kernel_rfl
theorem ok_value_digit : okFunc F 45 _root_.Hx.Fn.f_value_digit = true := by kernel_rfl
theorem ok_value_number : okFunc F 46 _root_.Hx.Fn.f_value_number = true := by kernel_rfl
theorem ok_value_text : okFunc F 47 _root_.Hx.Fn.f_value_text = true := by kernel_rfl
theorem ok_value_bytes : okFunc F 49 _root_.Hx.Fn.f_value_bytes = true := by kernel_rfl
theorem ok_haulageref04_Part : okFunc F 66 _root_.Hx.Fn.f_haulageref04_Part = true := by kernel_rfl
theorem ok_haulageref04_letter : okFunc F 67 _root_.Hx.Fn.f_haulageref04_letter = true := by kernel_rfl
theorem ok_haulageref01_Fits : okFunc F 36 _root_.Hx.Fn.f_haulageref01_Fits = true := by kernel_rfl
theorem ok_word_Low : okFunc F 70 _root_.Hx.Fn.f_word_Low = true := by kernel_rfl
theorem ok_utf_Count : okFunc F 12 _root_.Hx.Fn.f_utf_Count = true := by kernel_rfl
theorem ok_name_plain : okFunc F 72 _root_.Hx.Fn.f_name_plain = true := by kernel_rfl
theorem ok_internal_stringslite_HasPrefix : okFunc F 63 _root_.Hx.Fn.f_internal_stringslite_HasPrefix = true := by kernel_rfl
theorem ok_value_Long : okFunc F 35 _root_.Hx.Fn.f_value_Long = true := by kernel_rfl
theorem ok_value_Int : okFunc F 30 _root_.Hx.Fn.f_value_Int = true := by kernel_rfl
theorem ok_name_Unquote : okFunc F 62 _root_.Hx.Fn.f_name_Unquote = true := by kernel_rfl
theorem ok_value_Text : okFunc F 31 _root_.Hx.Fn.f_value_Text = true := by kernel_rfl
theorem ok_value_Bytes : okFunc F 32 _root_.Hx.Fn.f_value_Bytes = true := by kernel_rfl
theorem ok_strings_IndexByte : okFunc F 64 _root_.Hx.Fn.f_strings_IndexByte = true := by kernel_rfl
theorem ok_haulageref05_Digits : okFunc F 40 _root_.Hx.Fn.f_haulageref05_Digits = true := by kernel_rfl
theorem ok_haulageref01_Half : okFunc F 56 _root_.Hx.Fn.f_haulageref01_Half = true := by kernel_rfl
theorem ok_haulageref04_one : okFunc F 68 _root_.Hx.Fn.f_haulageref04_one = true := by kernel_rfl
theorem ok_haulageref03_Right : okFunc F 22 _root_.Hx.Fn.f_haulageref03_Right = true := by kernel_rfl
theorem ok_haulageref05_hex : okFunc F 61 _root_.Hx.Fn.f_haulageref05_hex = true := by kernel_rfl
theorem ok_utf_walk : okFunc F 21 _root_.Hx.Fn.f_utf_walk = true := by kernel_rfl
theorem ok_utf_Count_1 : okFunc F 23 _root_.Hx.Fn.f_utf_Count_1 = true := by kernel_rfl
theorem ok_name_escaped : okFunc F 75 _root_.Hx.Fn.f_name_escaped = true := by kernel_rfl
theorem ok_internal_stringslite_IndexByte : okFunc F 76 _root_.Hx.Fn.f_internal_stringslite_IndexByte = true := by kernel_rfl
theorem ok_haulageref03_Signs : okFunc F 8 _root_.Hx.Fn.f_haulageref03_Signs = true := by kernel_rfl
theorem ok_utf_Read : okFunc F 4 _root_.Hx.Fn.f_utf_Read = true := by kernel_rfl
theorem ok_haulageref03_Read : okFunc F 5 _root_.Hx.Fn.f_haulageref03_Read = true := by kernel_rfl
theorem ok_utf_lead : okFunc F 18 _root_.Hx.Fn.f_utf_lead = true := by kernel_rfl
theorem ok_utf_is : okFunc F 15 _root_.Hx.Fn.f_utf_is = true := by kernel_rfl
theorem ok_utf_width : okFunc F 19 _root_.Hx.Fn.f_utf_width = true := by kernel_rfl
theorem ok_haulageref03_Is : okFunc F 2 _root_.Hx.Fn.f_haulageref03_Is = true := by kernel_rfl
theorem ok_haulageref03_Put : okFunc F 3 _root_.Hx.Fn.f_haulageref03_Put = true := by kernel_rfl
theorem ok_haulageref03_one : okFunc F 17 _root_.Hx.Fn.f_haulageref03_one = true := by kernel_rfl
def L : List (Nat × XFunc) := [(230, _root_.Hx.Fn.f_haulagelaw10_DdltextApart), (231, _root_.Hx.Fn.f_haulagelaw10_lives), (232, _root_.Hx.Fn.f_ddltext_Parse), (178, _root_.Hx.Fn.f_haulageref09_Same), (171, _root_.Hx.Fn.f_haulagelaw09_Few), (234, _root_.Hx.Fn.f_ddltext_Print), (237, _root_.Hx.Fn.f_ddltext_Parse_1), (238, _root_.Hx.Fn.f_ddltext_reader_change), (239, _root_.Hx.Fn.f_ddltext_reader_left), (240, _root_.Hx.Fn.f_ddltext_bad), (193, _root_.Hx.Fn.f_haulageref08_SameCols), (169, _root_.Hx.Fn.f_haulagelaw08_Few), (244, _root_.Hx.Fn.f_ddltext_Can), (245, _root_.Hx.Fn.f_ddltext_writer_word), (246, _root_.Hx.Fn.f_ddltext_writer_columns), (247, _root_.Hx.Fn.f_ddltext_writer_rest), (248, _root_.Hx.Fn.f_ddltext_added), (249, _root_.Hx.Fn.f_ddltext_writer_of), (250, _root_.Hx.Fn.f_ddltext_writer_value), (74, _root_.Hx.Fn.f_strings_Builder_String), (251, _root_.Hx.Fn.f_ddltext_reader_peek), (252, _root_.Hx.Fn.f_ddltext_reader_name), (253, _root_.Hx.Fn.f_ddltext_reader_columns), (254, _root_.Hx.Fn.f_ddltext_reader_want), (255, _root_.Hx.Fn.f_ddltext_reader_column), (256, _root_.Hx.Fn.f_ddltext_reader_kind), (257, _root_.Hx.Fn.f_ddltext_reader_value), (170, _root_.Hx.Fn.f_haulagelaw08_short), (266, _root_.Hx.Fn.f_ddl_Plain), (267, _root_.Hx.Fn.f_ddltext_names), (268, _root_.Hx.Fn.f_ddltext_column), (84, _root_.Hx.Fn.f_typ_Right), (33, _root_.Hx.Fn.f_value_Right), (269, _root_.Hx.Fn.f_strings_Builder_Len), (71, _root_.Hx.Fn.f_strings_Builder_WriteByte), (73, _root_.Hx.Fn.f_strings_Builder_WriteString), (93, _root_.Hx.Fn.f_typ_Print), (43, _root_.Hx.Fn.f_value_Print), (50, _root_.Hx.Fn.f_name_Read), (270, _root_.Hx.Fn.f_name_Right), (271, _root_.Hx.Fn.f_ddltext_reader_sign), (272, _root_.Hx.Fn.f_ddltext_reader_take), (89, _root_.Hx.Fn.f_typ_Read), (26, _root_.Hx.Fn.f_value_Read), (51, _root_.Hx.Fn.f_haulageref04_Read), (192, _root_.Hx.Fn.f_ddl_flat), (55, _root_.Hx.Fn.f_word_Fits), (11, _root_.Hx.Fn.f_utf_Right), (77, _root_.Hx.Fn.f_strings_Builder_copyCheck), (95, _root_.Hx.Fn.f_typ_long), (39, _root_.Hx.Fn.f_value_Digits), (214, _root_.Hx.Fn.f_name_Quote), (65, _root_.Hx.Fn.f_name_part), (98, _root_.Hx.Fn.f_typ_kindOf), (48, _root_.Hx.Fn.f_strings_HasPrefix), (37, _root_.Hx.Fn.f_value_Number), (45, _root_.Hx.Fn.f_value_digit), (46, _root_.Hx.Fn.f_value_number), (47, _root_.Hx.Fn.f_value_text), (49, _root_.Hx.Fn.f_value_bytes), (66, _root_.Hx.Fn.f_haulageref04_Part), (67, _root_.Hx.Fn.f_haulageref04_letter), (36, _root_.Hx.Fn.f_haulageref01_Fits), (70, _root_.Hx.Fn.f_word_Low), (12, _root_.Hx.Fn.f_utf_Count), (72, _root_.Hx.Fn.f_name_plain), (63, _root_.Hx.Fn.f_internal_stringslite_HasPrefix), (35, _root_.Hx.Fn.f_value_Long), (30, _root_.Hx.Fn.f_value_Int), (62, _root_.Hx.Fn.f_name_Unquote), (31, _root_.Hx.Fn.f_value_Text), (32, _root_.Hx.Fn.f_value_Bytes), (64, _root_.Hx.Fn.f_strings_IndexByte), (40, _root_.Hx.Fn.f_haulageref05_Digits), (56, _root_.Hx.Fn.f_haulageref01_Half), (68, _root_.Hx.Fn.f_haulageref04_one), (22, _root_.Hx.Fn.f_haulageref03_Right), (61, _root_.Hx.Fn.f_haulageref05_hex), (21, _root_.Hx.Fn.f_utf_walk), (23, _root_.Hx.Fn.f_utf_Count_1), (75, _root_.Hx.Fn.f_name_escaped), (76, _root_.Hx.Fn.f_internal_stringslite_IndexByte), (8, _root_.Hx.Fn.f_haulageref03_Signs), (4, _root_.Hx.Fn.f_utf_Read), (5, _root_.Hx.Fn.f_haulageref03_Read), (18, _root_.Hx.Fn.f_utf_lead), (15, _root_.Hx.Fn.f_utf_is), (19, _root_.Hx.Fn.f_utf_width), (2, _root_.Hx.Fn.f_haulageref03_Is), (3, _root_.Hx.Fn.f_haulageref03_Put), (17, _root_.Hx.Fn.f_haulageref03_one)]
theorem all_ok : ∀ p ∈ L, okFunc F p.1 p.2 = true := by
  intro p hp
  simp only [L, List.mem_cons, List.not_mem_nil, or_false] at hp
  rcases hp with rfl | rfl | rfl | rfl | rfl | rfl | rfl | rfl | rfl | rfl | rfl | rfl | rfl | rfl | rfl | rfl | rfl | rfl | rfl | rfl | rfl | rfl | rfl | rfl | rfl | rfl | rfl | rfl | rfl | rfl | rfl | rfl | rfl | rfl | rfl | rfl | rfl | rfl | rfl | rfl | rfl | rfl | rfl | rfl | rfl | rfl | rfl | rfl | rfl | rfl | rfl | rfl | rfl | rfl | rfl | rfl | rfl | rfl | rfl | rfl | rfl | rfl | rfl | rfl | rfl | rfl | rfl | rfl | rfl | rfl | rfl | rfl | rfl | rfl | rfl | rfl | rfl | rfl | rfl | rfl | rfl | rfl | rfl | rfl | rfl | rfl | rfl | rfl | rfl | rfl | rfl
  · exact ok_haulagelaw10_DdltextApart
  · exact ok_haulagelaw10_lives
  · exact ok_ddltext_Parse
  · exact ok_haulageref09_Same
  · exact ok_haulagelaw09_Few
  · exact ok_ddltext_Print
  · exact ok_ddltext_Parse_1
  · exact ok_ddltext_reader_change
  · exact ok_ddltext_reader_left
  · exact ok_ddltext_bad
  · exact ok_haulageref08_SameCols
  · exact ok_haulagelaw08_Few
  · exact ok_ddltext_Can
  · exact ok_ddltext_writer_word
  · exact ok_ddltext_writer_columns
  · exact ok_ddltext_writer_rest
  · exact ok_ddltext_added
  · exact ok_ddltext_writer_of
  · exact ok_ddltext_writer_value
  · exact ok_strings_Builder_String
  · exact ok_ddltext_reader_peek
  · exact ok_ddltext_reader_name
  · exact ok_ddltext_reader_columns
  · exact ok_ddltext_reader_want
  · exact ok_ddltext_reader_column
  · exact ok_ddltext_reader_kind
  · exact ok_ddltext_reader_value
  · exact ok_haulagelaw08_short
  · exact ok_ddl_Plain
  · exact ok_ddltext_names
  · exact ok_ddltext_column
  · exact ok_typ_Right
  · exact ok_value_Right
  · exact ok_strings_Builder_Len
  · exact ok_strings_Builder_WriteByte
  · exact ok_strings_Builder_WriteString
  · exact ok_typ_Print
  · exact ok_value_Print
  · exact ok_name_Read
  · exact ok_name_Right
  · exact ok_ddltext_reader_sign
  · exact ok_ddltext_reader_take
  · exact ok_typ_Read
  · exact ok_value_Read
  · exact ok_haulageref04_Read
  · exact ok_ddl_flat
  · exact ok_word_Fits
  · exact ok_utf_Right
  · exact ok_strings_Builder_copyCheck
  · exact ok_typ_long
  · exact ok_value_Digits
  · exact ok_name_Quote
  · exact ok_name_part
  · exact ok_typ_kindOf
  · exact ok_strings_HasPrefix
  · exact ok_value_Number
  · exact ok_value_digit
  · exact ok_value_number
  · exact ok_value_text
  · exact ok_value_bytes
  · exact ok_haulageref04_Part
  · exact ok_haulageref04_letter
  · exact ok_haulageref01_Fits
  · exact ok_word_Low
  · exact ok_utf_Count
  · exact ok_name_plain
  · exact ok_internal_stringslite_HasPrefix
  · exact ok_value_Long
  · exact ok_value_Int
  · exact ok_name_Unquote
  · exact ok_value_Text
  · exact ok_value_Bytes
  · exact ok_strings_IndexByte
  · exact ok_haulageref05_Digits
  · exact ok_haulageref01_Half
  · exact ok_haulageref04_one
  · exact ok_haulageref03_Right
  · exact ok_haulageref05_hex
  · exact ok_utf_walk
  · exact ok_utf_Count_1
  · exact ok_name_escaped
  · exact ok_internal_stringslite_IndexByte
  · exact ok_haulageref03_Signs
  · exact ok_utf_Read
  · exact ok_haulageref03_Read
  · exact ok_utf_lead
  · exact ok_utf_is
  · exact ok_utf_width
  · exact ok_haulageref03_Is
  · exact ok_haulageref03_Put
  · exact ok_haulageref03_one
end Go.Proofs.YtifcegbomagcpaaDoor.Tab
