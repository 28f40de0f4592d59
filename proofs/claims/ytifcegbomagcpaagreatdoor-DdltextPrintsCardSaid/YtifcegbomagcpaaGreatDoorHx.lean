/- The numbers of this seat, and that each literal is a right reading of her function. -/
import Derived.Test.YtifcegbomagcpaaGreatDoorProg
import Derived.Test.YtifcegbomagcpaaGreatDoorHxFn03
import Derived.Test.YtifcegbomagcpaaGreatDoorHxFn05
import Derived.Test.YtifcegbomagcpaaGreatDoorHxFn06
import Derived.Test.YtifcegbomagcpaaGreatDoorHxFn07
import Derived.Test.YtifcegbomagcpaaGreatDoorHxFn10
import Derived.Test.YtifcegbomagcpaaGreatDoorHxFn10b
import Derived.Test.YtifcegbomagcpaaGreatDoorHxCall
import Derived.KernelRfl
namespace Go.Proofs.YtifcegbomagcpaaGreatDoor.Tab
open Go _root_.Hx
noncomputable def F : Fix where
  P := Go.Proofs.Tryz.prog
  num := fun g => [0, 0, 90, 91, 92, 79, 0, 0, 68, 0, 0, 49, 71, 0, 0, 102, 0, 100, 101, 103, 0, 81, 45, 82, 0, 0, 76, 0, 0, 0, 95, 97, 98, 28, 23, 94, 44, 85, 0, 62, 50, 0, 0, 41, 31, 86, 87, 88, 84, 89, 69, 43, 0, 0, 0, 48, 67, 0, 0, 0, 51, 52, 96, 93, 99, 80, 65, 66, 72, 0, 70, 38, 78, 39, 18, 104, 105, 60, 0, 0, 0, 0, 0, 0, 27, 22, 0, 0, 0, 75, 0, 0, 0, 40, 30, 61, 0, 0, 83, 0, 0, 0, 0, 0, 0, 0, 0, 0, 0, 0, 0, 0, 0, 0, 0, 0, 0, 0, 0, 0, 0, 0, 0, 0, 0, 0, 0, 0, 0, 0, 0, 0, 0, 0, 0, 0, 0, 0, 0, 0, 0, 0, 0, 0, 0, 0, 0, 0, 0, 0, 0, 0, 0, 0, 0, 0, 0, 0, 0, 0, 0, 0, 0, 0, 0, 0, 0, 0, 0, 11, 36, 5, 0, 0, 0, 0, 0, 0, 42, 0, 0, 0, 0, 0, 0, 0, 0, 0, 20, 0, 0, 0, 46, 64, 19, 0, 0, 0, 0, 0, 0, 0, 0, 0, 0, 0, 0, 0, 0, 0, 0, 0, 0, 0, 63, 0, 0, 0, 0, 0, 0, 0, 0, 0, 0, 0, 106, 77, 0, 0, 0, 4, 10, 0, 6, 0, 0, 32, 33, 34, 35, 0, 0, 0, 8, 12, 13, 14, 15, 16, 17, 53, 54, 55, 56, 57, 58, 59, 0, 0, 0, 0, 0, 0, 0, 0, 24, 25, 26, 37, 47, 73, 74, 3, 7, 9, 21, 29].getD g 0
  tnum := fun t => [44, 5, 69].getD t 0
  gnum := fun g => [0, 2, 1, 0].getD g 0
theorem ok_haulagelaw10_DdltextPrints : okFunc F 273 _root_.Hx.Fn.f_haulagelaw10_DdltextPrints = true := by kernel_rfl
theorem ok_haulagelaw10_lives : okFunc F 231 _root_.Hx.Fn.f_haulagelaw10_lives = true := by kernel_rfl
theorem ok_haulagelaw09_Few : okFunc F 171 _root_.Hx.Fn.f_haulagelaw09_Few = true := by kernel_rfl
theorem ok_ddltext_Print : okFunc F 234 _root_.Hx.Fn.f_ddltext_Print = true := by kernel_rfl
theorem ok_haulageref10_Can : okFunc F 274 _root_.Hx.Fn.f_haulageref10_Can = true := by kernel_rfl
theorem ok_ddltext_Can : okFunc F 244 _root_.Hx.Fn.f_ddltext_Can = true := by kernel_rfl
theorem ok_haulageref10_Print : okFunc F 275 _root_.Hx.Fn.f_haulageref10_Print = true := by kernel_rfl
theorem ok_ddltext_Parse : okFunc F 232 _root_.Hx.Fn.f_ddltext_Parse = true := by kernel_rfl
theorem ok_haulagelaw08_Few : okFunc F 169 _root_.Hx.Fn.f_haulagelaw08_Few = true := by kernel_rfl
theorem ok_ddltext_writer_word : okFunc F 245 _root_.Hx.Fn.f_ddltext_writer_word = true := by kernel_rfl
theorem ok_ddltext_writer_columns : okFunc F 246 _root_.Hx.Fn.f_ddltext_writer_columns = true := by kernel_rfl
theorem ok_ddltext_writer_rest : okFunc F 247 _root_.Hx.Fn.f_ddltext_writer_rest = true := by kernel_rfl
theorem ok_ddltext_added : okFunc F 248 _root_.Hx.Fn.f_ddltext_added = true := by kernel_rfl
theorem ok_ddltext_writer_of : okFunc F 249 _root_.Hx.Fn.f_ddltext_writer_of = true := by kernel_rfl
theorem ok_ddltext_writer_value : okFunc F 250 _root_.Hx.Fn.f_ddltext_writer_value = true := by kernel_rfl
theorem ok_strings_Builder_String : okFunc F 74 _root_.Hx.Fn.f_strings_Builder_String = true := by kernel_rfl
theorem ok_haulageref09_Plain : okFunc F 194 _root_.Hx.Fn.f_haulageref09_Plain = true := by kernel_rfl
theorem ok_haulageref04_Right : okFunc F 188 _root_.Hx.Fn.f_haulageref04_Right = true := by kernel_rfl
theorem ok_haulageref10_column : okFunc F 276 _root_.Hx.Fn.f_haulageref10_column = true := by kernel_rfl
theorem ok_haulageref06_Right : okFunc F 85 _root_.Hx.Fn.f_haulageref06_Right = true := by kernel_rfl
theorem ok_haulageref05_Right : okFunc F 34 _root_.Hx.Fn.f_haulageref05_Right = true := by kernel_rfl
theorem ok_ddl_Plain : okFunc F 266 _root_.Hx.Fn.f_ddl_Plain = true := by kernel_rfl
theorem ok_ddltext_names : okFunc F 267 _root_.Hx.Fn.f_ddltext_names = true := by kernel_rfl
theorem ok_ddltext_column : okFunc F 268 _root_.Hx.Fn.f_ddltext_column = true := by kernel_rfl
theorem ok_typ_Right : okFunc F 84 _root_.Hx.Fn.f_typ_Right = true := by kernel_rfl
theorem ok_value_Right : okFunc F 33 _root_.Hx.Fn.f_value_Right = true := by kernel_rfl
theorem ok_haulageref10_col : okFunc F 277 _root_.Hx.Fn.f_haulageref10_col = true := by kernel_rfl
theorem ok_haulageref06_Print : okFunc F 94 _root_.Hx.Fn.f_haulageref06_Print = true := by kernel_rfl
theorem ok_haulageref05_Print : okFunc F 44 _root_.Hx.Fn.f_haulageref05_Print = true := by kernel_rfl
theorem ok_ddltext_Parse_1 : okFunc F 237 _root_.Hx.Fn.f_ddltext_Parse_1 = true := by kernel_rfl
theorem ok_ddltext_reader_change : okFunc F 238 _root_.Hx.Fn.f_ddltext_reader_change = true := by kernel_rfl
theorem ok_ddltext_reader_left : okFunc F 239 _root_.Hx.Fn.f_ddltext_reader_left = true := by kernel_rfl
theorem ok_ddltext_bad : okFunc F 240 _root_.Hx.Fn.f_ddltext_bad = true := by kernel_rfl
theorem ok_haulagelaw08_short : okFunc F 170 _root_.Hx.Fn.f_haulagelaw08_short = true := by kernel_rfl
theorem ok_strings_Builder_Len : okFunc F 269 _root_.Hx.Fn.f_strings_Builder_Len = true := by kernel_rfl
theorem ok_strings_Builder_WriteByte : okFunc F 71 _root_.Hx.Fn.f_strings_Builder_WriteByte = true := by kernel_rfl
theorem ok_strings_Builder_WriteString : okFunc F 73 _root_.Hx.Fn.f_strings_Builder_WriteString = true := by kernel_rfl
theorem ok_typ_Print : okFunc F 93 _root_.Hx.Fn.f_typ_Print = true := by kernel_rfl
theorem ok_value_Print : okFunc F 43 _root_.Hx.Fn.f_value_Print = true := by kernel_rfl
theorem ok_haulageref09_Same : okFunc F 178 _root_.Hx.Fn.f_haulageref09_Same = true := by kernel_rfl
theorem ok_haulageref04_Read : okFunc F 51 _root_.Hx.Fn.f_haulageref04_Read = true := by kernel_rfl
theorem ok_haulageref01_Fits : okFunc F 36 _root_.Hx.Fn.f_haulageref01_Fits = true := by kernel_rfl
theorem ok_haulageref03_Right : okFunc F 22 _root_.Hx.Fn.f_haulageref03_Right = true := by kernel_rfl
theorem ok_ddl_flat : okFunc F 192 _root_.Hx.Fn.f_ddl_flat = true := by kernel_rfl
theorem ok_name_Right : okFunc F 270 _root_.Hx.Fn.f_name_Right = true := by kernel_rfl
theorem ok_word_Fits : okFunc F 55 _root_.Hx.Fn.f_word_Fits = true := by kernel_rfl
theorem ok_utf_Right : okFunc F 11 _root_.Hx.Fn.f_utf_Right = true := by kernel_rfl
theorem ok_haulageref05_Digits : okFunc F 40 _root_.Hx.Fn.f_haulageref05_Digits = true := by kernel_rfl
theorem ok_haulageref04_Quote : okFunc F 60 _root_.Hx.Fn.f_haulageref04_Quote = true := by kernel_rfl
theorem ok_haulageref05_hex : okFunc F 61 _root_.Hx.Fn.f_haulageref05_hex = true := by kernel_rfl
theorem ok_ddltext_reader_peek : okFunc F 251 _root_.Hx.Fn.f_ddltext_reader_peek = true := by kernel_rfl
theorem ok_ddltext_reader_name : okFunc F 252 _root_.Hx.Fn.f_ddltext_reader_name = true := by kernel_rfl
theorem ok_ddltext_reader_columns : okFunc F 253 _root_.Hx.Fn.f_ddltext_reader_columns = true := by kernel_rfl
theorem ok_ddltext_reader_want : okFunc F 254 _root_.Hx.Fn.f_ddltext_reader_want = true := by kernel_rfl
theorem ok_ddltext_reader_column : okFunc F 255 _root_.Hx.Fn.f_ddltext_reader_column = true := by kernel_rfl
theorem ok_ddltext_reader_kind : okFunc F 256 _root_.Hx.Fn.f_ddltext_reader_kind = true := by kernel_rfl
theorem ok_ddltext_reader_value : okFunc F 257 _root_.Hx.Fn.f_ddltext_reader_value = true := by kernel_rfl
theorem ok_strings_Builder_copyCheck : okFunc F 77 _root_.Hx.Fn.f_strings_Builder_copyCheck = true := by kernel_rfl
theorem ok_typ_long : okFunc F 95 _root_.Hx.Fn.f_typ_long = true := by kernel_rfl
theorem ok_value_Digits : okFunc F 39 _root_.Hx.Fn.f_value_Digits = true := by kernel_rfl
theorem ok_name_Quote : okFunc F 214 _root_.Hx.Fn.f_name_Quote = true := by kernel_rfl
theorem ok_haulageref08_SameCols : okFunc F 193 _root_.Hx.Fn.f_haulageref08_SameCols = true := by kernel_rfl
theorem ok_haulageref04_Part : okFunc F 66 _root_.Hx.Fn.f_haulageref04_Part = true := by kernel_rfl
theorem ok_haulageref04_letter : okFunc F 67 _root_.Hx.Fn.f_haulageref04_letter = true := by kernel_rfl
theorem ok_haulageref01_Half : okFunc F 56 _root_.Hx.Fn.f_haulageref01_Half = true := by kernel_rfl
theorem ok_haulageref03_Signs : okFunc F 8 _root_.Hx.Fn.f_haulageref03_Signs = true := by kernel_rfl
theorem ok_name_Read : okFunc F 50 _root_.Hx.Fn.f_name_Read = true := by kernel_rfl
theorem ok_word_Low : okFunc F 70 _root_.Hx.Fn.f_word_Low = true := by kernel_rfl
theorem ok_utf_Count : okFunc F 12 _root_.Hx.Fn.f_utf_Count = true := by kernel_rfl
theorem ok_haulageref04_one : okFunc F 68 _root_.Hx.Fn.f_haulageref04_one = true := by kernel_rfl
theorem ok_ddltext_reader_sign : okFunc F 271 _root_.Hx.Fn.f_ddltext_reader_sign = true := by kernel_rfl
theorem ok_ddltext_reader_take : okFunc F 272 _root_.Hx.Fn.f_ddltext_reader_take = true := by kernel_rfl
theorem ok_typ_Read : okFunc F 89 _root_.Hx.Fn.f_typ_Read = true := by kernel_rfl
theorem ok_value_Read : okFunc F 26 _root_.Hx.Fn.f_value_Read = true := by kernel_rfl
theorem ok_name_plain : okFunc F 72 _root_.Hx.Fn.f_name_plain = true := by kernel_rfl
theorem ok_haulageref03_Read : okFunc F 5 _root_.Hx.Fn.f_haulageref03_Read = true := by kernel_rfl
theorem ok_name_part : okFunc F 65 _root_.Hx.Fn.f_name_part = true := by kernel_rfl
theorem ok_utf_walk : okFunc F 21 _root_.Hx.Fn.f_utf_walk = true := by kernel_rfl
theorem ok_utf_Count_1 : okFunc F 23 _root_.Hx.Fn.f_utf_Count_1 = true := by kernel_rfl
theorem ok_typ_kindOf : okFunc F 98 _root_.Hx.Fn.f_typ_kindOf = true := by kernel_rfl
theorem ok_strings_HasPrefix : okFunc F 48 _root_.Hx.Fn.f_strings_HasPrefix = true := by kernel_rfl
theorem ok_value_Number : okFunc F 37 _root_.Hx.Fn.f_value_Number = true := by kernel_rfl
theorem ok_value_digit : okFunc F 45 _root_.Hx.Fn.f_value_digit = true := by kernel_rfl
theorem ok_value_number : okFunc F 46 _root_.Hx.Fn.f_value_number = true := by kernel_rfl
theorem ok_value_text : okFunc F 47 _root_.Hx.Fn.f_value_text = true := by kernel_rfl
theorem ok_value_bytes : okFunc F 49 _root_.Hx.Fn.f_value_bytes = true := by kernel_rfl
theorem ok_haulageref03_Is : okFunc F 2 _root_.Hx.Fn.f_haulageref03_Is = true := by kernel_rfl
theorem ok_haulageref03_Put : okFunc F 3 _root_.Hx.Fn.f_haulageref03_Put = true := by kernel_rfl
theorem ok_utf_Read : okFunc F 4 _root_.Hx.Fn.f_utf_Read = true := by kernel_rfl
theorem ok_internal_stringslite_HasPrefix : okFunc F 63 _root_.Hx.Fn.f_internal_stringslite_HasPrefix = true := by kernel_rfl
theorem ok_value_Long : okFunc F 35 _root_.Hx.Fn.f_value_Long = true := by kernel_rfl
theorem ok_value_Int : okFunc F 30 _root_.Hx.Fn.f_value_Int = true := by kernel_rfl
theorem ok_name_Unquote : okFunc F 62 _root_.Hx.Fn.f_name_Unquote = true := by kernel_rfl
theorem ok_value_Text : okFunc F 31 _root_.Hx.Fn.f_value_Text = true := by kernel_rfl
theorem ok_value_Bytes : okFunc F 32 _root_.Hx.Fn.f_value_Bytes = true := by kernel_rfl
theorem ok_strings_IndexByte : okFunc F 64 _root_.Hx.Fn.f_strings_IndexByte = true := by kernel_rfl
theorem ok_haulageref03_one : okFunc F 17 _root_.Hx.Fn.f_haulageref03_one = true := by kernel_rfl
theorem ok_utf_lead : okFunc F 18 _root_.Hx.Fn.f_utf_lead = true := by kernel_rfl
theorem ok_utf_is : okFunc F 15 _root_.Hx.Fn.f_utf_is = true := by kernel_rfl
theorem ok_utf_width : okFunc F 19 _root_.Hx.Fn.f_utf_width = true := by kernel_rfl
theorem ok_name_escaped : okFunc F 75 _root_.Hx.Fn.f_name_escaped = true := by kernel_rfl
theorem ok_internal_stringslite_IndexByte : okFunc F 76 _root_.Hx.Fn.f_internal_stringslite_IndexByte = true := by kernel_rfl
def L : List (Nat × XFunc) := [(273, _root_.Hx.Fn.f_haulagelaw10_DdltextPrints), (231, _root_.Hx.Fn.f_haulagelaw10_lives), (171, _root_.Hx.Fn.f_haulagelaw09_Few), (234, _root_.Hx.Fn.f_ddltext_Print), (274, _root_.Hx.Fn.f_haulageref10_Can), (244, _root_.Hx.Fn.f_ddltext_Can), (275, _root_.Hx.Fn.f_haulageref10_Print), (232, _root_.Hx.Fn.f_ddltext_Parse), (169, _root_.Hx.Fn.f_haulagelaw08_Few), (245, _root_.Hx.Fn.f_ddltext_writer_word), (246, _root_.Hx.Fn.f_ddltext_writer_columns), (247, _root_.Hx.Fn.f_ddltext_writer_rest), (248, _root_.Hx.Fn.f_ddltext_added), (249, _root_.Hx.Fn.f_ddltext_writer_of), (250, _root_.Hx.Fn.f_ddltext_writer_value), (74, _root_.Hx.Fn.f_strings_Builder_String), (194, _root_.Hx.Fn.f_haulageref09_Plain), (188, _root_.Hx.Fn.f_haulageref04_Right), (276, _root_.Hx.Fn.f_haulageref10_column), (85, _root_.Hx.Fn.f_haulageref06_Right), (34, _root_.Hx.Fn.f_haulageref05_Right), (266, _root_.Hx.Fn.f_ddl_Plain), (267, _root_.Hx.Fn.f_ddltext_names), (268, _root_.Hx.Fn.f_ddltext_column), (84, _root_.Hx.Fn.f_typ_Right), (33, _root_.Hx.Fn.f_value_Right), (277, _root_.Hx.Fn.f_haulageref10_col), (94, _root_.Hx.Fn.f_haulageref06_Print), (44, _root_.Hx.Fn.f_haulageref05_Print), (237, _root_.Hx.Fn.f_ddltext_Parse_1), (238, _root_.Hx.Fn.f_ddltext_reader_change), (239, _root_.Hx.Fn.f_ddltext_reader_left), (240, _root_.Hx.Fn.f_ddltext_bad), (170, _root_.Hx.Fn.f_haulagelaw08_short), (269, _root_.Hx.Fn.f_strings_Builder_Len), (71, _root_.Hx.Fn.f_strings_Builder_WriteByte), (73, _root_.Hx.Fn.f_strings_Builder_WriteString), (93, _root_.Hx.Fn.f_typ_Print), (43, _root_.Hx.Fn.f_value_Print), (178, _root_.Hx.Fn.f_haulageref09_Same), (51, _root_.Hx.Fn.f_haulageref04_Read), (36, _root_.Hx.Fn.f_haulageref01_Fits), (22, _root_.Hx.Fn.f_haulageref03_Right), (192, _root_.Hx.Fn.f_ddl_flat), (270, _root_.Hx.Fn.f_name_Right), (55, _root_.Hx.Fn.f_word_Fits), (11, _root_.Hx.Fn.f_utf_Right), (40, _root_.Hx.Fn.f_haulageref05_Digits), (60, _root_.Hx.Fn.f_haulageref04_Quote), (61, _root_.Hx.Fn.f_haulageref05_hex), (251, _root_.Hx.Fn.f_ddltext_reader_peek), (252, _root_.Hx.Fn.f_ddltext_reader_name), (253, _root_.Hx.Fn.f_ddltext_reader_columns), (254, _root_.Hx.Fn.f_ddltext_reader_want), (255, _root_.Hx.Fn.f_ddltext_reader_column), (256, _root_.Hx.Fn.f_ddltext_reader_kind), (257, _root_.Hx.Fn.f_ddltext_reader_value), (77, _root_.Hx.Fn.f_strings_Builder_copyCheck), (95, _root_.Hx.Fn.f_typ_long), (39, _root_.Hx.Fn.f_value_Digits), (214, _root_.Hx.Fn.f_name_Quote), (193, _root_.Hx.Fn.f_haulageref08_SameCols), (66, _root_.Hx.Fn.f_haulageref04_Part), (67, _root_.Hx.Fn.f_haulageref04_letter), (56, _root_.Hx.Fn.f_haulageref01_Half), (8, _root_.Hx.Fn.f_haulageref03_Signs), (50, _root_.Hx.Fn.f_name_Read), (70, _root_.Hx.Fn.f_word_Low), (12, _root_.Hx.Fn.f_utf_Count), (68, _root_.Hx.Fn.f_haulageref04_one), (271, _root_.Hx.Fn.f_ddltext_reader_sign), (272, _root_.Hx.Fn.f_ddltext_reader_take), (89, _root_.Hx.Fn.f_typ_Read), (26, _root_.Hx.Fn.f_value_Read), (72, _root_.Hx.Fn.f_name_plain), (5, _root_.Hx.Fn.f_haulageref03_Read), (65, _root_.Hx.Fn.f_name_part), (21, _root_.Hx.Fn.f_utf_walk), (23, _root_.Hx.Fn.f_utf_Count_1), (98, _root_.Hx.Fn.f_typ_kindOf), (48, _root_.Hx.Fn.f_strings_HasPrefix), (37, _root_.Hx.Fn.f_value_Number), (45, _root_.Hx.Fn.f_value_digit), (46, _root_.Hx.Fn.f_value_number), (47, _root_.Hx.Fn.f_value_text), (49, _root_.Hx.Fn.f_value_bytes), (2, _root_.Hx.Fn.f_haulageref03_Is), (3, _root_.Hx.Fn.f_haulageref03_Put), (4, _root_.Hx.Fn.f_utf_Read), (63, _root_.Hx.Fn.f_internal_stringslite_HasPrefix), (35, _root_.Hx.Fn.f_value_Long), (30, _root_.Hx.Fn.f_value_Int), (62, _root_.Hx.Fn.f_name_Unquote), (31, _root_.Hx.Fn.f_value_Text), (32, _root_.Hx.Fn.f_value_Bytes), (64, _root_.Hx.Fn.f_strings_IndexByte), (17, _root_.Hx.Fn.f_haulageref03_one), (18, _root_.Hx.Fn.f_utf_lead), (15, _root_.Hx.Fn.f_utf_is), (19, _root_.Hx.Fn.f_utf_width), (75, _root_.Hx.Fn.f_name_escaped), (76, _root_.Hx.Fn.f_internal_stringslite_IndexByte)]
theorem all_ok : ∀ p ∈ L, okFunc F p.1 p.2 = true := by
  intro p hp
  simp only [L, List.mem_cons, List.not_mem_nil, or_false] at hp
  rcases hp with rfl | rfl | rfl | rfl | rfl | rfl | rfl | rfl | rfl | rfl | rfl | rfl | rfl | rfl | rfl | rfl | rfl | rfl | rfl | rfl | rfl | rfl | rfl | rfl | rfl | rfl | rfl | rfl | rfl | rfl | rfl | rfl | rfl | rfl | rfl | rfl | rfl | rfl | rfl | rfl | rfl | rfl | rfl | rfl | rfl | rfl | rfl | rfl | rfl | rfl | rfl | rfl | rfl | rfl | rfl | rfl | rfl | rfl | rfl | rfl | rfl | rfl | rfl | rfl | rfl | rfl | rfl | rfl | rfl | rfl | rfl | rfl | rfl | rfl | rfl | rfl | rfl | rfl | rfl | rfl | rfl | rfl | rfl | rfl | rfl | rfl | rfl | rfl | rfl | rfl | rfl | rfl | rfl | rfl | rfl | rfl | rfl | rfl | rfl | rfl | rfl | rfl
  · exact ok_haulagelaw10_DdltextPrints
  · exact ok_haulagelaw10_lives
  · exact ok_haulagelaw09_Few
  · exact ok_ddltext_Print
  · exact ok_haulageref10_Can
  · exact ok_ddltext_Can
  · exact ok_haulageref10_Print
  · exact ok_ddltext_Parse
  · exact ok_haulagelaw08_Few
  · exact ok_ddltext_writer_word
  · exact ok_ddltext_writer_columns
  · exact ok_ddltext_writer_rest
  · exact ok_ddltext_added
  · exact ok_ddltext_writer_of
  · exact ok_ddltext_writer_value
  · exact ok_strings_Builder_String
  · exact ok_haulageref09_Plain
  · exact ok_haulageref04_Right
  · exact ok_haulageref10_column
  · exact ok_haulageref06_Right
  · exact ok_haulageref05_Right
  · exact ok_ddl_Plain
  · exact ok_ddltext_names
  · exact ok_ddltext_column
  · exact ok_typ_Right
  · exact ok_value_Right
  · exact ok_haulageref10_col
  · exact ok_haulageref06_Print
  · exact ok_haulageref05_Print
  · exact ok_ddltext_Parse_1
  · exact ok_ddltext_reader_change
  · exact ok_ddltext_reader_left
  · exact ok_ddltext_bad
  · exact ok_haulagelaw08_short
  · exact ok_strings_Builder_Len
  · exact ok_strings_Builder_WriteByte
  · exact ok_strings_Builder_WriteString
  · exact ok_typ_Print
  · exact ok_value_Print
  · exact ok_haulageref09_Same
  · exact ok_haulageref04_Read
  · exact ok_haulageref01_Fits
  · exact ok_haulageref03_Right
  · exact ok_ddl_flat
  · exact ok_name_Right
  · exact ok_word_Fits
  · exact ok_utf_Right
  · exact ok_haulageref05_Digits
  · exact ok_haulageref04_Quote
  · exact ok_haulageref05_hex
  · exact ok_ddltext_reader_peek
  · exact ok_ddltext_reader_name
  · exact ok_ddltext_reader_columns
  · exact ok_ddltext_reader_want
  · exact ok_ddltext_reader_column
  · exact ok_ddltext_reader_kind
  · exact ok_ddltext_reader_value
  · exact ok_strings_Builder_copyCheck
  · exact ok_typ_long
  · exact ok_value_Digits
  · exact ok_name_Quote
  · exact ok_haulageref08_SameCols
  · exact ok_haulageref04_Part
  · exact ok_haulageref04_letter
  · exact ok_haulageref01_Half
  · exact ok_haulageref03_Signs
  · exact ok_name_Read
  · exact ok_word_Low
  · exact ok_utf_Count
  · exact ok_haulageref04_one
  · exact ok_ddltext_reader_sign
  · exact ok_ddltext_reader_take
  · exact ok_typ_Read
  · exact ok_value_Read
  · exact ok_name_plain
  · exact ok_haulageref03_Read
  · exact ok_name_part
  · exact ok_utf_walk
  · exact ok_utf_Count_1
  · exact ok_typ_kindOf
  · exact ok_strings_HasPrefix
  · exact ok_value_Number
  · exact ok_value_digit
  · exact ok_value_number
  · exact ok_value_text
  · exact ok_value_bytes
  · exact ok_haulageref03_Is
  · exact ok_haulageref03_Put
  · exact ok_utf_Read
  · exact ok_internal_stringslite_HasPrefix
  · exact ok_value_Long
  · exact ok_value_Int
  · exact ok_name_Unquote
  · exact ok_value_Text
  · exact ok_value_Bytes
  · exact ok_strings_IndexByte
  · exact ok_haulageref03_one
  · exact ok_utf_lead
  · exact ok_utf_is
  · exact ok_utf_width
  · exact ok_name_escaped
  · exact ok_internal_stringslite_IndexByte
end Go.Proofs.YtifcegbomagcpaaGreatDoor.Tab
