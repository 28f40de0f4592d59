/- HxFn10: written by gen.py -/
import Derived.Test.YtifcegbomagcpaaDoorHxDefs
namespace Hx.Fn
open Go
def f_haulagelaw10_DdltextApart : XFunc := { ntmps := 44, res := [.tmp 4], pure := true, body :=
  (.seq (.ops [⟨some 2, .box (.tmp 0), none, 0⟩,
     ⟨some 3, .box (.tmp 1), none, 0⟩,
     ⟨some 4, .mov (.con (.bool false)), none, 0⟩])
  (.seq (.seq (.ops [⟨some 9, .call (.fn 231) [], none, 0⟩,
      ⟨some 10, .un .not (.tmp 9), none, 0⟩])
   (.cond (.tmp 10)
    (.seq (.ops [⟨some 4, .mov (.con (.bool false)), none, 0⟩])
     .ret)
    .skip))
  (.seq (.seq (.ops [⟨some 11, .load 12 true (.tmp 2), none, 0⟩,
      ⟨some 12, .call (.fn 171) [(.tmp 11)], none, 0⟩,
      ⟨some 13, .un .not (.tmp 12), none, 0⟩,
      ⟨some 14, .mov (.tmp 13), none, 0⟩,
      ⟨some 15, .load 12 true (.tmp 3), some (14, false), 0⟩,
      ⟨some 16, .call (.fn 171) [(.tmp 15)], some (14, false), 0⟩,
      ⟨some 17, .un .not (.tmp 16), some (14, false), 0⟩,
      ⟨some 18, .pick (.tmp 14) (.con (.bool true)) (.tmp 17), none, 0⟩])
   (.cond (.tmp 18)
    (.seq (.ops [⟨some 4, .mov (.con (.bool true)), none, 0⟩])
     .ret)
    .skip))
  (.seq (.ops [⟨some 20, .load 12 true (.tmp 2), none, 0⟩,
     ⟨some 21, .call (.fn 234) [(.tmp 20)], none, 0⟩,
     ⟨some 19, .mov (.tmp 21), none, 0⟩,
     ⟨some 22, .extract (.tmp 19) 0, none, 0⟩,
     ⟨some 23, .extract (.tmp 19) 1, none, 0⟩,
     ⟨some 5, .mov (.tmp 22), none, 0⟩,
     ⟨some 6, .mov (.tmp 23), none, 0⟩])
  (.seq (.ops [⟨some 25, .load 12 true (.tmp 3), none, 0⟩,
     ⟨some 26, .call (.fn 234) [(.tmp 25)], none, 0⟩,
     ⟨some 24, .mov (.tmp 26), none, 0⟩,
     ⟨some 27, .extract (.tmp 24) 0, none, 0⟩,
     ⟨some 28, .extract (.tmp 24) 1, none, 0⟩,
     ⟨some 7, .mov (.tmp 27), none, 0⟩,
     ⟨some 8, .mov (.tmp 28), none, 0⟩])
  (.seq (.ops [⟨some 29, .mov (.tmp 6), none, 0⟩,
     ⟨some 30, .bin .neq (.tmp 29) (.con (.int .i64 0)), none, 0⟩,
     ⟨some 31, .mov (.tmp 30), none, 0⟩,
     ⟨some 32, .mov (.tmp 8), some (31, false), 0⟩,
     ⟨some 33, .bin .neq (.tmp 32) (.con (.int .i64 0)), some (31, false), 0⟩,
     ⟨some 34, .pick (.tmp 31) (.con (.bool true)) (.tmp 33), none, 0⟩,
     ⟨some 35, .mov (.tmp 34), none, 0⟩,
     ⟨some 36, .mov (.tmp 5), some (35, false), 0⟩,
     ⟨some 37, .mov (.tmp 7), some (35, false), 0⟩,
     ⟨some 38, .bin .eql (.tmp 36) (.tmp 37), some (35, false), 0⟩,
     ⟨some 39, .load 12 true (.tmp 2), some (35, false), 0⟩,
     ⟨some 40, .load 12 true (.tmp 3), some (35, false), 0⟩,
     ⟨some 41, .call (.fn 178) [(.tmp 39), (.tmp 40)], some (35, false), 0⟩,
     ⟨some 42, .eqB false (.tmp 38) (.tmp 41), some (35, false), 0⟩,
     ⟨some 43, .pick (.tmp 35) (.con (.bool true)) (.tmp 42), none, 0⟩,
     ⟨some 4, .mov (.tmp 43), none, 0⟩])
  .ret)))))) }
def f_haulagelaw10_lives : XFunc := { ntmps := 43, res := [.tmp 0], pure := true, body :=
  (.seq (.ops [⟨some 0, .mov (.con (.bool false)), none, 0⟩])
  (.seq (.ops [⟨some 8, .call (.fn 232) [(.con (.str [97, 100, 100, 32, 116, 32, 98, 32, 116, 101, 120, 116, 40, 53, 41, 32, 100, 101, 102, 97, 117, 108, 116, 32, 34, 120, 34]))], none, 0⟩,
     ⟨some 7, .mov (.tmp 8), none, 0⟩,
     ⟨some 9, .extract (.tmp 7) 0, none, 0⟩,
     ⟨some 10, .extract (.tmp 7) 1, none, 0⟩,
     ⟨some 11, .extract (.tmp 7) 2, none, 0⟩,
     ⟨some 1, .alloc [.int .i64 0, .str [], .str [], .str [], .str [], .int .i64 0, .int .i64 0, .bool false, .int .i64 0, .int .i64 0, .str [], .nils], none, 0⟩,
     ⟨none, .store 12 (.tmp 1) (.tmp 9), none, 0⟩,
     ⟨some 2, .mov (.tmp 10), none, 0⟩,
     ⟨some 3, .mov (.tmp 11), none, 0⟩])
  (.seq (.ops [⟨some 13, .call (.fn 232) [(.con (.str [97, 100, 100, 32, 116, 32, 98, 32, 116, 101, 120, 116, 40, 48, 41]))], none, 0⟩,
     ⟨some 12, .mov (.tmp 13), none, 0⟩,
     ⟨some 14, .extract (.tmp 12) 0, none, 0⟩,
     ⟨some 15, .extract (.tmp 12) 1, none, 0⟩,
     ⟨some 16, .extract (.tmp 12) 2, none, 0⟩,
     ⟨some 4, .alloc [.int .i64 0, .str [], .str [], .str [], .str [], .int .i64 0, .int .i64 0, .bool false, .int .i64 0, .int .i64 0, .str [], .nils], none, 0⟩,
     ⟨none, .store 12 (.tmp 4) (.tmp 14), none, 0⟩,
     ⟨some 5, .mov (.tmp 15), none, 0⟩,
     ⟨some 6, .mov (.tmp 16), none, 0⟩])
  (.seq (.ops [⟨some 17, .mov (.tmp 3), none, 0⟩,
     ⟨some 18, .bin .eql (.tmp 17) (.con (.int .i64 0)), none, 0⟩,
     ⟨some 19, .mov (.tmp 18), none, 0⟩,
     ⟨some 20, .fieldAddr 0 (.tmp 1), some (19, true), 0⟩,
     ⟨some 21, .load 1 false (.tmp 20), some (19, true), 0⟩,
     ⟨some 22, .bin .eql (.tmp 21) (.con (.int .i64 4)), some (19, true), 0⟩,
     ⟨some 23, .pick (.tmp 19) (.tmp 22) (.con (.bool false)), none, 0⟩,
     ⟨some 24, .mov (.tmp 23), none, 0⟩,
     ⟨some 25, .fieldAddr 2 (.tmp 1), some (24, true), 0⟩,
     ⟨some 26, .load 1 false (.tmp 25), some (24, true), 0⟩,
     ⟨some 27, .bin .eql (.tmp 26) (.con (.str [98])), some (24, true), 0⟩,
     ⟨some 28, .pick (.tmp 24) (.tmp 27) (.con (.bool false)), none, 0⟩,
     ⟨some 29, .mov (.tmp 28), none, 0⟩,
     ⟨some 30, .fieldAddr 8 (.tmp 1), some (29, true), 0⟩,
     ⟨some 31, .fieldAddr 2 (.tmp 30), some (29, true), 0⟩,
     ⟨some 32, .load 1 false (.tmp 31), some (29, true), 0⟩,
     ⟨some 33, .bin .eql (.tmp 32) (.con (.str [120])), some (29, true), 0⟩,
     ⟨some 34, .pick (.tmp 29) (.tmp 33) (.con (.bool false)), none, 0⟩,
     ⟨some 35, .mov (.tmp 34), none, 0⟩,
     ⟨some 36, .mov (.tmp 6), some (35, true), 0⟩,
     ⟨some 37, .bin .eql (.tmp 36) (.con (.int .i64 10)), some (35, true), 0⟩,
     ⟨some 38, .pick (.tmp 35) (.tmp 37) (.con (.bool false)), none, 0⟩,
     ⟨some 39, .mov (.tmp 38), none, 0⟩,
     ⟨some 40, .mov (.tmp 5), some (39, true), 0⟩,
     ⟨some 41, .bin .eql (.tmp 40) (.con (.int .i64 8)), some (39, true), 0⟩,
     ⟨some 42, .pick (.tmp 39) (.tmp 41) (.con (.bool false)), none, 0⟩,
     ⟨some 0, .mov (.tmp 42), none, 0⟩])
  .ret)))) }
def f_ddltext_Parse : XFunc := { ntmps := 19, res := [.cell 2 12 true, .cell 3 1 false, .cell 4 1 false], pure := true, dfr := true, body :=
  (.seq (.ops [⟨some 2, .alloc [.int .i64 0, .str [], .str [], .str [], .str [], .int .i64 0, .int .i64 0, .bool false, .int .i64 0, .int .i64 0, .str [], .nils], none, 0⟩,
     ⟨some 3, .alloc [.int .i64 0], none, 0⟩,
     ⟨some 4, .alloc [.int .i64 0], none, 0⟩])
  (.seq (.ops [⟨some 6, .mov (.tmp 0), none, 0⟩,
     ⟨some 7, .build [.str [], .int .i64 0] [(0, 1, (.tmp 6))], none, 0⟩,
     ⟨some 8, .box (.tmp 7), none, 0⟩,
     ⟨some 5, .alloc [.nilp], none, 0⟩,
     ⟨none, .store 1 (.tmp 5) (.tmp 8), none, 0⟩])
  (.seq (.ops [⟨some 9, .mkFn 237 [(.tmp 5), (.tmp 2), (.tmp 3), (.tmp 4)], none, 0⟩,
     ⟨none, .dfr (.tmp 9) [], none, 0⟩])
  (.seq (.ops [⟨some 10, .load 1 false (.tmp 5), none, 0⟩,
     ⟨some 11, .call (.fn 238) [(.tmp 10)], none, 0⟩,
     ⟨none, .store 12 (.tmp 2) (.tmp 11), none, 0⟩])
  (.seq (.seq (.ops [⟨some 12, .load 1 false (.tmp 5), none, 0⟩,
      ⟨some 13, .call (.fn 239) [(.tmp 12)], none, 0⟩,
      ⟨some 14, .bin .neq (.tmp 13) (.con (.str [])), none, 0⟩])
   (.cond (.tmp 14)
    (.ops [⟨some 15, .call (.fn 240) [(.con (.int .i64 6))], none, 0⟩])
    .skip))
  (.seq (.ops [⟨some 16, .load 12 true (.tmp 2), none, 0⟩,
     ⟨some 17, .mov (.tmp 0), none, 0⟩,
     ⟨some 18, .lenS (.tmp 17), none, 0⟩,
     ⟨none, .store 12 (.tmp 2) (.tmp 16), none, 0⟩,
     ⟨none, .store 1 (.tmp 3) (.tmp 18), none, 0⟩,
     ⟨none, .store 1 (.tmp 4) (.con (.int .i64 0)), none, 0⟩])
  .ret)))))) }
def f_haulageref09_Same : XFunc := { ntmps := 66, res := [.tmp 4], pure := true, body :=
  (.seq (.ops [⟨some 2, .box (.tmp 0), none, 0⟩,
     ⟨some 3, .box (.tmp 1), none, 0⟩,
     ⟨some 4, .mov (.con (.bool false)), none, 0⟩])
  (.seq (.ops [⟨some 5, .fieldAddr 0 (.tmp 2), none, 0⟩,
     ⟨some 6, .load 1 false (.tmp 5), none, 0⟩,
     ⟨some 7, .fieldAddr 0 (.tmp 3), none, 0⟩,
     ⟨some 8, .load 1 false (.tmp 7), none, 0⟩,
     ⟨some 9, .bin .eql (.tmp 6) (.tmp 8), none, 0⟩,
     ⟨some 10, .mov (.tmp 9), none, 0⟩,
     ⟨some 11, .fieldAddr 1 (.tmp 2), some (10, true), 0⟩,
     ⟨some 12, .load 1 false (.tmp 11), some (10, true), 0⟩,
     ⟨some 13, .fieldAddr 1 (.tmp 3), some (10, true), 0⟩,
     ⟨some 14, .load 1 false (.tmp 13), some (10, true), 0⟩,
     ⟨some 15, .bin .eql (.tmp 12) (.tmp 14), some (10, true), 0⟩,
     ⟨some 16, .pick (.tmp 10) (.tmp 15) (.con (.bool false)), none, 0⟩,
     ⟨some 17, .mov (.tmp 16), none, 0⟩,
     ⟨some 18, .fieldAddr 2 (.tmp 2), some (17, true), 0⟩,
     ⟨some 19, .load 1 false (.tmp 18), some (17, true), 0⟩,
     ⟨some 20, .fieldAddr 2 (.tmp 3), some (17, true), 0⟩,
     ⟨some 21, .load 1 false (.tmp 20), some (17, true), 0⟩,
     ⟨some 22, .bin .eql (.tmp 19) (.tmp 21), some (17, true), 0⟩,
     ⟨some 23, .pick (.tmp 17) (.tmp 22) (.con (.bool false)), none, 0⟩,
     ⟨some 24, .mov (.tmp 23), none, 0⟩,
     ⟨some 25, .fieldAddr 3 (.tmp 2), some (24, true), 0⟩,
     ⟨some 26, .load 1 false (.tmp 25), some (24, true), 0⟩,
     ⟨some 27, .fieldAddr 3 (.tmp 3), some (24, true), 0⟩,
     ⟨some 28, .load 1 false (.tmp 27), some (24, true), 0⟩,
     ⟨some 29, .bin .eql (.tmp 26) (.tmp 28), some (24, true), 0⟩,
     ⟨some 30, .pick (.tmp 24) (.tmp 29) (.con (.bool false)), none, 0⟩,
     ⟨some 31, .mov (.tmp 30), none, 0⟩,
     ⟨some 32, .fieldAddr 4 (.tmp 2), some (31, true), 0⟩,
     ⟨some 33, .load 1 false (.tmp 32), some (31, true), 0⟩,
     ⟨some 34, .fieldAddr 4 (.tmp 3), some (31, true), 0⟩,
     ⟨some 35, .load 1 false (.tmp 34), some (31, true), 0⟩,
     ⟨some 36, .bin .eql (.tmp 33) (.tmp 35), some (31, true), 0⟩,
     ⟨some 37, .pick (.tmp 31) (.tmp 36) (.con (.bool false)), none, 0⟩,
     ⟨some 38, .mov (.tmp 37), none, 0⟩,
     ⟨some 39, .fieldAddr 5 (.tmp 2), some (38, true), 0⟩,
     ⟨some 40, .load 2 true (.tmp 39), some (38, true), 0⟩,
     ⟨some 41, .fieldAddr 5 (.tmp 3), some (38, true), 0⟩,
     ⟨some 42, .load 2 true (.tmp 41), some (38, true), 0⟩,
     ⟨some 43, .eqA false (.struct [(0, 1, .int), (1, 1, .int)]) (.tmp 40) (.tmp 42), some (38, true), 0⟩,
     ⟨some 44, .pick (.tmp 38) (.tmp 43) (.con (.bool false)), none, 0⟩,
     ⟨some 45, .mov (.tmp 44), none, 0⟩,
     ⟨some 46, .fieldAddr 7 (.tmp 2), some (45, true), 0⟩,
     ⟨some 47, .load 1 false (.tmp 46), some (45, true), 0⟩,
     ⟨some 48, .fieldAddr 7 (.tmp 3), some (45, true), 0⟩,
     ⟨some 49, .load 1 false (.tmp 48), some (45, true), 0⟩,
     ⟨some 50, .eqB false (.tmp 47) (.tmp 49), some (45, true), 0⟩,
     ⟨some 51, .pick (.tmp 45) (.tmp 50) (.con (.bool false)), none, 0⟩,
     ⟨some 52, .mov (.tmp 51), none, 0⟩,
     ⟨some 53, .fieldAddr 8 (.tmp 2), some (52, true), 0⟩,
     ⟨some 54, .load 3 true (.tmp 53), some (52, true), 0⟩,
     ⟨some 55, .fieldAddr 8 (.tmp 3), some (52, true), 0⟩,
     ⟨some 56, .load 3 true (.tmp 55), some (52, true), 0⟩,
     ⟨some 57, .eqA false (.struct [(0, 1, .int), (1, 1, .int), (2, 1, .str)]) (.tmp 54) (.tmp 56), some (52, true), 0⟩,
     ⟨some 58, .pick (.tmp 52) (.tmp 57) (.con (.bool false)), none, 0⟩,
     ⟨some 59, .mov (.tmp 58), none, 0⟩,
     ⟨some 60, .fieldAddr 11 (.tmp 2), some (59, true), 0⟩,
     ⟨some 61, .load 1 false (.tmp 60), some (59, true), 0⟩,
     ⟨some 62, .fieldAddr 11 (.tmp 3), some (59, true), 0⟩,
     ⟨some 63, .load 1 false (.tmp 62), some (59, true), 0⟩,
     ⟨some 64, .call (.fn 193) [(.tmp 61), (.tmp 63)], some (59, true), 0⟩,
     ⟨some 65, .pick (.tmp 59) (.tmp 64) (.con (.bool false)), none, 0⟩,
     ⟨some 4, .mov (.tmp 65), none, 0⟩])
  .ret)) }
def f_haulagelaw09_Few : XFunc := { ntmps := 30, res := [.tmp 2], pure := true, body :=
  (.seq (.ops [⟨some 1, .box (.tmp 0), none, 0⟩,
     ⟨some 2, .mov (.con (.bool false)), none, 0⟩])
  (.seq (.ops [⟨some 3, .fieldAddr 1 (.tmp 1), none, 0⟩,
     ⟨some 4, .load 1 false (.tmp 3), none, 0⟩,
     ⟨some 5, .lenS (.tmp 4), none, 0⟩,
     ⟨some 6, .fieldAddr 2 (.tmp 1), none, 0⟩,
     ⟨some 7, .load 1 false (.tmp 6), none, 0⟩,
     ⟨some 8, .lenS (.tmp 7), none, 0⟩,
     ⟨some 9, .bin .add (.tmp 5) (.tmp 8), none, 0⟩,
     ⟨some 10, .fieldAddr 3 (.tmp 1), none, 0⟩,
     ⟨some 11, .load 1 false (.tmp 10), none, 0⟩,
     ⟨some 12, .lenS (.tmp 11), none, 0⟩,
     ⟨some 13, .bin .add (.tmp 9) (.tmp 12), none, 0⟩,
     ⟨some 14, .fieldAddr 4 (.tmp 1), none, 0⟩,
     ⟨some 15, .load 1 false (.tmp 14), none, 0⟩,
     ⟨some 16, .lenS (.tmp 15), none, 0⟩,
     ⟨some 17, .bin .add (.tmp 13) (.tmp 16), none, 0⟩,
     ⟨some 18, .fieldAddr 8 (.tmp 1), none, 0⟩,
     ⟨some 19, .fieldAddr 2 (.tmp 18), none, 0⟩,
     ⟨some 20, .load 1 false (.tmp 19), none, 0⟩,
     ⟨some 21, .lenS (.tmp 20), none, 0⟩,
     ⟨some 22, .bin .add (.tmp 17) (.tmp 21), none, 0⟩,
     ⟨some 23, .bin .leq (.tmp 22) (.con (.int .i64 600)), none, 0⟩,
     ⟨some 24, .mov (.tmp 23), none, 0⟩,
     ⟨some 25, .fieldAddr 11 (.tmp 1), some (24, true), 0⟩,
     ⟨some 26, .load 1 false (.tmp 25), some (24, true), 0⟩,
     ⟨some 27, .build [.int .i64 0, .str [], .int .i64 0, .int .i64 0, .nils] [(4, 1, (.tmp 26))], some (24, true), 0⟩,
     ⟨some 28, .call (.fn 169) [(.tmp 27)], some (24, true), 0⟩,
     ⟨some 29, .pick (.tmp 24) (.tmp 28) (.con (.bool false)), none, 0⟩,
     ⟨some 2, .mov (.tmp 29), none, 0⟩])
  .ret)) }
def f_ddltext_Print : XFunc := { ntmps := 72, res := [.tmp 2, .tmp 3], pure := true, body :=
  (.seq (.ops [⟨some 1, .box (.tmp 0), none, 0⟩,
     ⟨some 2, .mov (.con (.str [])), none, 0⟩,
     ⟨some 3, .mov (.con (.int .i64 0)), none, 0⟩])
  (.seq (.seq (.ops [⟨some 5, .load 12 true (.tmp 1), none, 0⟩,
      ⟨some 6, .call (.fn 244) [(.tmp 5)], none, 0⟩,
      ⟨some 7, .un .not (.tmp 6), none, 0⟩])
   (.cond (.tmp 7)
    (.seq (.ops [⟨some 2, .mov (.con (.str [])), none, 0⟩,
        ⟨some 3, .mov (.con (.int .i64 2)), none, 0⟩])
     .ret)
    .skip))
  (.seq (.ops [⟨some 8, .build [.nilp, .nils] [], none, 0⟩,
     ⟨some 9, .boxT 0 2 (.tmp 8), none, 0⟩,
     ⟨some 4, .mov (.tmp 9), none, 0⟩])
  (.seq (.ops [⟨some 10, .mov (.tmp 4), none, 0⟩,
     ⟨some 11, .fieldAddr 0 (.tmp 1), none, 0⟩,
     ⟨some 12, .load 1 false (.tmp 11), none, 0⟩,
     ⟨some 13, .addrArr 9 1 (.glob 3) (.tmp 12), none, 0⟩,
     ⟨some 14, .load 1 false (.tmp 13), none, 0⟩,
     ⟨some 15, .call (.fn 245) [(.tmp 10), (.tmp 14)], none, 0⟩])
  (.seq (.ops [⟨some 16, .mov (.tmp 4), none, 0⟩,
     ⟨some 17, .fieldAddr 1 (.tmp 1), none, 0⟩,
     ⟨some 18, .load 1 false (.tmp 17), none, 0⟩,
     ⟨some 19, .call (.fn 245) [(.tmp 16), (.tmp 18)], none, 0⟩])
  (.seq (.seq (.ops [⟨some 20, .fieldAddr 2 (.tmp 1), none, 0⟩,
      ⟨some 21, .load 1 false (.tmp 20), none, 0⟩,
      ⟨some 22, .bin .neq (.tmp 21) (.con (.str [])), none, 0⟩])
   (.cond (.tmp 22)
    (.ops [⟨some 23, .mov (.tmp 4), none, 0⟩,
       ⟨some 24, .fieldAddr 2 (.tmp 1), none, 0⟩,
       ⟨some 25, .load 1 false (.tmp 24), none, 0⟩,
       ⟨some 26, .call (.fn 245) [(.tmp 23), (.tmp 25)], none, 0⟩])
    .skip))
  (.seq (.seq (.ops [⟨some 27, .fieldAddr 0 (.tmp 1), none, 0⟩,
      ⟨some 28, .load 1 false (.tmp 27), none, 0⟩])
   (.block 0
    (.seq (.ops [⟨some 30, .bin .eql (.tmp 28) (.con (.int .i64 1)), none, 0⟩,
       ⟨some 29, .mov (.tmp 30), none, 0⟩])
    (.cond (.tmp 29)
     (.seq (.ops [⟨some 31, .mov (.tmp 4), none, 0⟩,
         ⟨some 32, .fieldAddr 11 (.tmp 1), none, 0⟩,
         ⟨some 33, .load 1 false (.tmp 32), none, 0⟩,
         ⟨some 34, .call (.fn 246) [(.tmp 31), (.tmp 33)], none, 0⟩])
      (.seq (.ops [⟨some 35, .mov (.tmp 4), none, 0⟩,
         ⟨some 36, .call (.fn 245) [(.tmp 35), (.con (.str [107, 101, 121]))], none, 0⟩])
      (.ops [⟨some 37, .mov (.tmp 4), none, 0⟩,
        ⟨some 38, .fieldAddr 4 (.tmp 1), none, 0⟩,
        ⟨some 39, .load 1 false (.tmp 38), none, 0⟩,
        ⟨some 40, .call (.fn 245) [(.tmp 37), (.tmp 39)], none, 0⟩])))
     (.seq (.seq (.ops [⟨some 42, .bin .eql (.tmp 28) (.con (.int .i64 3)), none, 0⟩,
          ⟨some 41, .mov (.tmp 42), none, 0⟩])
       (.cond (.tmp 41)
        .skip
        (.ops [⟨some 43, .bin .eql (.tmp 28) (.con (.int .i64 6)), none, 0⟩,
           ⟨some 41, .mov (.tmp 43), none, 0⟩])))
      (.cond (.tmp 41)
       (.seq (.ops [⟨some 44, .mov (.tmp 4), none, 0⟩,
           ⟨some 45, .call (.fn 245) [(.tmp 44), (.con (.str [116, 111]))], none, 0⟩])
        (.ops [⟨some 46, .mov (.tmp 4), none, 0⟩,
          ⟨some 47, .fieldAddr 3 (.tmp 1), none, 0⟩,
          ⟨some 48, .load 1 false (.tmp 47), none, 0⟩,
          ⟨some 49, .call (.fn 245) [(.tmp 46), (.tmp 48)], none, 0⟩]))
       (.seq (.ops [⟨some 51, .bin .eql (.tmp 28) (.con (.int .i64 4)), none, 0⟩,
           ⟨some 50, .mov (.tmp 51), none, 0⟩])
        (.cond (.tmp 50)
         (.ops [⟨some 52, .mov (.tmp 4), none, 0⟩,
            ⟨some 53, .load 12 true (.tmp 1), none, 0⟩,
            ⟨some 54, .call (.fn 248) [(.tmp 53)], none, 0⟩,
            ⟨some 55, .call (.fn 247) [(.tmp 52), (.tmp 54)], none, 0⟩])
         (.seq (.ops [⟨some 57, .bin .eql (.tmp 28) (.con (.int .i64 7)), none, 0⟩,
             ⟨some 56, .mov (.tmp 57), none, 0⟩])
          (.cond (.tmp 56)
           (.ops [⟨some 58, .mov (.tmp 4), none, 0⟩,
              ⟨some 59, .fieldAddr 5 (.tmp 1), none, 0⟩,
              ⟨some 60, .load 2 true (.tmp 59), none, 0⟩,
              ⟨some 61, .call (.fn 249) [(.tmp 58), (.tmp 60)], none, 0⟩])
           (.seq (.ops [⟨some 63, .bin .eql (.tmp 28) (.con (.int .i64 8)), none, 0⟩,
               ⟨some 62, .mov (.tmp 63), none, 0⟩])
            (.cond (.tmp 62)
             (.ops [⟨some 64, .mov (.tmp 4), none, 0⟩,
                ⟨some 65, .fieldAddr 8 (.tmp 1), none, 0⟩,
                ⟨some 66, .load 3 true (.tmp 65), none, 0⟩,
                ⟨some 67, .call (.fn 250) [(.tmp 64), (.tmp 66)], none, 0⟩])
             .skip))))))))))))
  (.seq (.ops [⟨some 68, .mov (.tmp 4), none, 0⟩,
     ⟨some 69, .nilCheck (.tmp 68), none, 0⟩,
     ⟨some 70, .fview 0 (.tmp 69), none, 0⟩,
     ⟨some 71, .call (.fn 74) [(.tmp 70)], none, 0⟩,
     ⟨some 2, .mov (.tmp 71), none, 0⟩,
     ⟨some 3, .mov (.con (.int .i64 0)), none, 0⟩])
  .ret)))))))) }
def f_ddltext_Parse_1 : XFunc := { ntmps := 25, res := [], pure := false, body :=
  (.seq (.ops [⟨some 7, .recover, none, 0⟩,
     ⟨some 4, .mov (.tmp 7), none, 0⟩])
  (.seq (.ops [⟨some 8, .mov (.tmp 4), none, 0⟩,
     ⟨some 9, .eqNil true (.tmp 8), none, 0⟩])
  (.cond (.tmp 9)
   (.seq (.ops [⟨some 11, .mov (.tmp 4), none, 0⟩,
       ⟨some 12, .assertT 2 true (.tmp 11), none, 0⟩,
       ⟨some 10, .mov (.tmp 12), none, 0⟩,
       ⟨some 13, .extract (.tmp 10) 0, none, 0⟩,
       ⟨some 14, .extract (.tmp 10) 1, none, 0⟩,
       ⟨some 5, .alloc [.int .i64 0], none, 0⟩,
       ⟨none, .store 1 (.tmp 5) (.tmp 13), none, 0⟩,
       ⟨some 6, .mov (.tmp 14), none, 0⟩])
    (.seq (.seq (.ops [⟨some 15, .mov (.tmp 6), none, 0⟩,
        ⟨some 16, .un .not (.tmp 15), none, 0⟩])
     (.cond (.tmp 16)
      (.ops [⟨some 17, .mov (.tmp 4), none, 0⟩,
         ⟨none, .panic (.tmp 17), none, 0⟩])
      .skip))
    (.drawS [⟨some 18, .build [.int .i64 0, .str [], .str [], .str [], .str [], .int .i64 0, .int .i64 0, .bool false, .int .i64 0, .int .i64 0, .str [], .nils] [], none, 0⟩,
      ⟨some 19, .load 1 false (.tmp 0), none, 0⟩,
      ⟨some 20, .nilCheck (.tmp 19), none, 0⟩,
      ⟨some 21, .fieldAddr 1 (.tmp 20), none, 0⟩,
      ⟨some 22, .load 1 false (.tmp 21), none, 0⟩,
      ⟨some 23, .fieldAddr 0 (.tmp 5), none, 0⟩,
      ⟨some 24, .load 1 false (.tmp 23), none, 0⟩,
      ⟨none, .store 12 (.tmp 1) (.tmp 18), none, 3⟩,
      ⟨none, .store 1 (.tmp 2) (.tmp 22), none, 3⟩,
      ⟨none, .store 1 (.tmp 3) (.tmp 24), none, 3⟩]
     [[], [], [1], [1, 2], [1, 2, 3], [], [5], [0, 1, 2, 3, 4], [0, 1, 2, 3, 4, 7], [0, 1, 2, 3, 4, 5, 6, 7, 8]] [1, 2, 3])))
   .skip))) }
def f_ddltext_reader_change_k0 : List Bool := [true, false, true, true, true, true, false, false, false, false, false, false, false, false, false, false, false, false, false, false, false, false, false, false, false, false, false, false, false, false, false, false, false, false, false, false, false, false, false, false, false, false, false, false, false, false, false, false, false, false, false, false, false, false, false, false, false, false, false, false, false, false, false, false, false, false, false, false, false, false, false, false, false, false, false, false, false, false, false, false, false, false, false, false, false, false, false, false, false, false, false, false, false, false]
def f_ddltext_reader_change_b0 : XCode :=
  (.seq (.seq (.ops [⟨some 10, .mov (.tmp 5), none, 0⟩,
     ⟨some 11, .bin .leq (.tmp 10) (.con (.int .i64 8)), none, 0⟩])
  (.cond (.tmp 11)
   .skip
   (.exit 0)))
 (.seq (.block 1
   (.seq (.ops [⟨some 14, .mov (.tmp 5), none, 0⟩,
      ⟨some 15, .addrArr 9 1 (.glob 3) (.tmp 14), none, 0⟩,
      ⟨some 16, .load 1 false (.tmp 15), none, 0⟩,
      ⟨some 17, .mov (.tmp 4), none, 0⟩,
      ⟨some 18, .bin .eql (.tmp 16) (.tmp 17), none, 0⟩])
   (.cond (.tmp 18)
    (.ops [⟨some 19, .mov (.tmp 5), none, 0⟩,
       ⟨some 20, .fieldAddr 0 (.tmp 3), none, 0⟩,
       ⟨none, .store 1 (.tmp 20) (.tmp 19), none, 0⟩])
    .skip)))
 (.ops [⟨some 12, .mov (.tmp 5), none, 0⟩,
   ⟨some 13, .bin .add (.tmp 12) (.con (.int .i64 1)), none, 0⟩,
   ⟨some 5, .mov (.tmp 13), none, 0⟩])))
def f_ddltext_reader_change : XFunc := { ntmps := 94, res := [.cell 2 12 true], pure := false, body :=
  (.seq (.ops [⟨some 2, .alloc [.int .i64 0, .str [], .str [], .str [], .str [], .int .i64 0, .int .i64 0, .bool false, .int .i64 0, .int .i64 0, .str [], .nils], none, 0⟩])
  (.seq (.ops [⟨some 7, .build [.int .i64 0, .str [], .str [], .str [], .str [], .int .i64 0, .int .i64 0, .bool false, .int .i64 0, .int .i64 0, .str [], .nils] [], none, 0⟩,
     ⟨some 3, .alloc [.int .i64 0, .str [], .str [], .str [], .str [], .int .i64 0, .int .i64 0, .bool false, .int .i64 0, .int .i64 0, .str [], .nils], none, 0⟩,
     ⟨none, .store 12 (.tmp 3) (.tmp 7), none, 0⟩])
  (.seq (.ops [⟨some 8, .mov (.tmp 0), none, 0⟩,
     ⟨some 9, .call (.fn 251) [(.tmp 8)], none, 0⟩,
     ⟨some 4, .mov (.tmp 9), none, 0⟩])
  (.seq (.seq (.ops [⟨some 5, .mov (.con (.int .i64 1)), none, 0⟩])
   (.block 0
    (.loop f_ddltext_reader_change_k0 f_ddltext_reader_change_b0)))
  (.seq (.seq (.ops [⟨some 21, .fieldAddr 0 (.tmp 3), none, 0⟩,
      ⟨some 22, .load 1 false (.tmp 21), none, 0⟩,
      ⟨some 23, .bin .eql (.tmp 22) (.con (.int .i64 0)), none, 0⟩])
   (.cond (.tmp 23)
    (.ops [⟨some 24, .call (.fn 240) [(.con (.int .i64 5))], none, 0⟩])
    .skip))
  (.seq (.ops [⟨some 25, .mov (.tmp 0), none, 0⟩,
     ⟨some 26, .nilCheck (.tmp 25), none, 0⟩,
     ⟨some 27, .fieldAddr 1 (.tmp 26), none, 0⟩,
     ⟨some 28, .load 1 false (.tmp 27), none, 0⟩,
     ⟨some 29, .mov (.tmp 4), none, 0⟩,
     ⟨some 30, .lenS (.tmp 29), none, 0⟩,
     ⟨some 31, .bin .add (.tmp 28) (.tmp 30), none, 0⟩,
     ⟨some 32, .nilCheck (.tmp 25), none, 0⟩,
     ⟨some 33, .fieldAddr 1 (.tmp 32), none, 0⟩,
     ⟨none, .store 1 (.tmp 33) (.tmp 31), none, 0⟩])
  (.seq (.ops [⟨some 34, .mov (.tmp 0), none, 0⟩,
     ⟨some 35, .call (.fn 252) [(.tmp 34)], none, 0⟩,
     ⟨some 36, .fieldAddr 1 (.tmp 3), none, 0⟩,
     ⟨none, .store 1 (.tmp 36) (.tmp 35), none, 0⟩])
  (.seq (.seq (.ops [⟨some 37, .fieldAddr 0 (.tmp 3), none, 0⟩,
      ⟨some 38, .load 1 false (.tmp 37), none, 0⟩])
   (.block 2
    (.seq (.ops [⟨some 40, .bin .eql (.tmp 38) (.con (.int .i64 1)), none, 0⟩,
       ⟨some 39, .mov (.tmp 40), none, 0⟩])
    (.cond (.tmp 39)
     (.seq (.ops [⟨some 41, .mov (.tmp 0), none, 0⟩,
         ⟨some 42, .call (.fn 253) [(.tmp 41)], none, 0⟩,
         ⟨some 43, .fieldAddr 11 (.tmp 3), none, 0⟩,
         ⟨none, .store 1 (.tmp 43) (.tmp 42), none, 0⟩])
      (.seq (.ops [⟨some 44, .mov (.tmp 0), none, 0⟩,
         ⟨some 45, .call (.fn 254) [(.tmp 44), (.con (.str [107, 101, 121]))], none, 0⟩])
      (.ops [⟨some 46, .mov (.tmp 0), none, 0⟩,
        ⟨some 47, .call (.fn 252) [(.tmp 46)], none, 0⟩,
        ⟨some 48, .fieldAddr 4 (.tmp 3), none, 0⟩,
        ⟨none, .store 1 (.tmp 48) (.tmp 47), none, 0⟩])))
     (.seq (.ops [⟨some 50, .bin .eql (.tmp 38) (.con (.int .i64 4)), none, 0⟩,
         ⟨some 49, .mov (.tmp 50), none, 0⟩])
      (.cond (.tmp 49)
       (.seq (.ops [⟨some 51, .mov (.tmp 0), none, 0⟩,
           ⟨some 52, .call (.fn 255) [(.tmp 51)], none, 0⟩,
           ⟨some 6, .alloc [.int .i64 0, .str [], .int .i64 0, .int .i64 0, .bool false, .int .i64 0, .int .i64 0, .str []], none, 0⟩,
           ⟨none, .store 8 (.tmp 6) (.tmp 52), none, 0⟩])
        (.drawS [⟨some 53, .fieldAddr 1 (.tmp 6), none, 0⟩,
          ⟨some 54, .load 1 false (.tmp 53), none, 0⟩,
          ⟨some 55, .fieldAddr 2 (.tmp 6), none, 0⟩,
          ⟨some 56, .load 2 true (.tmp 55), none, 0⟩,
          ⟨some 57, .fieldAddr 4 (.tmp 6), none, 0⟩,
          ⟨some 58, .load 1 false (.tmp 57), none, 0⟩,
          ⟨some 59, .fieldAddr 5 (.tmp 6), none, 0⟩,
          ⟨some 60, .load 3 true (.tmp 59), none, 0⟩,
          ⟨some 61, .fieldAddr 2 (.tmp 3), none, 0⟩,
          ⟨none, .store 1 (.tmp 61) (.tmp 54), none, 3⟩,
          ⟨some 62, .fieldAddr 5 (.tmp 3), none, 0⟩,
          ⟨none, .store 2 (.tmp 62) (.tmp 56), none, 3⟩,
          ⟨some 63, .fieldAddr 7 (.tmp 3), none, 0⟩,
          ⟨none, .store 1 (.tmp 63) (.tmp 58), none, 3⟩,
          ⟨some 64, .fieldAddr 8 (.tmp 3), none, 0⟩,
          ⟨none, .store 3 (.tmp 64) (.tmp 60), none, 3⟩]
         [[], [0], [], [2], [], [4], [], [6], [0, 1], [0, 1, 8], [0, 1, 2, 3, 8, 9], [0, 1, 2, 3, 8, 9, 10], [0, 1, 2, 3, 4, 5, 8, 9, 10, 11], [0, 1, 2, 3, 4, 5, 8, 9, 10, 11, 12], [0, 1, 2, 3, 4, 5, 6, 7, 8, 9, 10, 11, 12, 13], [0, 1, 2, 3, 4, 5, 6, 7, 8, 9, 10, 11, 12, 13, 14]] [3]))
       (.seq (.seq (.ops [⟨some 66, .bin .eql (.tmp 38) (.con (.int .i64 5)), none, 0⟩,
            ⟨some 65, .mov (.tmp 66), none, 0⟩])
         (.cond (.tmp 65)
          .skip
          (.seq (.ops [⟨some 67, .bin .eql (.tmp 38) (.con (.int .i64 6)), none, 0⟩,
              ⟨some 65, .mov (.tmp 67), none, 0⟩])
           (.cond (.tmp 65)
            .skip
            (.seq (.ops [⟨some 68, .bin .eql (.tmp 38) (.con (.int .i64 7)), none, 0⟩,
                ⟨some 65, .mov (.tmp 68), none, 0⟩])
             (.cond (.tmp 65)
              .skip
              (.ops [⟨some 69, .bin .eql (.tmp 38) (.con (.int .i64 8)), none, 0⟩,
                 ⟨some 65, .mov (.tmp 69), none, 0⟩])))))))
        (.cond (.tmp 65)
         (.ops [⟨some 70, .mov (.tmp 0), none, 0⟩,
            ⟨some 71, .call (.fn 252) [(.tmp 70)], none, 0⟩,
            ⟨some 72, .fieldAddr 2 (.tmp 3), none, 0⟩,
            ⟨none, .store 1 (.tmp 72) (.tmp 71), none, 0⟩])
         .skip))))))))
  (.seq (.seq (.ops [⟨some 73, .fieldAddr 0 (.tmp 3), none, 0⟩,
      ⟨some 74, .load 1 false (.tmp 73), none, 0⟩])
   (.block 3
    (.seq (.seq (.ops [⟨some 76, .bin .eql (.tmp 74) (.con (.int .i64 3)), none, 0⟩,
        ⟨some 75, .mov (.tmp 76), none, 0⟩])
     (.cond (.tmp 75)
      .skip
      (.ops [⟨some 77, .bin .eql (.tmp 74) (.con (.int .i64 6)), none, 0⟩,
         ⟨some 75, .mov (.tmp 77), none, 0⟩])))
    (.cond (.tmp 75)
     (.seq (.ops [⟨some 78, .mov (.tmp 0), none, 0⟩,
         ⟨some 79, .call (.fn 254) [(.tmp 78), (.con (.str [116, 111]))], none, 0⟩])
      (.ops [⟨some 80, .mov (.tmp 0), none, 0⟩,
        ⟨some 81, .call (.fn 252) [(.tmp 80)], none, 0⟩,
        ⟨some 82, .fieldAddr 3 (.tmp 3), none, 0⟩,
        ⟨none, .store 1 (.tmp 82) (.tmp 81), none, 0⟩]))
     (.seq (.ops [⟨some 84, .bin .eql (.tmp 74) (.con (.int .i64 7)), none, 0⟩,
         ⟨some 83, .mov (.tmp 84), none, 0⟩])
      (.cond (.tmp 83)
       (.ops [⟨some 85, .mov (.tmp 0), none, 0⟩,
          ⟨some 86, .call (.fn 256) [(.tmp 85)], none, 0⟩,
          ⟨some 87, .fieldAddr 5 (.tmp 3), none, 0⟩,
          ⟨none, .store 2 (.tmp 87) (.tmp 86), none, 0⟩])
       (.seq (.ops [⟨some 89, .bin .eql (.tmp 74) (.con (.int .i64 8)), none, 0⟩,
           ⟨some 88, .mov (.tmp 89), none, 0⟩])
        (.cond (.tmp 88)
         (.ops [⟨some 90, .mov (.tmp 0), none, 0⟩,
            ⟨some 91, .call (.fn 257) [(.tmp 90), (.con (.bool true))], none, 0⟩,
            ⟨some 92, .fieldAddr 8 (.tmp 3), none, 0⟩,
            ⟨none, .store 3 (.tmp 92) (.tmp 91), none, 0⟩])
         .skip))))))))
  (.seq (.ops [⟨some 93, .load 12 true (.tmp 3), none, 0⟩,
     ⟨none, .store 12 (.tmp 2) (.tmp 93), none, 0⟩])
  .ret)))))))))) }
def f_ddltext_reader_left_k0 : List Bool := [true, false, false, false, false, false, false, false, false, false, false, false, false, false, false, false, false, false, false, false, false, false, false, false, false, false, false, false, false, false, false, false, false, false, false, false, false, false, false, false, false, false]
def f_ddltext_reader_left_b0 : XCode :=
  (.seq (.seq (.draw [⟨some 3, .mov (.tmp 0), none, 0⟩,
     ⟨some 4, .nilCheck (.tmp 3), none, 0⟩,
     ⟨some 5, .fieldAddr 1 (.tmp 4), none, 0⟩,
     ⟨some 6, .load 1 false (.tmp 5), none, 0⟩,
     ⟨some 7, .mov (.tmp 0), none, 0⟩,
     ⟨some 8, .nilCheck (.tmp 7), none, 0⟩,
     ⟨some 9, .fieldAddr 0 (.tmp 8), none, 0⟩,
     ⟨some 10, .load 1 false (.tmp 9), none, 0⟩,
     ⟨some 11, .lenS (.tmp 10), none, 0⟩,
     ⟨some 12, .bin .lss (.tmp 6) (.tmp 11), none, 0⟩]
    [[], [0], [0, 1], [0, 1, 2], [], [4], [4, 5], [4, 5, 6], [4, 5, 6, 7], [0, 1, 2, 3, 4, 5, 6, 7, 8]])
  (.cond (.tmp 12)
   .skip
   (.exit 0)))
 (.block 1
  (.seq (.seq (.draw [⟨some 13, .mov (.tmp 0), none, 0⟩,
      ⟨some 14, .nilCheck (.tmp 13), none, 0⟩,
      ⟨some 15, .fieldAddr 0 (.tmp 14), none, 0⟩,
      ⟨some 16, .load 1 false (.tmp 15), none, 0⟩,
      ⟨some 17, .mov (.tmp 0), none, 0⟩,
      ⟨some 18, .nilCheck (.tmp 17), none, 0⟩,
      ⟨some 19, .fieldAddr 1 (.tmp 18), none, 0⟩,
      ⟨some 20, .load 1 false (.tmp 19), none, 0⟩,
      ⟨some 21, .indexStr (.tmp 16) (.tmp 20), none, 0⟩]
     [[], [0], [0, 1], [0, 1, 2], [], [4], [4, 5], [4, 5, 6], [0, 1, 2, 3, 4, 5, 6, 7]])
   (.block 2
    (.seq (.seq (.ops [⟨some 23, .bin .eql (.tmp 21) (.con (.int .u8 32)), none, 0⟩,
        ⟨some 22, .mov (.tmp 23), none, 0⟩])
     (.cond (.tmp 22)
      .skip
      (.seq (.ops [⟨some 24, .bin .eql (.tmp 21) (.con (.int .u8 9)), none, 0⟩,
          ⟨some 22, .mov (.tmp 24), none, 0⟩])
       (.cond (.tmp 22)
        .skip
        (.ops [⟨some 25, .bin .eql (.tmp 21) (.con (.int .u8 10)), none, 0⟩,
           ⟨some 22, .mov (.tmp 25), none, 0⟩])))))
    (.cond (.tmp 22)
     (.seq (.ops [⟨some 26, .mov (.tmp 0), none, 0⟩,
         ⟨some 27, .nilCheck (.tmp 26), none, 0⟩,
         ⟨some 28, .fieldAddr 1 (.tmp 27), none, 0⟩,
         ⟨some 29, .load 1 false (.tmp 28), none, 0⟩,
         ⟨some 30, .bin .add (.tmp 29) (.con (.int .i64 1)), none, 0⟩,
         ⟨some 31, .nilCheck (.tmp 26), none, 0⟩,
         ⟨some 32, .fieldAddr 1 (.tmp 31), none, 0⟩,
         ⟨none, .store 1 (.tmp 32) (.tmp 30), none, 0⟩])
      (.exit 1))
     .skip))))
  (.exit 0))))
def f_ddltext_reader_left : XFunc := { ntmps := 42, res := [.tmp 2], pure := false, body :=
  (.seq (.ops [⟨some 2, .mov (.con (.str [])), none, 0⟩])
  (.seq (.block 0
    (.loop f_ddltext_reader_left_k0 f_ddltext_reader_left_b0))
  (.seq (.draw [⟨some 33, .mov (.tmp 0), none, 0⟩,
     ⟨some 34, .nilCheck (.tmp 33), none, 0⟩,
     ⟨some 35, .fieldAddr 0 (.tmp 34), none, 0⟩,
     ⟨some 36, .load 1 false (.tmp 35), none, 0⟩,
     ⟨some 37, .mov (.tmp 0), none, 0⟩,
     ⟨some 38, .nilCheck (.tmp 37), none, 0⟩,
     ⟨some 39, .fieldAddr 1 (.tmp 38), none, 0⟩,
     ⟨some 40, .load 1 false (.tmp 39), none, 0⟩,
     ⟨some 41, .cutStr (.tmp 36) (some (.tmp 40)) none, none, 0⟩,
     ⟨some 2, .mov (.tmp 41), none, 0⟩]
    [[], [0], [0, 1], [0, 1, 2], [], [4], [4, 5], [4, 5, 6], [0, 1, 2, 3, 4, 5, 6, 7], [0, 1, 2, 3, 4, 5, 6, 7, 8]])
  .ret))) }
def f_ddltext_bad : XFunc := { ntmps := 5, res := [], pure := true, body :=
  (.ops [⟨some 2, .mov (.tmp 0), none, 0⟩,
    ⟨some 3, .build [.int .i64 0] [(0, 1, (.tmp 2))], none, 0⟩,
    ⟨some 4, .mkIface 2 (.tmp 3), none, 0⟩,
    ⟨none, .panic (.tmp 4), none, 0⟩]) }
def f_haulageref08_SameCols_k0 : List Bool := [true, true, false, false, false, true, false, false, false, false, false, false, false, false, false, false, false, false, false, false, false, false, false, false, false, false]
def f_haulageref08_SameCols_b0 : XCode :=
  (.seq (.seq (.ops [⟨some 11, .mov (.tmp 5), none, 0⟩,
     ⟨some 12, .mov (.tmp 0), none, 0⟩,
     ⟨some 13, .len (.tmp 12), none, 0⟩,
     ⟨some 14, .bin .lss (.tmp 11) (.tmp 13), none, 0⟩])
  (.cond (.tmp 14)
   .skip
   (.exit 0)))
 (.seq (.block 1
   (.seq (.draw [⟨some 17, .mov (.tmp 0), none, 0⟩,
      ⟨some 18, .mov (.tmp 5), none, 0⟩,
      ⟨some 19, .addrRow 8 (.tmp 17) (.tmp 18), none, 0⟩,
      ⟨some 20, .load 8 true (.tmp 19), none, 0⟩,
      ⟨some 21, .mov (.tmp 1), none, 0⟩,
      ⟨some 22, .mov (.tmp 5), none, 0⟩,
      ⟨some 23, .addrRow 8 (.tmp 21) (.tmp 22), none, 0⟩,
      ⟨some 24, .load 8 true (.tmp 23), none, 0⟩,
      ⟨some 25, .eqA true (.struct [(0, 1, .int), (1, 1, .str), (2, 2, (.struct [(0, 1, .int), (1, 1, .int)])), (4, 1, .bool), (5, 3, (.struct [(0, 1, .int), (1, 1, .int), (2, 1, .str)]))]) (.tmp 20) (.tmp 24), none, 0⟩]
     [[], [], [0, 1], [0, 1, 2], [], [], [4, 5], [4, 5, 6], [0, 1, 2, 3, 4, 5, 6, 7]])
   (.cond (.tmp 25)
    (.seq (.ops [⟨some 4, .mov (.con (.bool false)), none, 0⟩])
     .ret)
    .skip)))
 (.ops [⟨some 15, .mov (.tmp 5), none, 0⟩,
   ⟨some 16, .bin .add (.tmp 15) (.con (.int .i64 1)), none, 0⟩,
   ⟨some 5, .mov (.tmp 16), none, 0⟩])))
def f_haulageref08_SameCols_s0 (t0 t1 t5 : AV) : List AV := [t0, t1, .unk, .unk, .unk, t5, .unk, .unk, .unk, .unk, .unk, .unk, .unk, .unk, .unk, .unk, .unk, .unk, .unk, .unk, .unk, .unk, .unk, .unk, .unk, .unk]
def f_haulageref08_SameCols : XFunc := { ntmps := 26, res := [.tmp 4], pure := true, body :=
  (.seq (.ops [⟨some 4, .mov (.con (.bool false)), none, 0⟩])
  (.seq (.seq (.ops [⟨some 6, .mov (.tmp 0), none, 0⟩,
      ⟨some 7, .len (.tmp 6), none, 0⟩,
      ⟨some 8, .mov (.tmp 1), none, 0⟩,
      ⟨some 9, .len (.tmp 8), none, 0⟩,
      ⟨some 10, .bin .neq (.tmp 7) (.tmp 9), none, 0⟩])
   (.cond (.tmp 10)
    (.seq (.ops [⟨some 4, .mov (.con (.bool false)), none, 0⟩])
     .ret)
    .skip))
  (.seq (.seq (.ops [⟨some 5, .mov (.con (.int .i64 0)), none, 0⟩])
   (.block 0
    (.loop f_haulageref08_SameCols_k0 f_haulageref08_SameCols_b0)))
  (.seq (.ops [⟨some 4, .mov (.con (.bool true)), none, 0⟩])
  .ret)))) }
def f_haulagelaw08_Few_k0 : List Bool := [false, true, false, true, false, false, false, false, false, false, false, false, false, false, false, false, false, false, false, false, false, false, false, false, false, false, false, false, false, false, false, false, false, false, false, false, false, false, false, false]
def f_haulagelaw08_Few_b0 : XCode :=
  (.seq (.seq (.ops [⟨some 14, .mov (.tmp 3), none, 0⟩,
     ⟨some 15, .fieldAddr 4 (.tmp 1), none, 0⟩,
     ⟨some 16, .load 1 false (.tmp 15), none, 0⟩,
     ⟨some 17, .len (.tmp 16), none, 0⟩,
     ⟨some 18, .bin .lss (.tmp 14) (.tmp 17), none, 0⟩])
  (.cond (.tmp 18)
   .skip
   (.exit 0)))
 (.seq (.block 1
   (.seq (.ops [⟨some 21, .fieldAddr 4 (.tmp 1), none, 0⟩,
      ⟨some 22, .load 1 false (.tmp 21), none, 0⟩,
      ⟨some 23, .mov (.tmp 3), none, 0⟩,
      ⟨some 24, .addrRow 8 (.tmp 22) (.tmp 23), none, 0⟩,
      ⟨some 25, .fieldAddr 1 (.tmp 24), none, 0⟩,
      ⟨some 26, .load 1 false (.tmp 25), none, 0⟩,
      ⟨some 27, .call (.fn 170) [(.tmp 26)], none, 0⟩,
      ⟨some 28, .un .not (.tmp 27), none, 0⟩,
      ⟨some 29, .mov (.tmp 28), none, 0⟩,
      ⟨some 30, .fieldAddr 4 (.tmp 1), some (29, false), 0⟩,
      ⟨some 31, .load 1 false (.tmp 30), some (29, false), 0⟩,
      ⟨some 32, .mov (.tmp 3), some (29, false), 0⟩,
      ⟨some 33, .addrRow 8 (.tmp 31) (.tmp 32), some (29, false), 0⟩,
      ⟨some 34, .fieldAddr 5 (.tmp 33), some (29, false), 0⟩,
      ⟨some 35, .fieldAddr 2 (.tmp 34), some (29, false), 0⟩,
      ⟨some 36, .load 1 false (.tmp 35), some (29, false), 0⟩,
      ⟨some 37, .call (.fn 170) [(.tmp 36)], some (29, false), 0⟩,
      ⟨some 38, .un .not (.tmp 37), some (29, false), 0⟩,
      ⟨some 39, .pick (.tmp 29) (.con (.bool true)) (.tmp 38), none, 0⟩])
   (.cond (.tmp 39)
    (.seq (.ops [⟨some 2, .mov (.con (.bool false)), none, 0⟩])
     .ret)
    .skip)))
 (.ops [⟨some 19, .mov (.tmp 3), none, 0⟩,
   ⟨some 20, .bin .add (.tmp 19) (.con (.int .i64 1)), none, 0⟩,
   ⟨some 3, .mov (.tmp 20), none, 0⟩])))
def f_haulagelaw08_Few_s0 (t1 t3 : AV) : List AV := [.unk, t1, .unk, t3, .unk, .unk, .unk, .unk, .unk, .unk, .unk, .unk, .unk, .unk, .unk, .unk, .unk, .unk, .unk, .unk, .unk, .unk, .unk, .unk, .unk, .unk, .unk, .unk, .unk, .unk, .unk, .unk, .unk, .unk, .unk, .unk, .unk, .unk, .unk, .unk]
def f_haulagelaw08_Few : XFunc := { ntmps := 40, res := [.tmp 2], pure := true, body :=
  (.seq (.ops [⟨some 1, .box (.tmp 0), none, 0⟩,
     ⟨some 2, .mov (.con (.bool false)), none, 0⟩])
  (.seq (.seq (.ops [⟨some 4, .fieldAddr 4 (.tmp 1), none, 0⟩,
      ⟨some 5, .load 1 false (.tmp 4), none, 0⟩,
      ⟨some 6, .len (.tmp 5), none, 0⟩,
      ⟨some 7, .bin .gtr (.tmp 6) (.con (.int .i64 20)), none, 0⟩,
      ⟨some 8, .mov (.tmp 7), none, 0⟩,
      ⟨some 9, .fieldAddr 1 (.tmp 1), some (8, false), 0⟩,
      ⟨some 10, .load 1 false (.tmp 9), some (8, false), 0⟩,
      ⟨some 11, .call (.fn 170) [(.tmp 10)], some (8, false), 0⟩,
      ⟨some 12, .un .not (.tmp 11), some (8, false), 0⟩,
      ⟨some 13, .pick (.tmp 8) (.con (.bool true)) (.tmp 12), none, 0⟩])
   (.cond (.tmp 13)
    (.seq (.ops [⟨some 2, .mov (.con (.bool false)), none, 0⟩])
     .ret)
    .skip))
  (.seq (.seq (.ops [⟨some 3, .mov (.con (.int .i64 0)), none, 0⟩])
   (.block 0
    (.loop f_haulagelaw08_Few_k0 f_haulagelaw08_Few_b0)))
  (.seq (.ops [⟨some 2, .mov (.con (.bool true)), none, 0⟩])
  .ret)))) }
def f_ddltext_Can_k0 : List Bool := [false, true, false, false, false, false, false, false, false, false, false, false, false, false, false, false, false, false, false, false, true, true, true, false, false, false, false, false, false, false, false, false, false, false, false, false, false, false, false, false, false, false, false, false, false, false, false, false, false, false, false, false, false, false, false, false, false, false, false, false, false, false, false, false, false, false, false, false, false, false, false, false, false, false, false, false, false, false, false, false, false, false, false, false, false, false, false, false, false, false, false, false, false]
def f_ddltext_Can_b0 : XCode :=
  (.seq (.ops [⟨some 23, .bin .lss (.tmp 22) (.tmp 21), none, 0⟩])
 (.seq (.cond (.tmp 23)
   .skip
   (.exit 1))
 (.seq (.block 2
   (.seq (.ops [⟨some 24, .addrRow 8 (.tmp 20) (.tmp 22), none, 0⟩,
      ⟨some 25, .load 8 true (.tmp 24), none, 0⟩,
      ⟨some 4, .alloc [.int .i64 0, .str [], .int .i64 0, .int .i64 0, .bool false, .int .i64 0, .int .i64 0, .str []], none, 0⟩,
      ⟨none, .store 8 (.tmp 4) (.tmp 25), none, 0⟩])
   (.seq (.ops [⟨some 26, .load 8 true (.tmp 4), none, 0⟩,
      ⟨some 27, .call (.fn 268) [(.tmp 26)], none, 0⟩,
      ⟨some 28, .un .not (.tmp 27), none, 0⟩])
   (.cond (.tmp 28)
    (.seq (.ops [⟨some 2, .mov (.con (.bool false)), none, 0⟩])
     .ret)
    .skip))))
 (.ops [⟨some 29, .bin .add (.tmp 22) (.con (.int .i64 1)), none, 0⟩,
   ⟨some 22, .mov (.tmp 29), none, 0⟩]))))
def f_ddltext_Can_s0 (t1 t20 t21 t22 : AV) : List AV := [.unk, t1, .unk, .unk, .unk, .unk, .unk, .unk, .unk, .unk, .unk, .unk, .unk, .unk, .unk, .unk, .unk, .unk, .unk, .unk, t20, t21, t22, .unk, .unk, .unk, .unk, .unk, .unk, .unk, .unk, .unk, .unk, .unk, .unk, .unk, .unk, .unk, .unk, .unk, .unk, .unk, .unk, .unk, .unk, .unk, .unk, .unk, .unk, .unk, .unk, .unk, .unk, .unk, .unk, .unk, .unk, .unk, .unk, .unk, .unk, .unk, .unk, .unk, .unk, .unk, .unk, .unk, .unk, .unk, .unk, .unk, .unk, .unk, .unk, .unk, .unk, .unk, .unk, .unk, .unk, .unk, .unk, .unk, .unk, .unk, .unk, .unk, .unk, .unk, .unk, .unk, .unk]
def f_ddltext_Can : XFunc := { ntmps := 93, res := [.tmp 2], pure := true, body :=
  (.seq (.ops [⟨some 1, .box (.tmp 0), none, 0⟩,
     ⟨some 2, .mov (.con (.bool false)), none, 0⟩])
  (.seq (.seq (.ops [⟨some 5, .load 12 true (.tmp 1), none, 0⟩,
      ⟨some 6, .call (.fn 266) [(.tmp 5)], none, 0⟩,
      ⟨some 7, .un .not (.tmp 6), none, 0⟩,
      ⟨some 8, .mov (.tmp 7), none, 0⟩,
      ⟨some 9, .fieldAddr 1 (.tmp 1), some (8, false), 0⟩,
      ⟨some 10, .load 1 false (.tmp 9), some (8, false), 0⟩,
      ⟨some 11, .rowLit false 1 1 [.str []] [(0, 1, (.tmp 10))], some (8, false), 0⟩,
      ⟨some 12, .call (.fn 267) [(.tmp 11)], some (8, false), 0⟩,
      ⟨some 13, .un .not (.tmp 12), some (8, false), 0⟩,
      ⟨some 14, .pick (.tmp 8) (.con (.bool true)) (.tmp 13), none, 0⟩])
   (.cond (.tmp 14)
    (.seq (.ops [⟨some 2, .mov (.con (.bool false)), none, 0⟩])
     .ret)
    .skip))
  (.seq (.seq (.ops [⟨some 15, .fieldAddr 0 (.tmp 1), none, 0⟩,
      ⟨some 16, .load 1 false (.tmp 15), none, 0⟩])
   (.block 0
    (.seq (.ops [⟨some 18, .bin .eql (.tmp 16) (.con (.int .i64 1)), none, 0⟩,
       ⟨some 17, .mov (.tmp 18), none, 0⟩])
    (.cond (.tmp 17)
     (.seq (.seq (.ops [⟨some 19, .fieldAddr 11 (.tmp 1), none, 0⟩,
          ⟨some 20, .load 1 false (.tmp 19), none, 0⟩,
          ⟨some 21, .len (.tmp 20), none, 0⟩,
          ⟨some 22, .mov (.con (.int .i64 0)), none, 0⟩])
       (.block 1
        (.loop f_ddltext_Can_k0 f_ddltext_Can_b0)))
      (.seq (.ops [⟨some 30, .fieldAddr 4 (.tmp 1), none, 0⟩,
         ⟨some 31, .load 1 false (.tmp 30), none, 0⟩,
         ⟨some 32, .rowLit false 1 1 [.str []] [(0, 1, (.tmp 31))], none, 0⟩,
         ⟨some 33, .call (.fn 267) [(.tmp 32)], none, 0⟩,
         ⟨some 34, .mov (.tmp 33), none, 0⟩,
         ⟨some 35, .fieldAddr 11 (.tmp 1), some (34, true), 0⟩,
         ⟨some 36, .load 1 false (.tmp 35), some (34, true), 0⟩,
         ⟨some 37, .len (.tmp 36), some (34, true), 0⟩,
         ⟨some 38, .bin .gtr (.tmp 37) (.con (.int .i64 0)), some (34, true), 0⟩,
         ⟨some 39, .pick (.tmp 34) (.tmp 38) (.con (.bool false)), none, 0⟩,
         ⟨some 40, .mov (.tmp 39), none, 0⟩,
         ⟨some 41, .fieldAddr 11 (.tmp 1), some (40, true), 0⟩,
         ⟨some 42, .load 1 false (.tmp 41), some (40, true), 0⟩,
         ⟨some 43, .len (.tmp 42), some (40, true), 0⟩,
         ⟨some 44, .bin .leq (.tmp 43) (.con (.int .i64 10)), some (40, true), 0⟩,
         ⟨some 45, .pick (.tmp 40) (.tmp 44) (.con (.bool false)), none, 0⟩,
         ⟨some 2, .mov (.tmp 45), none, 0⟩])
      .ret))
     (.seq (.ops [⟨some 47, .bin .eql (.tmp 16) (.con (.int .i64 3)), none, 0⟩,
         ⟨some 46, .mov (.tmp 47), none, 0⟩])
      (.cond (.tmp 46)
       (.seq (.ops [⟨some 48, .fieldAddr 3 (.tmp 1), none, 0⟩,
           ⟨some 49, .load 1 false (.tmp 48), none, 0⟩,
           ⟨some 50, .rowLit false 1 1 [.str []] [(0, 1, (.tmp 49))], none, 0⟩,
           ⟨some 51, .call (.fn 267) [(.tmp 50)], none, 0⟩,
           ⟨some 2, .mov (.tmp 51), none, 0⟩])
        .ret)
       (.seq (.ops [⟨some 53, .bin .eql (.tmp 16) (.con (.int .i64 4)), none, 0⟩,
           ⟨some 52, .mov (.tmp 53), none, 0⟩])
        (.cond (.tmp 52)
         (.seq (.ops [⟨some 54, .load 12 true (.tmp 1), none, 0⟩,
             ⟨some 55, .call (.fn 248) [(.tmp 54)], none, 0⟩,
             ⟨some 56, .call (.fn 268) [(.tmp 55)], none, 0⟩,
             ⟨some 2, .mov (.tmp 56), none, 0⟩])
          .ret)
         (.seq (.ops [⟨some 58, .bin .eql (.tmp 16) (.con (.int .i64 5)), none, 0⟩,
             ⟨some 57, .mov (.tmp 58), none, 0⟩])
          (.cond (.tmp 57)
           (.seq (.ops [⟨some 59, .fieldAddr 2 (.tmp 1), none, 0⟩,
               ⟨some 60, .load 1 false (.tmp 59), none, 0⟩,
               ⟨some 61, .rowLit false 1 1 [.str []] [(0, 1, (.tmp 60))], none, 0⟩,
               ⟨some 62, .call (.fn 267) [(.tmp 61)], none, 0⟩,
               ⟨some 2, .mov (.tmp 62), none, 0⟩])
            .ret)
           (.seq (.ops [⟨some 64, .bin .eql (.tmp 16) (.con (.int .i64 6)), none, 0⟩,
               ⟨some 63, .mov (.tmp 64), none, 0⟩])
            (.cond (.tmp 63)
             (.seq (.ops [⟨some 65, .fieldAddr 2 (.tmp 1), none, 0⟩,
                 ⟨some 66, .load 1 false (.tmp 65), none, 0⟩,
                 ⟨some 67, .fieldAddr 3 (.tmp 1), none, 0⟩,
                 ⟨some 68, .load 1 false (.tmp 67), none, 0⟩,
                 ⟨some 69, .rowLit false 1 2 [.str []] [(0, 1, (.tmp 66)), (1, 1, (.tmp 68))], none, 0⟩,
                 ⟨some 70, .call (.fn 267) [(.tmp 69)], none, 0⟩,
                 ⟨some 2, .mov (.tmp 70), none, 0⟩])
              .ret)
             (.seq (.ops [⟨some 72, .bin .eql (.tmp 16) (.con (.int .i64 7)), none, 0⟩,
                 ⟨some 71, .mov (.tmp 72), none, 0⟩])
              (.cond (.tmp 71)
               (.seq (.ops [⟨some 73, .fieldAddr 2 (.tmp 1), none, 0⟩,
                   ⟨some 74, .load 1 false (.tmp 73), none, 0⟩,
                   ⟨some 75, .rowLit false 1 1 [.str []] [(0, 1, (.tmp 74))], none, 0⟩,
                   ⟨some 76, .call (.fn 267) [(.tmp 75)], none, 0⟩,
                   ⟨some 77, .mov (.tmp 76), none, 0⟩,
                   ⟨some 78, .fieldAddr 5 (.tmp 1), some (77, true), 0⟩,
                   ⟨some 79, .load 2 true (.tmp 78), some (77, true), 0⟩,
                   ⟨some 80, .call (.fn 84) [(.tmp 79)], some (77, true), 0⟩,
                   ⟨some 81, .pick (.tmp 77) (.tmp 80) (.con (.bool false)), none, 0⟩,
                   ⟨some 2, .mov (.tmp 81), none, 0⟩])
                .ret)
               (.seq (.ops [⟨some 83, .bin .eql (.tmp 16) (.con (.int .i64 8)), none, 0⟩,
                   ⟨some 82, .mov (.tmp 83), none, 0⟩])
                (.cond (.tmp 82)
                 (.seq (.ops [⟨some 84, .fieldAddr 2 (.tmp 1), none, 0⟩,
                     ⟨some 85, .load 1 false (.tmp 84), none, 0⟩,
                     ⟨some 86, .rowLit false 1 1 [.str []] [(0, 1, (.tmp 85))], none, 0⟩,
                     ⟨some 87, .call (.fn 267) [(.tmp 86)], none, 0⟩,
                     ⟨some 88, .mov (.tmp 87), none, 0⟩,
                     ⟨some 89, .fieldAddr 8 (.tmp 1), some (88, true), 0⟩,
                     ⟨some 90, .load 3 true (.tmp 89), some (88, true), 0⟩,
                     ⟨some 91, .call (.fn 33) [(.tmp 90)], some (88, true), 0⟩,
                     ⟨some 92, .pick (.tmp 88) (.tmp 91) (.con (.bool false)), none, 0⟩,
                     ⟨some 2, .mov (.tmp 92), none, 0⟩])
                  .ret)
                 .skip))))))))))))))))
  (.seq (.ops [⟨some 2, .mov (.con (.bool true)), none, 0⟩])
  .ret)))) }
def f_ddltext_writer_word : XFunc := { ntmps := 18, res := [], pure := false, body :=
  (.seq (.seq (.ops [⟨some 4, .mov (.tmp 0), none, 0⟩,
      ⟨some 5, .nilCheck (.tmp 4), none, 0⟩,
      ⟨some 6, .fview 0 (.tmp 5), none, 0⟩,
      ⟨some 7, .call (.fn 269) [(.tmp 6)], none, 0⟩,
      ⟨some 8, .bin .gtr (.tmp 7) (.con (.int .i64 0)), none, 0⟩])
   (.cond (.tmp 8)
    (.ops [⟨some 9, .mov (.tmp 0), none, 0⟩,
       ⟨some 10, .nilCheck (.tmp 9), none, 0⟩,
       ⟨some 11, .fview 0 (.tmp 10), none, 0⟩,
       ⟨some 12, .call (.fn 71) [(.tmp 11), (.con (.int .u8 32))], none, 0⟩])
    .skip))
  (.ops [⟨some 13, .mov (.tmp 0), none, 0⟩,
    ⟨some 14, .nilCheck (.tmp 13), none, 0⟩,
    ⟨some 15, .fview 0 (.tmp 14), none, 0⟩,
    ⟨some 16, .mov (.tmp 1), none, 0⟩,
    ⟨some 17, .call (.fn 73) [(.tmp 15), (.tmp 16)], none, 0⟩])) }
def f_ddltext_writer_columns_k0 : List Bool := [true, false, false, false, false, false, true, true, true, false, false, false, false, false, false, false, false, false, false, false, false, false, false, false, false, false, false, false, false, false, false, false, false, false, false, false]
def f_ddltext_writer_columns_b0 : XCode :=
  (.seq (.ops [⟨some 9, .bin .lss (.tmp 8) (.tmp 7), none, 0⟩])
 (.seq (.cond (.tmp 9)
   .skip
   (.exit 0))
 (.seq (.block 1
   (.seq (.ops [⟨some 10, .mov (.tmp 8), none, 0⟩,
      ⟨some 11, .addrRow 8 (.tmp 6) (.tmp 8), none, 0⟩,
      ⟨some 12, .load 8 true (.tmp 11), none, 0⟩,
      ⟨some 5, .alloc [.int .i64 0, .str [], .int .i64 0, .int .i64 0, .bool false, .int .i64 0, .int .i64 0, .str []], none, 0⟩,
      ⟨some 4, .mov (.tmp 10), none, 0⟩,
      ⟨none, .store 8 (.tmp 5) (.tmp 12), none, 0⟩])
   (.seq (.seq (.ops [⟨some 13, .mov (.tmp 4), none, 0⟩,
       ⟨some 14, .bin .eql (.tmp 13) (.con (.int .i64 0)), none, 0⟩])
    (.cond (.tmp 14)
     (.ops [⟨some 15, .mov (.tmp 0), none, 0⟩,
        ⟨some 16, .fieldAddr 1 (.tmp 5), none, 0⟩,
        ⟨some 17, .load 1 false (.tmp 16), none, 0⟩,
        ⟨some 18, .bin .add (.con (.str [40])) (.tmp 17), none, 0⟩,
        ⟨some 19, .call (.fn 245) [(.tmp 15), (.tmp 18)], none, 0⟩])
     (.seq (.ops [⟨some 20, .mov (.tmp 0), none, 0⟩,
         ⟨some 21, .nilCheck (.tmp 20), none, 0⟩,
         ⟨some 22, .fview 0 (.tmp 21), none, 0⟩,
         ⟨some 23, .call (.fn 71) [(.tmp 22), (.con (.int .u8 44))], none, 0⟩])
      (.ops [⟨some 24, .mov (.tmp 0), none, 0⟩,
        ⟨some 25, .fieldAddr 1 (.tmp 5), none, 0⟩,
        ⟨some 26, .load 1 false (.tmp 25), none, 0⟩,
        ⟨some 27, .call (.fn 245) [(.tmp 24), (.tmp 26)], none, 0⟩]))))
   (.ops [⟨some 28, .mov (.tmp 0), none, 0⟩,
     ⟨some 29, .load 8 true (.tmp 5), none, 0⟩,
     ⟨some 30, .call (.fn 247) [(.tmp 28), (.tmp 29)], none, 0⟩]))))
 (.ops [⟨some 31, .bin .add (.tmp 8) (.con (.int .i64 1)), none, 0⟩,
   ⟨some 8, .mov (.tmp 31), none, 0⟩]))))
def f_ddltext_writer_columns_s0 (t0 t6 t7 t8 : AV) : List AV := [t0, .unk, .unk, .unk, .unk, .unk, t6, t7, t8, .unk, .unk, .unk, .unk, .unk, .unk, .unk, .unk, .unk, .unk, .unk, .unk, .unk, .unk, .unk, .unk, .unk, .unk, .unk, .unk, .unk, .unk, .unk, .unk, .unk, .unk, .unk]
def f_ddltext_writer_columns : XFunc := { ntmps := 36, res := [], pure := false, body :=
  (.seq (.seq (.ops [⟨some 6, .mov (.tmp 1), none, 0⟩,
      ⟨some 7, .len (.tmp 6), none, 0⟩,
      ⟨some 8, .mov (.con (.int .i64 0)), none, 0⟩])
   (.block 0
    (.loop f_ddltext_writer_columns_k0 f_ddltext_writer_columns_b0)))
  (.ops [⟨some 32, .mov (.tmp 0), none, 0⟩,
    ⟨some 33, .nilCheck (.tmp 32), none, 0⟩,
    ⟨some 34, .fview 0 (.tmp 33), none, 0⟩,
    ⟨some 35, .call (.fn 71) [(.tmp 34), (.con (.int .u8 41))], none, 0⟩])) }
def f_ddltext_writer_rest : XFunc := { ntmps := 22, res := [], pure := false, body :=
  (.seq (.ops [⟨some 3, .box (.tmp 1), none, 0⟩])
  (.seq (.ops [⟨some 4, .mov (.tmp 0), none, 0⟩,
     ⟨some 5, .fieldAddr 2 (.tmp 3), none, 0⟩,
     ⟨some 6, .load 2 true (.tmp 5), none, 0⟩,
     ⟨some 7, .call (.fn 249) [(.tmp 4), (.tmp 6)], none, 0⟩])
  (.seq (.seq (.ops [⟨some 8, .fieldAddr 4 (.tmp 3), none, 0⟩,
      ⟨some 9, .load 1 false (.tmp 8), none, 0⟩])
   (.cond (.tmp 9)
    (.ops [⟨some 10, .mov (.tmp 0), none, 0⟩,
       ⟨some 11, .call (.fn 245) [(.tmp 10), (.con (.str [110, 117, 108, 108]))], none, 0⟩])
    .skip))
  (.seq (.ops [⟨some 12, .fieldAddr 5 (.tmp 3), none, 0⟩,
     ⟨some 13, .fieldAddr 0 (.tmp 12), none, 0⟩,
     ⟨some 14, .load 1 false (.tmp 13), none, 0⟩,
     ⟨some 15, .bin .neq (.tmp 14) (.con (.int .i64 0)), none, 0⟩])
  (.cond (.tmp 15)
   (.seq (.ops [⟨some 16, .mov (.tmp 0), none, 0⟩,
       ⟨some 17, .call (.fn 245) [(.tmp 16), (.con (.str [100, 101, 102, 97, 117, 108, 116]))], none, 0⟩])
    (.ops [⟨some 18, .mov (.tmp 0), none, 0⟩,
      ⟨some 19, .fieldAddr 5 (.tmp 3), none, 0⟩,
      ⟨some 20, .load 3 true (.tmp 19), none, 0⟩,
      ⟨some 21, .call (.fn 250) [(.tmp 18), (.tmp 20)], none, 0⟩]))
   .skip))))) }
def f_ddltext_added : XFunc := { ntmps := 12, res := [.cell 2 8 true], pure := true, body :=
  (.seq (.ops [⟨some 1, .box (.tmp 0), none, 0⟩,
     ⟨some 2, .alloc [.int .i64 0, .str [], .int .i64 0, .int .i64 0, .bool false, .int .i64 0, .int .i64 0, .str []], none, 0⟩])
  (.seq (.ops [⟨some 3, .fieldAddr 2 (.tmp 1), none, 0⟩,
     ⟨some 4, .load 1 false (.tmp 3), none, 0⟩,
     ⟨some 5, .fieldAddr 5 (.tmp 1), none, 0⟩,
     ⟨some 6, .load 2 true (.tmp 5), none, 0⟩,
     ⟨some 7, .fieldAddr 7 (.tmp 1), none, 0⟩,
     ⟨some 8, .load 1 false (.tmp 7), none, 0⟩,
     ⟨some 9, .fieldAddr 8 (.tmp 1), none, 0⟩,
     ⟨some 10, .load 3 true (.tmp 9), none, 0⟩,
     ⟨some 11, .build [.int .i64 0, .str [], .int .i64 0, .int .i64 0, .bool false, .int .i64 0, .int .i64 0, .str []] [(1, 1, (.tmp 4)), (2, 2, (.tmp 6)), (4, 1, (.tmp 8)), (5, 3, (.tmp 10))], none, 0⟩,
     ⟨none, .store 8 (.tmp 2) (.tmp 11), none, 0⟩])
  .ret)) }
def f_ddltext_writer_of : XFunc := { ntmps := 14, res := [], pure := false, body :=
  (.seq (.ops [⟨some 3, .box (.tmp 1), none, 0⟩])
  (.seq (.ops [⟨some 7, .load 2 true (.tmp 3), none, 0⟩,
     ⟨some 8, .call (.fn 93) [(.tmp 7)], none, 0⟩,
     ⟨some 6, .mov (.tmp 8), none, 0⟩,
     ⟨some 9, .extract (.tmp 6) 0, none, 0⟩,
     ⟨some 10, .extract (.tmp 6) 1, none, 0⟩,
     ⟨some 4, .mov (.tmp 9), none, 0⟩,
     ⟨some 5, .mov (.tmp 10), none, 0⟩])
  (.ops [⟨some 11, .mov (.tmp 0), none, 0⟩,
    ⟨some 12, .mov (.tmp 4), none, 0⟩,
    ⟨some 13, .call (.fn 245) [(.tmp 11), (.tmp 12)], none, 0⟩]))) }
def f_ddltext_writer_value : XFunc := { ntmps := 14, res := [], pure := false, body :=
  (.seq (.ops [⟨some 3, .box (.tmp 1), none, 0⟩])
  (.seq (.ops [⟨some 7, .load 3 true (.tmp 3), none, 0⟩,
     ⟨some 8, .call (.fn 43) [(.tmp 7)], none, 0⟩,
     ⟨some 6, .mov (.tmp 8), none, 0⟩,
     ⟨some 9, .extract (.tmp 6) 0, none, 0⟩,
     ⟨some 10, .extract (.tmp 6) 1, none, 0⟩,
     ⟨some 4, .mov (.tmp 9), none, 0⟩,
     ⟨some 5, .mov (.tmp 10), none, 0⟩])
  (.ops [⟨some 11, .mov (.tmp 0), none, 0⟩,
    ⟨some 12, .mov (.tmp 4), none, 0⟩,
    ⟨some 13, .call (.fn 245) [(.tmp 11), (.tmp 12)], none, 0⟩]))) }
def f_ddltext_reader_peek : XFunc := { ntmps := 10, res := [.tmp 2], pure := false, body :=
  (.seq (.ops [⟨some 2, .mov (.con (.str [])), none, 0⟩])
  (.seq (.ops [⟨some 4, .mov (.tmp 0), none, 0⟩,
     ⟨some 5, .call (.fn 239) [(.tmp 4)], none, 0⟩,
     ⟨some 3, .mov (.tmp 5), none, 0⟩])
  (.seq (.ops [⟨some 6, .mov (.tmp 3), none, 0⟩,
     ⟨some 7, .mov (.tmp 3), none, 0⟩,
     ⟨some 8, .call (.fn 50) [(.tmp 7)], none, 0⟩,
     ⟨some 9, .cutStr (.tmp 6) none (some (.tmp 8)), none, 0⟩,
     ⟨some 2, .mov (.tmp 9), none, 0⟩])
  .ret))) }
def f_ddltext_reader_name : XFunc := { ntmps := 25, res := [.tmp 2], pure := false, body :=
  (.seq (.ops [⟨some 2, .mov (.con (.str [])), none, 0⟩])
  (.seq (.ops [⟨some 4, .mov (.tmp 0), none, 0⟩,
     ⟨some 5, .call (.fn 251) [(.tmp 4)], none, 0⟩,
     ⟨some 3, .mov (.tmp 5), none, 0⟩])
  (.seq (.block 0
    (.seq (.ops [⟨some 7, .mov (.tmp 3), none, 0⟩,
       ⟨some 8, .bin .eql (.tmp 7) (.con (.str [])), none, 0⟩,
       ⟨some 6, .mov (.tmp 8), none, 0⟩])
    (.cond (.tmp 6)
     (.ops [⟨some 9, .call (.fn 240) [(.con (.int .i64 5))], none, 0⟩])
     (.seq (.ops [⟨some 11, .mov (.tmp 3), none, 0⟩,
         ⟨some 12, .call (.fn 270) [(.tmp 11)], none, 0⟩,
         ⟨some 13, .un .not (.tmp 12), none, 0⟩,
         ⟨some 10, .mov (.tmp 13), none, 0⟩])
      (.cond (.tmp 10)
       (.ops [⟨some 14, .call (.fn 240) [(.con (.int .i64 8))], none, 0⟩])
       .skip)))))
  (.seq (.ops [⟨some 15, .mov (.tmp 0), none, 0⟩,
     ⟨some 16, .nilCheck (.tmp 15), none, 0⟩,
     ⟨some 17, .fieldAddr 1 (.tmp 16), none, 0⟩,
     ⟨some 18, .load 1 false (.tmp 17), none, 0⟩,
     ⟨some 19, .mov (.tmp 3), none, 0⟩,
     ⟨some 20, .lenS (.tmp 19), none, 0⟩,
     ⟨some 21, .bin .add (.tmp 18) (.tmp 20), none, 0⟩,
     ⟨some 22, .nilCheck (.tmp 15), none, 0⟩,
     ⟨some 23, .fieldAddr 1 (.tmp 22), none, 0⟩,
     ⟨none, .store 1 (.tmp 23) (.tmp 21), none, 0⟩])
  (.seq (.ops [⟨some 24, .mov (.tmp 3), none, 0⟩,
     ⟨some 2, .mov (.tmp 24), none, 0⟩])
  .ret))))) }
def f_ddltext_reader_columns_k0 : List Bool := [true, false, false, true, false, false, false, false, false, false, false, false, false, false, false, false, false, false, false, false, false, false, false, false, false, false, false]
def f_ddltext_reader_columns_b0 : XCode :=
  (.block 1
  (.seq (.ops [⟨some 8, .mov (.tmp 0), none, 0⟩,
     ⟨some 9, .call (.fn 239) [(.tmp 8)], none, 0⟩])
  (.seq (.seq (.ops [⟨some 10, .mov (.tmp 3), none, 0⟩,
      ⟨some 11, .len (.tmp 10), none, 0⟩,
      ⟨some 12, .bin .eql (.tmp 11) (.con (.int .i64 10)), none, 0⟩])
   (.cond (.tmp 12)
    (.ops [⟨some 13, .call (.fn 240) [(.con (.int .i64 3))], none, 0⟩])
    .skip))
  (.seq (.ops [⟨some 14, .mov (.tmp 3), none, 0⟩,
     ⟨some 15, .mov (.tmp 0), none, 0⟩,
     ⟨some 16, .call (.fn 255) [(.tmp 15)], none, 0⟩,
     ⟨some 17, .rowLit false 8 1 [.int .i64 0, .str [], .int .i64 0, .int .i64 0, .bool false, .int .i64 0, .int .i64 0, .str []] [(0, 8, (.tmp 16))], none, 0⟩,
     ⟨some 18, .append false 8 80 (.tmp 14) (.tmp 17), none, 0⟩,
     ⟨some 3, .mov (.tmp 18), none, 0⟩])
  (.seq (.ops [⟨some 19, .mov (.tmp 0), none, 0⟩,
     ⟨some 20, .call (.fn 271) [(.tmp 19), (.con (.int .u8 44))], none, 0⟩,
     ⟨some 21, .un .not (.tmp 20), none, 0⟩])
  (.cond (.tmp 21)
   (.exit 0)
   .skip))))))
def f_ddltext_reader_columns : XFunc := { ntmps := 27, res := [.tmp 2], pure := false, body :=
  (.seq (.ops [⟨some 2, .mov (.con .nils), none, 0⟩])
  (.seq (.seq (.ops [⟨some 4, .mov (.tmp 0), none, 0⟩,
      ⟨some 5, .call (.fn 271) [(.tmp 4), (.con (.int .u8 40))], none, 0⟩,
      ⟨some 6, .un .not (.tmp 5), none, 0⟩])
   (.cond (.tmp 6)
    (.ops [⟨some 7, .call (.fn 240) [(.con (.int .i64 5))], none, 0⟩])
    .skip))
  (.seq (.ops [⟨some 3, .mov (.con .nils), none, 0⟩])
  (.seq (.block 0
    (.loop f_ddltext_reader_columns_k0 f_ddltext_reader_columns_b0))
  (.seq (.seq (.ops [⟨some 22, .mov (.tmp 0), none, 0⟩,
      ⟨some 23, .call (.fn 271) [(.tmp 22), (.con (.int .u8 41))], none, 0⟩,
      ⟨some 24, .un .not (.tmp 23), none, 0⟩])
   (.cond (.tmp 24)
    (.ops [⟨some 25, .call (.fn 240) [(.con (.int .i64 5))], none, 0⟩])
    .skip))
  (.seq (.ops [⟨some 26, .mov (.tmp 3), none, 0⟩,
     ⟨some 2, .mov (.tmp 26), none, 0⟩])
  .ret)))))) }
def f_ddltext_reader_want : XFunc := { ntmps := 9, res := [], pure := false, body :=
  (.seq (.ops [⟨some 4, .mov (.tmp 0), none, 0⟩,
     ⟨some 5, .mov (.tmp 1), none, 0⟩,
     ⟨some 6, .call (.fn 272) [(.tmp 4), (.tmp 5)], none, 0⟩,
     ⟨some 7, .un .not (.tmp 6), none, 0⟩])
  (.cond (.tmp 7)
   (.ops [⟨some 8, .call (.fn 240) [(.con (.int .i64 5))], none, 0⟩])
   .skip)) }
def f_ddltext_reader_column : XFunc := { ntmps := 19, res := [.cell 2 8 true], pure := false, body :=
  (.seq (.ops [⟨some 2, .alloc [.int .i64 0, .str [], .int .i64 0, .int .i64 0, .bool false, .int .i64 0, .int .i64 0, .str []], none, 0⟩])
  (.seq (.ops [⟨some 4, .mov (.tmp 0), none, 0⟩,
     ⟨some 5, .call (.fn 252) [(.tmp 4)], none, 0⟩,
     ⟨some 6, .build [.int .i64 0, .str [], .int .i64 0, .int .i64 0, .bool false, .int .i64 0, .int .i64 0, .str []] [(1, 1, (.tmp 5))], none, 0⟩,
     ⟨some 3, .alloc [.int .i64 0, .str [], .int .i64 0, .int .i64 0, .bool false, .int .i64 0, .int .i64 0, .str []], none, 0⟩,
     ⟨none, .store 8 (.tmp 3) (.tmp 6), none, 0⟩])
  (.seq (.ops [⟨some 7, .mov (.tmp 0), none, 0⟩,
     ⟨some 8, .call (.fn 256) [(.tmp 7)], none, 0⟩,
     ⟨some 9, .fieldAddr 2 (.tmp 3), none, 0⟩,
     ⟨none, .store 2 (.tmp 9) (.tmp 8), none, 0⟩])
  (.seq (.ops [⟨some 10, .mov (.tmp 0), none, 0⟩,
     ⟨some 11, .call (.fn 272) [(.tmp 10), (.con (.str [110, 117, 108, 108]))], none, 0⟩,
     ⟨some 12, .fieldAddr 4 (.tmp 3), none, 0⟩,
     ⟨none, .store 1 (.tmp 12) (.tmp 11), none, 0⟩])
  (.seq (.seq (.ops [⟨some 13, .mov (.tmp 0), none, 0⟩,
      ⟨some 14, .call (.fn 272) [(.tmp 13), (.con (.str [100, 101, 102, 97, 117, 108, 116]))], none, 0⟩])
   (.cond (.tmp 14)
    (.ops [⟨some 15, .mov (.tmp 0), none, 0⟩,
       ⟨some 16, .call (.fn 257) [(.tmp 15), (.con (.bool false))], none, 0⟩,
       ⟨some 17, .fieldAddr 5 (.tmp 3), none, 0⟩,
       ⟨none, .store 3 (.tmp 17) (.tmp 16), none, 0⟩])
    .skip))
  (.seq (.ops [⟨some 18, .load 8 true (.tmp 3), none, 0⟩,
     ⟨none, .store 8 (.tmp 2) (.tmp 18), none, 0⟩])
  .ret)))))) }
def f_ddltext_reader_kind : XFunc := { ntmps := 26, res := [.cell 2 2 true], pure := false, body :=
  (.seq (.ops [⟨some 2, .alloc [.int .i64 0, .int .i64 0], none, 0⟩])
  (.seq (.ops [⟨some 7, .mov (.tmp 0), none, 0⟩,
     ⟨some 8, .call (.fn 239) [(.tmp 7)], none, 0⟩,
     ⟨some 9, .call (.fn 89) [(.tmp 8)], none, 0⟩,
     ⟨some 6, .mov (.tmp 9), none, 0⟩,
     ⟨some 10, .extract (.tmp 6) 0, none, 0⟩,
     ⟨some 11, .extract (.tmp 6) 1, none, 0⟩,
     ⟨some 12, .extract (.tmp 6) 2, none, 0⟩,
     ⟨some 3, .alloc [.int .i64 0, .int .i64 0], none, 0⟩,
     ⟨none, .store 2 (.tmp 3) (.tmp 10), none, 0⟩,
     ⟨some 4, .mov (.tmp 11), none, 0⟩,
     ⟨some 5, .mov (.tmp 12), none, 0⟩])
  (.seq (.seq (.ops [⟨some 13, .mov (.tmp 5), none, 0⟩,
      ⟨some 14, .bin .neq (.tmp 13) (.con (.int .i64 0)), none, 0⟩])
   (.cond (.tmp 14)
    (.ops [⟨some 15, .mov (.tmp 5), none, 0⟩,
       ⟨some 16, .call (.fn 240) [(.tmp 15)], none, 0⟩])
    .skip))
  (.seq (.ops [⟨some 17, .mov (.tmp 0), none, 0⟩,
     ⟨some 18, .nilCheck (.tmp 17), none, 0⟩,
     ⟨some 19, .fieldAddr 1 (.tmp 18), none, 0⟩,
     ⟨some 20, .load 1 false (.tmp 19), none, 0⟩,
     ⟨some 21, .mov (.tmp 4), none, 0⟩,
     ⟨some 22, .bin .add (.tmp 20) (.tmp 21), none, 0⟩,
     ⟨some 23, .nilCheck (.tmp 17), none, 0⟩,
     ⟨some 24, .fieldAddr 1 (.tmp 23), none, 0⟩,
     ⟨none, .store 1 (.tmp 24) (.tmp 22), none, 0⟩])
  (.seq (.ops [⟨some 25, .load 2 true (.tmp 3), none, 0⟩,
     ⟨none, .store 2 (.tmp 2) (.tmp 25), none, 0⟩])
  .ret))))) }
def f_ddltext_reader_value : XFunc := { ntmps := 39, res := [.cell 4 3 true], pure := false, body :=
  (.seq (.ops [⟨some 4, .alloc [.int .i64 0, .int .i64 0, .str []], none, 0⟩])
  (.seq (.ops [⟨some 9, .mov (.tmp 0), none, 0⟩,
     ⟨some 10, .call (.fn 239) [(.tmp 9)], none, 0⟩,
     ⟨some 11, .call (.fn 26) [(.tmp 10)], none, 0⟩,
     ⟨some 8, .mov (.tmp 11), none, 0⟩,
     ⟨some 12, .extract (.tmp 8) 0, none, 0⟩,
     ⟨some 13, .extract (.tmp 8) 1, none, 0⟩,
     ⟨some 14, .extract (.tmp 8) 2, none, 0⟩,
     ⟨some 5, .alloc [.int .i64 0, .int .i64 0, .str []], none, 0⟩,
     ⟨none, .store 3 (.tmp 5) (.tmp 12), none, 0⟩,
     ⟨some 6, .mov (.tmp 13), none, 0⟩,
     ⟨some 7, .mov (.tmp 14), none, 0⟩])
  (.seq (.seq (.ops [⟨some 15, .mov (.tmp 7), none, 0⟩,
      ⟨some 16, .bin .eql (.tmp 15) (.con (.int .i64 0)), none, 0⟩,
      ⟨some 17, .mov (.tmp 16), none, 0⟩,
      ⟨some 18, .fieldAddr 0 (.tmp 5), some (17, true), 0⟩,
      ⟨some 19, .load 1 false (.tmp 18), some (17, true), 0⟩,
      ⟨some 20, .bin .eql (.tmp 19) (.con (.int .i64 0)), some (17, true), 0⟩,
      ⟨some 21, .pick (.tmp 17) (.tmp 20) (.con (.bool false)), none, 0⟩,
      ⟨some 22, .mov (.tmp 21), none, 0⟩,
      ⟨some 23, .mov (.tmp 1), some (22, true), 0⟩,
      ⟨some 24, .un .not (.tmp 23), some (22, true), 0⟩,
      ⟨some 25, .pick (.tmp 22) (.tmp 24) (.con (.bool false)), none, 0⟩])
   (.cond (.tmp 25)
    (.ops [⟨some 7, .mov (.con (.int .i64 11)), none, 0⟩])
    .skip))
  (.seq (.seq (.ops [⟨some 26, .mov (.tmp 7), none, 0⟩,
      ⟨some 27, .bin .neq (.tmp 26) (.con (.int .i64 0)), none, 0⟩])
   (.cond (.tmp 27)
    (.ops [⟨some 28, .mov (.tmp 7), none, 0⟩,
       ⟨some 29, .call (.fn 240) [(.tmp 28)], none, 0⟩])
    .skip))
  (.seq (.ops [⟨some 30, .mov (.tmp 0), none, 0⟩,
     ⟨some 31, .nilCheck (.tmp 30), none, 0⟩,
     ⟨some 32, .fieldAddr 1 (.tmp 31), none, 0⟩,
     ⟨some 33, .load 1 false (.tmp 32), none, 0⟩,
     ⟨some 34, .mov (.tmp 6), none, 0⟩,
     ⟨some 35, .bin .add (.tmp 33) (.tmp 34), none, 0⟩,
     ⟨some 36, .nilCheck (.tmp 30), none, 0⟩,
     ⟨some 37, .fieldAddr 1 (.tmp 36), none, 0⟩,
     ⟨none, .store 1 (.tmp 37) (.tmp 35), none, 0⟩])
  (.seq (.ops [⟨some 38, .load 3 true (.tmp 5), none, 0⟩,
     ⟨none, .store 3 (.tmp 4) (.tmp 38), none, 0⟩])
  .ret)))))) }
def f_haulagelaw08_short : XFunc := { ntmps := 6, res := [.tmp 2], pure := true, body :=
  (.seq (.ops [⟨some 2, .mov (.con (.bool false)), none, 0⟩])
  (.seq (.ops [⟨some 3, .mov (.tmp 0), none, 0⟩,
     ⟨some 4, .lenS (.tmp 3), none, 0⟩,
     ⟨some 5, .bin .leq (.tmp 4) (.con (.int .i64 200)), none, 0⟩,
     ⟨some 2, .mov (.tmp 5), none, 0⟩])
  .ret)) }
def f_ddl_Plain_k0 : List Bool := [false, false, false, true, false, false, false, false, false, false, false, false, false, false, false, false, false, false, false, false, false, false, false, false, false, false, false, false, false, true, true, true, false, false, false, false, false, false, false, false, false, false, false, false, false, false, false, false, false, false, false, false, false, false, false, false, false, false, false, false, false, false, false, false]
def f_ddl_Plain_b0 : XCode :=
  (.seq (.ops [⟨some 32, .bin .lss (.tmp 31) (.tmp 30), none, 0⟩])
 (.seq (.cond (.tmp 32)
   .skip
   (.exit 10))
 (.seq (.block 11
   (.seq (.ops [⟨some 33, .addrRow 8 (.tmp 29) (.tmp 31), none, 0⟩,
      ⟨some 34, .load 8 true (.tmp 33), none, 0⟩,
      ⟨some 5, .alloc [.int .i64 0, .str [], .int .i64 0, .int .i64 0, .bool false, .int .i64 0, .int .i64 0, .str []], none, 0⟩,
      ⟨none, .store 8 (.tmp 5) (.tmp 34), none, 0⟩])
   (.seq (.ops [⟨some 35, .fieldAddr 0 (.tmp 5), none, 0⟩,
      ⟨some 36, .load 1 false (.tmp 35), none, 0⟩,
      ⟨some 37, .bin .neq (.tmp 36) (.con (.int .i64 0)), none, 0⟩])
   (.cond (.tmp 37)
    (.seq (.ops [⟨some 2, .mov (.con (.bool false)), none, 0⟩])
     .ret)
    .skip))))
 (.ops [⟨some 38, .bin .add (.tmp 31) (.con (.int .i64 1)), none, 0⟩,
   ⟨some 31, .mov (.tmp 38), none, 0⟩]))))
def f_ddl_Plain_s0 (t3 t29 t30 t31 : AV) : List AV := [.unk, .unk, .unk, t3, .unk, .unk, .unk, .unk, .unk, .unk, .unk, .unk, .unk, .unk, .unk, .unk, .unk, .unk, .unk, .unk, .unk, .unk, .unk, .unk, .unk, .unk, .unk, .unk, .unk, t29, t30, t31, .unk, .unk, .unk, .unk, .unk, .unk, .unk, .unk, .unk, .unk, .unk, .unk, .unk, .unk, .unk, .unk, .unk, .unk, .unk, .unk, .unk, .unk, .unk, .unk, .unk, .unk, .unk, .unk, .unk, .unk, .unk, .unk]
def f_ddl_Plain : XFunc := { ntmps := 64, res := [.tmp 2], pure := true, body :=
  (.seq (.ops [⟨some 1, .box (.tmp 0), none, 0⟩,
     ⟨some 2, .mov (.con (.bool false)), none, 0⟩])
  (.seq (.ops [⟨some 6, .load 12 true (.tmp 1), none, 0⟩,
     ⟨some 7, .call (.fn 192) [(.tmp 6)], none, 0⟩,
     ⟨some 3, .alloc [.int .i64 0, .str [], .str [], .str [], .str [], .int .i64 0, .int .i64 0, .bool false, .int .i64 0, .int .i64 0, .str []], none, 0⟩,
     ⟨none, .store 11 (.tmp 3) (.tmp 7), none, 0⟩])
  (.seq (.ops [⟨some 8, .fieldAddr 0 (.tmp 3), none, 0⟩,
     ⟨none, .store 1 (.tmp 8) (.con (.int .i64 0)), none, 0⟩,
     ⟨some 9, .fieldAddr 1 (.tmp 3), none, 0⟩,
     ⟨none, .store 1 (.tmp 9) (.con (.str [])), none, 0⟩])
  (.seq (.seq (.ops [⟨some 10, .fieldAddr 0 (.tmp 1), none, 0⟩,
      ⟨some 11, .load 1 false (.tmp 10), none, 0⟩])
   (.block 0
    (.seq (.block 9
      (.seq (.block 8
        (.seq (.block 7
          (.seq (.block 6
            (.seq (.block 5
              (.seq (.block 4
                (.seq (.block 3
                  (.seq (.block 2
                    (.seq (.block 1
                      (.seq (.seq (.seq (.ops [⟨some 13, .bin .eql (.tmp 11) (.con (.int .i64 2)), none, 0⟩,
                           ⟨some 12, .mov (.tmp 13), none, 0⟩])
                        (.cond (.tmp 12)
                         (.exit 1)
                         .skip))
                       (.seq (.seq (.ops [⟨some 15, .bin .eql (.tmp 11) (.con (.int .i64 1)), none, 0⟩,
                           ⟨some 14, .mov (.tmp 15), none, 0⟩])
                        (.cond (.tmp 14)
                         (.exit 2)
                         .skip))
                       (.seq (.seq (.ops [⟨some 17, .bin .eql (.tmp 11) (.con (.int .i64 3)), none, 0⟩,
                           ⟨some 16, .mov (.tmp 17), none, 0⟩])
                        (.cond (.tmp 16)
                         (.exit 3)
                         .skip))
                       (.seq (.seq (.ops [⟨some 19, .bin .eql (.tmp 11) (.con (.int .i64 6)), none, 0⟩,
                           ⟨some 18, .mov (.tmp 19), none, 0⟩])
                        (.cond (.tmp 18)
                         (.exit 4)
                         .skip))
                       (.seq (.seq (.ops [⟨some 21, .bin .eql (.tmp 11) (.con (.int .i64 5)), none, 0⟩,
                           ⟨some 20, .mov (.tmp 21), none, 0⟩])
                        (.cond (.tmp 20)
                         (.exit 5)
                         .skip))
                       (.seq (.seq (.ops [⟨some 23, .bin .eql (.tmp 11) (.con (.int .i64 4)), none, 0⟩,
                           ⟨some 22, .mov (.tmp 23), none, 0⟩])
                        (.cond (.tmp 22)
                         (.exit 6)
                         .skip))
                       (.seq (.seq (.ops [⟨some 25, .bin .eql (.tmp 11) (.con (.int .i64 7)), none, 0⟩,
                           ⟨some 24, .mov (.tmp 25), none, 0⟩])
                        (.cond (.tmp 24)
                         (.exit 7)
                         .skip))
                       (.seq (.ops [⟨some 27, .bin .eql (.tmp 11) (.con (.int .i64 8)), none, 0⟩,
                          ⟨some 26, .mov (.tmp 27), none, 0⟩])
                       (.cond (.tmp 26)
                        (.exit 8)
                        .skip)))))))))
                      (.exit 9)))
                    (.exit 0)))
                  (.seq (.seq (.seq (.ops [⟨some 28, .fieldAddr 11 (.tmp 1), none, 0⟩,
                       ⟨some 29, .load 1 false (.tmp 28), none, 0⟩,
                       ⟨some 30, .len (.tmp 29), none, 0⟩,
                       ⟨some 31, .mov (.con (.int .i64 0)), none, 0⟩])
                    (.block 10
                     (.loop f_ddl_Plain_k0 f_ddl_Plain_b0)))
                   (.seq (.ops [⟨some 39, .fieldAddr 4 (.tmp 3), none, 0⟩,
                      ⟨none, .store 1 (.tmp 39) (.con (.str [])), none, 0⟩])
                   (.seq (.ops [⟨some 40, .load 11 true (.tmp 3), none, 0⟩,
                      ⟨some 41, .build [.int .i64 0, .str [], .str [], .str [], .str [], .int .i64 0, .int .i64 0, .bool false, .int .i64 0, .int .i64 0, .str []] [], none, 0⟩,
                      ⟨some 42, .eqA false (.struct [(0, 1, .int), (1, 1, .str), (2, 1, .str), (3, 1, .str), (4, 1, .str), (5, 2, (.struct [(0, 1, .int), (1, 1, .int)])), (7, 1, .bool), (8, 3, (.struct [(0, 1, .int), (1, 1, .int), (2, 1, .str)]))]) (.tmp 40) (.tmp 41), none, 0⟩,
                      ⟨some 2, .mov (.tmp 42), none, 0⟩])
                   .ret)))
                  (.exit 0))))
                (.seq (.ops [⟨some 43, .fieldAddr 3 (.tmp 3), none, 0⟩,
                   ⟨none, .store 1 (.tmp 43) (.con (.str [])), none, 0⟩])
                (.exit 0))))
              (.ops [⟨some 44, .fieldAddr 3 (.tmp 3), none, 0⟩,
                ⟨none, .store 1 (.tmp 44) (.con (.str [])), none, 0⟩])))
            (.seq (.ops [⟨some 45, .fieldAddr 2 (.tmp 3), none, 0⟩,
               ⟨none, .store 1 (.tmp 45) (.con (.str [])), none, 0⟩])
            (.exit 0))))
          (.ops [⟨some 46, .build [.int .i64 0, .int .i64 0, .str []] [], none, 0⟩,
            ⟨some 47, .fieldAddr 7 (.tmp 3), none, 0⟩,
            ⟨none, .store 1 (.tmp 47) (.con (.bool false)), none, 0⟩,
            ⟨some 48, .fieldAddr 8 (.tmp 3), none, 0⟩,
            ⟨none, .store 3 (.tmp 48) (.tmp 46), none, 0⟩])))
        (.seq (.ops [⟨some 49, .build [.int .i64 0, .int .i64 0] [], none, 0⟩,
           ⟨some 50, .fieldAddr 2 (.tmp 3), none, 0⟩,
           ⟨none, .store 1 (.tmp 50) (.con (.str [])), none, 0⟩,
           ⟨some 51, .fieldAddr 5 (.tmp 3), none, 0⟩,
           ⟨none, .store 2 (.tmp 51) (.tmp 49), none, 0⟩])
        (.exit 0))))
      (.seq (.ops [⟨some 52, .build [.int .i64 0, .int .i64 0, .str []] [], none, 0⟩,
         ⟨some 53, .fieldAddr 2 (.tmp 3), none, 0⟩,
         ⟨none, .store 1 (.tmp 53) (.con (.str [])), none, 0⟩,
         ⟨some 54, .fieldAddr 8 (.tmp 3), none, 0⟩,
         ⟨none, .store 3 (.tmp 54) (.tmp 52), none, 0⟩])
      (.exit 0))))
    (.seq (.seq (.ops [⟨some 2, .mov (.con (.bool false)), none, 0⟩])
     .ret)
    (.exit 0)))))
  (.seq (.ops [⟨some 55, .fieldAddr 11 (.tmp 1), none, 0⟩,
     ⟨some 56, .load 1 false (.tmp 55), none, 0⟩,
     ⟨some 57, .len (.tmp 56), none, 0⟩,
     ⟨some 58, .bin .eql (.tmp 57) (.con (.int .i64 0)), none, 0⟩,
     ⟨some 59, .mov (.tmp 58), none, 0⟩,
     ⟨some 60, .load 11 true (.tmp 3), some (59, true), 0⟩,
     ⟨some 61, .build [.int .i64 0, .str [], .str [], .str [], .str [], .int .i64 0, .int .i64 0, .bool false, .int .i64 0, .int .i64 0, .str []] [], some (59, true), 0⟩,
     ⟨some 62, .eqA false (.struct [(0, 1, .int), (1, 1, .str), (2, 1, .str), (3, 1, .str), (4, 1, .str), (5, 2, (.struct [(0, 1, .int), (1, 1, .int)])), (7, 1, .bool), (8, 3, (.struct [(0, 1, .int), (1, 1, .int), (2, 1, .str)]))]) (.tmp 60) (.tmp 61), some (59, true), 0⟩,
     ⟨some 63, .pick (.tmp 59) (.tmp 62) (.con (.bool false)), none, 0⟩,
     ⟨some 2, .mov (.tmp 63), none, 0⟩])
  .ret))))) }
def f_ddltext_names_k0 : List Bool := [false, false, false, false, false, true, true, true, false, false, false, false, false, false, false]
def f_ddltext_names_b0 : XCode :=
  (.seq (.ops [⟨some 8, .bin .lss (.tmp 7) (.tmp 6), none, 0⟩])
 (.seq (.cond (.tmp 8)
   .skip
   (.exit 0))
 (.seq (.block 1
   (.seq (.ops [⟨some 9, .addrRow 1 (.tmp 5) (.tmp 7), none, 0⟩,
      ⟨some 10, .load 1 false (.tmp 9), none, 0⟩,
      ⟨some 4, .mov (.tmp 10), none, 0⟩])
   (.seq (.ops [⟨some 11, .mov (.tmp 4), none, 0⟩,
      ⟨some 12, .call (.fn 270) [(.tmp 11)], none, 0⟩,
      ⟨some 13, .un .not (.tmp 12), none, 0⟩])
   (.cond (.tmp 13)
    (.seq (.ops [⟨some 2, .mov (.con (.bool false)), none, 0⟩])
     .ret)
    .skip))))
 (.ops [⟨some 14, .bin .add (.tmp 7) (.con (.int .i64 1)), none, 0⟩,
   ⟨some 7, .mov (.tmp 14), none, 0⟩]))))
def f_ddltext_names_s0 (t5 t6 t7 : AV) : List AV := [.unk, .unk, .unk, .unk, .unk, t5, t6, t7, .unk, .unk, .unk, .unk, .unk, .unk, .unk]
def f_ddltext_names : XFunc := { ntmps := 15, res := [.tmp 2], pure := true, body :=
  (.seq (.ops [⟨some 2, .mov (.con (.bool false)), none, 0⟩])
  (.seq (.seq (.ops [⟨some 5, .mov (.tmp 0), none, 0⟩,
      ⟨some 6, .len (.tmp 5), none, 0⟩,
      ⟨some 7, .mov (.con (.int .i64 0)), none, 0⟩])
   (.block 0
    (.loop f_ddltext_names_k0 f_ddltext_names_b0)))
  (.seq (.ops [⟨some 2, .mov (.con (.bool true)), none, 0⟩])
  .ret))) }
def f_ddltext_column : XFunc := { ntmps := 17, res := [.tmp 2], pure := true, body :=
  (.seq (.ops [⟨some 1, .box (.tmp 0), none, 0⟩,
     ⟨some 2, .mov (.con (.bool false)), none, 0⟩])
  (.seq (.ops [⟨some 3, .fieldAddr 1 (.tmp 1), none, 0⟩,
     ⟨some 4, .load 1 false (.tmp 3), none, 0⟩,
     ⟨some 5, .rowLit false 1 1 [.str []] [(0, 1, (.tmp 4))], none, 0⟩,
     ⟨some 6, .call (.fn 267) [(.tmp 5)], none, 0⟩,
     ⟨some 7, .mov (.tmp 6), none, 0⟩,
     ⟨some 8, .fieldAddr 2 (.tmp 1), some (7, true), 0⟩,
     ⟨some 9, .load 2 true (.tmp 8), some (7, true), 0⟩,
     ⟨some 10, .call (.fn 84) [(.tmp 9)], some (7, true), 0⟩,
     ⟨some 11, .pick (.tmp 7) (.tmp 10) (.con (.bool false)), none, 0⟩,
     ⟨some 12, .mov (.tmp 11), none, 0⟩,
     ⟨some 13, .fieldAddr 5 (.tmp 1), some (12, true), 0⟩,
     ⟨some 14, .load 3 true (.tmp 13), some (12, true), 0⟩,
     ⟨some 15, .call (.fn 33) [(.tmp 14)], some (12, true), 0⟩,
     ⟨some 16, .pick (.tmp 12) (.tmp 15) (.con (.bool false)), none, 0⟩,
     ⟨some 2, .mov (.tmp 16), none, 0⟩])
  .ret)) }
def f_strings_Builder_Len : XFunc := { ntmps := 8, res := [.tmp 2], pure := false, body :=
  (.seq (.ops [⟨some 2, .mov (.con (.int .i64 0)), none, 0⟩])
  (.seq (.ops [⟨some 3, .mov (.tmp 0), none, 0⟩,
     ⟨some 4, .nilCheck (.tmp 3), none, 0⟩,
     ⟨some 5, .fieldAddr 1 (.tmp 4), none, 0⟩,
     ⟨some 6, .load 1 false (.tmp 5), none, 0⟩,
     ⟨some 7, .len (.tmp 6), none, 0⟩,
     ⟨some 2, .mov (.tmp 7), none, 0⟩])
  .ret)) }
def f_name_Right : XFunc := { ntmps := 17, res := [.tmp 2], pure := true, body :=
  (.seq (.ops [⟨some 2, .mov (.con (.bool false)), none, 0⟩])
  (.seq (.ops [⟨some 3, .mov (.tmp 0), none, 0⟩,
     ⟨some 4, .bin .neq (.tmp 3) (.con (.str [])), none, 0⟩,
     ⟨some 5, .mov (.tmp 4), none, 0⟩,
     ⟨some 6, .mov (.tmp 0), some (5, true), 0⟩,
     ⟨some 7, .lenS (.tmp 6), some (5, true), 0⟩,
     ⟨some 8, .bin .leq (.tmp 7) (.con (.int .i64 16)), some (5, true), 0⟩,
     ⟨some 9, .pick (.tmp 5) (.tmp 8) (.con (.bool false)), none, 0⟩,
     ⟨some 10, .mov (.tmp 9), none, 0⟩,
     ⟨some 11, .mov (.tmp 0), some (10, true), 0⟩,
     ⟨some 12, .call (.fn 50) [(.tmp 11)], some (10, true), 0⟩,
     ⟨some 13, .mov (.tmp 0), some (10, true), 0⟩,
     ⟨some 14, .lenS (.tmp 13), some (10, true), 0⟩,
     ⟨some 15, .bin .eql (.tmp 12) (.tmp 14), some (10, true), 0⟩,
     ⟨some 16, .pick (.tmp 10) (.tmp 15) (.con (.bool false)), none, 0⟩,
     ⟨some 2, .mov (.tmp 16), none, 0⟩])
  .ret)) }
def f_ddltext_reader_sign : XFunc := { ntmps := 23, res := [.tmp 4], pure := false, body :=
  (.seq (.ops [⟨some 4, .mov (.con (.bool false)), none, 0⟩])
  (.seq (.ops [⟨some 6, .mov (.tmp 0), none, 0⟩,
     ⟨some 7, .call (.fn 239) [(.tmp 6)], none, 0⟩,
     ⟨some 5, .mov (.tmp 7), none, 0⟩])
  (.seq (.seq (.ops [⟨some 8, .mov (.tmp 5), none, 0⟩,
      ⟨some 9, .bin .eql (.tmp 8) (.con (.str [])), none, 0⟩,
      ⟨some 10, .mov (.tmp 9), none, 0⟩,
      ⟨some 11, .mov (.tmp 5), some (10, false), 0⟩,
      ⟨some 12, .indexStr (.tmp 11) (.con (.int .i64 0)), some (10, false), 0⟩,
      ⟨some 13, .mov (.tmp 1), some (10, false), 0⟩,
      ⟨some 14, .bin .neq (.tmp 12) (.tmp 13), some (10, false), 0⟩,
      ⟨some 15, .pick (.tmp 10) (.con (.bool true)) (.tmp 14), none, 0⟩])
   (.cond (.tmp 15)
    (.seq (.ops [⟨some 4, .mov (.con (.bool false)), none, 0⟩])
     .ret)
    .skip))
  (.seq (.ops [⟨some 16, .mov (.tmp 0), none, 0⟩,
     ⟨some 17, .nilCheck (.tmp 16), none, 0⟩,
     ⟨some 18, .fieldAddr 1 (.tmp 17), none, 0⟩,
     ⟨some 19, .load 1 false (.tmp 18), none, 0⟩,
     ⟨some 20, .bin .add (.tmp 19) (.con (.int .i64 1)), none, 0⟩,
     ⟨some 21, .nilCheck (.tmp 16), none, 0⟩,
     ⟨some 22, .fieldAddr 1 (.tmp 21), none, 0⟩,
     ⟨none, .store 1 (.tmp 22) (.tmp 20), none, 0⟩])
  (.seq (.ops [⟨some 4, .mov (.con (.bool true)), none, 0⟩])
  .ret))))) }
def f_ddltext_reader_take : XFunc := { ntmps := 18, res := [.tmp 4], pure := false, body :=
  (.seq (.ops [⟨some 4, .mov (.con (.bool false)), none, 0⟩])
  (.seq (.seq (.ops [⟨some 5, .mov (.tmp 0), none, 0⟩,
      ⟨some 6, .call (.fn 251) [(.tmp 5)], none, 0⟩,
      ⟨some 7, .mov (.tmp 1), none, 0⟩,
      ⟨some 8, .bin .neq (.tmp 6) (.tmp 7), none, 0⟩])
   (.cond (.tmp 8)
    (.seq (.ops [⟨some 4, .mov (.con (.bool false)), none, 0⟩])
     .ret)
    .skip))
  (.seq (.ops [⟨some 9, .mov (.tmp 0), none, 0⟩,
     ⟨some 10, .nilCheck (.tmp 9), none, 0⟩,
     ⟨some 11, .fieldAddr 1 (.tmp 10), none, 0⟩,
     ⟨some 12, .load 1 false (.tmp 11), none, 0⟩,
     ⟨some 13, .mov (.tmp 1), none, 0⟩,
     ⟨some 14, .lenS (.tmp 13), none, 0⟩,
     ⟨some 15, .bin .add (.tmp 12) (.tmp 14), none, 0⟩,
     ⟨some 16, .nilCheck (.tmp 9), none, 0⟩,
     ⟨some 17, .fieldAddr 1 (.tmp 16), none, 0⟩,
     ⟨none, .store 1 (.tmp 17) (.tmp 15), none, 0⟩])
  (.seq (.ops [⟨some 4, .mov (.con (.bool true)), none, 0⟩])
  .ret)))) }
def f_ddl_flat : XFunc := { ntmps := 20, res := [.cell 2 11 true], pure := true, body :=
  (.seq (.ops [⟨some 1, .box (.tmp 0), none, 0⟩,
     ⟨some 2, .alloc [.int .i64 0, .str [], .str [], .str [], .str [], .int .i64 0, .int .i64 0, .bool false, .int .i64 0, .int .i64 0, .str []], none, 0⟩])
  (.seq (.ops [⟨some 3, .fieldAddr 0 (.tmp 1), none, 0⟩,
     ⟨some 4, .load 1 false (.tmp 3), none, 0⟩,
     ⟨some 5, .fieldAddr 1 (.tmp 1), none, 0⟩,
     ⟨some 6, .load 1 false (.tmp 5), none, 0⟩,
     ⟨some 7, .fieldAddr 2 (.tmp 1), none, 0⟩,
     ⟨some 8, .load 1 false (.tmp 7), none, 0⟩,
     ⟨some 9, .fieldAddr 3 (.tmp 1), none, 0⟩,
     ⟨some 10, .load 1 false (.tmp 9), none, 0⟩,
     ⟨some 11, .fieldAddr 4 (.tmp 1), none, 0⟩,
     ⟨some 12, .load 1 false (.tmp 11), none, 0⟩,
     ⟨some 13, .fieldAddr 5 (.tmp 1), none, 0⟩,
     ⟨some 14, .load 2 true (.tmp 13), none, 0⟩,
     ⟨some 15, .fieldAddr 7 (.tmp 1), none, 0⟩,
     ⟨some 16, .load 1 false (.tmp 15), none, 0⟩,
     ⟨some 17, .fieldAddr 8 (.tmp 1), none, 0⟩,
     ⟨some 18, .load 3 true (.tmp 17), none, 0⟩,
     ⟨some 19, .build [.int .i64 0, .str [], .str [], .str [], .str [], .int .i64 0, .int .i64 0, .bool false, .int .i64 0, .int .i64 0, .str []] [(0, 1, (.tmp 4)), (1, 1, (.tmp 6)), (2, 1, (.tmp 8)), (3, 1, (.tmp 10)), (4, 1, (.tmp 12)), (5, 2, (.tmp 14)), (7, 1, (.tmp 16)), (8, 3, (.tmp 18))], none, 0⟩,
     ⟨none, .store 11 (.tmp 2) (.tmp 19), none, 0⟩])
  .ret)) }
end Hx.Fn
