/- HxFn10: written by gen.py -/
import Derived.Test.YtfobhbameffplaaHxDefs
namespace Hx.Fn
open Go
def f_haulageref09_Same : XFunc := { ntmps := 66, res := [.tmp 4], pure := true, body :=
  (.seq (.ops [⟨some 2, .box (.tmp 0), none, 0⟩,
     ⟨some 3, .box (.tmp 1), none, 0⟩,
     ⟨some 4, .mov (.con (.bool false)), none, 0⟩])
  (.seq (.ops [⟨some 5, .fieldAddr 0 (.tmp 2), none, 0⟩,
     ⟨some 6, .load 1 false (.tmp 5), none, 0⟩,
     ⟨some 7, .fieldAddr 0 (.tmp 3), none, 0⟩,
     ⟨some 8, .load 1 false (.tmp 7), none, 0⟩,
     ⟨some 9, .bin .eql (.tmp 6) (.tmp 8), none, 0⟩,
     ⟨some 10, .mov (.tmp 9), none, 0⟩,
     ⟨some 11, .fieldAddr 1 (.tmp 2), some (10, true), 0⟩,
     ⟨some 12, .load 1 false (.tmp 11), some (10, true), 0⟩,
     ⟨some 13, .fieldAddr 1 (.tmp 3), some (10, true), 0⟩,
     ⟨some 14, .load 1 false (.tmp 13), some (10, true), 0⟩,
     ⟨some 15, .bin .eql (.tmp 12) (.tmp 14), some (10, true), 0⟩,
     ⟨some 16, .pick (.tmp 10) (.tmp 15) (.con (.bool false)), none, 0⟩,
     ⟨some 17, .mov (.tmp 16), none, 0⟩,
     ⟨some 18, .fieldAddr 2 (.tmp 2), some (17, true), 0⟩,
     ⟨some 19, .load 1 false (.tmp 18), some (17, true), 0⟩,
     ⟨some 20, .fieldAddr 2 (.tmp 3), some (17, true), 0⟩,
     ⟨some 21, .load 1 false (.tmp 20), some (17, true), 0⟩,
     ⟨some 22, .bin .eql (.tmp 19) (.tmp 21), some (17, true), 0⟩,
     ⟨some 23, .pick (.tmp 17) (.tmp 22) (.con (.bool false)), none, 0⟩,
     ⟨some 24, .mov (.tmp 23), none, 0⟩,
     ⟨some 25, .fieldAddr 3 (.tmp 2), some (24, true), 0⟩,
     ⟨some 26, .load 1 false (.tmp 25), some (24, true), 0⟩,
     ⟨some 27, .fieldAddr 3 (.tmp 3), some (24, true), 0⟩,
     ⟨some 28, .load 1 false (.tmp 27), some (24, true), 0⟩,
     ⟨some 29, .bin .eql (.tmp 26) (.tmp 28), some (24, true), 0⟩,
     ⟨some 30, .pick (.tmp 24) (.tmp 29) (.con (.bool false)), none, 0⟩,
     ⟨some 31, .mov (.tmp 30), none, 0⟩,
     ⟨some 32, .fieldAddr 4 (.tmp 2), some (31, true), 0⟩,
     ⟨some 33, .load 1 false (.tmp 32), some (31, true), 0⟩,
     ⟨some 34, .fieldAddr 4 (.tmp 3), some (31, true), 0⟩,
     ⟨some 35, .load 1 false (.tmp 34), some (31, true), 0⟩,
     ⟨some 36, .bin .eql (.tmp 33) (.tmp 35), some (31, true), 0⟩,
     ⟨some 37, .pick (.tmp 31) (.tmp 36) (.con (.bool false)), none, 0⟩,
     ⟨some 38, .mov (.tmp 37), none, 0⟩,
     ⟨some 39, .fieldAddr 5 (.tmp 2), some (38, true), 0⟩,
     ⟨some 40, .load 2 true (.tmp 39), some (38, true), 0⟩,
     ⟨some 41, .fieldAddr 5 (.tmp 3), some (38, true), 0⟩,
     ⟨some 42, .load 2 true (.tmp 41), some (38, true), 0⟩,
     ⟨some 43, .eqA false (.struct [(0, 1, .int), (1, 1, .int)]) (.tmp 40) (.tmp 42), some (38, true), 0⟩,
     ⟨some 44, .pick (.tmp 38) (.tmp 43) (.con (.bool false)), none, 0⟩,
     ⟨some 45, .mov (.tmp 44), none, 0⟩,
     ⟨some 46, .fieldAddr 7 (.tmp 2), some (45, true), 0⟩,
     ⟨some 47, .load 1 false (.tmp 46), some (45, true), 0⟩,
     ⟨some 48, .fieldAddr 7 (.tmp 3), some (45, true), 0⟩,
     ⟨some 49, .load 1 false (.tmp 48), some (45, true), 0⟩,
     ⟨some 50, .eqB false (.tmp 47) (.tmp 49), some (45, true), 0⟩,
     ⟨some 51, .pick (.tmp 45) (.tmp 50) (.con (.bool false)), none, 0⟩,
     ⟨some 52, .mov (.tmp 51), none, 0⟩,
     ⟨some 53, .fieldAddr 8 (.tmp 2), some (52, true), 0⟩,
     ⟨some 54, .load 3 true (.tmp 53), some (52, true), 0⟩,
     ⟨some 55, .fieldAddr 8 (.tmp 3), some (52, true), 0⟩,
     ⟨some 56, .load 3 true (.tmp 55), some (52, true), 0⟩,
     ⟨some 57, .eqA false (.struct [(0, 1, .int), (1, 1, .int), (2, 1, .str)]) (.tmp 54) (.tmp 56), some (52, true), 0⟩,
     ⟨some 58, .pick (.tmp 52) (.tmp 57) (.con (.bool false)), none, 0⟩,
     ⟨some 59, .mov (.tmp 58), none, 0⟩,
     ⟨some 60, .fieldAddr 11 (.tmp 2), some (59, true), 0⟩,
     ⟨some 61, .load 1 false (.tmp 60), some (59, true), 0⟩,
     ⟨some 62, .fieldAddr 11 (.tmp 3), some (59, true), 0⟩,
     ⟨some 63, .load 1 false (.tmp 62), some (59, true), 0⟩,
     ⟨some 64, .call (.fn 193) [(.tmp 61), (.tmp 63)], some (59, true), 0⟩,
     ⟨some 65, .pick (.tmp 59) (.tmp 64) (.con (.bool false)), none, 0⟩,
     ⟨some 4, .mov (.tmp 65), none, 0⟩])
  .ret)) }
def f_haulagelaw09_Few : XFunc := { ntmps := 30, res := [.tmp 2], pure := true, body :=
  (.seq (.ops [⟨some 1, .box (.tmp 0), none, 0⟩,
     ⟨some 2, .mov (.con (.bool false)), none, 0⟩])
  (.seq (.ops [⟨some 3, .fieldAddr 1 (.tmp 1), none, 0⟩,
     ⟨some 4, .load 1 false (.tmp 3), none, 0⟩,
     ⟨some 5, .lenS (.tmp 4), none, 0⟩,
     ⟨some 6, .fieldAddr 2 (.tmp 1), none, 0⟩,
     ⟨some 7, .load 1 false (.tmp 6), none, 0⟩,
     ⟨some 8, .lenS (.tmp 7), none, 0⟩,
     ⟨some 9, .bin .add (.tmp 5) (.tmp 8), none, 0⟩,
     ⟨some 10, .fieldAddr 3 (.tmp 1), none, 0⟩,
     ⟨some 11, .load 1 false (.tmp 10), none, 0⟩,
     ⟨some 12, .lenS (.tmp 11), none, 0⟩,
     ⟨some 13, .bin .add (.tmp 9) (.tmp 12), none, 0⟩,
     ⟨some 14, .fieldAddr 4 (.tmp 1), none, 0⟩,
     ⟨some 15, .load 1 false (.tmp 14), none, 0⟩,
     ⟨some 16, .lenS (.tmp 15), none, 0⟩,
     ⟨some 17, .bin .add (.tmp 13) (.tmp 16), none, 0⟩,
     ⟨some 18, .fieldAddr 8 (.tmp 1), none, 0⟩,
     ⟨some 19, .fieldAddr 2 (.tmp 18), none, 0⟩,
     ⟨some 20, .load 1 false (.tmp 19), none, 0⟩,
     ⟨some 21, .lenS (.tmp 20), none, 0⟩,
     ⟨some 22, .bin .add (.tmp 17) (.tmp 21), none, 0⟩,
     ⟨some 23, .bin .leq (.tmp 22) (.con (.int .i64 600)), none, 0⟩,
     ⟨some 24, .mov (.tmp 23), none, 0⟩,
     ⟨some 25, .fieldAddr 11 (.tmp 1), some (24, true), 0⟩,
     ⟨some 26, .load 1 false (.tmp 25), some (24, true), 0⟩,
     ⟨some 27, .build [.int .i64 0, .str [], .int .i64 0, .int .i64 0, .nils] [(4, 1, (.tmp 26))], some (24, true), 0⟩,
     ⟨some 28, .call (.fn 169) [(.tmp 27)], some (24, true), 0⟩,
     ⟨some 29, .pick (.tmp 24) (.tmp 28) (.con (.bool false)), none, 0⟩,
     ⟨some 2, .mov (.tmp 29), none, 0⟩])
  .ret)) }
def f_haulageref08_SameCols_k0 : List Bool := [true, true, false, false, false, true, false, false, false, false, false, false, false, false, false, false, false, false, false, false, false, false, false, false, false, false]
def f_haulageref08_SameCols_b0 : XCode :=
  (.seq (.seq (.ops [⟨some 11, .mov (.tmp 5), none, 0⟩,
     ⟨some 12, .mov (.tmp 0), none, 0⟩,
     ⟨some 13, .len (.tmp 12), none, 0⟩,
     ⟨some 14, .bin .lss (.tmp 11) (.tmp 13), none, 0⟩])
  (.cond (.tmp 14)
   .skip
   (.exit 0)))
 (.seq (.block 1
   (.seq (.draw [⟨some 17, .mov (.tmp 0), none, 0⟩,
      ⟨some 18, .mov (.tmp 5), none, 0⟩,
      ⟨some 19, .addrRow 8 (.tmp 17) (.tmp 18), none, 0⟩,
      ⟨some 20, .load 8 true (.tmp 19), none, 0⟩,
      ⟨some 21, .mov (.tmp 1), none, 0⟩,
      ⟨some 22, .mov (.tmp 5), none, 0⟩,
      ⟨some 23, .addrRow 8 (.tmp 21) (.tmp 22), none, 0⟩,
      ⟨some 24, .load 8 true (.tmp 23), none, 0⟩,
      ⟨some 25, .eqA true (.struct [(0, 1, .int), (1, 1, .str), (2, 2, (.struct [(0, 1, .int), (1, 1, .int)])), (4, 1, .bool), (5, 3, (.struct [(0, 1, .int), (1, 1, .int), (2, 1, .str)]))]) (.tmp 20) (.tmp 24), none, 0⟩]
     [[], [], [0, 1], [0, 1, 2], [], [], [4, 5], [4, 5, 6], [0, 1, 2, 3, 4, 5, 6, 7]])
   (.cond (.tmp 25)
    (.seq (.ops [⟨some 4, .mov (.con (.bool false)), none, 0⟩])
     .ret)
    .skip)))
 (.ops [⟨some 15, .mov (.tmp 5), none, 0⟩,
   ⟨some 16, .bin .add (.tmp 15) (.con (.int .i64 1)), none, 0⟩,
   ⟨some 5, .mov (.tmp 16), none, 0⟩])))
def f_haulageref08_SameCols_s0 (t0 t1 t5 : AV) : List AV := [t0, t1, .unk, .unk, .unk, t5, .unk, .unk, .unk, .unk, .unk, .unk, .unk, .unk, .unk, .unk, .unk, .unk, .unk, .unk, .unk, .unk, .unk, .unk, .unk, .unk]
def f_haulageref08_SameCols : XFunc := { ntmps := 26, res := [.tmp 4], pure := true, body :=
  (.seq (.ops [⟨some 4, .mov (.con (.bool false)), none, 0⟩])
  (.seq (.seq (.ops [⟨some 6, .mov (.tmp 0), none, 0⟩,
      ⟨some 7, .len (.tmp 6), none, 0⟩,
      ⟨some 8, .mov (.tmp 1), none, 0⟩,
      ⟨some 9, .len (.tmp 8), none, 0⟩,
      ⟨some 10, .bin .neq (.tmp 7) (.tmp 9), none, 0⟩])
   (.cond (.tmp 10)
    (.seq (.ops [⟨some 4, .mov (.con (.bool false)), none, 0⟩])
     .ret)
    .skip))
  (.seq (.seq (.ops [⟨some 5, .mov (.con (.int .i64 0)), none, 0⟩])
   (.block 0
    (.loop f_haulageref08_SameCols_k0 f_haulageref08_SameCols_b0)))
  (.seq (.ops [⟨some 4, .mov (.con (.bool true)), none, 0⟩])
  .ret)))) }
def f_haulagelaw08_Few_k0 : List Bool := [false, true, false, true, false, false, false, false, false, false, false, false, false, false, false, false, false, false, false, false, false, false, false, false, false, false, false, false, false, false, false, false, false, false, false, false, false, false, false, false]
def f_haulagelaw08_Few_b0 : XCode :=
  (.seq (.seq (.ops [⟨some 14, .mov (.tmp 3), none, 0⟩,
     ⟨some 15, .fieldAddr 4 (.tmp 1), none, 0⟩,
     ⟨some 16, .load 1 false (.tmp 15), none, 0⟩,
     ⟨some 17, .len (.tmp 16), none, 0⟩,
     ⟨some 18, .bin .lss (.tmp 14) (.tmp 17), none, 0⟩])
  (.cond (.tmp 18)
   .skip
   (.exit 0)))
 (.seq (.block 1
   (.seq (.ops [⟨some 21, .fieldAddr 4 (.tmp 1), none, 0⟩,
      ⟨some 22, .load 1 false (.tmp 21), none, 0⟩,
      ⟨some 23, .mov (.tmp 3), none, 0⟩,
      ⟨some 24, .addrRow 8 (.tmp 22) (.tmp 23), none, 0⟩,
      ⟨some 25, .fieldAddr 1 (.tmp 24), none, 0⟩,
      ⟨some 26, .load 1 false (.tmp 25), none, 0⟩,
      ⟨some 27, .call (.fn 170) [(.tmp 26)], none, 0⟩,
      ⟨some 28, .un .not (.tmp 27), none, 0⟩,
      ⟨some 29, .mov (.tmp 28), none, 0⟩,
      ⟨some 30, .fieldAddr 4 (.tmp 1), some (29, false), 0⟩,
      ⟨some 31, .load 1 false (.tmp 30), some (29, false), 0⟩,
      ⟨some 32, .mov (.tmp 3), some (29, false), 0⟩,
      ⟨some 33, .addrRow 8 (.tmp 31) (.tmp 32), some (29, false), 0⟩,
      ⟨some 34, .fieldAddr 5 (.tmp 33), some (29, false), 0⟩,
      ⟨some 35, .fieldAddr 2 (.tmp 34), some (29, false), 0⟩,
      ⟨some 36, .load 1 false (.tmp 35), some (29, false), 0⟩,
      ⟨some 37, .call (.fn 170) [(.tmp 36)], some (29, false), 0⟩,
      ⟨some 38, .un .not (.tmp 37), some (29, false), 0⟩,
      ⟨some 39, .pick (.tmp 29) (.con (.bool true)) (.tmp 38), none, 0⟩])
   (.cond (.tmp 39)
    (.seq (.ops [⟨some 2, .mov (.con (.bool false)), none, 0⟩])
     .ret)
    .skip)))
 (.ops [⟨some 19, .mov (.tmp 3), none, 0⟩,
   ⟨some 20, .bin .add (.tmp 19) (.con (.int .i64 1)), none, 0⟩,
   ⟨some 3, .mov (.tmp 20), none, 0⟩])))
def f_haulagelaw08_Few_s0 (t1 t3 : AV) : List AV := [.unk, t1, .unk, t3, .unk, .unk, .unk, .unk, .unk, .unk, .unk, .unk, .unk, .unk, .unk, .unk, .unk, .unk, .unk, .unk, .unk, .unk, .unk, .unk, .unk, .unk, .unk, .unk, .unk, .unk, .unk, .unk, .unk, .unk, .unk, .unk, .unk, .unk, .unk, .unk]
def f_haulagelaw08_Few : XFunc := { ntmps := 40, res := [.tmp 2], pure := true, body :=
  (.seq (.ops [⟨some 1, .box (.tmp 0), none, 0⟩,
     ⟨some 2, .mov (.con (.bool false)), none, 0⟩])
  (.seq (.seq (.ops [⟨some 4, .fieldAddr 4 (.tmp 1), none, 0⟩,
      ⟨some 5, .load 1 false (.tmp 4), none, 0⟩,
      ⟨some 6, .len (.tmp 5), none, 0⟩,
      ⟨some 7, .bin .gtr (.tmp 6) (.con (.int .i64 20)), none, 0⟩,
      ⟨some 8, .mov (.tmp 7), none, 0⟩,
      ⟨some 9, .fieldAddr 1 (.tmp 1), some (8, false), 0⟩,
      ⟨some 10, .load 1 false (.tmp 9), some (8, false), 0⟩,
      ⟨some 11, .call (.fn 170) [(.tmp 10)], some (8, false), 0⟩,
      ⟨some 12, .un .not (.tmp 11), some (8, false), 0⟩,
      ⟨some 13, .pick (.tmp 8) (.con (.bool true)) (.tmp 12), none, 0⟩])
   (.cond (.tmp 13)
    (.seq (.ops [⟨some 2, .mov (.con (.bool false)), none, 0⟩])
     .ret)
    .skip))
  (.seq (.seq (.ops [⟨some 3, .mov (.con (.int .i64 0)), none, 0⟩])
   (.block 0
    (.loop f_haulagelaw08_Few_k0 f_haulagelaw08_Few_b0)))
  (.seq (.ops [⟨some 2, .mov (.con (.bool true)), none, 0⟩])
  .ret)))) }
def f_haulagelaw08_short : XFunc := { ntmps := 6, res := [.tmp 2], pure := true, body :=
  (.seq (.ops [⟨some 2, .mov (.con (.bool false)), none, 0⟩])
  (.seq (.ops [⟨some 3, .mov (.tmp 0), none, 0⟩,
     ⟨some 4, .lenS (.tmp 3), none, 0⟩,
     ⟨some 5, .bin .leq (.tmp 4) (.con (.int .i64 200)), none, 0⟩,
     ⟨some 2, .mov (.tmp 5), none, 0⟩])
  .ret)) }
def f_haulageref04_Right : XFunc := { ntmps := 18, res := [.tmp 2], pure := true, body :=
  (.seq (.ops [⟨some 2, .mov (.con (.bool false)), none, 0⟩])
  (.seq (.ops [⟨some 3, .mov (.tmp 0), none, 0⟩,
     ⟨some 4, .lenS (.tmp 3), none, 0⟩,
     ⟨some 5, .bin .gtr (.tmp 4) (.con (.int .i64 0)), none, 0⟩,
     ⟨some 6, .mov (.tmp 5), none, 0⟩,
     ⟨some 7, .mov (.tmp 0), some (6, true), 0⟩,
     ⟨some 8, .lenS (.tmp 7), some (6, true), 0⟩,
     ⟨some 9, .bin .leq (.tmp 8) (.con (.int .i64 16)), some (6, true), 0⟩,
     ⟨some 10, .pick (.tmp 6) (.tmp 9) (.con (.bool false)), none, 0⟩,
     ⟨some 11, .mov (.tmp 10), none, 0⟩,
     ⟨some 12, .mov (.tmp 0), some (11, true), 0⟩,
     ⟨some 13, .call (.fn 51) [(.tmp 12)], some (11, true), 0⟩,
     ⟨some 14, .mov (.tmp 0), some (11, true), 0⟩,
     ⟨some 15, .lenS (.tmp 14), some (11, true), 0⟩,
     ⟨some 16, .bin .eql (.tmp 13) (.tmp 15), some (11, true), 0⟩,
     ⟨some 17, .pick (.tmp 11) (.tmp 16) (.con (.bool false)), none, 0⟩,
     ⟨some 2, .mov (.tmp 17), none, 0⟩])
  .ret)) }
def f_ddl_flat : XFunc := { ntmps := 20, res := [.cell 2 11 true], pure := true, body :=
  (.seq (.ops [⟨some 1, .box (.tmp 0), none, 0⟩,
     ⟨some 2, .alloc [.int .i64 0, .str [], .str [], .str [], .str [], .int .i64 0, .int .i64 0, .bool false, .int .i64 0, .int .i64 0, .str []], none, 0⟩])
  (.seq (.ops [⟨some 3, .fieldAddr 0 (.tmp 1), none, 0⟩,
     ⟨some 4, .load 1 false (.tmp 3), none, 0⟩,
     ⟨some 5, .fieldAddr 1 (.tmp 1), none, 0⟩,
     ⟨some 6, .load 1 false (.tmp 5), none, 0⟩,
     ⟨some 7, .fieldAddr 2 (.tmp 1), none, 0⟩,
     ⟨some 8, .load 1 false (.tmp 7), none, 0⟩,
     ⟨some 9, .fieldAddr 3 (.tmp 1), none, 0⟩,
     ⟨some 10, .load 1 false (.tmp 9), none, 0⟩,
     ⟨some 11, .fieldAddr 4 (.tmp 1), none, 0⟩,
     ⟨some 12, .load 1 false (.tmp 11), none, 0⟩,
     ⟨some 13, .fieldAddr 5 (.tmp 1), none, 0⟩,
     ⟨some 14, .load 2 true (.tmp 13), none, 0⟩,
     ⟨some 15, .fieldAddr 7 (.tmp 1), none, 0⟩,
     ⟨some 16, .load 1 false (.tmp 15), none, 0⟩,
     ⟨some 17, .fieldAddr 8 (.tmp 1), none, 0⟩,
     ⟨some 18, .load 3 true (.tmp 17), none, 0⟩,
     ⟨some 19, .build [.int .i64 0, .str [], .str [], .str [], .str [], .int .i64 0, .int .i64 0, .bool false, .int .i64 0, .int .i64 0, .str []] [(0, 1, (.tmp 4)), (1, 1, (.tmp 6)), (2, 1, (.tmp 8)), (3, 1, (.tmp 10)), (4, 1, (.tmp 12)), (5, 2, (.tmp 14)), (7, 1, (.tmp 16)), (8, 3, (.tmp 18))], none, 0⟩,
     ⟨none, .store 11 (.tmp 2) (.tmp 19), none, 0⟩])
  .ret)) }
end Hx.Fn
