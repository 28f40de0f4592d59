/- HxFn07: written by gen.py -/
import Derived.Test.YtbdnghmmiobdcaaDoorHxDefs
namespace Hx.Fn
open Go
/-- haulage/haulagelaw07.SortkeyOf -/
def f_haulagelaw07_SortkeyOf : XFunc := { ntmps := 32, res := [.tmp 2], pure := true, body :=
  (.seq (.ops [⟨some 2, .mov (.con (.bool false)), none, 0⟩])
  (.seq (.seq (.ops [⟨some 5, .call (.fn 100) [], none, 0⟩,
      ⟨some 6, .un .not (.tmp 5), none, 0⟩])
   (.cond (.tmp 6)
    (.seq (.ops [⟨some 2, .mov (.con (.bool false)), none, 0⟩])
     .ret)
    .skip))
  (.seq (.seq (.ops [⟨some 7, .mov (.tmp 0), none, 0⟩,
      ⟨some 8, .call (.fn 101) [(.tmp 7)], none, 0⟩,
      ⟨some 9, .un .not (.tmp 8), none, 0⟩])
   (.cond (.tmp 9)
    (.seq (.ops [⟨some 2, .mov (.con (.bool true)), none, 0⟩])
     .ret)
    .skip))
  (.seq (.ops [⟨some 11, .mov (.tmp 0), none, 0⟩,
     ⟨some 12, .call (.fn 102) [(.tmp 11)], none, 0⟩,
     ⟨some 10, .mov (.tmp 12), none, 0⟩,
     ⟨some 13, .extract (.tmp 10) 0, none, 0⟩,
     ⟨some 14, .extract (.tmp 10) 1, none, 0⟩,
     ⟨some 3, .mov (.tmp 13), none, 0⟩,
     ⟨some 4, .mov (.tmp 14), none, 0⟩])
  (.seq (.seq (.ops [⟨some 15, .mov (.tmp 0), none, 0⟩,
      ⟨some 16, .call (.fn 103) [(.tmp 15)], none, 0⟩,
      ⟨some 17, .un .not (.tmp 16), none, 0⟩])
   (.cond (.tmp 17)
    (.seq (.ops [⟨some 18, .mov (.tmp 3), none, 0⟩,
        ⟨some 19, .bin .eql (.tmp 18) (.con (.str [])), none, 0⟩,
        ⟨some 20, .mov (.tmp 19), none, 0⟩,
        ⟨some 21, .mov (.tmp 4), some (20, true), 0⟩,
        ⟨some 22, .bin .eql (.tmp 21) (.con (.int .i64 2)), some (20, true), 0⟩,
        ⟨some 23, .pick (.tmp 20) (.tmp 22) (.con (.bool false)), none, 0⟩,
        ⟨some 2, .mov (.tmp 23), none, 0⟩])
     .ret)
    .skip))
  (.seq (.ops [⟨some 24, .mov (.tmp 3), none, 0⟩,
     ⟨some 25, .mov (.tmp 0), none, 0⟩,
     ⟨some 26, .call (.fn 104) [(.tmp 25)], none, 0⟩,
     ⟨some 27, .bin .eql (.tmp 24) (.tmp 26), none, 0⟩,
     ⟨some 28, .mov (.tmp 27), none, 0⟩,
     ⟨some 29, .mov (.tmp 4), some (28, true), 0⟩,
     ⟨some 30, .bin .eql (.tmp 29) (.con (.int .i64 0)), some (28, true), 0⟩,
     ⟨some 31, .pick (.tmp 28) (.tmp 30) (.con (.bool false)), none, 0⟩,
     ⟨some 2, .mov (.tmp 31), none, 0⟩])
  .ret)))))) }
/-- haulage/haulagelaw07.SortkeyNext -/
def f_haulagelaw07_SortkeyNext : XFunc := { ntmps := 79, res := [.tmp 6], pure := true, body :=
  (.seq (.ops [⟨some 6, .mov (.con (.bool false)), none, 0⟩])
  (.seq (.seq (.ops [⟨some 12, .call (.fn 100) [], none, 0⟩,
      ⟨some 13, .un .not (.tmp 12), none, 0⟩])
   (.cond (.tmp 13)
    (.seq (.ops [⟨some 6, .mov (.con (.bool false)), none, 0⟩])
     .ret)
    .skip))
  (.seq (.seq (.ops [⟨some 14, .mov (.tmp 0), none, 0⟩,
      ⟨some 15, .lenS (.tmp 14), none, 0⟩,
      ⟨some 16, .bin .gtr (.tmp 15) (.con (.int .i64 100)), none, 0⟩,
      ⟨some 17, .mov (.tmp 16), none, 0⟩,
      ⟨some 18, .mov (.tmp 1), some (17, false), 0⟩,
      ⟨some 19, .lenS (.tmp 18), some (17, false), 0⟩,
      ⟨some 20, .bin .gtr (.tmp 19) (.con (.int .i64 100)), some (17, false), 0⟩,
      ⟨some 21, .pick (.tmp 17) (.con (.bool true)) (.tmp 20), none, 0⟩,
      ⟨some 22, .mov (.tmp 21), none, 0⟩,
      ⟨some 23, .mov (.tmp 2), some (22, false), 0⟩,
      ⟨some 24, .lenS (.tmp 23), some (22, false), 0⟩,
      ⟨some 25, .bin .gtr (.tmp 24) (.con (.int .i64 100)), some (22, false), 0⟩,
      ⟨some 26, .pick (.tmp 22) (.con (.bool true)) (.tmp 25), none, 0⟩])
   (.cond (.tmp 26)
    (.seq (.ops [⟨some 6, .mov (.con (.bool true)), none, 0⟩])
     .ret)
    .skip))
  (.seq (.ops [⟨some 28, .mov (.tmp 0), none, 0⟩,
     ⟨some 29, .call (.fn 105) [(.tmp 28)], none, 0⟩,
     ⟨some 27, .mov (.tmp 29), none, 0⟩,
     ⟨some 30, .extract (.tmp 27) 0, none, 0⟩,
     ⟨some 31, .extract (.tmp 27) 1, none, 0⟩,
     ⟨some 7, .mov (.tmp 30), none, 0⟩,
     ⟨some 8, .mov (.tmp 31), none, 0⟩])
  (.seq (.ops [⟨some 33, .mov (.tmp 0), none, 0⟩,
     ⟨some 34, .call (.fn 106) [(.tmp 33)], none, 0⟩,
     ⟨some 32, .mov (.tmp 34), none, 0⟩,
     ⟨some 35, .extract (.tmp 32) 0, none, 0⟩,
     ⟨some 36, .extract (.tmp 32) 1, none, 0⟩,
     ⟨some 9, .mov (.tmp 35), none, 0⟩,
     ⟨some 10, .mov (.tmp 36), none, 0⟩])
  (.seq (.seq (.ops [⟨some 37, .mov (.tmp 7), none, 0⟩,
      ⟨some 38, .mov (.tmp 9), none, 0⟩,
      ⟨some 39, .bin .neq (.tmp 37) (.tmp 38), none, 0⟩,
      ⟨some 40, .mov (.tmp 39), none, 0⟩,
      ⟨some 41, .mov (.tmp 8), some (40, false), 0⟩,
      ⟨some 42, .mov (.tmp 10), some (40, false), 0⟩,
      ⟨some 43, .eqB true (.tmp 41) (.tmp 42), some (40, false), 0⟩,
      ⟨some 44, .pick (.tmp 40) (.con (.bool true)) (.tmp 43), none, 0⟩])
   (.cond (.tmp 44)
    (.seq (.ops [⟨some 6, .mov (.con (.bool false)), none, 0⟩])
     .ret)
    .skip))
  (.seq (.seq (.ops [⟨some 45, .mov (.tmp 8), none, 0⟩,
      ⟨some 46, .un .not (.tmp 45), none, 0⟩])
   (.cond (.tmp 46)
    (.seq (.ops [⟨some 6, .mov (.con (.bool true)), none, 0⟩])
     .ret)
    .skip))
  (.seq (.seq (.ops [⟨some 47, .mov (.tmp 0), none, 0⟩,
      ⟨some 48, .mov (.tmp 1), none, 0⟩,
      ⟨some 49, .bin .add (.tmp 47) (.tmp 48), none, 0⟩,
      ⟨some 50, .mov (.tmp 7), none, 0⟩,
      ⟨some 51, .call (.fn 59) [(.tmp 49), (.tmp 50)], none, 0⟩,
      ⟨some 52, .bin .geq (.tmp 51) (.con (.int .i64 0)), none, 0⟩])
   (.cond (.tmp 52)
    (.seq (.ops [⟨some 6, .mov (.con (.bool false)), none, 0⟩])
     .ret)
    .skip))
  (.seq (.ops [⟨some 53, .mov (.tmp 2), none, 0⟩,
     ⟨some 54, .lenS (.tmp 53), none, 0⟩,
     ⟨some 55, .mov (.tmp 0), none, 0⟩,
     ⟨some 56, .lenS (.tmp 55), none, 0⟩,
     ⟨some 57, .bin .geq (.tmp 54) (.tmp 56), none, 0⟩,
     ⟨some 58, .mov (.tmp 57), none, 0⟩,
     ⟨some 59, .mov (.tmp 2), some (58, true), 0⟩,
     ⟨some 60, .mov (.tmp 0), some (58, true), 0⟩,
     ⟨some 61, .lenS (.tmp 60), some (58, true), 0⟩,
     ⟨some 62, .cutStr (.tmp 59) none (some (.tmp 61)), some (58, true), 0⟩,
     ⟨some 63, .mov (.tmp 0), some (58, true), 0⟩,
     ⟨some 64, .bin .eql (.tmp 62) (.tmp 63), some (58, true), 0⟩,
     ⟨some 65, .pick (.tmp 58) (.tmp 64) (.con (.bool false)), none, 0⟩,
     ⟨some 11, .mov (.tmp 65), none, 0⟩])
  (.seq (.ops [⟨some 66, .mov (.tmp 2), none, 0⟩,
     ⟨some 67, .mov (.tmp 7), none, 0⟩,
     ⟨some 68, .call (.fn 59) [(.tmp 66), (.tmp 67)], none, 0⟩,
     ⟨some 69, .bin .geq (.tmp 68) (.con (.int .i64 0)), none, 0⟩,
     ⟨some 70, .mov (.tmp 69), none, 0⟩,
     ⟨some 71, .mov (.tmp 11), some (70, false), 0⟩,
     ⟨some 72, .pick (.tmp 70) (.con (.bool true)) (.tmp 71), none, 0⟩,
     ⟨some 73, .mov (.tmp 72), none, 0⟩,
     ⟨some 74, .mov (.tmp 2), some (73, false), 0⟩,
     ⟨some 75, .mov (.tmp 0), some (73, false), 0⟩,
     ⟨some 76, .call (.fn 59) [(.tmp 74), (.tmp 75)], some (73, false), 0⟩,
     ⟨some 77, .bin .lss (.tmp 76) (.con (.int .i64 0)), some (73, false), 0⟩,
     ⟨some 78, .pick (.tmp 73) (.con (.bool true)) (.tmp 77), none, 0⟩,
     ⟨some 6, .mov (.tmp 78), none, 0⟩])
  .ret)))))))))) }
/-- haulage/haulagelaw07.SortkeyOrders -/
def f_haulagelaw07_SortkeyOrders : XFunc := { ntmps := 48, res := [.tmp 4], pure := true, body :=
  (.seq (.ops [⟨some 4, .mov (.con (.bool false)), none, 0⟩])
  (.seq (.seq (.ops [⟨some 9, .call (.fn 100) [], none, 0⟩,
      ⟨some 10, .un .not (.tmp 9), none, 0⟩])
   (.cond (.tmp 10)
    (.seq (.ops [⟨some 4, .mov (.con (.bool false)), none, 0⟩])
     .ret)
    .skip))
  (.seq (.seq (.ops [⟨some 11, .mov (.tmp 0), none, 0⟩,
      ⟨some 12, .call (.fn 101) [(.tmp 11)], none, 0⟩,
      ⟨some 13, .un .not (.tmp 12), none, 0⟩,
      ⟨some 14, .mov (.tmp 13), none, 0⟩,
      ⟨some 15, .mov (.tmp 1), some (14, false), 0⟩,
      ⟨some 16, .call (.fn 101) [(.tmp 15)], some (14, false), 0⟩,
      ⟨some 17, .un .not (.tmp 16), some (14, false), 0⟩,
      ⟨some 18, .pick (.tmp 14) (.con (.bool true)) (.tmp 17), none, 0⟩])
   (.cond (.tmp 18)
    (.seq (.ops [⟨some 4, .mov (.con (.bool true)), none, 0⟩])
     .ret)
    .skip))
  (.seq (.ops [⟨some 20, .mov (.tmp 0), none, 0⟩,
     ⟨some 21, .call (.fn 102) [(.tmp 20)], none, 0⟩,
     ⟨some 19, .mov (.tmp 21), none, 0⟩,
     ⟨some 22, .extract (.tmp 19) 0, none, 0⟩,
     ⟨some 23, .extract (.tmp 19) 1, none, 0⟩,
     ⟨some 5, .mov (.tmp 22), none, 0⟩,
     ⟨some 6, .mov (.tmp 23), none, 0⟩])
  (.seq (.ops [⟨some 25, .mov (.tmp 1), none, 0⟩,
     ⟨some 26, .call (.fn 102) [(.tmp 25)], none, 0⟩,
     ⟨some 24, .mov (.tmp 26), none, 0⟩,
     ⟨some 27, .extract (.tmp 24) 0, none, 0⟩,
     ⟨some 28, .extract (.tmp 24) 1, none, 0⟩,
     ⟨some 7, .mov (.tmp 27), none, 0⟩,
     ⟨some 8, .mov (.tmp 28), none, 0⟩])
  (.seq (.seq (.ops [⟨some 29, .mov (.tmp 6), none, 0⟩,
      ⟨some 30, .bin .neq (.tmp 29) (.con (.int .i64 0)), none, 0⟩,
      ⟨some 31, .mov (.tmp 30), none, 0⟩,
      ⟨some 32, .mov (.tmp 8), some (31, false), 0⟩,
      ⟨some 33, .bin .neq (.tmp 32) (.con (.int .i64 0)), some (31, false), 0⟩,
      ⟨some 34, .pick (.tmp 31) (.con (.bool true)) (.tmp 33), none, 0⟩])
   (.cond (.tmp 34)
    (.seq (.ops [⟨some 35, .mov (.tmp 5), none, 0⟩,
        ⟨some 36, .bin .eql (.tmp 35) (.con (.str [])), none, 0⟩,
        ⟨some 37, .mov (.tmp 36), none, 0⟩,
        ⟨some 38, .mov (.tmp 7), some (37, false), 0⟩,
        ⟨some 39, .bin .eql (.tmp 38) (.con (.str [])), some (37, false), 0⟩,
        ⟨some 40, .pick (.tmp 37) (.con (.bool true)) (.tmp 39), none, 0⟩,
        ⟨some 4, .mov (.tmp 40), none, 0⟩])
     .ret)
    .skip))
  (.seq (.ops [⟨some 41, .mov (.tmp 5), none, 0⟩,
     ⟨some 42, .mov (.tmp 7), none, 0⟩,
     ⟨some 43, .call (.fn 59) [(.tmp 41), (.tmp 42)], none, 0⟩,
     ⟨some 44, .mov (.tmp 0), none, 0⟩,
     ⟨some 45, .mov (.tmp 1), none, 0⟩,
     ⟨some 46, .call (.fn 107) [(.tmp 44), (.tmp 45)], none, 0⟩,
     ⟨some 47, .bin .eql (.tmp 43) (.tmp 46), none, 0⟩,
     ⟨some 4, .mov (.tmp 47), none, 0⟩])
  .ret))))))) }
/-- haulage/haulagelaw07.SortkeyReads -/
def f_haulagelaw07_SortkeyReads : XFunc := { ntmps := 63, res := [.tmp 2], pure := true, body :=
  (.seq (.ops [⟨some 2, .mov (.con (.bool false)), none, 0⟩])
  (.seq (.seq (.ops [⟨some 13, .call (.fn 100) [], none, 0⟩,
      ⟨some 14, .un .not (.tmp 13), none, 0⟩])
   (.cond (.tmp 14)
    (.seq (.ops [⟨some 2, .mov (.con (.bool false)), none, 0⟩])
     .ret)
    .skip))
  (.seq (.seq (.ops [⟨some 15, .mov (.tmp 0), none, 0⟩,
      ⟨some 16, .lenS (.tmp 15), none, 0⟩,
      ⟨some 17, .bin .gtr (.tmp 16) (.con (.int .i64 500)), none, 0⟩])
   (.cond (.tmp 17)
    (.seq (.ops [⟨some 2, .mov (.con (.bool true)), none, 0⟩])
     .ret)
    .skip))
  (.seq (.ops [⟨some 19, .mov (.tmp 0), none, 0⟩,
     ⟨some 20, .call (.fn 108) [(.tmp 19)], none, 0⟩,
     ⟨some 18, .mov (.tmp 20), none, 0⟩,
     ⟨some 21, .extract (.tmp 18) 0, none, 0⟩,
     ⟨some 22, .extract (.tmp 18) 1, none, 0⟩,
     ⟨some 23, .extract (.tmp 18) 2, none, 0⟩,
     ⟨some 3, .alloc [.int .i64 0, .int .i64 0, .str []], none, 0⟩,
     ⟨none, .store 3 (.tmp 3) (.tmp 21), none, 0⟩,
     ⟨some 4, .mov (.tmp 22), none, 0⟩,
     ⟨some 5, .mov (.tmp 23), none, 0⟩])
  (.seq (.ops [⟨some 25, .mov (.tmp 0), none, 0⟩,
     ⟨some 26, .call (.fn 109) [(.tmp 25)], none, 0⟩,
     ⟨some 24, .mov (.tmp 26), none, 0⟩,
     ⟨some 27, .extract (.tmp 24) 0, none, 0⟩,
     ⟨some 28, .extract (.tmp 24) 1, none, 0⟩,
     ⟨some 29, .extract (.tmp 24) 2, none, 0⟩,
     ⟨some 6, .alloc [.int .i64 0, .int .i64 0, .str []], none, 0⟩,
     ⟨none, .store 3 (.tmp 6) (.tmp 27), none, 0⟩,
     ⟨some 7, .mov (.tmp 28), none, 0⟩,
     ⟨some 8, .mov (.tmp 29), none, 0⟩])
  (.seq (.ops [⟨some 31, .mov (.tmp 0), none, 0⟩,
     ⟨some 32, .call (.fn 110) [(.tmp 31)], none, 0⟩,
     ⟨some 30, .mov (.tmp 32), none, 0⟩,
     ⟨some 33, .extract (.tmp 30) 0, none, 0⟩,
     ⟨some 34, .extract (.tmp 30) 1, none, 0⟩,
     ⟨some 9, .mov (.tmp 33), none, 0⟩,
     ⟨some 10, .mov (.tmp 34), none, 0⟩])
  (.seq (.ops [⟨some 36, .mov (.tmp 0), none, 0⟩,
     ⟨some 37, .call (.fn 111) [(.tmp 36)], none, 0⟩,
     ⟨some 35, .mov (.tmp 37), none, 0⟩,
     ⟨some 38, .extract (.tmp 35) 0, none, 0⟩,
     ⟨some 39, .extract (.tmp 35) 1, none, 0⟩,
     ⟨some 11, .mov (.tmp 38), none, 0⟩,
     ⟨some 12, .mov (.tmp 39), none, 0⟩])
  (.seq (.ops [⟨some 40, .load 3 true (.tmp 3), none, 0⟩,
     ⟨some 41, .load 3 true (.tmp 6), none, 0⟩,
     ⟨some 42, .eqA false (.struct [(0, 1, .int), (1, 1, .int), (2, 1, .str)]) (.tmp 40) (.tmp 41), none, 0⟩,
     ⟨some 43, .mov (.tmp 42), none, 0⟩,
     ⟨some 44, .mov (.tmp 4), some (43, true), 0⟩,
     ⟨some 45, .mov (.tmp 7), some (43, true), 0⟩,
     ⟨some 46, .bin .eql (.tmp 44) (.tmp 45), some (43, true), 0⟩,
     ⟨some 47, .pick (.tmp 43) (.tmp 46) (.con (.bool false)), none, 0⟩,
     ⟨some 48, .mov (.tmp 47), none, 0⟩,
     ⟨some 49, .mov (.tmp 5), some (48, true), 0⟩,
     ⟨some 50, .mov (.tmp 8), some (48, true), 0⟩,
     ⟨some 51, .bin .eql (.tmp 49) (.tmp 50), some (48, true), 0⟩,
     ⟨some 52, .pick (.tmp 48) (.tmp 51) (.con (.bool false)), none, 0⟩,
     ⟨some 53, .mov (.tmp 52), none, 0⟩,
     ⟨some 54, .mov (.tmp 9), some (53, true), 0⟩,
     ⟨some 55, .mov (.tmp 11), some (53, true), 0⟩,
     ⟨some 56, .call (.fn 112) [(.tmp 54), (.tmp 55)], some (53, true), 0⟩,
     ⟨some 57, .pick (.tmp 53) (.tmp 56) (.con (.bool false)), none, 0⟩,
     ⟨some 58, .mov (.tmp 57), none, 0⟩,
     ⟨some 59, .mov (.tmp 10), some (58, true), 0⟩,
     ⟨some 60, .mov (.tmp 12), some (58, true), 0⟩,
     ⟨some 61, .bin .eql (.tmp 59) (.tmp 60), some (58, true), 0⟩,
     ⟨some 62, .pick (.tmp 58) (.tmp 61) (.con (.bool false)), none, 0⟩,
     ⟨some 2, .mov (.tmp 62), none, 0⟩])
  .ret)))))))) }
/-- haulage/haulagelaw07.SortkeyBack -/
def f_haulagelaw07_SortkeyBack : XFunc := { ntmps := 129, res := [.tmp 8], pure := true, body :=
  (.seq (.ops [⟨some 5, .box (.tmp 1), none, 0⟩,
     ⟨some 6, .box (.tmp 2), none, 0⟩,
     ⟨some 8, .mov (.con (.bool false)), none, 0⟩])
  (.seq (.seq (.ops [⟨some 20, .call (.fn 100) [], none, 0⟩,
      ⟨some 21, .un .not (.tmp 20), none, 0⟩])
   (.cond (.tmp 21)
    (.seq (.ops [⟨some 8, .mov (.con (.bool false)), none, 0⟩])
     .ret)
    .skip))
  (.seq (.seq (.ops [⟨some 22, .mov (.tmp 0), none, 0⟩,
      ⟨some 23, .call (.fn 101) [(.tmp 22)], none, 0⟩,
      ⟨some 24, .un .not (.tmp 23), none, 0⟩,
      ⟨some 25, .mov (.tmp 24), none, 0⟩,
      ⟨some 26, .fieldAddr 2 (.tmp 5), some (25, false), 0⟩,
      ⟨some 27, .load 1 false (.tmp 26), some (25, false), 0⟩,
      ⟨some 28, .lenS (.tmp 27), some (25, false), 0⟩,
      ⟨some 29, .bin .gtr (.tmp 28) (.con (.int .i64 300)), some (25, false), 0⟩,
      ⟨some 30, .pick (.tmp 25) (.con (.bool true)) (.tmp 29), none, 0⟩,
      ⟨some 31, .mov (.tmp 30), none, 0⟩,
      ⟨some 32, .fieldAddr 2 (.tmp 6), some (31, false), 0⟩,
      ⟨some 33, .load 1 false (.tmp 32), some (31, false), 0⟩,
      ⟨some 34, .lenS (.tmp 33), some (31, false), 0⟩,
      ⟨some 35, .bin .gtr (.tmp 34) (.con (.int .i64 300)), some (31, false), 0⟩,
      ⟨some 36, .pick (.tmp 31) (.con (.bool true)) (.tmp 35), none, 0⟩,
      ⟨some 37, .mov (.tmp 36), none, 0⟩,
      ⟨some 38, .mov (.tmp 3), some (37, false), 0⟩,
      ⟨some 39, .lenS (.tmp 38), some (37, false), 0⟩,
      ⟨some 40, .bin .gtr (.tmp 39) (.con (.int .i64 300)), some (37, false), 0⟩,
      ⟨some 41, .pick (.tmp 37) (.con (.bool true)) (.tmp 40), none, 0⟩])
   (.cond (.tmp 41)
    (.seq (.ops [⟨some 8, .mov (.con (.bool true)), none, 0⟩])
     .ret)
    .skip))
  (.seq (.seq (.ops [⟨some 43, .mov (.tmp 0), none, 0⟩,
      ⟨some 44, .call (.fn 102) [(.tmp 43)], none, 0⟩,
      ⟨some 42, .mov (.tmp 44), none, 0⟩,
      ⟨some 45, .extract (.tmp 42) 0, none, 0⟩,
      ⟨some 46, .extract (.tmp 42) 1, none, 0⟩,
      ⟨some 9, .mov (.tmp 45), none, 0⟩,
      ⟨some 10, .mov (.tmp 46), none, 0⟩])
   (.seq (.ops [⟨some 47, .mov (.tmp 10), none, 0⟩,
      ⟨some 48, .bin .eql (.tmp 47) (.con (.int .i64 0)), none, 0⟩])
   (.cond (.tmp 48)
    (.seq (.ops [⟨some 50, .mov (.tmp 9), none, 0⟩,
        ⟨some 51, .call (.fn 110) [(.tmp 50)], none, 0⟩,
        ⟨some 49, .mov (.tmp 51), none, 0⟩,
        ⟨some 52, .extract (.tmp 49) 0, none, 0⟩,
        ⟨some 53, .extract (.tmp 49) 1, none, 0⟩,
        ⟨some 11, .mov (.tmp 52), none, 0⟩,
        ⟨some 12, .mov (.tmp 53), none, 0⟩])
     (.seq (.ops [⟨some 54, .mov (.tmp 12), none, 0⟩,
        ⟨some 55, .bin .neq (.tmp 54) (.con (.int .i64 0)), none, 0⟩,
        ⟨some 56, .mov (.tmp 55), none, 0⟩,
        ⟨some 57, .mov (.tmp 11), some (56, false), 0⟩,
        ⟨some 58, .mov (.tmp 0), some (56, false), 0⟩,
        ⟨some 59, .call (.fn 112) [(.tmp 57), (.tmp 58)], some (56, false), 0⟩,
        ⟨some 60, .un .not (.tmp 59), some (56, false), 0⟩,
        ⟨some 61, .pick (.tmp 56) (.con (.bool true)) (.tmp 60), none, 0⟩])
     (.cond (.tmp 61)
      (.seq (.ops [⟨some 8, .mov (.con (.bool false)), none, 0⟩])
       .ret)
      .skip)))
    .skip)))
  (.seq (.seq (.ops [⟨some 62, .load 3 true (.tmp 5), none, 0⟩,
      ⟨some 63, .call (.fn 34) [(.tmp 62)], none, 0⟩,
      ⟨some 64, .un .not (.tmp 63), none, 0⟩,
      ⟨some 65, .mov (.tmp 64), none, 0⟩,
      ⟨some 66, .load 3 true (.tmp 6), some (65, false), 0⟩,
      ⟨some 67, .call (.fn 34) [(.tmp 66)], some (65, false), 0⟩,
      ⟨some 68, .un .not (.tmp 67), some (65, false), 0⟩,
      ⟨some 69, .pick (.tmp 65) (.con (.bool true)) (.tmp 68), none, 0⟩])
   (.cond (.tmp 69)
    (.seq (.ops [⟨some 8, .mov (.con (.bool true)), none, 0⟩])
     .ret)
    .skip))
  (.seq (.ops [⟨some 71, .load 3 true (.tmp 5), none, 0⟩,
     ⟨some 72, .rowLit false 3 1 [.int .i64 0, .int .i64 0, .str []] [(0, 3, (.tmp 71))], none, 0⟩,
     ⟨some 73, .call (.fn 102) [(.tmp 72)], none, 0⟩,
     ⟨some 70, .mov (.tmp 73), none, 0⟩,
     ⟨some 74, .extract (.tmp 70) 0, none, 0⟩,
     ⟨some 75, .extract (.tmp 70) 1, none, 0⟩,
     ⟨some 13, .mov (.tmp 74), none, 0⟩,
     ⟨some 14, .mov (.tmp 75), none, 0⟩])
  (.seq (.ops [⟨some 77, .load 3 true (.tmp 6), none, 0⟩,
     ⟨some 78, .rowLit false 3 1 [.int .i64 0, .int .i64 0, .str []] [(0, 3, (.tmp 77))], none, 0⟩,
     ⟨some 79, .call (.fn 102) [(.tmp 78)], none, 0⟩,
     ⟨some 76, .mov (.tmp 79), none, 0⟩,
     ⟨some 80, .extract (.tmp 76) 0, none, 0⟩,
     ⟨some 81, .extract (.tmp 76) 1, none, 0⟩,
     ⟨some 15, .mov (.tmp 80), none, 0⟩,
     ⟨some 16, .mov (.tmp 81), none, 0⟩])
  (.seq (.ops [⟨some 83, .mov (.tmp 13), none, 0⟩,
     ⟨some 84, .mov (.tmp 3), none, 0⟩,
     ⟨some 85, .bin .add (.tmp 83) (.tmp 84), none, 0⟩,
     ⟨some 86, .call (.fn 108) [(.tmp 85)], none, 0⟩,
     ⟨some 82, .mov (.tmp 86), none, 0⟩,
     ⟨some 87, .extract (.tmp 82) 0, none, 0⟩,
     ⟨some 88, .extract (.tmp 82) 1, none, 0⟩,
     ⟨some 89, .extract (.tmp 82) 2, none, 0⟩,
     ⟨some 17, .alloc [.int .i64 0, .int .i64 0, .str []], none, 0⟩,
     ⟨none, .store 3 (.tmp 17) (.tmp 87), none, 0⟩,
     ⟨some 18, .mov (.tmp 88), none, 0⟩,
     ⟨some 19, .mov (.tmp 89), none, 0⟩])
  (.seq (.seq (.ops [⟨some 90, .mov (.tmp 14), none, 0⟩,
      ⟨some 91, .bin .neq (.tmp 90) (.con (.int .i64 0)), none, 0⟩,
      ⟨some 92, .mov (.tmp 91), none, 0⟩,
      ⟨some 93, .mov (.tmp 16), some (92, false), 0⟩,
      ⟨some 94, .bin .neq (.tmp 93) (.con (.int .i64 0)), some (92, false), 0⟩,
      ⟨some 95, .pick (.tmp 92) (.con (.bool true)) (.tmp 94), none, 0⟩,
      ⟨some 96, .mov (.tmp 95), none, 0⟩,
      ⟨some 97, .mov (.tmp 19), some (96, false), 0⟩,
      ⟨some 98, .bin .neq (.tmp 97) (.con (.int .i64 0)), some (96, false), 0⟩,
      ⟨some 99, .pick (.tmp 96) (.con (.bool true)) (.tmp 98), none, 0⟩,
      ⟨some 100, .mov (.tmp 99), none, 0⟩,
      ⟨some 101, .load 3 true (.tmp 17), some (100, false), 0⟩,
      ⟨some 102, .load 3 true (.tmp 5), some (100, false), 0⟩,
      ⟨some 103, .eqA true (.struct [(0, 1, .int), (1, 1, .int), (2, 1, .str)]) (.tmp 101) (.tmp 102), some (100, false), 0⟩,
      ⟨some 104, .pick (.tmp 100) (.con (.bool true)) (.tmp 103), none, 0⟩,
      ⟨some 105, .mov (.tmp 104), none, 0⟩,
      ⟨some 106, .mov (.tmp 18), some (105, false), 0⟩,
      ⟨some 107, .mov (.tmp 13), some (105, false), 0⟩,
      ⟨some 108, .lenS (.tmp 107), some (105, false), 0⟩,
      ⟨some 109, .bin .neq (.tmp 106) (.tmp 108), some (105, false), 0⟩,
      ⟨some 110, .pick (.tmp 105) (.con (.bool true)) (.tmp 109), none, 0⟩])
   (.cond (.tmp 110)
    (.seq (.ops [⟨some 8, .mov (.con (.bool false)), none, 0⟩])
     .ret)
    .skip))
  (.seq (.ops [⟨some 111, .load 3 true (.tmp 5), none, 0⟩,
     ⟨some 112, .load 3 true (.tmp 6), none, 0⟩,
     ⟨some 113, .eqA false (.struct [(0, 1, .int), (1, 1, .int), (2, 1, .str)]) (.tmp 111) (.tmp 112), none, 0⟩,
     ⟨some 114, .mov (.tmp 113), none, 0⟩,
     ⟨some 115, .mov (.tmp 13), some (114, false), 0⟩,
     ⟨some 116, .lenS (.tmp 115), some (114, false), 0⟩,
     ⟨some 117, .mov (.tmp 15), some (114, false), 0⟩,
     ⟨some 118, .lenS (.tmp 117), some (114, false), 0⟩,
     ⟨some 119, .bin .gtr (.tmp 116) (.tmp 118), some (114, false), 0⟩,
     ⟨some 120, .pick (.tmp 114) (.con (.bool true)) (.tmp 119), none, 0⟩,
     ⟨some 121, .mov (.tmp 120), none, 0⟩,
     ⟨some 122, .mov (.tmp 15), some (121, false), 0⟩,
     ⟨some 123, .mov (.tmp 13), some (121, false), 0⟩,
     ⟨some 124, .lenS (.tmp 123), some (121, false), 0⟩,
     ⟨some 125, .cutStr (.tmp 122) none (some (.tmp 124)), some (121, false), 0⟩,
     ⟨some 126, .mov (.tmp 13), some (121, false), 0⟩,
     ⟨some 127, .bin .neq (.tmp 125) (.tmp 126), some (121, false), 0⟩,
     ⟨some 128, .pick (.tmp 121) (.con (.bool true)) (.tmp 127), none, 0⟩,
     ⟨some 8, .mov (.tmp 128), none, 0⟩])
  .ret)))))))))) }
/-- haulage/haulagelaw07.lives -/
def f_haulagelaw07_lives : XFunc := { ntmps := 28, res := [.tmp 0], pure := true, body :=
  (.seq (.ops [⟨some 0, .mov (.con (.bool false)), none, 0⟩])
  (.seq (.ops [⟨some 6, .build [.int .i64 0, .int .i64 0, .str []] [(0, 1, (.con (.int .i64 1))), (1, 1, (.con (.int .i64 (-1))))], none, 0⟩,
     ⟨some 7, .rowLit false 3 1 [.int .i64 0, .int .i64 0, .str []] [(0, 3, (.tmp 6))], none, 0⟩,
     ⟨some 8, .call (.fn 102) [(.tmp 7)], none, 0⟩,
     ⟨some 5, .mov (.tmp 8), none, 0⟩,
     ⟨some 9, .extract (.tmp 5) 0, none, 0⟩,
     ⟨some 10, .extract (.tmp 5) 1, none, 0⟩,
     ⟨some 1, .mov (.tmp 9), none, 0⟩,
     ⟨some 2, .mov (.tmp 10), none, 0⟩])
  (.seq (.ops [⟨some 12, .call (.fn 105) [(.con (.str [97, 255]))], none, 0⟩,
     ⟨some 11, .mov (.tmp 12), none, 0⟩,
     ⟨some 13, .extract (.tmp 11) 0, none, 0⟩,
     ⟨some 14, .extract (.tmp 11) 1, none, 0⟩,
     ⟨some 3, .mov (.tmp 13), none, 0⟩,
     ⟨some 4, .mov (.tmp 14), none, 0⟩])
  (.seq (.ops [⟨some 15, .mov (.tmp 2), none, 0⟩,
     ⟨some 16, .bin .eql (.tmp 15) (.con (.int .i64 0)), none, 0⟩,
     ⟨some 17, .mov (.tmp 16), none, 0⟩,
     ⟨some 18, .mov (.tmp 1), some (17, true), 0⟩,
     ⟨some 19, .bin .eql (.tmp 18) (.con (.str [1, 127, 255, 255, 255])), some (17, true), 0⟩,
     ⟨some 20, .pick (.tmp 17) (.tmp 19) (.con (.bool false)), none, 0⟩,
     ⟨some 21, .mov (.tmp 20), none, 0⟩,
     ⟨some 22, .mov (.tmp 4), some (21, true), 0⟩,
     ⟨some 23, .pick (.tmp 21) (.tmp 22) (.con (.bool false)), none, 0⟩,
     ⟨some 24, .mov (.tmp 23), none, 0⟩,
     ⟨some 25, .mov (.tmp 3), some (24, true), 0⟩,
     ⟨some 26, .bin .eql (.tmp 25) (.con (.str [98])), some (24, true), 0⟩,
     ⟨some 27, .pick (.tmp 24) (.tmp 26) (.con (.bool false)), none, 0⟩,
     ⟨some 0, .mov (.tmp 27), none, 0⟩])
  .ret)))) }
def f_haulagelaw07_Few_k0 : List Bool := [true, false, false, true, false, false, false, false, false, false, false, false, false, false, false, false, false, false, false, false]
def f_haulagelaw07_Few_b0 : XCode :=
  (.seq (.seq (.ops [⟨some 7, .mov (.tmp 3), none, 0⟩,
     ⟨some 8, .mov (.tmp 0), none, 0⟩,
     ⟨some 9, .len (.tmp 8), none, 0⟩,
     ⟨some 10, .bin .lss (.tmp 7) (.tmp 9), none, 0⟩])
  (.cond (.tmp 10)
   .skip
   (.exit 0)))
 (.seq (.block 1
   (.seq (.ops [⟨some 13, .mov (.tmp 0), none, 0⟩,
      ⟨some 14, .mov (.tmp 3), none, 0⟩,
      ⟨some 15, .addrRow 3 (.tmp 13) (.tmp 14), none, 0⟩,
      ⟨some 16, .fieldAddr 2 (.tmp 15), none, 0⟩,
      ⟨some 17, .load 1 false (.tmp 16), none, 0⟩,
      ⟨some 18, .lenS (.tmp 17), none, 0⟩,
      ⟨some 19, .bin .gtr (.tmp 18) (.con (.int .i64 300)), none, 0⟩])
   (.cond (.tmp 19)
    (.seq (.ops [⟨some 2, .mov (.con (.bool false)), none, 0⟩])
     .ret)
    .skip)))
 (.ops [⟨some 11, .mov (.tmp 3), none, 0⟩,
   ⟨some 12, .bin .add (.tmp 11) (.con (.int .i64 1)), none, 0⟩,
   ⟨some 3, .mov (.tmp 12), none, 0⟩])))
def f_haulagelaw07_Few_s0 (t0 t3 : AV) : List AV := [t0, .unk, .unk, t3, .unk, .unk, .unk, .unk, .unk, .unk, .unk, .unk, .unk, .unk, .unk, .unk, .unk, .unk, .unk, .unk]
/-- haulage/haulagelaw07.Few -/
def f_haulagelaw07_Few : XFunc := { ntmps := 20, res := [.tmp 2], pure := true, body :=
  (.seq (.ops [⟨some 2, .mov (.con (.bool false)), none, 0⟩])
  (.seq (.seq (.ops [⟨some 4, .mov (.tmp 0), none, 0⟩,
      ⟨some 5, .len (.tmp 4), none, 0⟩,
      ⟨some 6, .bin .gtr (.tmp 5) (.con (.int .i64 12)), none, 0⟩])
   (.cond (.tmp 6)
    (.seq (.ops [⟨some 2, .mov (.con (.bool false)), none, 0⟩])
     .ret)
    .skip))
  (.seq (.seq (.ops [⟨some 3, .mov (.con (.int .i64 0)), none, 0⟩])
   (.block 0
    (.loop f_haulagelaw07_Few_k0 f_haulagelaw07_Few_b0)))
  (.seq (.ops [⟨some 2, .mov (.con (.bool true)), none, 0⟩])
  .ret)))) }
def f_sortkey_Of_k0 : List Bool := [false, false, false, false, true, false, false, true, true, true, false, false, false, false, false, false, false, false, false, false, false, false]
def f_sortkey_Of_b0 : XCode :=
  (.seq (.ops [⟨some 10, .bin .lss (.tmp 9) (.tmp 8), none, 0⟩])
 (.seq (.cond (.tmp 10)
   .skip
   (.exit 0))
 (.seq (.block 1
   (.seq (.ops [⟨some 11, .addrRow 3 (.tmp 7) (.tmp 9), none, 0⟩,
      ⟨some 12, .load 3 true (.tmp 11), none, 0⟩,
      ⟨some 6, .alloc [.int .i64 0, .int .i64 0, .str []], none, 0⟩,
      ⟨none, .store 3 (.tmp 6) (.tmp 12), none, 0⟩])
   (.seq (.seq (.ops [⟨some 13, .load 3 true (.tmp 6), none, 0⟩,
       ⟨some 14, .call (.fn 33) [(.tmp 13)], none, 0⟩,
       ⟨some 15, .un .not (.tmp 14), none, 0⟩])
    (.cond (.tmp 15)
     (.seq (.ops [⟨some 2, .mov (.con (.str [])), none, 0⟩,
         ⟨some 3, .mov (.con (.int .i64 2)), none, 0⟩])
      .ret)
     .skip))
   (.ops [⟨some 16, .mov (.tmp 4), none, 0⟩,
     ⟨some 17, .load 3 true (.tmp 6), none, 0⟩,
     ⟨some 18, .call (.fn 113) [(.tmp 16), (.tmp 17)], none, 0⟩,
     ⟨some 4, .mov (.tmp 18), none, 0⟩]))))
 (.ops [⟨some 19, .bin .add (.tmp 9) (.con (.int .i64 1)), none, 0⟩,
   ⟨some 9, .mov (.tmp 19), none, 0⟩]))))
def f_sortkey_Of_s0 (t4 t7 t8 t9 : AV) : List AV := [.unk, .unk, .unk, .unk, t4, .unk, .unk, t7, t8, t9, .unk, .unk, .unk, .unk, .unk, .unk, .unk, .unk, .unk, .unk, .unk, .unk]
/-- haulage/sortkey.Of -/
def f_sortkey_Of : XFunc := { ntmps := 22, res := [.tmp 2, .tmp 3], pure := true, body :=
  (.seq (.ops [⟨some 2, .mov (.con (.str [])), none, 0⟩,
     ⟨some 3, .mov (.con (.int .i64 0)), none, 0⟩])
  (.seq (.ops [⟨some 4, .mov (.con .nils), none, 0⟩])
  (.seq (.seq (.ops [⟨some 7, .mov (.tmp 0), none, 0⟩,
      ⟨some 8, .len (.tmp 7), none, 0⟩,
      ⟨some 9, .mov (.con (.int .i64 0)), none, 0⟩])
   (.block 0
    (.loop f_sortkey_Of_k0 f_sortkey_Of_b0)))
  (.seq (.ops [⟨some 20, .mov (.tmp 4), none, 0⟩,
     ⟨some 21, .toStr (.tmp 20), none, 0⟩,
     ⟨some 2, .mov (.tmp 21), none, 0⟩,
     ⟨some 3, .mov (.con (.int .i64 0)), none, 0⟩])
  .ret)))) }
def f_haulageref07_Right_k0 : List Bool := [true, false, false, true, false, false, false, false, false, false, false, false, false, false, false, false]
def f_haulageref07_Right_b0 : XCode :=
  (.seq (.seq (.ops [⟨some 4, .mov (.tmp 3), none, 0⟩,
     ⟨some 5, .mov (.tmp 0), none, 0⟩,
     ⟨some 6, .len (.tmp 5), none, 0⟩,
     ⟨some 7, .bin .lss (.tmp 4) (.tmp 6), none, 0⟩])
  (.cond (.tmp 7)
   .skip
   (.exit 0)))
 (.seq (.block 1
   (.seq (.ops [⟨some 10, .mov (.tmp 0), none, 0⟩,
      ⟨some 11, .mov (.tmp 3), none, 0⟩,
      ⟨some 12, .addrRow 3 (.tmp 10) (.tmp 11), none, 0⟩,
      ⟨some 13, .load 3 true (.tmp 12), none, 0⟩,
      ⟨some 14, .call (.fn 34) [(.tmp 13)], none, 0⟩,
      ⟨some 15, .un .not (.tmp 14), none, 0⟩])
   (.cond (.tmp 15)
    (.seq (.ops [⟨some 2, .mov (.con (.bool false)), none, 0⟩])
     .ret)
    .skip)))
 (.ops [⟨some 8, .mov (.tmp 3), none, 0⟩,
   ⟨some 9, .bin .add (.tmp 8) (.con (.int .i64 1)), none, 0⟩,
   ⟨some 3, .mov (.tmp 9), none, 0⟩])))
def f_haulageref07_Right_s0 (t0 t3 : AV) : List AV := [t0, .unk, .unk, t3, .unk, .unk, .unk, .unk, .unk, .unk, .unk, .unk, .unk, .unk, .unk, .unk]
/-- haulage/haulageref07.Right -/
def f_haulageref07_Right : XFunc := { ntmps := 16, res := [.tmp 2], pure := true, body :=
  (.seq (.ops [⟨some 2, .mov (.con (.bool false)), none, 0⟩])
  (.seq (.seq (.ops [⟨some 3, .mov (.con (.int .i64 0)), none, 0⟩])
   (.block 0
    (.loop f_haulageref07_Right_k0 f_haulageref07_Right_b0)))
  (.seq (.ops [⟨some 2, .mov (.con (.bool true)), none, 0⟩])
  .ret))) }
def f_haulageref07_Of_k0 : List Bool := [true, false, false, true, true, false, false, false, false, false, false, false, false, false, false, false, false, false, false]
def f_haulageref07_Of_b0 : XCode :=
  (.seq (.seq (.ops [⟨some 5, .mov (.tmp 4), none, 0⟩,
     ⟨some 6, .mov (.tmp 0), none, 0⟩,
     ⟨some 7, .len (.tmp 6), none, 0⟩,
     ⟨some 8, .bin .lss (.tmp 5) (.tmp 7), none, 0⟩])
  (.cond (.tmp 8)
   .skip
   (.exit 0)))
 (.seq (.block 1
   (.ops [⟨some 11, .mov (.tmp 3), none, 0⟩,
     ⟨some 12, .mov (.tmp 0), none, 0⟩,
     ⟨some 13, .mov (.tmp 4), none, 0⟩,
     ⟨some 14, .addrRow 3 (.tmp 12) (.tmp 13), none, 0⟩,
     ⟨some 15, .load 3 true (.tmp 14), none, 0⟩,
     ⟨some 16, .call (.fn 114) [(.tmp 15)], none, 0⟩,
     ⟨some 17, .bin .add (.tmp 11) (.tmp 16), none, 0⟩,
     ⟨some 3, .mov (.tmp 17), none, 0⟩]))
 (.ops [⟨some 9, .mov (.tmp 4), none, 0⟩,
   ⟨some 10, .bin .add (.tmp 9) (.con (.int .i64 1)), none, 0⟩,
   ⟨some 4, .mov (.tmp 10), none, 0⟩])))
def f_haulageref07_Of_s0 (t0 t3 t4 : AV) : List AV := [t0, .unk, .unk, t3, t4, .unk, .unk, .unk, .unk, .unk, .unk, .unk, .unk, .unk, .unk, .unk, .unk, .unk, .unk]
/-- haulage/haulageref07.Of -/
def f_haulageref07_Of : XFunc := { ntmps := 19, res := [.tmp 2], pure := true, body :=
  (.seq (.ops [⟨some 2, .mov (.con (.str [])), none, 0⟩])
  (.seq (.ops [⟨some 3, .mov (.con (.str [])), none, 0⟩])
  (.seq (.seq (.ops [⟨some 4, .mov (.con (.int .i64 0)), none, 0⟩])
   (.block 0
    (.loop f_haulageref07_Of_k0 f_haulageref07_Of_b0)))
  (.seq (.ops [⟨some 18, .mov (.tmp 3), none, 0⟩,
     ⟨some 2, .mov (.tmp 18), none, 0⟩])
  .ret)))) }
def f_sortkey_Next_k0 : List Bool := [false, false, false, false, true, false, false, false, false, false, false, false, false, false, false, false, false, false, false, false, false, false, false, false, false, false, false, false, false, false]
def f_sortkey_Next_b0 : XCode :=
  (.seq (.seq (.ops [⟨some 8, .mov (.tmp 4), none, 0⟩,
     ⟨some 9, .len (.tmp 8), none, 0⟩,
     ⟨some 10, .bin .gtr (.tmp 9) (.con (.int .i64 0)), none, 0⟩])
  (.cond (.tmp 10)
   .skip
   (.exit 0)))
 (.block 1
  (.seq (.ops [⟨some 11, .mov (.tmp 4), none, 0⟩,
     ⟨some 12, .len (.tmp 11), none, 0⟩,
     ⟨some 13, .bin .sub (.tmp 12) (.con (.int .i64 1)), none, 0⟩,
     ⟨some 5, .mov (.tmp 13), none, 0⟩])
  (.seq (.seq (.ops [⟨some 14, .mov (.tmp 4), none, 0⟩,
      ⟨some 15, .mov (.tmp 5), none, 0⟩,
      ⟨some 16, .addrRow 1 (.tmp 14) (.tmp 15), none, 0⟩,
      ⟨some 17, .load 1 false (.tmp 16), none, 0⟩,
      ⟨some 18, .bin .lss (.tmp 17) (.con (.int .u8 255)), none, 0⟩])
   (.cond (.tmp 18)
    (.seq (.ops [⟨some 19, .mov (.tmp 4), none, 0⟩,
        ⟨some 20, .mov (.tmp 5), none, 0⟩,
        ⟨some 21, .addrRow 1 (.tmp 19) (.tmp 20), none, 0⟩,
        ⟨some 22, .load 1 false (.tmp 21), none, 0⟩,
        ⟨some 23, .bin .add (.tmp 22) (.con (.int .u8 1)), none, 0⟩,
        ⟨some 24, .addrRow 1 (.tmp 19) (.tmp 20), none, 0⟩,
        ⟨none, .store 1 (.tmp 24) (.tmp 23), none, 0⟩])
     (.seq (.ops [⟨some 25, .mov (.tmp 4), none, 0⟩,
        ⟨some 26, .toStr (.tmp 25), none, 0⟩,
        ⟨some 2, .mov (.tmp 26), none, 0⟩,
        ⟨some 3, .mov (.con (.bool true)), none, 0⟩])
     .ret))
    .skip))
  (.ops [⟨some 27, .mov (.tmp 4), none, 0⟩,
    ⟨some 28, .mov (.tmp 5), none, 0⟩,
    ⟨some 29, .cutRow 1 (.tmp 27) none (some (.tmp 28)), none, 0⟩,
    ⟨some 4, .mov (.tmp 29), none, 0⟩])))))
def f_sortkey_Next_s0 (t4 : AV) : List AV := [.unk, .unk, .unk, .unk, t4, .unk, .unk, .unk, .unk, .unk, .unk, .unk, .unk, .unk, .unk, .unk, .unk, .unk, .unk, .unk, .unk, .unk, .unk, .unk, .unk, .unk, .unk, .unk, .unk, .unk]
/-- haulage/sortkey.Next -/
def f_sortkey_Next : XFunc := { ntmps := 30, res := [.tmp 2, .tmp 3], pure := true, body :=
  (.seq (.ops [⟨some 2, .mov (.con (.str [])), none, 0⟩,
     ⟨some 3, .mov (.con (.bool false)), none, 0⟩])
  (.seq (.ops [⟨some 6, .mov (.tmp 0), none, 0⟩,
     ⟨some 7, .toBytes true (.tmp 6), none, 0⟩,
     ⟨some 4, .mov (.tmp 7), none, 0⟩])
  (.seq (.block 0
    (.loop f_sortkey_Next_k0 f_sortkey_Next_b0))
  (.seq (.ops [⟨some 2, .mov (.con (.str [])), none, 0⟩,
     ⟨some 3, .mov (.con (.bool false)), none, 0⟩])
  .ret)))) }
def f_haulageref07_Next_k0 : List Bool := [true, false, false, false, false, false, false, false, false, false, false, false, false, false, false, false, false, false, false, false, false, false, false, false, false, false, false, false, false, false, false, false, false, false, false]
def f_haulageref07_Next_b0 : XCode :=
  (.seq (.seq (.ops [⟨some 4, .mov (.tmp 0), none, 0⟩,
     ⟨some 5, .bin .neq (.tmp 4) (.con (.str [])), none, 0⟩,
     ⟨some 6, .mov (.tmp 5), none, 0⟩,
     ⟨some 7, .mov (.tmp 0), some (6, true), 0⟩,
     ⟨some 8, .mov (.tmp 0), some (6, true), 0⟩,
     ⟨some 9, .lenS (.tmp 8), some (6, true), 0⟩,
     ⟨some 10, .bin .sub (.tmp 9) (.con (.int .i64 1)), some (6, true), 0⟩,
     ⟨some 11, .indexStr (.tmp 7) (.tmp 10), some (6, true), 0⟩,
     ⟨some 12, .bin .eql (.tmp 11) (.con (.int .u8 255)), some (6, true), 0⟩,
     ⟨some 13, .pick (.tmp 6) (.tmp 12) (.con (.bool false)), none, 0⟩])
  (.cond (.tmp 13)
   .skip
   (.exit 0)))
 (.block 1
  (.ops [⟨some 14, .mov (.tmp 0), none, 0⟩,
    ⟨some 15, .mov (.tmp 0), none, 0⟩,
    ⟨some 16, .lenS (.tmp 15), none, 0⟩,
    ⟨some 17, .bin .sub (.tmp 16) (.con (.int .i64 1)), none, 0⟩,
    ⟨some 18, .cutStr (.tmp 14) none (some (.tmp 17)), none, 0⟩,
    ⟨some 0, .mov (.tmp 18), none, 0⟩])))
def f_haulageref07_Next_s0 (t0 : AV) : List AV := [t0, .unk, .unk, .unk, .unk, .unk, .unk, .unk, .unk, .unk, .unk, .unk, .unk, .unk, .unk, .unk, .unk, .unk, .unk, .unk, .unk, .unk, .unk, .unk, .unk, .unk, .unk, .unk, .unk, .unk, .unk, .unk, .unk, .unk, .unk]
/-- haulage/haulageref07.Next -/
def f_haulageref07_Next : XFunc := { ntmps := 35, res := [.tmp 2, .tmp 3], pure := true, body :=
  (.seq (.ops [⟨some 2, .mov (.con (.str [])), none, 0⟩,
     ⟨some 3, .mov (.con (.bool false)), none, 0⟩])
  (.seq (.block 0
    (.loop f_haulageref07_Next_k0 f_haulageref07_Next_b0))
  (.seq (.seq (.ops [⟨some 19, .mov (.tmp 0), none, 0⟩,
      ⟨some 20, .bin .eql (.tmp 19) (.con (.str [])), none, 0⟩])
   (.cond (.tmp 20)
    (.seq (.ops [⟨some 2, .mov (.con (.str [])), none, 0⟩,
        ⟨some 3, .mov (.con (.bool false)), none, 0⟩])
     .ret)
    .skip))
  (.seq (.draw [⟨some 21, .mov (.tmp 0), none, 0⟩,
     ⟨some 22, .mov (.tmp 0), none, 0⟩,
     ⟨some 23, .lenS (.tmp 22), none, 0⟩,
     ⟨some 24, .bin .sub (.tmp 23) (.con (.int .i64 1)), none, 0⟩,
     ⟨some 25, .cutStr (.tmp 21) none (some (.tmp 24)), none, 0⟩,
     ⟨some 26, .mov (.tmp 0), none, 0⟩,
     ⟨some 27, .mov (.tmp 0), none, 0⟩,
     ⟨some 28, .lenS (.tmp 27), none, 0⟩,
     ⟨some 29, .bin .sub (.tmp 28) (.con (.int .i64 1)), none, 0⟩,
     ⟨some 30, .indexStr (.tmp 26) (.tmp 29), none, 0⟩,
     ⟨some 31, .bin .add (.tmp 30) (.con (.int .u8 1)), none, 0⟩,
     ⟨some 32, .rowLit false 1 1 [.int .u8 0] [(0, 1, (.tmp 31))], none, 1⟩,
     ⟨some 33, .toStr (.tmp 32), none, 0⟩,
     ⟨some 34, .bin .add (.tmp 25) (.tmp 33), none, 0⟩,
     ⟨some 2, .mov (.tmp 34), none, 0⟩,
     ⟨some 3, .mov (.con (.bool true)), none, 0⟩]
    [[], [], [1], [1, 2], [0, 1, 2, 3], [], [], [6], [6, 7], [5, 6, 7, 8], [5, 6, 7, 8, 9], [5, 6, 7, 8, 9, 10], [5, 6, 7, 8, 9, 10, 11], [0, 1, 2, 3, 4, 5, 6, 7, 8, 9, 10, 11, 12], [0, 1, 2, 3, 4, 5, 6, 7, 8, 9, 10, 11, 12, 13], [0, 1, 2, 3, 4, 5, 6, 7, 8, 9, 10, 11, 12, 13, 14]])
  .ret)))) }
def f_haulageref04_Order_k0 : List Bool := [true, true, false, false, false, true, false, false, false, false, false, false, false, false, false, false, false, false, false, false, false, false, false, false, false, false, false, false, false, false, false, false, false, false, false, false, false, false, false, false, false, false]
def f_haulageref04_Order_b0 : XCode :=
  (.seq (.seq (.ops [⟨some 6, .mov (.tmp 5), none, 0⟩,
     ⟨some 7, .mov (.tmp 0), none, 0⟩,
     ⟨some 8, .lenS (.tmp 7), none, 0⟩,
     ⟨some 9, .bin .lss (.tmp 6) (.tmp 8), none, 0⟩,
     ⟨some 10, .mov (.tmp 9), none, 0⟩,
     ⟨some 11, .mov (.tmp 5), some (10, true), 0⟩,
     ⟨some 12, .mov (.tmp 1), some (10, true), 0⟩,
     ⟨some 13, .lenS (.tmp 12), some (10, true), 0⟩,
     ⟨some 14, .bin .lss (.tmp 11) (.tmp 13), some (10, true), 0⟩,
     ⟨some 15, .pick (.tmp 10) (.tmp 14) (.con (.bool false)), none, 0⟩])
  (.cond (.tmp 15)
   .skip
   (.exit 0)))
 (.seq (.block 1
   (.seq (.seq (.draw [⟨some 18, .mov (.tmp 0), none, 0⟩,
       ⟨some 19, .mov (.tmp 5), none, 0⟩,
       ⟨some 20, .indexStr (.tmp 18) (.tmp 19), none, 0⟩,
       ⟨some 21, .mov (.tmp 1), none, 0⟩,
       ⟨some 22, .mov (.tmp 5), none, 0⟩,
       ⟨some 23, .indexStr (.tmp 21) (.tmp 22), none, 0⟩,
       ⟨some 24, .bin .lss (.tmp 20) (.tmp 23), none, 0⟩]
      [[], [], [0, 1], [], [], [3, 4], [0, 1, 2, 3, 4, 5]])
    (.cond (.tmp 24)
     (.seq (.ops [⟨some 4, .mov (.con (.int .i64 (-1))), none, 0⟩])
      .ret)
     .skip))
   (.seq (.draw [⟨some 25, .mov (.tmp 0), none, 0⟩,
      ⟨some 26, .mov (.tmp 5), none, 0⟩,
      ⟨some 27, .indexStr (.tmp 25) (.tmp 26), none, 0⟩,
      ⟨some 28, .mov (.tmp 1), none, 0⟩,
      ⟨some 29, .mov (.tmp 5), none, 0⟩,
      ⟨some 30, .indexStr (.tmp 28) (.tmp 29), none, 0⟩,
      ⟨some 31, .bin .gtr (.tmp 27) (.tmp 30), none, 0⟩]
     [[], [], [0, 1], [], [], [3, 4], [0, 1, 2, 3, 4, 5]])
   (.cond (.tmp 31)
    (.seq (.ops [⟨some 4, .mov (.con (.int .i64 1)), none, 0⟩])
     .ret)
    .skip))))
 (.ops [⟨some 16, .mov (.tmp 5), none, 0⟩,
   ⟨some 17, .bin .add (.tmp 16) (.con (.int .i64 1)), none, 0⟩,
   ⟨some 5, .mov (.tmp 17), none, 0⟩])))
def f_haulageref04_Order_s0 (t0 t1 t5 : AV) : List AV := [t0, t1, .unk, .unk, .unk, t5, .unk, .unk, .unk, .unk, .unk, .unk, .unk, .unk, .unk, .unk, .unk, .unk, .unk, .unk, .unk, .unk, .unk, .unk, .unk, .unk, .unk, .unk, .unk, .unk, .unk, .unk, .unk, .unk, .unk, .unk, .unk, .unk, .unk, .unk, .unk, .unk]
/-- haulage/haulageref04.Order -/
def f_haulageref04_Order : XFunc := { ntmps := 42, res := [.tmp 4], pure := true, body :=
  (.seq (.ops [⟨some 4, .mov (.con (.int .i64 0)), none, 0⟩])
  (.seq (.seq (.ops [⟨some 5, .mov (.con (.int .i64 0)), none, 0⟩])
   (.block 0
    (.loop f_haulageref04_Order_k0 f_haulageref04_Order_b0)))
  (.seq (.seq (.ops [⟨some 32, .mov (.tmp 0), none, 0⟩,
      ⟨some 33, .lenS (.tmp 32), none, 0⟩,
      ⟨some 34, .mov (.tmp 1), none, 0⟩,
      ⟨some 35, .lenS (.tmp 34), none, 0⟩,
      ⟨some 36, .bin .lss (.tmp 33) (.tmp 35), none, 0⟩])
   (.cond (.tmp 36)
    (.seq (.ops [⟨some 4, .mov (.con (.int .i64 (-1))), none, 0⟩])
     .ret)
    .skip))
  (.seq (.seq (.ops [⟨some 37, .mov (.tmp 0), none, 0⟩,
      ⟨some 38, .lenS (.tmp 37), none, 0⟩,
      ⟨some 39, .mov (.tmp 1), none, 0⟩,
      ⟨some 40, .lenS (.tmp 39), none, 0⟩,
      ⟨some 41, .bin .gtr (.tmp 38) (.tmp 40), none, 0⟩])
   (.cond (.tmp 41)
    (.seq (.ops [⟨some 4, .mov (.con (.int .i64 1)), none, 0⟩])
     .ret)
    .skip))
  (.seq (.ops [⟨some 4, .mov (.con (.int .i64 0)), none, 0⟩])
  .ret))))) }
def f_haulageref07_Order_k0 : List Bool := [true, true, false, false, false, true, false, false, false, false, false, false, false, false, false, false, false, false, false, false, false, false, false, false, false, false, false, false, false, false, false, false, false, false, false, false, false, false, false, false, false]
def f_haulageref07_Order_b0 : XCode :=
  (.seq (.seq (.ops [⟨some 7, .mov (.tmp 5), none, 0⟩,
     ⟨some 8, .mov (.tmp 0), none, 0⟩,
     ⟨some 9, .len (.tmp 8), none, 0⟩,
     ⟨some 10, .bin .lss (.tmp 7) (.tmp 9), none, 0⟩,
     ⟨some 11, .mov (.tmp 10), none, 0⟩,
     ⟨some 12, .mov (.tmp 5), some (11, true), 0⟩,
     ⟨some 13, .mov (.tmp 1), some (11, true), 0⟩,
     ⟨some 14, .len (.tmp 13), some (11, true), 0⟩,
     ⟨some 15, .bin .lss (.tmp 12) (.tmp 14), some (11, true), 0⟩,
     ⟨some 16, .pick (.tmp 11) (.tmp 15) (.con (.bool false)), none, 0⟩])
  (.cond (.tmp 16)
   .skip
   (.exit 0)))
 (.seq (.block 1
   (.seq (.draw [⟨some 19, .mov (.tmp 0), none, 0⟩,
      ⟨some 20, .mov (.tmp 5), none, 0⟩,
      ⟨some 21, .addrRow 3 (.tmp 19) (.tmp 20), none, 0⟩,
      ⟨some 22, .load 3 true (.tmp 21), none, 0⟩,
      ⟨some 23, .mov (.tmp 1), none, 0⟩,
      ⟨some 24, .mov (.tmp 5), none, 0⟩,
      ⟨some 25, .addrRow 3 (.tmp 23) (.tmp 24), none, 0⟩,
      ⟨some 26, .load 3 true (.tmp 25), none, 0⟩,
      ⟨some 27, .call (.fn 42) [(.tmp 22), (.tmp 26)], none, 1⟩,
      ⟨some 6, .mov (.tmp 27), none, 0⟩]
     [[], [], [0, 1], [0, 1, 2], [], [], [4, 5], [4, 5, 6], [0, 1, 2, 3, 4, 5, 6, 7], [0, 1, 2, 3, 4, 5, 6, 7, 8]])
   (.seq (.ops [⟨some 28, .mov (.tmp 6), none, 0⟩,
      ⟨some 29, .bin .neq (.tmp 28) (.con (.int .i64 0)), none, 0⟩])
   (.cond (.tmp 29)
    (.seq (.ops [⟨some 30, .mov (.tmp 6), none, 0⟩,
        ⟨some 4, .mov (.tmp 30), none, 0⟩])
     .ret)
    .skip))))
 (.ops [⟨some 17, .mov (.tmp 5), none, 0⟩,
   ⟨some 18, .bin .add (.tmp 17) (.con (.int .i64 1)), none, 0⟩,
   ⟨some 5, .mov (.tmp 18), none, 0⟩])))
def f_haulageref07_Order_s0 (t0 t1 t5 : AV) : List AV := [t0, t1, .unk, .unk, .unk, t5, .unk, .unk, .unk, .unk, .unk, .unk, .unk, .unk, .unk, .unk, .unk, .unk, .unk, .unk, .unk, .unk, .unk, .unk, .unk, .unk, .unk, .unk, .unk, .unk, .unk, .unk, .unk, .unk, .unk, .unk, .unk, .unk, .unk, .unk, .unk]
/-- haulage/haulageref07.Order -/
def f_haulageref07_Order : XFunc := { ntmps := 41, res := [.tmp 4], pure := true, body :=
  (.seq (.ops [⟨some 4, .mov (.con (.int .i64 0)), none, 0⟩])
  (.seq (.seq (.ops [⟨some 5, .mov (.con (.int .i64 0)), none, 0⟩])
   (.block 0
    (.loop f_haulageref07_Order_k0 f_haulageref07_Order_b0)))
  (.seq (.seq (.ops [⟨some 31, .mov (.tmp 0), none, 0⟩,
      ⟨some 32, .len (.tmp 31), none, 0⟩,
      ⟨some 33, .mov (.tmp 1), none, 0⟩,
      ⟨some 34, .len (.tmp 33), none, 0⟩,
      ⟨some 35, .bin .lss (.tmp 32) (.tmp 34), none, 0⟩])
   (.cond (.tmp 35)
    (.seq (.ops [⟨some 4, .mov (.con (.int .i64 (-1))), none, 0⟩])
     .ret)
    .skip))
  (.seq (.seq (.ops [⟨some 36, .mov (.tmp 0), none, 0⟩,
      ⟨some 37, .len (.tmp 36), none, 0⟩,
      ⟨some 38, .mov (.tmp 1), none, 0⟩,
      ⟨some 39, .len (.tmp 38), none, 0⟩,
      ⟨some 40, .bin .gtr (.tmp 37) (.tmp 39), none, 0⟩])
   (.cond (.tmp 40)
    (.seq (.ops [⟨some 4, .mov (.con (.int .i64 1)), none, 0⟩])
     .ret)
    .skip))
  (.seq (.ops [⟨some 4, .mov (.con (.int .i64 0)), none, 0⟩])
  .ret))))) }
/-- haulage/sortkey.Read -/
def f_sortkey_Read : XFunc := { ntmps := 74, res := [.cell 2 3 true, .tmp 3, .tmp 4], pure := true, body :=
  (.seq (.ops [⟨some 2, .alloc [.int .i64 0, .int .i64 0, .str []], none, 0⟩,
     ⟨some 3, .mov (.con (.int .i64 0)), none, 0⟩,
     ⟨some 4, .mov (.con (.int .i64 0)), none, 0⟩])
  (.seq (.seq (.ops [⟨some 6, .mov (.tmp 0), none, 0⟩,
      ⟨some 7, .bin .eql (.tmp 6) (.con (.str [])), none, 0⟩])
   (.cond (.tmp 7)
    (.seq (.ops [⟨some 8, .build [.int .i64 0, .int .i64 0, .str []] [], none, 0⟩,
        ⟨none, .store 3 (.tmp 2) (.tmp 8), none, 0⟩,
        ⟨some 3, .mov (.con (.int .i64 0)), none, 0⟩,
        ⟨some 4, .mov (.con (.int .i64 4)), none, 0⟩])
     .ret)
    .skip))
  (.seq (.ops [⟨some 5, .mov (.con (.int .u64 0)), none, 0⟩])
  (.seq (.ops [⟨some 9, .mov (.tmp 0), none, 0⟩,
     ⟨some 10, .indexStr (.tmp 9) (.con (.int .i64 0)), none, 0⟩,
     ⟨some 11, .toInt .i64 (.tmp 10), none, 0⟩,
     ⟨some 12, .fieldAddr 0 (.tmp 2), none, 0⟩,
     ⟨none, .store 1 (.tmp 12) (.tmp 11), none, 0⟩])
  (.seq (.seq (.ops [⟨some 13, .fieldAddr 0 (.tmp 2), none, 0⟩,
      ⟨some 14, .load 1 false (.tmp 13), none, 0⟩])
   (.block 0
    (.seq (.ops [⟨some 16, .bin .eql (.tmp 14) (.con (.int .i64 0)), none, 0⟩,
       ⟨some 15, .mov (.tmp 16), none, 0⟩])
    (.cond (.tmp 15)
     (.seq (.ops [⟨some 17, .load 3 true (.tmp 2), none, 0⟩,
         ⟨none, .store 3 (.tmp 2) (.tmp 17), none, 0⟩,
         ⟨some 3, .mov (.con (.int .i64 1)), none, 0⟩,
         ⟨some 4, .mov (.con (.int .i64 0)), none, 0⟩])
      .ret)
     (.seq (.ops [⟨some 19, .bin .eql (.tmp 14) (.con (.int .i64 1)), none, 0⟩,
         ⟨some 18, .mov (.tmp 19), none, 0⟩])
      (.cond (.tmp 18)
       (.seq (.ops [⟨some 21, .mov (.tmp 0), none, 0⟩,
           ⟨some 22, .call (.fn 115) [(.tmp 21), (.con (.int .i64 4))], none, 0⟩,
           ⟨some 20, .mov (.tmp 22), none, 0⟩,
           ⟨some 23, .extract (.tmp 20) 0, none, 0⟩,
           ⟨some 24, .extract (.tmp 20) 1, none, 0⟩,
           ⟨some 5, .mov (.tmp 23), none, 0⟩,
           ⟨some 4, .mov (.tmp 24), none, 0⟩])
        (.ops [⟨some 25, .mov (.tmp 5), none, 0⟩,
          ⟨some 26, .toInt .u32 (.tmp 25), none, 0⟩,
          ⟨some 27, .toInt .i32 (.tmp 26), none, 0⟩,
          ⟨some 28, .toInt .i64 (.tmp 27), none, 0⟩,
          ⟨some 29, .fieldAddr 1 (.tmp 2), none, 0⟩,
          ⟨none, .store 1 (.tmp 29) (.tmp 28), none, 0⟩,
          ⟨some 3, .mov (.con (.int .i64 5)), none, 0⟩]))
       (.seq (.ops [⟨some 31, .bin .eql (.tmp 14) (.con (.int .i64 2)), none, 0⟩,
           ⟨some 30, .mov (.tmp 31), none, 0⟩])
        (.cond (.tmp 30)
         (.seq (.ops [⟨some 33, .mov (.tmp 0), none, 0⟩,
             ⟨some 34, .call (.fn 115) [(.tmp 33), (.con (.int .i64 8))], none, 0⟩,
             ⟨some 32, .mov (.tmp 34), none, 0⟩,
             ⟨some 35, .extract (.tmp 32) 0, none, 0⟩,
             ⟨some 36, .extract (.tmp 32) 1, none, 0⟩,
             ⟨some 5, .mov (.tmp 35), none, 0⟩,
             ⟨some 4, .mov (.tmp 36), none, 0⟩])
          (.ops [⟨some 37, .mov (.tmp 5), none, 0⟩,
            ⟨some 38, .toInt .i64 (.tmp 37), none, 0⟩,
            ⟨some 39, .fieldAddr 1 (.tmp 2), none, 0⟩,
            ⟨none, .store 1 (.tmp 39) (.tmp 38), none, 0⟩,
            ⟨some 3, .mov (.con (.int .i64 9)), none, 0⟩]))
         (.seq (.seq (.ops [⟨some 41, .bin .eql (.tmp 14) (.con (.int .i64 3)), none, 0⟩,
              ⟨some 40, .mov (.tmp 41), none, 0⟩])
           (.cond (.tmp 40)
            .skip
            (.ops [⟨some 42, .bin .eql (.tmp 14) (.con (.int .i64 4)), none, 0⟩,
               ⟨some 40, .mov (.tmp 42), none, 0⟩])))
          (.cond (.tmp 40)
           (.seq (.ops [⟨some 44, .mov (.tmp 0), none, 0⟩,
               ⟨some 45, .call (.fn 116) [(.tmp 44)], none, 0⟩,
               ⟨some 43, .mov (.tmp 45), none, 0⟩,
               ⟨some 46, .extract (.tmp 43) 0, none, 0⟩,
               ⟨some 47, .extract (.tmp 43) 1, none, 0⟩,
               ⟨some 48, .extract (.tmp 43) 2, none, 0⟩,
               ⟨some 49, .fieldAddr 2 (.tmp 2), none, 0⟩,
               ⟨none, .store 1 (.tmp 49) (.tmp 46), none, 0⟩,
               ⟨some 3, .mov (.tmp 47), none, 0⟩,
               ⟨some 4, .mov (.tmp 48), none, 0⟩])
            (.block 1
             (.seq (.ops [⟨some 51, .mov (.tmp 4), none, 0⟩,
                ⟨some 52, .bin .neq (.tmp 51) (.con (.int .i64 0)), none, 0⟩,
                ⟨some 50, .mov (.tmp 52), none, 0⟩])
             (.cond (.tmp 50)
              .skip
              (.seq (.ops [⟨some 54, .fieldAddr 0 (.tmp 2), none, 0⟩,
                  ⟨some 55, .load 1 false (.tmp 54), none, 0⟩,
                  ⟨some 56, .bin .eql (.tmp 55) (.con (.int .i64 3)), none, 0⟩,
                  ⟨some 57, .mov (.tmp 56), none, 0⟩,
                  ⟨some 58, .fieldAddr 2 (.tmp 2), some (57, true), 0⟩,
                  ⟨some 59, .load 1 false (.tmp 58), some (57, true), 0⟩,
                  ⟨some 60, .call (.fn 11) [(.tmp 59)], some (57, true), 0⟩,
                  ⟨some 61, .un .not (.tmp 60), some (57, true), 0⟩,
                  ⟨some 62, .pick (.tmp 57) (.tmp 61) (.con (.bool false)), none, 0⟩,
                  ⟨some 53, .mov (.tmp 62), none, 0⟩])
               (.cond (.tmp 53)
                (.ops [⟨some 4, .mov (.con (.int .i64 5)), none, 0⟩])
                (.seq (.ops [⟨some 64, .fieldAddr 2 (.tmp 2), none, 0⟩,
                    ⟨some 65, .load 1 false (.tmp 64), none, 0⟩,
                    ⟨some 66, .lenS (.tmp 65), none, 0⟩,
                    ⟨some 67, .bin .gtr (.tmp 66) (.con (.int .i64 120)), none, 0⟩,
                    ⟨some 63, .mov (.tmp 67), none, 0⟩])
                 (.cond (.tmp 63)
                  (.ops [⟨some 4, .mov (.con (.int .i64 3)), none, 0⟩])
                  .skip))))))))
           (.ops [⟨some 4, .mov (.con (.int .i64 5)), none, 0⟩])))))))))))
  (.seq (.seq (.ops [⟨some 68, .mov (.tmp 4), none, 0⟩,
      ⟨some 69, .bin .neq (.tmp 68) (.con (.int .i64 0)), none, 0⟩])
   (.cond (.tmp 69)
    (.seq (.ops [⟨some 70, .build [.int .i64 0, .int .i64 0, .str []] [], none, 0⟩,
        ⟨some 71, .mov (.tmp 4), none, 0⟩,
        ⟨none, .store 3 (.tmp 2) (.tmp 70), none, 0⟩,
        ⟨some 3, .mov (.con (.int .i64 0)), none, 0⟩,
        ⟨some 4, .mov (.tmp 71), none, 0⟩])
     .ret)
    .skip))
  (.seq (.ops [⟨some 72, .load 3 true (.tmp 2), none, 0⟩,
     ⟨some 73, .mov (.tmp 3), none, 0⟩,
     ⟨none, .store 3 (.tmp 2) (.tmp 72), none, 0⟩,
     ⟨some 3, .mov (.tmp 73), none, 0⟩,
     ⟨some 4, .mov (.con (.int .i64 0)), none, 0⟩])
  .ret))))))) }
def f_haulageref07_Read_k0 : List Bool := [true, false, true, false, false, true, true, true, false, false, false, false, false, false, false, false, false, false, false, false, false, false, false, false, false, false, false, false, false, false, false, false, false, false, false, false, false, false, false, false, false, false, false, false, false, false, false, false, false, false, false, false, false, false, false, false, false, false, false, false, false, false, false, false, false, false, false, false, false, false, false, false, false, false, false, false, false, false, false, false, false, false, false, false, false, false, false, false, false, false, false, false]
def f_haulageref07_Read_b0 : XCode :=
  (.seq (.seq (.ops [⟨some 35, .mov (.tmp 7), none, 0⟩,
     ⟨some 36, .mov (.tmp 0), none, 0⟩,
     ⟨some 37, .lenS (.tmp 36), none, 0⟩,
     ⟨some 38, .bin .lss (.tmp 35) (.tmp 37), none, 0⟩])
  (.cond (.tmp 38)
   .skip
   (.exit 1)))
 (.seq (.block 2
   (.seq (.seq (.ops [⟨some 41, .mov (.tmp 0), none, 0⟩,
       ⟨some 42, .mov (.tmp 7), none, 0⟩,
       ⟨some 43, .indexStr (.tmp 41) (.tmp 42), none, 0⟩,
       ⟨some 44, .bin .neq (.tmp 43) (.con (.int .u8 0)), none, 0⟩])
    (.cond (.tmp 44)
     (.seq (.ops [⟨some 45, .mov (.tmp 6), none, 0⟩,
         ⟨some 46, .mov (.tmp 0), none, 0⟩,
         ⟨some 47, .mov (.tmp 7), none, 0⟩,
         ⟨some 48, .mov (.tmp 7), none, 0⟩,
         ⟨some 49, .bin .add (.tmp 48) (.con (.int .i64 1)), none, 0⟩,
         ⟨some 50, .cutStr (.tmp 46) (some (.tmp 47)) (some (.tmp 49)), none, 0⟩,
         ⟨some 51, .bin .add (.tmp 45) (.tmp 50), none, 0⟩,
         ⟨some 6, .mov (.tmp 51), none, 0⟩])
      (.exit 2))
     .skip))
   (.seq (.ops [⟨some 52, .mov (.tmp 7), none, 0⟩,
      ⟨some 53, .bin .add (.tmp 52) (.con (.int .i64 1)), none, 0⟩,
      ⟨some 7, .mov (.tmp 53), none, 0⟩])
   (.seq (.seq (.ops [⟨some 54, .mov (.tmp 7), none, 0⟩,
       ⟨some 55, .mov (.tmp 0), none, 0⟩,
       ⟨some 56, .lenS (.tmp 55), none, 0⟩,
       ⟨some 57, .bin .eql (.tmp 54) (.tmp 56), none, 0⟩])
    (.cond (.tmp 57)
     (.seq (.ops [⟨some 58, .load 3 true (.tmp 5), none, 0⟩,
         ⟨none, .store 3 (.tmp 2) (.tmp 58), none, 0⟩,
         ⟨some 3, .mov (.con (.int .i64 0)), none, 0⟩,
         ⟨some 4, .mov (.con (.int .i64 4)), none, 0⟩])
      .ret)
     .skip))
   (.seq (.seq (.ops [⟨some 59, .mov (.tmp 0), none, 0⟩,
       ⟨some 60, .mov (.tmp 7), none, 0⟩,
       ⟨some 61, .indexStr (.tmp 59) (.tmp 60), none, 0⟩,
       ⟨some 62, .bin .eql (.tmp 61) (.con (.int .u8 255)), none, 0⟩])
    (.cond (.tmp 62)
     (.seq (.ops [⟨some 63, .mov (.tmp 6), none, 0⟩,
         ⟨some 64, .bin .add (.tmp 63) (.con (.str [0])), none, 0⟩,
         ⟨some 6, .mov (.tmp 64), none, 0⟩])
      (.exit 2))
     .skip))
   (.seq (.seq (.ops [⟨some 65, .mov (.tmp 0), none, 0⟩,
       ⟨some 66, .mov (.tmp 7), none, 0⟩,
       ⟨some 67, .indexStr (.tmp 65) (.tmp 66), none, 0⟩,
       ⟨some 68, .bin .neq (.tmp 67) (.con (.int .u8 0)), none, 0⟩,
       ⟨some 69, .mov (.tmp 68), none, 0⟩,
       ⟨some 70, .mov (.tmp 0), some (69, false), 0⟩,
       ⟨some 71, .indexStr (.tmp 70) (.con (.int .i64 0)), some (69, false), 0⟩,
       ⟨some 72, .bin .eql (.tmp 71) (.con (.int .u8 3)), some (69, false), 0⟩,
       ⟨some 73, .mov (.tmp 72), some (69, false), 0⟩,
       ⟨some 74, .mov (.tmp 6), some (73, true), 0⟩,
       ⟨some 75, .call (.fn 22) [(.tmp 74)], some (73, true), 0⟩,
       ⟨some 76, .un .not (.tmp 75), some (73, true), 0⟩,
       ⟨some 77, .pick (.tmp 73) (.tmp 76) (.con (.bool false)), some (69, false), 0⟩,
       ⟨some 78, .pick (.tmp 69) (.con (.bool true)) (.tmp 77), none, 0⟩])
    (.cond (.tmp 78)
     (.seq (.ops [⟨some 79, .load 3 true (.tmp 5), none, 0⟩,
         ⟨none, .store 3 (.tmp 2) (.tmp 79), none, 0⟩,
         ⟨some 3, .mov (.con (.int .i64 0)), none, 0⟩,
         ⟨some 4, .mov (.con (.int .i64 5)), none, 0⟩])
      .ret)
     .skip))
   (.seq (.seq (.ops [⟨some 80, .mov (.tmp 6), none, 0⟩,
       ⟨some 81, .lenS (.tmp 80), none, 0⟩,
       ⟨some 82, .bin .gtr (.tmp 81) (.con (.int .i64 120)), none, 0⟩])
    (.cond (.tmp 82)
     (.seq (.ops [⟨some 83, .load 3 true (.tmp 5), none, 0⟩,
         ⟨none, .store 3 (.tmp 2) (.tmp 83), none, 0⟩,
         ⟨some 3, .mov (.con (.int .i64 0)), none, 0⟩,
         ⟨some 4, .mov (.con (.int .i64 3)), none, 0⟩])
      .ret)
     .skip))
   (.seq (.ops [⟨some 84, .mov (.tmp 0), none, 0⟩,
      ⟨some 85, .indexStr (.tmp 84) (.con (.int .i64 0)), none, 0⟩,
      ⟨some 86, .toInt .i64 (.tmp 85), none, 0⟩,
      ⟨some 87, .mov (.tmp 6), none, 0⟩,
      ⟨some 88, .build [.int .i64 0, .int .i64 0, .str []] [(0, 1, (.tmp 86)), (2, 1, (.tmp 87))], none, 0⟩,
      ⟨some 89, .mov (.tmp 7), none, 0⟩,
      ⟨some 90, .bin .add (.tmp 89) (.con (.int .i64 1)), none, 0⟩,
      ⟨none, .store 3 (.tmp 2) (.tmp 88), none, 0⟩,
      ⟨some 3, .mov (.tmp 90), none, 0⟩,
      ⟨some 4, .mov (.con (.int .i64 0)), none, 0⟩])
   .ret))))))))
 (.ops [⟨some 39, .mov (.tmp 7), none, 0⟩,
   ⟨some 40, .bin .add (.tmp 39) (.con (.int .i64 1)), none, 0⟩,
   ⟨some 7, .mov (.tmp 40), none, 0⟩])))
def f_haulageref07_Read_s0 (t0 t2 t5 t6 t7 : AV) : List AV := [t0, .unk, t2, .unk, .unk, t5, t6, t7, .unk, .unk, .unk, .unk, .unk, .unk, .unk, .unk, .unk, .unk, .unk, .unk, .unk, .unk, .unk, .unk, .unk, .unk, .unk, .unk, .unk, .unk, .unk, .unk, .unk, .unk, .unk, .unk, .unk, .unk, .unk, .unk, .unk, .unk, .unk, .unk, .unk, .unk, .unk, .unk, .unk, .unk, .unk, .unk, .unk, .unk, .unk, .unk, .unk, .unk, .unk, .unk, .unk, .unk, .unk, .unk, .unk, .unk, .unk, .unk, .unk, .unk, .unk, .unk, .unk, .unk, .unk, .unk, .unk, .unk, .unk, .unk, .unk, .unk, .unk, .unk, .unk, .unk, .unk, .unk, .unk, .unk, .unk, .unk]
/-- haulage/haulageref07.Read -/
def f_haulageref07_Read : XFunc := { ntmps := 92, res := [.cell 2 3 true, .tmp 3, .tmp 4], pure := true, body :=
  (.seq (.ops [⟨some 2, .alloc [.int .i64 0, .int .i64 0, .str []], none, 0⟩,
     ⟨some 3, .mov (.con (.int .i64 0)), none, 0⟩,
     ⟨some 4, .mov (.con (.int .i64 0)), none, 0⟩])
  (.seq (.ops [⟨some 8, .build [.int .i64 0, .int .i64 0, .str []] [], none, 0⟩,
     ⟨some 5, .alloc [.int .i64 0, .int .i64 0, .str []], none, 0⟩,
     ⟨none, .store 3 (.tmp 5) (.tmp 8), none, 0⟩])
  (.seq (.seq (.ops [⟨some 9, .mov (.tmp 0), none, 0⟩,
      ⟨some 10, .bin .eql (.tmp 9) (.con (.str [])), none, 0⟩])
   (.cond (.tmp 10)
    (.seq (.ops [⟨some 11, .load 3 true (.tmp 5), none, 0⟩,
        ⟨none, .store 3 (.tmp 2) (.tmp 11), none, 0⟩,
        ⟨some 3, .mov (.con (.int .i64 0)), none, 0⟩,
        ⟨some 4, .mov (.con (.int .i64 4)), none, 0⟩])
     .ret)
    .skip))
  (.seq (.seq (.ops [⟨some 12, .mov (.tmp 0), none, 0⟩,
      ⟨some 13, .indexStr (.tmp 12) (.con (.int .i64 0)), none, 0⟩,
      ⟨some 14, .bin .gtr (.tmp 13) (.con (.int .u8 4)), none, 0⟩])
   (.cond (.tmp 14)
    (.seq (.ops [⟨some 15, .load 3 true (.tmp 5), none, 0⟩,
        ⟨none, .store 3 (.tmp 2) (.tmp 15), none, 0⟩,
        ⟨some 3, .mov (.con (.int .i64 0)), none, 0⟩,
        ⟨some 4, .mov (.con (.int .i64 5)), none, 0⟩])
     .ret)
    .skip))
  (.seq (.seq (.ops [⟨some 16, .mov (.tmp 0), none, 0⟩,
      ⟨some 17, .indexStr (.tmp 16) (.con (.int .i64 0)), none, 0⟩])
   (.block 0
    (.seq (.ops [⟨some 19, .bin .eql (.tmp 17) (.con (.int .u8 0)), none, 0⟩,
       ⟨some 18, .mov (.tmp 19), none, 0⟩])
    (.cond (.tmp 18)
     (.seq (.ops [⟨some 20, .load 3 true (.tmp 5), none, 0⟩,
         ⟨none, .store 3 (.tmp 2) (.tmp 20), none, 0⟩,
         ⟨some 3, .mov (.con (.int .i64 1)), none, 0⟩,
         ⟨some 4, .mov (.con (.int .i64 0)), none, 0⟩])
      .ret)
     (.seq (.ops [⟨some 22, .bin .eql (.tmp 17) (.con (.int .u8 1)), none, 0⟩,
         ⟨some 21, .mov (.tmp 22), none, 0⟩])
      (.cond (.tmp 21)
       (.seq (.ops [⟨some 23, .mov (.tmp 0), none, 0⟩,
           ⟨some 24, .call (.fn 117) [(.tmp 23), (.con (.int .i64 1)), (.con (.int .i64 4))], none, 0⟩,
           ⟨some 25, .extract (.tmp 24) 0, none, 0⟩,
           ⟨some 26, .extract (.tmp 24) 1, none, 0⟩,
           ⟨some 27, .extract (.tmp 24) 2, none, 0⟩,
           ⟨none, .store 3 (.tmp 2) (.tmp 25), none, 0⟩,
           ⟨some 3, .mov (.tmp 26), none, 0⟩,
           ⟨some 4, .mov (.tmp 27), none, 0⟩])
        .ret)
       (.seq (.ops [⟨some 29, .bin .eql (.tmp 17) (.con (.int .u8 2)), none, 0⟩,
           ⟨some 28, .mov (.tmp 29), none, 0⟩])
        (.cond (.tmp 28)
         (.seq (.ops [⟨some 30, .mov (.tmp 0), none, 0⟩,
             ⟨some 31, .call (.fn 117) [(.tmp 30), (.con (.int .i64 2)), (.con (.int .i64 8))], none, 0⟩,
             ⟨some 32, .extract (.tmp 31) 0, none, 0⟩,
             ⟨some 33, .extract (.tmp 31) 1, none, 0⟩,
             ⟨some 34, .extract (.tmp 31) 2, none, 0⟩,
             ⟨none, .store 3 (.tmp 2) (.tmp 32), none, 0⟩,
             ⟨some 3, .mov (.tmp 33), none, 0⟩,
             ⟨some 4, .mov (.tmp 34), none, 0⟩])
          .ret)
         .skip))))))))
  (.seq (.ops [⟨some 6, .mov (.con (.str [])), none, 0⟩])
  (.seq (.seq (.ops [⟨some 7, .mov (.con (.int .i64 1)), none, 0⟩])
   (.block 1
    (.loop f_haulageref07_Read_k0 f_haulageref07_Read_b0)))
  (.seq (.ops [⟨some 91, .load 3 true (.tmp 5), none, 0⟩,
     ⟨none, .store 3 (.tmp 2) (.tmp 91), none, 0⟩,
     ⟨some 3, .mov (.con (.int .i64 0)), none, 0⟩,
     ⟨some 4, .mov (.con (.int .i64 4)), none, 0⟩])
  .ret)))))))) }
def f_sortkey_All_k0 : List Bool := [true, false, false, false, true, false, false, false, false, false, false, false, false, false, false, false, false, false, false, false, false, false, false, false, false, false, false]
def f_sortkey_All_b0 : XCode :=
  (.seq (.seq (.ops [⟨some 8, .mov (.tmp 0), none, 0⟩,
     ⟨some 9, .bin .neq (.tmp 8) (.con (.str [])), none, 0⟩])
  (.cond (.tmp 9)
   .skip
   (.exit 0)))
 (.block 1
  (.seq (.ops [⟨some 11, .mov (.tmp 0), none, 0⟩,
     ⟨some 12, .call (.fn 108) [(.tmp 11)], none, 0⟩,
     ⟨some 10, .mov (.tmp 12), none, 0⟩,
     ⟨some 13, .extract (.tmp 10) 0, none, 0⟩,
     ⟨some 14, .extract (.tmp 10) 1, none, 0⟩,
     ⟨some 15, .extract (.tmp 10) 2, none, 0⟩,
     ⟨some 5, .alloc [.int .i64 0, .int .i64 0, .str []], none, 0⟩,
     ⟨none, .store 3 (.tmp 5) (.tmp 13), none, 0⟩,
     ⟨some 6, .mov (.tmp 14), none, 0⟩,
     ⟨some 7, .mov (.tmp 15), none, 0⟩])
  (.seq (.seq (.ops [⟨some 16, .mov (.tmp 7), none, 0⟩,
      ⟨some 17, .bin .neq (.tmp 16) (.con (.int .i64 0)), none, 0⟩])
   (.cond (.tmp 17)
    (.seq (.ops [⟨some 18, .mov (.tmp 7), none, 0⟩,
        ⟨some 2, .mov (.con .nils), none, 0⟩,
        ⟨some 3, .mov (.tmp 18), none, 0⟩])
     .ret)
    .skip))
  (.seq (.ops [⟨some 19, .mov (.tmp 4), none, 0⟩,
     ⟨some 20, .load 3 true (.tmp 5), none, 0⟩,
     ⟨some 21, .rowLit false 3 1 [.int .i64 0, .int .i64 0, .str []] [(0, 3, (.tmp 20))], none, 0⟩,
     ⟨some 22, .append false 3 32 (.tmp 19) (.tmp 21), none, 0⟩,
     ⟨some 4, .mov (.tmp 22), none, 0⟩])
  (.ops [⟨some 23, .mov (.tmp 0), none, 0⟩,
    ⟨some 24, .mov (.tmp 6), none, 0⟩,
    ⟨some 25, .cutStr (.tmp 23) (some (.tmp 24)) none, none, 0⟩,
    ⟨some 0, .mov (.tmp 25), none, 0⟩]))))))
def f_sortkey_All_s0 (t0 t4 : AV) : List AV := [t0, .unk, .unk, .unk, t4, .unk, .unk, .unk, .unk, .unk, .unk, .unk, .unk, .unk, .unk, .unk, .unk, .unk, .unk, .unk, .unk, .unk, .unk, .unk, .unk, .unk, .unk]
/-- haulage/sortkey.All -/
def f_sortkey_All : XFunc := { ntmps := 27, res := [.tmp 2, .tmp 3], pure := true, body :=
  (.seq (.ops [⟨some 2, .mov (.con .nils), none, 0⟩,
     ⟨some 3, .mov (.con (.int .i64 0)), none, 0⟩])
  (.seq (.ops [⟨some 4, .mov (.con .nils), none, 0⟩])
  (.seq (.block 0
    (.loop f_sortkey_All_k0 f_sortkey_All_b0))
  (.seq (.ops [⟨some 26, .mov (.tmp 4), none, 0⟩,
     ⟨some 2, .mov (.tmp 26), none, 0⟩,
     ⟨some 3, .mov (.con (.int .i64 0)), none, 0⟩])
  .ret)))) }
def f_haulageref07_All_k0 : List Bool := [true, false, false, false, true, false, false, false, false, false, false, false, false, false, false, false, false, false, false, false, false, false, false, false, false, false, false]
def f_haulageref07_All_b0 : XCode :=
  (.seq (.seq (.ops [⟨some 8, .mov (.tmp 0), none, 0⟩,
     ⟨some 9, .bin .neq (.tmp 8) (.con (.str [])), none, 0⟩])
  (.cond (.tmp 9)
   .skip
   (.exit 0)))
 (.block 1
  (.seq (.ops [⟨some 11, .mov (.tmp 0), none, 0⟩,
     ⟨some 12, .call (.fn 109) [(.tmp 11)], none, 0⟩,
     ⟨some 10, .mov (.tmp 12), none, 0⟩,
     ⟨some 13, .extract (.tmp 10) 0, none, 0⟩,
     ⟨some 14, .extract (.tmp 10) 1, none, 0⟩,
     ⟨some 15, .extract (.tmp 10) 2, none, 0⟩,
     ⟨some 5, .alloc [.int .i64 0, .int .i64 0, .str []], none, 0⟩,
     ⟨none, .store 3 (.tmp 5) (.tmp 13), none, 0⟩,
     ⟨some 6, .mov (.tmp 14), none, 0⟩,
     ⟨some 7, .mov (.tmp 15), none, 0⟩])
  (.seq (.seq (.ops [⟨some 16, .mov (.tmp 7), none, 0⟩,
      ⟨some 17, .bin .neq (.tmp 16) (.con (.int .i64 0)), none, 0⟩])
   (.cond (.tmp 17)
    (.seq (.ops [⟨some 18, .mov (.tmp 7), none, 0⟩,
        ⟨some 2, .mov (.con .nils), none, 0⟩,
        ⟨some 3, .mov (.tmp 18), none, 0⟩])
     .ret)
    .skip))
  (.seq (.ops [⟨some 19, .mov (.tmp 4), none, 0⟩,
     ⟨some 20, .load 3 true (.tmp 5), none, 0⟩,
     ⟨some 21, .rowLit false 3 1 [.int .i64 0, .int .i64 0, .str []] [(0, 3, (.tmp 20))], none, 0⟩,
     ⟨some 22, .append false 3 32 (.tmp 19) (.tmp 21), none, 0⟩,
     ⟨some 4, .mov (.tmp 22), none, 0⟩])
  (.ops [⟨some 23, .mov (.tmp 0), none, 0⟩,
    ⟨some 24, .mov (.tmp 6), none, 0⟩,
    ⟨some 25, .cutStr (.tmp 23) (some (.tmp 24)) none, none, 0⟩,
    ⟨some 0, .mov (.tmp 25), none, 0⟩]))))))
def f_haulageref07_All_s0 (t0 t4 : AV) : List AV := [t0, .unk, .unk, .unk, t4, .unk, .unk, .unk, .unk, .unk, .unk, .unk, .unk, .unk, .unk, .unk, .unk, .unk, .unk, .unk, .unk, .unk, .unk, .unk, .unk, .unk, .unk]
/-- haulage/haulageref07.All -/
def f_haulageref07_All : XFunc := { ntmps := 27, res := [.tmp 2, .tmp 3], pure := true, body :=
  (.seq (.ops [⟨some 2, .mov (.con .nils), none, 0⟩,
     ⟨some 3, .mov (.con (.int .i64 0)), none, 0⟩])
  (.seq (.ops [⟨some 4, .mov (.con .nils), none, 0⟩])
  (.seq (.block 0
    (.loop f_haulageref07_All_k0 f_haulageref07_All_b0))
  (.seq (.ops [⟨some 26, .mov (.tmp 4), none, 0⟩,
     ⟨some 2, .mov (.tmp 26), none, 0⟩,
     ⟨some 3, .mov (.con (.int .i64 0)), none, 0⟩])
  .ret)))) }
def f_haulageref07_Same_k0 : List Bool := [true, true, false, false, false, true, false, false, false, false, false, false, false, false, false, false, false, false, false, false, false, false, false, false, false, false]
def f_haulageref07_Same_b0 : XCode :=
  (.seq (.seq (.ops [⟨some 11, .mov (.tmp 5), none, 0⟩,
     ⟨some 12, .mov (.tmp 0), none, 0⟩,
     ⟨some 13, .len (.tmp 12), none, 0⟩,
     ⟨some 14, .bin .lss (.tmp 11) (.tmp 13), none, 0⟩])
  (.cond (.tmp 14)
   .skip
   (.exit 0)))
 (.seq (.block 1
   (.seq (.draw [⟨some 17, .mov (.tmp 0), none, 0⟩,
      ⟨some 18, .mov (.tmp 5), none, 0⟩,
      ⟨some 19, .addrRow 3 (.tmp 17) (.tmp 18), none, 0⟩,
      ⟨some 20, .load 3 true (.tmp 19), none, 0⟩,
      ⟨some 21, .mov (.tmp 1), none, 0⟩,
      ⟨some 22, .mov (.tmp 5), none, 0⟩,
      ⟨some 23, .addrRow 3 (.tmp 21) (.tmp 22), none, 0⟩,
      ⟨some 24, .load 3 true (.tmp 23), none, 0⟩,
      ⟨some 25, .eqA true (.struct [(0, 1, .int), (1, 1, .int), (2, 1, .str)]) (.tmp 20) (.tmp 24), none, 0⟩]
     [[], [], [0, 1], [0, 1, 2], [], [], [4, 5], [4, 5, 6], [0, 1, 2, 3, 4, 5, 6, 7]])
   (.cond (.tmp 25)
    (.seq (.ops [⟨some 4, .mov (.con (.bool false)), none, 0⟩])
     .ret)
    .skip)))
 (.ops [⟨some 15, .mov (.tmp 5), none, 0⟩,
   ⟨some 16, .bin .add (.tmp 15) (.con (.int .i64 1)), none, 0⟩,
   ⟨some 5, .mov (.tmp 16), none, 0⟩])))
def f_haulageref07_Same_s0 (t0 t1 t5 : AV) : List AV := [t0, t1, .unk, .unk, .unk, t5, .unk, .unk, .unk, .unk, .unk, .unk, .unk, .unk, .unk, .unk, .unk, .unk, .unk, .unk, .unk, .unk, .unk, .unk, .unk, .unk]
/-- haulage/haulageref07.Same -/
def f_haulageref07_Same : XFunc := { ntmps := 26, res := [.tmp 4], pure := true, body :=
  (.seq (.ops [⟨some 4, .mov (.con (.bool false)), none, 0⟩])
  (.seq (.seq (.ops [⟨some 6, .mov (.tmp 0), none, 0⟩,
      ⟨some 7, .len (.tmp 6), none, 0⟩,
      ⟨some 8, .mov (.tmp 1), none, 0⟩,
      ⟨some 9, .len (.tmp 8), none, 0⟩,
      ⟨some 10, .bin .neq (.tmp 7) (.tmp 9), none, 0⟩])
   (.cond (.tmp 10)
    (.seq (.ops [⟨some 4, .mov (.con (.bool false)), none, 0⟩])
     .ret)
    .skip))
  (.seq (.seq (.ops [⟨some 5, .mov (.con (.int .i64 0)), none, 0⟩])
   (.block 0
    (.loop f_haulageref07_Same_k0 f_haulageref07_Same_b0)))
  (.seq (.ops [⟨some 4, .mov (.con (.bool true)), none, 0⟩])
  .ret)))) }
def f_sortkey_add_k0 : List Bool := [true, false, false, true, false, false, false, false, false, false, false, false, false, false, false, false, false, false, false, false, false, false, false, false, false, false, false, false, false, false, false, false, false, false, true, true, false, false, false, false, false, false, false, false, false, false, false, false, false, false, false, false, false, false, false, false, false, false]
def f_sortkey_add_b0 : XCode :=
  (.seq (.ops [⟨some 36, .bin .lss (.tmp 35) (.tmp 34), none, 0⟩])
 (.seq (.cond (.tmp 36)
   .skip
   (.exit 1))
 (.seq (.block 2
   (.seq (.ops [⟨some 37, .mov (.tmp 35), none, 0⟩,
      ⟨some 5, .mov (.tmp 37), none, 0⟩])
   (.seq (.ops [⟨some 38, .mov (.tmp 0), none, 0⟩,
      ⟨some 39, .fieldAddr 2 (.tmp 3), none, 0⟩,
      ⟨some 40, .load 1 false (.tmp 39), none, 0⟩,
      ⟨some 41, .mov (.tmp 5), none, 0⟩,
      ⟨some 42, .indexStr (.tmp 40) (.tmp 41), none, 0⟩,
      ⟨some 43, .rowLit false 1 1 [.int .u8 0] [(0, 1, (.tmp 42))], none, 0⟩,
      ⟨some 44, .append false 1 1 (.tmp 38) (.tmp 43), none, 0⟩,
      ⟨some 0, .mov (.tmp 44), none, 0⟩])
   (.seq (.ops [⟨some 45, .fieldAddr 2 (.tmp 3), none, 0⟩,
      ⟨some 46, .load 1 false (.tmp 45), none, 0⟩,
      ⟨some 47, .mov (.tmp 5), none, 0⟩,
      ⟨some 48, .indexStr (.tmp 46) (.tmp 47), none, 0⟩,
      ⟨some 49, .bin .eql (.tmp 48) (.con (.int .u8 0)), none, 0⟩])
   (.cond (.tmp 49)
    (.ops [⟨some 50, .mov (.tmp 0), none, 0⟩,
       ⟨some 51, .rowLit false 1 1 [.int .u8 0] [(0, 1, (.con (.int .u8 255)))], none, 0⟩,
       ⟨some 52, .append false 1 1 (.tmp 50) (.tmp 51), none, 0⟩,
       ⟨some 0, .mov (.tmp 52), none, 0⟩])
    .skip)))))
 (.ops [⟨some 53, .bin .add (.tmp 35) (.con (.int .i64 1)), none, 0⟩,
   ⟨some 35, .mov (.tmp 53), none, 0⟩]))))
def f_sortkey_add_s0 (t0 t3 t34 t35 : AV) : List AV := [t0, .unk, .unk, t3, .unk, .unk, .unk, .unk, .unk, .unk, .unk, .unk, .unk, .unk, .unk, .unk, .unk, .unk, .unk, .unk, .unk, .unk, .unk, .unk, .unk, .unk, .unk, .unk, .unk, .unk, .unk, .unk, .unk, .unk, t34, t35, .unk, .unk, .unk, .unk, .unk, .unk, .unk, .unk, .unk, .unk, .unk, .unk, .unk, .unk, .unk, .unk, .unk, .unk, .unk, .unk, .unk, .unk]
/-- haulage/sortkey.add -/
def f_sortkey_add : XFunc := { ntmps := 58, res := [.tmp 4], pure := false, body :=
  (.seq (.ops [⟨some 3, .box (.tmp 1), none, 0⟩,
     ⟨some 4, .mov (.con .nils), none, 0⟩])
  (.seq (.ops [⟨some 6, .mov (.tmp 0), none, 0⟩,
     ⟨some 7, .fieldAddr 0 (.tmp 3), none, 0⟩,
     ⟨some 8, .load 1 false (.tmp 7), none, 0⟩,
     ⟨some 9, .toInt .u8 (.tmp 8), none, 0⟩,
     ⟨some 10, .rowLit false 1 1 [.int .u8 0] [(0, 1, (.tmp 9))], none, 0⟩,
     ⟨some 11, .append false 1 1 (.tmp 6) (.tmp 10), none, 0⟩,
     ⟨some 0, .mov (.tmp 11), none, 0⟩])
  (.seq (.seq (.ops [⟨some 12, .fieldAddr 0 (.tmp 3), none, 0⟩,
      ⟨some 13, .load 1 false (.tmp 12), none, 0⟩])
   (.block 0
    (.seq (.ops [⟨some 15, .bin .eql (.tmp 13) (.con (.int .i64 1)), none, 0⟩,
       ⟨some 14, .mov (.tmp 15), none, 0⟩])
    (.cond (.tmp 14)
     (.seq (.ops [⟨some 16, .mov (.tmp 0), none, 0⟩,
         ⟨some 17, .fieldAddr 1 (.tmp 3), none, 0⟩,
         ⟨some 18, .load 1 false (.tmp 17), none, 0⟩,
         ⟨some 19, .toInt .u32 (.tmp 18), none, 0⟩,
         ⟨some 20, .toInt .u64 (.tmp 19), none, 0⟩,
         ⟨some 21, .call (.fn 118) [(.tmp 16), (.tmp 20), (.con (.int .i64 4))], none, 0⟩,
         ⟨some 4, .mov (.tmp 21), none, 0⟩])
      .ret)
     (.seq (.ops [⟨some 23, .bin .eql (.tmp 13) (.con (.int .i64 2)), none, 0⟩,
         ⟨some 22, .mov (.tmp 23), none, 0⟩])
      (.cond (.tmp 22)
       (.seq (.ops [⟨some 24, .mov (.tmp 0), none, 0⟩,
           ⟨some 25, .fieldAddr 1 (.tmp 3), none, 0⟩,
           ⟨some 26, .load 1 false (.tmp 25), none, 0⟩,
           ⟨some 27, .toInt .u64 (.tmp 26), none, 0⟩,
           ⟨some 28, .call (.fn 118) [(.tmp 24), (.tmp 27), (.con (.int .i64 8))], none, 0⟩,
           ⟨some 4, .mov (.tmp 28), none, 0⟩])
        .ret)
       (.seq (.seq (.ops [⟨some 30, .bin .eql (.tmp 13) (.con (.int .i64 3)), none, 0⟩,
            ⟨some 29, .mov (.tmp 30), none, 0⟩])
         (.cond (.tmp 29)
          .skip
          (.ops [⟨some 31, .bin .eql (.tmp 13) (.con (.int .i64 4)), none, 0⟩,
             ⟨some 29, .mov (.tmp 31), none, 0⟩])))
        (.cond (.tmp 29)
         (.seq (.seq (.ops [⟨some 32, .fieldAddr 2 (.tmp 3), none, 0⟩,
              ⟨some 33, .load 1 false (.tmp 32), none, 0⟩,
              ⟨some 34, .lenS (.tmp 33), none, 0⟩,
              ⟨some 35, .mov (.con (.int .i64 0)), none, 0⟩])
           (.block 1
            (.loop f_sortkey_add_k0 f_sortkey_add_b0)))
          (.seq (.ops [⟨some 54, .mov (.tmp 0), none, 0⟩,
             ⟨some 55, .rowLit false 1 2 [.int .u8 0] [(0, 1, (.con (.int .u8 0))), (1, 1, (.con (.int .u8 0)))], none, 0⟩,
             ⟨some 56, .append false 1 1 (.tmp 54) (.tmp 55), none, 0⟩,
             ⟨some 4, .mov (.tmp 56), none, 0⟩])
          .ret))
         .skip))))))))
  (.seq (.ops [⟨some 57, .mov (.tmp 0), none, 0⟩,
     ⟨some 4, .mov (.tmp 57), none, 0⟩])
  .ret)))) }
def f_haulageref07_One_k0 : List Bool := [false, true, false, true, false, true, false, false, false, false, false, false, false, false, false, false, false, false, false, false, false, false, false, false, false, false, false, false, false, false, false, false, false, false, false, false, false, false, false, false, false, false, false, false, false, false, false, false, false, false, false, false, false, false, false, false, false, false, false, false, false, false, false, false, false, false, false, false]
def f_haulageref07_One_b0 : XCode :=
  (.seq (.seq (.ops [⟨some 43, .mov (.tmp 5), none, 0⟩,
     ⟨some 44, .fieldAddr 2 (.tmp 1), none, 0⟩,
     ⟨some 45, .load 1 false (.tmp 44), none, 0⟩,
     ⟨some 46, .lenS (.tmp 45), none, 0⟩,
     ⟨some 47, .bin .lss (.tmp 43) (.tmp 46), none, 0⟩])
  (.cond (.tmp 47)
   .skip
   (.exit 1)))
 (.seq (.block 2
   (.seq (.ops [⟨some 50, .mov (.tmp 3), none, 0⟩,
      ⟨some 51, .fieldAddr 2 (.tmp 1), none, 0⟩,
      ⟨some 52, .load 1 false (.tmp 51), none, 0⟩,
      ⟨some 53, .mov (.tmp 5), none, 0⟩,
      ⟨some 54, .mov (.tmp 5), none, 0⟩,
      ⟨some 55, .bin .add (.tmp 54) (.con (.int .i64 1)), none, 0⟩,
      ⟨some 56, .cutStr (.tmp 52) (some (.tmp 53)) (some (.tmp 55)), none, 0⟩,
      ⟨some 57, .bin .add (.tmp 50) (.tmp 56), none, 0⟩,
      ⟨some 3, .mov (.tmp 57), none, 0⟩])
   (.seq (.ops [⟨some 58, .fieldAddr 2 (.tmp 1), none, 0⟩,
      ⟨some 59, .load 1 false (.tmp 58), none, 0⟩,
      ⟨some 60, .mov (.tmp 5), none, 0⟩,
      ⟨some 61, .indexStr (.tmp 59) (.tmp 60), none, 0⟩,
      ⟨some 62, .bin .eql (.tmp 61) (.con (.int .u8 0)), none, 0⟩])
   (.cond (.tmp 62)
    (.ops [⟨some 63, .mov (.tmp 3), none, 0⟩,
       ⟨some 64, .bin .add (.tmp 63) (.con (.str [255])), none, 0⟩,
       ⟨some 3, .mov (.tmp 64), none, 0⟩])
    .skip))))
 (.ops [⟨some 48, .mov (.tmp 5), none, 0⟩,
   ⟨some 49, .bin .add (.tmp 48) (.con (.int .i64 1)), none, 0⟩,
   ⟨some 5, .mov (.tmp 49), none, 0⟩])))
def f_haulageref07_One_s0 (t1 t3 t5 : AV) : List AV := [.unk, t1, .unk, t3, .unk, t5, .unk, .unk, .unk, .unk, .unk, .unk, .unk, .unk, .unk, .unk, .unk, .unk, .unk, .unk, .unk, .unk, .unk, .unk, .unk, .unk, .unk, .unk, .unk, .unk, .unk, .unk, .unk, .unk, .unk, .unk, .unk, .unk, .unk, .unk, .unk, .unk, .unk, .unk, .unk, .unk, .unk, .unk, .unk, .unk, .unk, .unk, .unk, .unk, .unk, .unk, .unk, .unk, .unk, .unk, .unk, .unk, .unk, .unk, .unk, .unk, .unk, .unk]
/-- haulage/haulageref07.One -/
def f_haulageref07_One : XFunc := { ntmps := 68, res := [.tmp 2], pure := true, body :=
  (.seq (.ops [⟨some 1, .box (.tmp 0), none, 0⟩,
     ⟨some 2, .mov (.con (.str [])), none, 0⟩])
  (.seq (.ops [⟨some 6, .fieldAddr 0 (.tmp 1), none, 0⟩,
     ⟨some 7, .load 1 false (.tmp 6), none, 0⟩,
     ⟨some 8, .toInt .u8 (.tmp 7), none, 0⟩,
     ⟨some 9, .rowLit false 1 1 [.int .u8 0] [(0, 1, (.tmp 8))], none, 0⟩,
     ⟨some 10, .toStr (.tmp 9), none, 0⟩,
     ⟨some 3, .mov (.tmp 10), none, 0⟩])
  (.seq (.seq (.ops [⟨some 11, .fieldAddr 0 (.tmp 1), none, 0⟩,
      ⟨some 12, .load 1 false (.tmp 11), none, 0⟩])
   (.block 0
    (.seq (.ops [⟨some 14, .bin .eql (.tmp 12) (.con (.int .i64 1)), none, 0⟩,
       ⟨some 13, .mov (.tmp 14), none, 0⟩])
    (.cond (.tmp 13)
     (.seq (.ops [⟨some 15, .mov (.tmp 3), none, 0⟩,
         ⟨some 16, .fieldAddr 1 (.tmp 1), none, 0⟩,
         ⟨some 17, .load 1 false (.tmp 16), none, 0⟩,
         ⟨some 18, .bin .add (.tmp 17) (.con (.int .i64 2147483648)), none, 0⟩,
         ⟨some 19, .toInt .u64 (.tmp 18), none, 0⟩,
         ⟨some 20, .call (.fn 119) [(.tmp 19), (.con (.int .i64 4))], none, 0⟩,
         ⟨some 21, .call (.fn 120) [(.tmp 20)], none, 0⟩,
         ⟨some 22, .bin .add (.tmp 15) (.tmp 21), none, 0⟩,
         ⟨some 2, .mov (.tmp 22), none, 0⟩])
      .ret)
     (.seq (.ops [⟨some 24, .bin .eql (.tmp 12) (.con (.int .i64 2)), none, 0⟩,
         ⟨some 23, .mov (.tmp 24), none, 0⟩])
      (.cond (.tmp 23)
       (.seq (.ops [⟨some 25, .fieldAddr 1 (.tmp 1), none, 0⟩,
           ⟨some 26, .load 1 false (.tmp 25), none, 0⟩,
           ⟨some 27, .toInt .u64 (.tmp 26), none, 0⟩,
           ⟨some 4, .mov (.tmp 27), none, 0⟩])
        (.seq (.seq (.ops [⟨some 28, .fieldAddr 1 (.tmp 1), none, 0⟩,
            ⟨some 29, .load 1 false (.tmp 28), none, 0⟩,
            ⟨some 30, .bin .geq (.tmp 29) (.con (.int .i64 0)), none, 0⟩])
         (.cond (.tmp 30)
          (.ops [⟨some 31, .mov (.tmp 4), none, 0⟩,
             ⟨some 32, .bin .add (.tmp 31) (.con (.int .u64 9223372036854775808)), none, 0⟩,
             ⟨some 4, .mov (.tmp 32), none, 0⟩])
          (.ops [⟨some 33, .mov (.tmp 4), none, 0⟩,
             ⟨some 34, .bin .sub (.tmp 33) (.con (.int .u64 9223372036854775808)), none, 0⟩,
             ⟨some 4, .mov (.tmp 34), none, 0⟩])))
        (.seq (.ops [⟨some 35, .mov (.tmp 3), none, 0⟩,
           ⟨some 36, .mov (.tmp 4), none, 0⟩,
           ⟨some 37, .call (.fn 119) [(.tmp 36), (.con (.int .i64 8))], none, 0⟩,
           ⟨some 38, .call (.fn 120) [(.tmp 37)], none, 0⟩,
           ⟨some 39, .bin .add (.tmp 35) (.tmp 38), none, 0⟩,
           ⟨some 2, .mov (.tmp 39), none, 0⟩])
        .ret)))
       (.seq (.seq (.ops [⟨some 41, .bin .eql (.tmp 12) (.con (.int .i64 3)), none, 0⟩,
            ⟨some 40, .mov (.tmp 41), none, 0⟩])
         (.cond (.tmp 40)
          .skip
          (.ops [⟨some 42, .bin .eql (.tmp 12) (.con (.int .i64 4)), none, 0⟩,
             ⟨some 40, .mov (.tmp 42), none, 0⟩])))
        (.cond (.tmp 40)
         (.seq (.seq (.ops [⟨some 5, .mov (.con (.int .i64 0)), none, 0⟩])
           (.block 1
            (.loop f_haulageref07_One_k0 f_haulageref07_One_b0)))
          (.seq (.ops [⟨some 65, .mov (.tmp 3), none, 0⟩,
             ⟨some 66, .bin .add (.tmp 65) (.con (.str [0, 0])), none, 0⟩,
             ⟨some 2, .mov (.tmp 66), none, 0⟩])
          .ret))
         .skip))))))))
  (.seq (.ops [⟨some 67, .mov (.tmp 3), none, 0⟩,
     ⟨some 2, .mov (.tmp 67), none, 0⟩])
  .ret)))) }
/-- haulage/haulageref05.Order -/
def f_haulageref05_Order : XFunc := { ntmps := 50, res := [.tmp 4], pure := true, body :=
  (.seq (.ops [⟨some 2, .box (.tmp 0), none, 0⟩,
     ⟨some 3, .box (.tmp 1), none, 0⟩,
     ⟨some 4, .mov (.con (.int .i64 0)), none, 0⟩])
  (.seq (.block 0
    (.seq (.ops [⟨some 6, .fieldAddr 0 (.tmp 2), none, 0⟩,
       ⟨some 7, .load 1 false (.tmp 6), none, 0⟩,
       ⟨some 8, .fieldAddr 0 (.tmp 3), none, 0⟩,
       ⟨some 9, .load 1 false (.tmp 8), none, 0⟩,
       ⟨some 10, .bin .lss (.tmp 7) (.tmp 9), none, 0⟩,
       ⟨some 11, .mov (.tmp 10), none, 0⟩,
       ⟨some 12, .fieldAddr 0 (.tmp 2), some (11, false), 0⟩,
       ⟨some 13, .load 1 false (.tmp 12), some (11, false), 0⟩,
       ⟨some 14, .fieldAddr 0 (.tmp 3), some (11, false), 0⟩,
       ⟨some 15, .load 1 false (.tmp 14), some (11, false), 0⟩,
       ⟨some 16, .bin .eql (.tmp 13) (.tmp 15), some (11, false), 0⟩,
       ⟨some 17, .mov (.tmp 16), some (11, false), 0⟩,
       ⟨some 18, .fieldAddr 1 (.tmp 2), some (17, true), 0⟩,
       ⟨some 19, .load 1 false (.tmp 18), some (17, true), 0⟩,
       ⟨some 20, .fieldAddr 1 (.tmp 3), some (17, true), 0⟩,
       ⟨some 21, .load 1 false (.tmp 20), some (17, true), 0⟩,
       ⟨some 22, .bin .lss (.tmp 19) (.tmp 21), some (17, true), 0⟩,
       ⟨some 23, .pick (.tmp 17) (.tmp 22) (.con (.bool false)), some (11, false), 0⟩,
       ⟨some 24, .pick (.tmp 11) (.con (.bool true)) (.tmp 23), none, 0⟩,
       ⟨some 5, .mov (.tmp 24), none, 0⟩])
    (.cond (.tmp 5)
     (.seq (.ops [⟨some 4, .mov (.con (.int .i64 (-1))), none, 0⟩])
      .ret)
     (.seq (.ops [⟨some 26, .fieldAddr 0 (.tmp 2), none, 0⟩,
         ⟨some 27, .load 1 false (.tmp 26), none, 0⟩,
         ⟨some 28, .fieldAddr 0 (.tmp 3), none, 0⟩,
         ⟨some 29, .load 1 false (.tmp 28), none, 0⟩,
         ⟨some 30, .bin .gtr (.tmp 27) (.tmp 29), none, 0⟩,
         ⟨some 31, .mov (.tmp 30), none, 0⟩,
         ⟨some 32, .fieldAddr 0 (.tmp 2), some (31, false), 0⟩,
         ⟨some 33, .load 1 false (.tmp 32), some (31, false), 0⟩,
         ⟨some 34, .fieldAddr 0 (.tmp 3), some (31, false), 0⟩,
         ⟨some 35, .load 1 false (.tmp 34), some (31, false), 0⟩,
         ⟨some 36, .bin .eql (.tmp 33) (.tmp 35), some (31, false), 0⟩,
         ⟨some 37, .mov (.tmp 36), some (31, false), 0⟩,
         ⟨some 38, .fieldAddr 1 (.tmp 2), some (37, true), 0⟩,
         ⟨some 39, .load 1 false (.tmp 38), some (37, true), 0⟩,
         ⟨some 40, .fieldAddr 1 (.tmp 3), some (37, true), 0⟩,
         ⟨some 41, .load 1 false (.tmp 40), some (37, true), 0⟩,
         ⟨some 42, .bin .gtr (.tmp 39) (.tmp 41), some (37, true), 0⟩,
         ⟨some 43, .pick (.tmp 37) (.tmp 42) (.con (.bool false)), some (31, false), 0⟩,
         ⟨some 44, .pick (.tmp 31) (.con (.bool true)) (.tmp 43), none, 0⟩,
         ⟨some 25, .mov (.tmp 44), none, 0⟩])
      (.cond (.tmp 25)
       (.seq (.ops [⟨some 4, .mov (.con (.int .i64 1)), none, 0⟩])
        .ret)
       .skip)))))
  (.seq (.ops [⟨some 45, .fieldAddr 2 (.tmp 2), none, 0⟩,
     ⟨some 46, .load 1 false (.tmp 45), none, 0⟩,
     ⟨some 47, .fieldAddr 2 (.tmp 3), none, 0⟩,
     ⟨some 48, .load 1 false (.tmp 47), none, 0⟩,
     ⟨some 49, .call (.fn 59) [(.tmp 46), (.tmp 48)], none, 0⟩,
     ⟨some 4, .mov (.tmp 49), none, 0⟩])
  .ret))) }
def f_sortkey_number_k0 : List Bool := [true, true, false, false, false, false, true, true, false, false, false, false, false, false, false, false, false, false, false, false, false, false, false, false, false, false, false, false, false, false]
def f_sortkey_number_b0 : XCode :=
  (.seq (.seq (.ops [⟨some 12, .mov (.tmp 7), none, 0⟩,
     ⟨some 13, .mov (.tmp 1), none, 0⟩,
     ⟨some 14, .bin .leq (.tmp 12) (.tmp 13), none, 0⟩])
  (.cond (.tmp 14)
   .skip
   (.exit 0)))
 (.seq (.block 1
   (.ops [⟨some 17, .mov (.tmp 6), none, 0⟩,
     ⟨some 18, .bin .shl (.tmp 17) (.con (.int .u64 8)), none, 0⟩,
     ⟨some 19, .mov (.tmp 0), none, 0⟩,
     ⟨some 20, .mov (.tmp 7), none, 0⟩,
     ⟨some 21, .indexStr (.tmp 19) (.tmp 20), none, 0⟩,
     ⟨some 22, .toInt .u64 (.tmp 21), none, 0⟩,
     ⟨some 23, .bin .or (.tmp 18) (.tmp 22), none, 0⟩,
     ⟨some 6, .mov (.tmp 23), none, 0⟩]))
 (.ops [⟨some 15, .mov (.tmp 7), none, 0⟩,
   ⟨some 16, .bin .add (.tmp 15) (.con (.int .i64 1)), none, 0⟩,
   ⟨some 7, .mov (.tmp 16), none, 0⟩])))
def f_sortkey_number_s0 (t0 t1 t6 t7 : AV) : List AV := [t0, t1, .unk, .unk, .unk, .unk, t6, t7, .unk, .unk, .unk, .unk, .unk, .unk, .unk, .unk, .unk, .unk, .unk, .unk, .unk, .unk, .unk, .unk, .unk, .unk, .unk, .unk, .unk, .unk]
/-- haulage/sortkey.number -/
def f_sortkey_number : XFunc := { ntmps := 30, res := [.tmp 4, .tmp 5], pure := true, body :=
  (.seq (.ops [⟨some 4, .mov (.con (.int .u64 0)), none, 0⟩,
     ⟨some 5, .mov (.con (.int .i64 0)), none, 0⟩])
  (.seq (.seq (.ops [⟨some 8, .mov (.tmp 0), none, 0⟩,
      ⟨some 9, .lenS (.tmp 8), none, 0⟩,
      ⟨some 10, .mov (.tmp 1), none, 0⟩,
      ⟨some 11, .bin .leq (.tmp 9) (.tmp 10), none, 0⟩])
   (.cond (.tmp 11)
    (.seq (.ops [⟨some 4, .mov (.con (.int .u64 0)), none, 0⟩,
        ⟨some 5, .mov (.con (.int .i64 4)), none, 0⟩])
     .ret)
    .skip))
  (.seq (.ops [⟨some 6, .mov (.con (.int .u64 0)), none, 0⟩])
  (.seq (.seq (.ops [⟨some 7, .mov (.con (.int .i64 1)), none, 0⟩])
   (.block 0
    (.loop f_sortkey_number_k0 f_sortkey_number_b0)))
  (.seq (.ops [⟨some 24, .mov (.tmp 6), none, 0⟩,
     ⟨some 25, .mov (.tmp 1), none, 0⟩,
     ⟨some 26, .bin .mul (.con (.int .i64 8)) (.tmp 25), none, 0⟩,
     ⟨some 27, .bin .sub (.tmp 26) (.con (.int .i64 1)), none, 0⟩,
     ⟨some 28, .bin .shl (.con (.int .u64 1)) (.tmp 27), none, 0⟩,
     ⟨some 29, .bin .xor (.tmp 24) (.tmp 28), none, 0⟩,
     ⟨some 4, .mov (.tmp 29), none, 0⟩,
     ⟨some 5, .mov (.con (.int .i64 0)), none, 0⟩])
  .ret))))) }
def f_sortkey_bytes_k0 : List Bool := [true, false, false, false, false, true, true, false, false, false, false, false, false, false, false, false, false, false, false, false, false, false, false, false, false, false, false, false, false, false, false, false, false, false, false, false, false, false, false, false, false, false, false, false, false, false, false]
def f_sortkey_bytes_b0 : XCode :=
  (.seq (.seq (.ops [⟨some 7, .mov (.tmp 6), none, 0⟩,
     ⟨some 8, .mov (.tmp 0), none, 0⟩,
     ⟨some 9, .lenS (.tmp 8), none, 0⟩,
     ⟨some 10, .bin .lss (.tmp 7) (.tmp 9), none, 0⟩])
  (.cond (.tmp 10)
   .skip
   (.exit 0)))
 (.seq (.block 1
   (.seq (.seq (.ops [⟨some 13, .mov (.tmp 0), none, 0⟩,
       ⟨some 14, .mov (.tmp 6), none, 0⟩,
       ⟨some 15, .indexStr (.tmp 13) (.tmp 14), none, 0⟩,
       ⟨some 16, .bin .neq (.tmp 15) (.con (.int .u8 0)), none, 0⟩])
    (.cond (.tmp 16)
     (.seq (.ops [⟨some 17, .mov (.tmp 5), none, 0⟩,
         ⟨some 18, .mov (.tmp 0), none, 0⟩,
         ⟨some 19, .mov (.tmp 6), none, 0⟩,
         ⟨some 20, .indexStr (.tmp 18) (.tmp 19), none, 0⟩,
         ⟨some 21, .rowLit false 1 1 [.int .u8 0] [(0, 1, (.tmp 20))], none, 0⟩,
         ⟨some 22, .append false 1 1 (.tmp 17) (.tmp 21), none, 0⟩,
         ⟨some 5, .mov (.tmp 22), none, 0⟩])
      (.exit 1))
     .skip))
   (.seq (.ops [⟨some 23, .mov (.tmp 6), none, 0⟩,
      ⟨some 24, .bin .add (.tmp 23) (.con (.int .i64 1)), none, 0⟩,
      ⟨some 6, .mov (.tmp 24), none, 0⟩])
   (.seq (.block 2
     (.seq (.ops [⟨some 26, .mov (.tmp 6), none, 0⟩,
        ⟨some 27, .mov (.tmp 0), none, 0⟩,
        ⟨some 28, .lenS (.tmp 27), none, 0⟩,
        ⟨some 29, .bin .eql (.tmp 26) (.tmp 28), none, 0⟩,
        ⟨some 25, .mov (.tmp 29), none, 0⟩])
     (.cond (.tmp 25)
      (.seq (.ops [⟨some 2, .mov (.con (.str [])), none, 0⟩,
          ⟨some 3, .mov (.con (.int .i64 0)), none, 0⟩,
          ⟨some 4, .mov (.con (.int .i64 4)), none, 0⟩])
       .ret)
      (.seq (.ops [⟨some 31, .mov (.tmp 0), none, 0⟩,
          ⟨some 32, .mov (.tmp 6), none, 0⟩,
          ⟨some 33, .indexStr (.tmp 31) (.tmp 32), none, 0⟩,
          ⟨some 34, .bin .eql (.tmp 33) (.con (.int .u8 0)), none, 0⟩,
          ⟨some 30, .mov (.tmp 34), none, 0⟩])
       (.cond (.tmp 30)
        (.seq (.ops [⟨some 35, .mov (.tmp 5), none, 0⟩,
            ⟨some 36, .toStr (.tmp 35), none, 0⟩,
            ⟨some 37, .mov (.tmp 6), none, 0⟩,
            ⟨some 38, .bin .add (.tmp 37) (.con (.int .i64 1)), none, 0⟩,
            ⟨some 2, .mov (.tmp 36), none, 0⟩,
            ⟨some 3, .mov (.tmp 38), none, 0⟩,
            ⟨some 4, .mov (.con (.int .i64 0)), none, 0⟩])
         .ret)
        (.seq (.ops [⟨some 40, .mov (.tmp 0), none, 0⟩,
            ⟨some 41, .mov (.tmp 6), none, 0⟩,
            ⟨some 42, .indexStr (.tmp 40) (.tmp 41), none, 0⟩,
            ⟨some 43, .bin .neq (.tmp 42) (.con (.int .u8 255)), none, 0⟩,
            ⟨some 39, .mov (.tmp 43), none, 0⟩])
         (.cond (.tmp 39)
          (.seq (.ops [⟨some 2, .mov (.con (.str [])), none, 0⟩,
              ⟨some 3, .mov (.con (.int .i64 0)), none, 0⟩,
              ⟨some 4, .mov (.con (.int .i64 5)), none, 0⟩])
           .ret)
          .skip)))))))
   (.ops [⟨some 44, .mov (.tmp 5), none, 0⟩,
     ⟨some 45, .rowLit false 1 1 [.int .u8 0] [(0, 1, (.con (.int .u8 0)))], none, 0⟩,
     ⟨some 46, .append false 1 1 (.tmp 44) (.tmp 45), none, 0⟩,
     ⟨some 5, .mov (.tmp 46), none, 0⟩])))))
 (.ops [⟨some 11, .mov (.tmp 6), none, 0⟩,
   ⟨some 12, .bin .add (.tmp 11) (.con (.int .i64 1)), none, 0⟩,
   ⟨some 6, .mov (.tmp 12), none, 0⟩])))
def f_sortkey_bytes_s0 (t0 t5 t6 : AV) : List AV := [t0, .unk, .unk, .unk, .unk, t5, t6, .unk, .unk, .unk, .unk, .unk, .unk, .unk, .unk, .unk, .unk, .unk, .unk, .unk, .unk, .unk, .unk, .unk, .unk, .unk, .unk, .unk, .unk, .unk, .unk, .unk, .unk, .unk, .unk, .unk, .unk, .unk, .unk, .unk, .unk, .unk, .unk, .unk, .unk, .unk, .unk]
/-- haulage/sortkey.bytes -/
def f_sortkey_bytes : XFunc := { ntmps := 47, res := [.tmp 2, .tmp 3, .tmp 4], pure := true, body :=
  (.seq (.ops [⟨some 2, .mov (.con (.str [])), none, 0⟩,
     ⟨some 3, .mov (.con (.int .i64 0)), none, 0⟩,
     ⟨some 4, .mov (.con (.int .i64 0)), none, 0⟩])
  (.seq (.ops [⟨some 5, .mov (.con .nils), none, 0⟩])
  (.seq (.seq (.ops [⟨some 6, .mov (.con (.int .i64 1)), none, 0⟩])
   (.block 0
    (.loop f_sortkey_bytes_k0 f_sortkey_bytes_b0)))
  (.seq (.ops [⟨some 2, .mov (.con (.str [])), none, 0⟩,
     ⟨some 3, .mov (.con (.int .i64 0)), none, 0⟩,
     ⟨some 4, .mov (.con (.int .i64 4)), none, 0⟩])
  .ret)))) }
/-- haulage/haulageref07.number -/
def f_haulageref07_number : XFunc := { ntmps := 44, res := [.cell 6 3 true, .tmp 7, .tmp 8], pure := true, body :=
  (.seq (.ops [⟨some 6, .alloc [.int .i64 0, .int .i64 0, .str []], none, 0⟩,
     ⟨some 7, .mov (.con (.int .i64 0)), none, 0⟩,
     ⟨some 8, .mov (.con (.int .i64 0)), none, 0⟩])
  (.seq (.seq (.ops [⟨some 11, .mov (.tmp 0), none, 0⟩,
      ⟨some 12, .lenS (.tmp 11), none, 0⟩,
      ⟨some 13, .mov (.tmp 2), none, 0⟩,
      ⟨some 14, .bin .add (.tmp 13) (.con (.int .i64 1)), none, 0⟩,
      ⟨some 15, .bin .lss (.tmp 12) (.tmp 14), none, 0⟩])
   (.cond (.tmp 15)
    (.seq (.ops [⟨some 16, .build [.int .i64 0, .int .i64 0, .str []] [], none, 0⟩,
        ⟨none, .store 3 (.tmp 6) (.tmp 16), none, 0⟩,
        ⟨some 7, .mov (.con (.int .i64 0)), none, 0⟩,
        ⟨some 8, .mov (.con (.int .i64 4)), none, 0⟩])
     .ret)
    .skip))
  (.seq (.ops [⟨some 18, .mov (.tmp 0), none, 0⟩,
     ⟨some 19, .mov (.tmp 2), none, 0⟩,
     ⟨some 20, .bin .add (.tmp 19) (.con (.int .i64 1)), none, 0⟩,
     ⟨some 21, .cutStr (.tmp 18) (some (.con (.int .i64 1))) (some (.tmp 20)), none, 0⟩,
     ⟨some 22, .call (.fn 120) [(.tmp 21)], none, 0⟩,
     ⟨some 23, .mov (.tmp 2), none, 0⟩,
     ⟨some 24, .call (.fn 121) [(.tmp 22), (.tmp 23)], none, 0⟩,
     ⟨some 17, .mov (.tmp 24), none, 0⟩,
     ⟨some 25, .extract (.tmp 17) 0, none, 0⟩,
     ⟨some 26, .extract (.tmp 17) 1, none, 0⟩,
     ⟨some 9, .mov (.tmp 25), none, 0⟩,
     ⟨some 10, .mov (.tmp 26), none, 0⟩])
  (.seq (.seq (.ops [⟨some 27, .mov (.tmp 1), none, 0⟩,
      ⟨some 28, .bin .eql (.tmp 27) (.con (.int .i64 1)), none, 0⟩])
   (.cond (.tmp 28)
    (.seq (.ops [⟨some 29, .mov (.tmp 9), none, 0⟩,
        ⟨some 30, .toInt .i64 (.tmp 29), none, 0⟩,
        ⟨some 31, .bin .sub (.tmp 30) (.con (.int .i64 2147483648)), none, 0⟩,
        ⟨some 32, .build [.int .i64 0, .int .i64 0, .str []] [(0, 1, (.con (.int .i64 1))), (1, 1, (.tmp 31))], none, 0⟩,
        ⟨none, .store 3 (.tmp 6) (.tmp 32), none, 0⟩,
        ⟨some 7, .mov (.con (.int .i64 5)), none, 0⟩,
        ⟨some 8, .mov (.con (.int .i64 0)), none, 0⟩])
     .ret)
    .skip))
  (.seq (.seq (.ops [⟨some 33, .mov (.tmp 9), none, 0⟩,
      ⟨some 34, .bin .geq (.tmp 33) (.con (.int .u64 9223372036854775808)), none, 0⟩])
   (.cond (.tmp 34)
    (.seq (.ops [⟨some 35, .mov (.tmp 9), none, 0⟩,
        ⟨some 36, .bin .sub (.tmp 35) (.con (.int .u64 9223372036854775808)), none, 0⟩,
        ⟨some 37, .toInt .i64 (.tmp 36), none, 0⟩,
        ⟨some 38, .build [.int .i64 0, .int .i64 0, .str []] [(0, 1, (.con (.int .i64 2))), (1, 1, (.tmp 37))], none, 0⟩,
        ⟨none, .store 3 (.tmp 6) (.tmp 38), none, 0⟩,
        ⟨some 7, .mov (.con (.int .i64 9)), none, 0⟩,
        ⟨some 8, .mov (.con (.int .i64 0)), none, 0⟩])
     .ret)
    .skip))
  (.seq (.ops [⟨some 39, .mov (.tmp 9), none, 0⟩,
     ⟨some 40, .toInt .i64 (.tmp 39), none, 0⟩,
     ⟨some 41, .bin .sub (.tmp 40) (.con (.int .i64 9223372036854775807)), none, 0⟩,
     ⟨some 42, .bin .sub (.tmp 41) (.con (.int .i64 1)), none, 0⟩,
     ⟨some 43, .build [.int .i64 0, .int .i64 0, .str []] [(0, 1, (.con (.int .i64 2))), (1, 1, (.tmp 42))], none, 0⟩,
     ⟨none, .store 3 (.tmp 6) (.tmp 43), none, 0⟩,
     ⟨some 7, .mov (.con (.int .i64 9)), none, 0⟩,
     ⟨some 8, .mov (.con (.int .i64 0)), none, 0⟩])
  .ret)))))) }
def f_sortkey_put_k0 : List Bool := [true, true, false, false, false, false, false, true, false, false, false, false, false, false, false, false, false, false, false, false, false, false, false, false, false, false, false, false, false]
def f_sortkey_put_b0 : XCode :=
  (.seq (.seq (.ops [⟨some 16, .mov (.tmp 7), none, 0⟩,
     ⟨some 17, .bin .geq (.tmp 16) (.con (.int .i64 0)), none, 0⟩])
  (.cond (.tmp 17)
   .skip
   (.exit 0)))
 (.seq (.block 1
   (.ops [⟨some 20, .mov (.tmp 0), none, 0⟩,
     ⟨some 21, .mov (.tmp 1), none, 0⟩,
     ⟨some 22, .mov (.tmp 7), none, 0⟩,
     ⟨some 23, .bin .mul (.con (.int .i64 8)) (.tmp 22), none, 0⟩,
     ⟨some 24, .bin .shr (.tmp 21) (.tmp 23), none, 0⟩,
     ⟨some 25, .toInt .u8 (.tmp 24), none, 0⟩,
     ⟨some 26, .rowLit false 1 1 [.int .u8 0] [(0, 1, (.tmp 25))], none, 0⟩,
     ⟨some 27, .append false 1 1 (.tmp 20) (.tmp 26), none, 0⟩,
     ⟨some 0, .mov (.tmp 27), none, 0⟩]))
 (.ops [⟨some 18, .mov (.tmp 7), none, 0⟩,
   ⟨some 19, .bin .sub (.tmp 18) (.con (.int .i64 1)), none, 0⟩,
   ⟨some 7, .mov (.tmp 19), none, 0⟩])))
def f_sortkey_put_s0 (t0 t1 t7 : AV) : List AV := [t0, t1, .unk, .unk, .unk, .unk, .unk, t7, .unk, .unk, .unk, .unk, .unk, .unk, .unk, .unk, .unk, .unk, .unk, .unk, .unk, .unk, .unk, .unk, .unk, .unk, .unk, .unk, .unk]
/-- haulage/sortkey.put -/
def f_sortkey_put : XFunc := { ntmps := 29, res := [.tmp 6], pure := false, body :=
  (.seq (.ops [⟨some 6, .mov (.con .nils), none, 0⟩])
  (.seq (.ops [⟨some 8, .mov (.tmp 1), none, 0⟩,
     ⟨some 9, .mov (.tmp 2), none, 0⟩,
     ⟨some 10, .bin .mul (.con (.int .i64 8)) (.tmp 9), none, 0⟩,
     ⟨some 11, .bin .sub (.tmp 10) (.con (.int .i64 1)), none, 0⟩,
     ⟨some 12, .bin .shl (.con (.int .u64 1)) (.tmp 11), none, 0⟩,
     ⟨some 13, .bin .xor (.tmp 8) (.tmp 12), none, 0⟩,
     ⟨some 1, .mov (.tmp 13), none, 0⟩])
  (.seq (.seq (.ops [⟨some 14, .mov (.tmp 2), none, 0⟩,
      ⟨some 15, .bin .sub (.tmp 14) (.con (.int .i64 1)), none, 0⟩,
      ⟨some 7, .mov (.tmp 15), none, 0⟩])
   (.block 0
    (.loop f_sortkey_put_k0 f_sortkey_put_b0)))
  (.seq (.ops [⟨some 28, .mov (.tmp 0), none, 0⟩,
     ⟨some 6, .mov (.tmp 28), none, 0⟩])
  .ret)))) }
def f_haulageref07_back_k0 : List Bool := [true, false, false, true, true, false, false, false, false, false, false, false, false, false, false, false, false, false, false, false]
def f_haulageref07_back_b0 : XCode :=
  (.seq (.seq (.ops [⟨some 8, .mov (.tmp 4), none, 0⟩,
     ⟨some 9, .bin .geq (.tmp 8) (.con (.int .i64 0)), none, 0⟩])
  (.cond (.tmp 9)
   .skip
   (.exit 0)))
 (.seq (.block 1
   (.ops [⟨some 12, .mov (.tmp 3), none, 0⟩,
     ⟨some 13, .mov (.tmp 0), none, 0⟩,
     ⟨some 14, .mov (.tmp 4), none, 0⟩,
     ⟨some 15, .mov (.tmp 4), none, 0⟩,
     ⟨some 16, .bin .add (.tmp 15) (.con (.int .i64 1)), none, 0⟩,
     ⟨some 17, .cutStr (.tmp 13) (some (.tmp 14)) (some (.tmp 16)), none, 0⟩,
     ⟨some 18, .bin .add (.tmp 12) (.tmp 17), none, 0⟩,
     ⟨some 3, .mov (.tmp 18), none, 0⟩]))
 (.ops [⟨some 10, .mov (.tmp 4), none, 0⟩,
   ⟨some 11, .bin .sub (.tmp 10) (.con (.int .i64 1)), none, 0⟩,
   ⟨some 4, .mov (.tmp 11), none, 0⟩])))
def f_haulageref07_back_s0 (t0 t3 t4 : AV) : List AV := [t0, .unk, .unk, t3, t4, .unk, .unk, .unk, .unk, .unk, .unk, .unk, .unk, .unk, .unk, .unk, .unk, .unk, .unk, .unk]
/-- haulage/haulageref07.back -/
def f_haulageref07_back : XFunc := { ntmps := 20, res := [.tmp 2], pure := true, body :=
  (.seq (.ops [⟨some 2, .mov (.con (.str [])), none, 0⟩])
  (.seq (.ops [⟨some 3, .mov (.con (.str [])), none, 0⟩])
  (.seq (.seq (.ops [⟨some 5, .mov (.tmp 0), none, 0⟩,
      ⟨some 6, .lenS (.tmp 5), none, 0⟩,
      ⟨some 7, .bin .sub (.tmp 6) (.con (.int .i64 1)), none, 0⟩,
      ⟨some 4, .mov (.tmp 7), none, 0⟩])
   (.block 0
    (.loop f_haulageref07_back_k0 f_haulageref07_back_b0)))
  (.seq (.ops [⟨some 19, .mov (.tmp 3), none, 0⟩,
     ⟨some 2, .mov (.tmp 19), none, 0⟩])
  .ret)))) }
def f_haulageref01_Put_k0 : List Bool := [true, true, false, false, false, true, true, false, false, false, false, false, false, false, false, false, false, false, false, false, false, false]
def f_haulageref01_Put_b0 : XCode :=
  (.seq (.seq (.ops [⟨some 7, .mov (.tmp 6), none, 0⟩,
     ⟨some 8, .mov (.tmp 1), none, 0⟩,
     ⟨some 9, .bin .lss (.tmp 7) (.tmp 8), none, 0⟩])
  (.cond (.tmp 9)
   .skip
   (.exit 0)))
 (.seq (.block 1
   (.seq (.ops [⟨some 12, .mov (.tmp 5), none, 0⟩,
      ⟨some 13, .mov (.tmp 0), none, 0⟩,
      ⟨some 14, .bin .rem (.tmp 13) (.con (.int .u64 256)), none, 0⟩,
      ⟨some 15, .toInt .u8 (.tmp 14), none, 0⟩,
      ⟨some 16, .rowLit false 1 1 [.int .u8 0] [(0, 1, (.tmp 15))], none, 0⟩,
      ⟨some 17, .toStr (.tmp 16), none, 0⟩,
      ⟨some 18, .bin .add (.tmp 12) (.tmp 17), none, 0⟩,
      ⟨some 5, .mov (.tmp 18), none, 0⟩])
   (.ops [⟨some 19, .mov (.tmp 0), none, 0⟩,
     ⟨some 20, .bin .quo (.tmp 19) (.con (.int .u64 256)), none, 0⟩,
     ⟨some 0, .mov (.tmp 20), none, 0⟩])))
 (.ops [⟨some 10, .mov (.tmp 6), none, 0⟩,
   ⟨some 11, .bin .add (.tmp 10) (.con (.int .i64 1)), none, 0⟩,
   ⟨some 6, .mov (.tmp 11), none, 0⟩])))
def f_haulageref01_Put_s0 (t0 t1 t5 t6 : AV) : List AV := [t0, t1, .unk, .unk, .unk, t5, t6, .unk, .unk, .unk, .unk, .unk, .unk, .unk, .unk, .unk, .unk, .unk, .unk, .unk, .unk, .unk]
/-- haulage/haulageref01.Put -/
def f_haulageref01_Put : XFunc := { ntmps := 22, res := [.tmp 4], pure := true, body :=
  (.seq (.ops [⟨some 4, .mov (.con (.str [])), none, 0⟩])
  (.seq (.ops [⟨some 5, .mov (.con (.str [])), none, 0⟩])
  (.seq (.seq (.ops [⟨some 6, .mov (.con (.int .i64 0)), none, 0⟩])
   (.block 0
    (.loop f_haulageref01_Put_k0 f_haulageref01_Put_b0)))
  (.seq (.ops [⟨some 21, .mov (.tmp 5), none, 0⟩,
     ⟨some 4, .mov (.tmp 21), none, 0⟩])
  .ret)))) }
def f_haulageref01_Get_k0 : List Bool := [true, false, false, false, false, false, true, true, false, false, false, false, false, false, false, false, false, false, false, false, false, false, false, false, false, false, false, false, false, false]
def f_haulageref01_Get_b0 : XCode :=
  (.seq (.seq (.ops [⟨some 18, .mov (.tmp 7), none, 0⟩,
     ⟨some 19, .bin .geq (.tmp 18) (.con (.int .i64 0)), none, 0⟩])
  (.cond (.tmp 19)
   .skip
   (.exit 0)))
 (.seq (.block 1
   (.ops [⟨some 22, .mov (.tmp 6), none, 0⟩,
     ⟨some 23, .bin .mul (.tmp 22) (.con (.int .u64 256)), none, 0⟩,
     ⟨some 24, .mov (.tmp 0), none, 0⟩,
     ⟨some 25, .mov (.tmp 7), none, 0⟩,
     ⟨some 26, .indexStr (.tmp 24) (.tmp 25), none, 0⟩,
     ⟨some 27, .toInt .u64 (.tmp 26), none, 0⟩,
     ⟨some 28, .bin .add (.tmp 23) (.tmp 27), none, 0⟩,
     ⟨some 6, .mov (.tmp 28), none, 0⟩]))
 (.ops [⟨some 20, .mov (.tmp 7), none, 0⟩,
   ⟨some 21, .bin .sub (.tmp 20) (.con (.int .i64 1)), none, 0⟩,
   ⟨some 7, .mov (.tmp 21), none, 0⟩])))
def f_haulageref01_Get_s0 (t0 t6 t7 : AV) : List AV := [t0, .unk, .unk, .unk, .unk, .unk, t6, t7, .unk, .unk, .unk, .unk, .unk, .unk, .unk, .unk, .unk, .unk, .unk, .unk, .unk, .unk, .unk, .unk, .unk, .unk, .unk, .unk, .unk, .unk]
/-- haulage/haulageref01.Get -/
def f_haulageref01_Get : XFunc := { ntmps := 30, res := [.tmp 4, .tmp 5], pure := true, body :=
  (.seq (.ops [⟨some 4, .mov (.con (.int .u64 0)), none, 0⟩,
     ⟨some 5, .mov (.con (.int .i64 0)), none, 0⟩])
  (.seq (.seq (.ops [⟨some 8, .mov (.tmp 0), none, 0⟩,
      ⟨some 9, .lenS (.tmp 8), none, 0⟩,
      ⟨some 10, .mov (.tmp 1), none, 0⟩,
      ⟨some 11, .bin .lss (.tmp 9) (.tmp 10), none, 0⟩])
   (.cond (.tmp 11)
    (.seq (.ops [⟨some 4, .mov (.con (.int .u64 0)), none, 0⟩,
        ⟨some 5, .mov (.con (.int .i64 4)), none, 0⟩])
     .ret)
    .skip))
  (.seq (.seq (.ops [⟨some 12, .mov (.tmp 0), none, 0⟩,
      ⟨some 13, .lenS (.tmp 12), none, 0⟩,
      ⟨some 14, .mov (.tmp 1), none, 0⟩,
      ⟨some 15, .bin .gtr (.tmp 13) (.tmp 14), none, 0⟩])
   (.cond (.tmp 15)
    (.seq (.ops [⟨some 4, .mov (.con (.int .u64 0)), none, 0⟩,
        ⟨some 5, .mov (.con (.int .i64 6)), none, 0⟩])
     .ret)
    .skip))
  (.seq (.ops [⟨some 6, .mov (.con (.int .u64 0)), none, 0⟩])
  (.seq (.seq (.ops [⟨some 16, .mov (.tmp 1), none, 0⟩,
      ⟨some 17, .bin .sub (.tmp 16) (.con (.int .i64 1)), none, 0⟩,
      ⟨some 7, .mov (.tmp 17), none, 0⟩])
   (.block 0
    (.loop f_haulageref01_Get_k0 f_haulageref01_Get_b0)))
  (.seq (.ops [⟨some 29, .mov (.tmp 6), none, 0⟩,
     ⟨some 4, .mov (.tmp 29), none, 0⟩,
     ⟨some 5, .mov (.con (.int .i64 0)), none, 0⟩])
  .ret)))))) }
end Hx.Fn
