/- HxFn06: written by gen.py -/
import Derived.Test.YtfobhbameffplaaHxDefs
namespace Hx.Fn
open Go
def f_haulageref06_Cast : XFunc := { ntmps := 52, res := [.cell 4 3 true, .tmp 5], pure := true, body :=
  (.seq (.ops [⟨some 2, .box (.tmp 0), none, 0⟩,
     ⟨some 3, .box (.tmp 1), none, 0⟩,
     ⟨some 4, .alloc [.int .i64 0, .int .i64 0, .str []], none, 0⟩,
     ⟨some 5, .mov (.con (.int .i64 0)), none, 0⟩])
  (.seq (.seq (.ops [⟨some 7, .load 3 true (.tmp 2), none, 0⟩,
      ⟨some 8, .call (.fn 34) [(.tmp 7)], none, 0⟩,
      ⟨some 9, .un .not (.tmp 8), none, 0⟩,
      ⟨some 10, .mov (.tmp 9), none, 0⟩,
      ⟨some 11, .load 2 true (.tmp 3), some (10, false), 0⟩,
      ⟨some 12, .call (.fn 85) [(.tmp 11)], some (10, false), 0⟩,
      ⟨some 13, .un .not (.tmp 12), some (10, false), 0⟩,
      ⟨some 14, .pick (.tmp 10) (.con (.bool true)) (.tmp 13), none, 0⟩])
   (.cond (.tmp 14)
    (.seq (.ops [⟨some 15, .build [.int .i64 0, .int .i64 0, .str []] [], none, 0⟩,
        ⟨none, .store 3 (.tmp 4) (.tmp 15), none, 0⟩,
        ⟨some 5, .mov (.con (.int .i64 2)), none, 0⟩])
     .ret)
    .skip))
  (.seq (.seq (.ops [⟨some 16, .fieldAddr 0 (.tmp 2), none, 0⟩,
      ⟨some 17, .load 1 false (.tmp 16), none, 0⟩,
      ⟨some 18, .bin .eql (.tmp 17) (.con (.int .i64 0)), none, 0⟩])
   (.cond (.tmp 18)
    (.seq (.ops [⟨some 19, .load 3 true (.tmp 2), none, 0⟩,
        ⟨none, .store 3 (.tmp 4) (.tmp 19), none, 0⟩,
        ⟨some 5, .mov (.con (.int .i64 0)), none, 0⟩])
     .ret)
    .skip))
  (.seq (.seq (.ops [⟨some 20, .fieldAddr 0 (.tmp 3), none, 0⟩,
      ⟨some 21, .load 1 false (.tmp 20), none, 0⟩,
      ⟨some 22, .fieldAddr 0 (.tmp 2), none, 0⟩,
      ⟨some 23, .load 1 false (.tmp 22), none, 0⟩,
      ⟨some 24, .bin .lss (.tmp 21) (.tmp 23), none, 0⟩])
   (.cond (.tmp 24)
    (.seq (.ops [⟨some 25, .build [.int .i64 0, .int .i64 0, .str []] [], none, 0⟩,
        ⟨none, .store 3 (.tmp 4) (.tmp 25), none, 0⟩,
        ⟨some 5, .mov (.con (.int .i64 9)), none, 0⟩])
     .ret)
    .skip))
  (.seq (.seq (.ops [⟨some 26, .fieldAddr 0 (.tmp 3), none, 0⟩,
      ⟨some 27, .load 1 false (.tmp 26), none, 0⟩,
      ⟨some 28, .bin .lss (.tmp 27) (.con (.int .i64 3)), none, 0⟩])
   (.cond (.tmp 28)
    (.seq (.ops [⟨some 29, .fieldAddr 0 (.tmp 3), none, 0⟩,
        ⟨some 30, .load 1 false (.tmp 29), none, 0⟩,
        ⟨some 31, .fieldAddr 1 (.tmp 2), none, 0⟩,
        ⟨some 32, .load 1 false (.tmp 31), none, 0⟩,
        ⟨some 33, .build [.int .i64 0, .int .i64 0, .str []] [(0, 1, (.tmp 30)), (1, 1, (.tmp 32))], none, 0⟩,
        ⟨none, .store 3 (.tmp 4) (.tmp 33), none, 0⟩,
        ⟨some 5, .mov (.con (.int .i64 0)), none, 0⟩])
     .ret)
    .skip))
  (.seq (.ops [⟨some 34, .fieldAddr 2 (.tmp 2), none, 0⟩,
     ⟨some 35, .load 1 false (.tmp 34), none, 0⟩,
     ⟨some 6, .mov (.tmp 35), none, 0⟩])
  (.seq (.seq (.ops [⟨some 36, .fieldAddr 0 (.tmp 2), none, 0⟩,
      ⟨some 37, .load 1 false (.tmp 36), none, 0⟩,
      ⟨some 38, .bin .lss (.tmp 37) (.con (.int .i64 3)), none, 0⟩])
   (.cond (.tmp 38)
    (.ops [⟨some 39, .fieldAddr 1 (.tmp 2), none, 0⟩,
       ⟨some 40, .load 1 false (.tmp 39), none, 0⟩,
       ⟨some 41, .call (.fn 40) [(.tmp 40)], none, 0⟩,
       ⟨some 6, .mov (.tmp 41), none, 0⟩])
    .skip))
  (.seq (.seq (.ops [⟨some 42, .mov (.tmp 6), none, 0⟩,
      ⟨some 43, .lenS (.tmp 42), none, 0⟩,
      ⟨some 44, .fieldAddr 1 (.tmp 3), none, 0⟩,
      ⟨some 45, .load 1 false (.tmp 44), none, 0⟩,
      ⟨some 46, .bin .gtr (.tmp 43) (.tmp 45), none, 0⟩])
   (.cond (.tmp 46)
    (.seq (.ops [⟨some 47, .build [.int .i64 0, .int .i64 0, .str []] [], none, 0⟩,
        ⟨none, .store 3 (.tmp 4) (.tmp 47), none, 0⟩,
        ⟨some 5, .mov (.con (.int .i64 10)), none, 0⟩])
     .ret)
    .skip))
  (.seq (.ops [⟨some 48, .fieldAddr 0 (.tmp 3), none, 0⟩,
     ⟨some 49, .load 1 false (.tmp 48), none, 0⟩,
     ⟨some 50, .mov (.tmp 6), none, 0⟩,
     ⟨some 51, .build [.int .i64 0, .int .i64 0, .str []] [(0, 1, (.tmp 49)), (2, 1, (.tmp 50))], none, 0⟩,
     ⟨none, .store 3 (.tmp 4) (.tmp 51), none, 0⟩,
     ⟨some 5, .mov (.con (.int .i64 0)), none, 0⟩])
  .ret))))))))) }
def f_haulageref06_Right : XFunc := { ntmps := 32, res := [.tmp 2], pure := true, body :=
  (.seq (.ops [⟨some 1, .box (.tmp 0), none, 0⟩,
     ⟨some 2, .mov (.con (.bool false)), none, 0⟩])
  (.seq (.seq (.ops [⟨some 3, .fieldAddr 0 (.tmp 1), none, 0⟩,
      ⟨some 4, .load 1 false (.tmp 3), none, 0⟩,
      ⟨some 5, .bin .eql (.tmp 4) (.con (.int .i64 1)), none, 0⟩,
      ⟨some 6, .mov (.tmp 5), none, 0⟩,
      ⟨some 7, .fieldAddr 0 (.tmp 1), some (6, false), 0⟩,
      ⟨some 8, .load 1 false (.tmp 7), some (6, false), 0⟩,
      ⟨some 9, .bin .eql (.tmp 8) (.con (.int .i64 2)), some (6, false), 0⟩,
      ⟨some 10, .pick (.tmp 6) (.con (.bool true)) (.tmp 9), none, 0⟩])
   (.cond (.tmp 10)
    (.seq (.ops [⟨some 11, .fieldAddr 1 (.tmp 1), none, 0⟩,
        ⟨some 12, .load 1 false (.tmp 11), none, 0⟩,
        ⟨some 13, .bin .eql (.tmp 12) (.con (.int .i64 0)), none, 0⟩,
        ⟨some 2, .mov (.tmp 13), none, 0⟩])
     .ret)
    .skip))
  (.seq (.ops [⟨some 14, .fieldAddr 0 (.tmp 1), none, 0⟩,
     ⟨some 15, .load 1 false (.tmp 14), none, 0⟩,
     ⟨some 16, .bin .eql (.tmp 15) (.con (.int .i64 3)), none, 0⟩,
     ⟨some 17, .mov (.tmp 16), none, 0⟩,
     ⟨some 18, .fieldAddr 0 (.tmp 1), some (17, false), 0⟩,
     ⟨some 19, .load 1 false (.tmp 18), some (17, false), 0⟩,
     ⟨some 20, .bin .eql (.tmp 19) (.con (.int .i64 4)), some (17, false), 0⟩,
     ⟨some 21, .pick (.tmp 17) (.con (.bool true)) (.tmp 20), none, 0⟩,
     ⟨some 22, .mov (.tmp 21), none, 0⟩,
     ⟨some 23, .fieldAddr 1 (.tmp 1), some (22, true), 0⟩,
     ⟨some 24, .load 1 false (.tmp 23), some (22, true), 0⟩,
     ⟨some 25, .bin .geq (.tmp 24) (.con (.int .i64 1)), some (22, true), 0⟩,
     ⟨some 26, .pick (.tmp 22) (.tmp 25) (.con (.bool false)), none, 0⟩,
     ⟨some 27, .mov (.tmp 26), none, 0⟩,
     ⟨some 28, .fieldAddr 1 (.tmp 1), some (27, true), 0⟩,
     ⟨some 29, .load 1 false (.tmp 28), some (27, true), 0⟩,
     ⟨some 30, .bin .leq (.tmp 29) (.con (.int .i64 120)), some (27, true), 0⟩,
     ⟨some 31, .pick (.tmp 27) (.tmp 30) (.con (.bool false)), none, 0⟩,
     ⟨some 2, .mov (.tmp 31), none, 0⟩])
  .ret))) }
def f_haulageref06_Fits : XFunc := { ntmps := 31, res := [.tmp 4], pure := true, body :=
  (.seq (.ops [⟨some 2, .box (.tmp 0), none, 0⟩,
     ⟨some 3, .box (.tmp 1), none, 0⟩,
     ⟨some 4, .mov (.con (.bool false)), none, 0⟩])
  (.seq (.ops [⟨some 5, .load 2 true (.tmp 2), none, 0⟩,
     ⟨some 6, .call (.fn 85) [(.tmp 5)], none, 0⟩,
     ⟨some 7, .mov (.tmp 6), none, 0⟩,
     ⟨some 8, .load 3 true (.tmp 3), some (7, true), 0⟩,
     ⟨some 9, .call (.fn 34) [(.tmp 8)], some (7, true), 0⟩,
     ⟨some 10, .pick (.tmp 7) (.tmp 9) (.con (.bool false)), none, 0⟩,
     ⟨some 11, .mov (.tmp 10), none, 0⟩,
     ⟨some 12, .fieldAddr 0 (.tmp 3), some (11, true), 0⟩,
     ⟨some 13, .load 1 false (.tmp 12), some (11, true), 0⟩,
     ⟨some 14, .fieldAddr 0 (.tmp 2), some (11, true), 0⟩,
     ⟨some 15, .load 1 false (.tmp 14), some (11, true), 0⟩,
     ⟨some 16, .bin .eql (.tmp 13) (.tmp 15), some (11, true), 0⟩,
     ⟨some 17, .pick (.tmp 11) (.tmp 16) (.con (.bool false)), none, 0⟩,
     ⟨some 18, .mov (.tmp 17), none, 0⟩,
     ⟨some 19, .fieldAddr 0 (.tmp 2), some (18, true), 0⟩,
     ⟨some 20, .load 1 false (.tmp 19), some (18, true), 0⟩,
     ⟨some 21, .bin .lss (.tmp 20) (.con (.int .i64 3)), some (18, true), 0⟩,
     ⟨some 22, .mov (.tmp 21), some (18, true), 0⟩,
     ⟨some 23, .fieldAddr 2 (.tmp 3), some (22, false), 0⟩,
     ⟨some 24, .load 1 false (.tmp 23), some (22, false), 0⟩,
     ⟨some 25, .lenS (.tmp 24), some (22, false), 0⟩,
     ⟨some 26, .fieldAddr 1 (.tmp 2), some (22, false), 0⟩,
     ⟨some 27, .load 1 false (.tmp 26), some (22, false), 0⟩,
     ⟨some 28, .bin .leq (.tmp 25) (.tmp 27), some (22, false), 0⟩,
     ⟨some 29, .pick (.tmp 22) (.con (.bool true)) (.tmp 28), some (18, true), 0⟩,
     ⟨some 30, .pick (.tmp 18) (.tmp 29) (.con (.bool false)), none, 0⟩,
     ⟨some 4, .mov (.tmp 30), none, 0⟩])
  .ret)) }
def f_haulageref06_Wide : XFunc := { ntmps := 62, res := [.tmp 4], pure := true, body :=
  (.seq (.ops [⟨some 2, .box (.tmp 0), none, 0⟩,
     ⟨some 3, .box (.tmp 1), none, 0⟩,
     ⟨some 4, .mov (.con (.bool false)), none, 0⟩])
  (.seq (.seq (.ops [⟨some 5, .load 2 true (.tmp 2), none, 0⟩,
      ⟨some 6, .call (.fn 85) [(.tmp 5)], none, 0⟩,
      ⟨some 7, .un .not (.tmp 6), none, 0⟩,
      ⟨some 8, .mov (.tmp 7), none, 0⟩,
      ⟨some 9, .load 2 true (.tmp 3), some (8, false), 0⟩,
      ⟨some 10, .call (.fn 85) [(.tmp 9)], some (8, false), 0⟩,
      ⟨some 11, .un .not (.tmp 10), some (8, false), 0⟩,
      ⟨some 12, .pick (.tmp 8) (.con (.bool true)) (.tmp 11), none, 0⟩])
   (.cond (.tmp 12)
    (.seq (.ops [⟨some 4, .mov (.con (.bool false)), none, 0⟩])
     .ret)
    .skip))
  (.seq (.seq (.ops [⟨some 13, .fieldAddr 0 (.tmp 3), none, 0⟩,
      ⟨some 14, .load 1 false (.tmp 13), none, 0⟩])
   (.block 0
    (.seq (.ops [⟨some 16, .bin .eql (.tmp 14) (.con (.int .i64 1)), none, 0⟩,
       ⟨some 15, .mov (.tmp 16), none, 0⟩])
    (.cond (.tmp 15)
     (.seq (.ops [⟨some 17, .fieldAddr 0 (.tmp 2), none, 0⟩,
         ⟨some 18, .load 1 false (.tmp 17), none, 0⟩,
         ⟨some 19, .bin .leq (.tmp 18) (.con (.int .i64 2)), none, 0⟩,
         ⟨some 20, .mov (.tmp 19), none, 0⟩,
         ⟨some 21, .fieldAddr 1 (.tmp 2), some (20, false), 0⟩,
         ⟨some 22, .load 1 false (.tmp 21), some (20, false), 0⟩,
         ⟨some 23, .bin .geq (.tmp 22) (.con (.int .i64 11)), some (20, false), 0⟩,
         ⟨some 24, .pick (.tmp 20) (.con (.bool true)) (.tmp 23), none, 0⟩,
         ⟨some 4, .mov (.tmp 24), none, 0⟩])
      .ret)
     (.seq (.ops [⟨some 26, .bin .eql (.tmp 14) (.con (.int .i64 2)), none, 0⟩,
         ⟨some 25, .mov (.tmp 26), none, 0⟩])
      (.cond (.tmp 25)
       (.seq (.ops [⟨some 27, .fieldAddr 0 (.tmp 2), none, 0⟩,
           ⟨some 28, .load 1 false (.tmp 27), none, 0⟩,
           ⟨some 29, .bin .eql (.tmp 28) (.con (.int .i64 2)), none, 0⟩,
           ⟨some 30, .mov (.tmp 29), none, 0⟩,
           ⟨some 31, .fieldAddr 0 (.tmp 2), some (30, false), 0⟩,
           ⟨some 32, .load 1 false (.tmp 31), some (30, false), 0⟩,
           ⟨some 33, .bin .gtr (.tmp 32) (.con (.int .i64 2)), some (30, false), 0⟩,
           ⟨some 34, .mov (.tmp 33), some (30, false), 0⟩,
           ⟨some 35, .fieldAddr 1 (.tmp 2), some (34, true), 0⟩,
           ⟨some 36, .load 1 false (.tmp 35), some (34, true), 0⟩,
           ⟨some 37, .bin .geq (.tmp 36) (.con (.int .i64 20)), some (34, true), 0⟩,
           ⟨some 38, .pick (.tmp 34) (.tmp 37) (.con (.bool false)), some (30, false), 0⟩,
           ⟨some 39, .pick (.tmp 30) (.con (.bool true)) (.tmp 38), none, 0⟩,
           ⟨some 4, .mov (.tmp 39), none, 0⟩])
        .ret)
       (.seq (.ops [⟨some 41, .bin .eql (.tmp 14) (.con (.int .i64 3)), none, 0⟩,
           ⟨some 40, .mov (.tmp 41), none, 0⟩])
        (.cond (.tmp 40)
         (.seq (.ops [⟨some 42, .fieldAddr 0 (.tmp 2), none, 0⟩,
             ⟨some 43, .load 1 false (.tmp 42), none, 0⟩,
             ⟨some 44, .bin .geq (.tmp 43) (.con (.int .i64 3)), none, 0⟩,
             ⟨some 45, .mov (.tmp 44), none, 0⟩,
             ⟨some 46, .fieldAddr 1 (.tmp 2), some (45, true), 0⟩,
             ⟨some 47, .load 1 false (.tmp 46), some (45, true), 0⟩,
             ⟨some 48, .fieldAddr 1 (.tmp 3), some (45, true), 0⟩,
             ⟨some 49, .load 1 false (.tmp 48), some (45, true), 0⟩,
             ⟨some 50, .bin .geq (.tmp 47) (.tmp 49), some (45, true), 0⟩,
             ⟨some 51, .pick (.tmp 45) (.tmp 50) (.con (.bool false)), none, 0⟩,
             ⟨some 4, .mov (.tmp 51), none, 0⟩])
          .ret)
         .skip))))))))
  (.seq (.ops [⟨some 52, .fieldAddr 0 (.tmp 2), none, 0⟩,
     ⟨some 53, .load 1 false (.tmp 52), none, 0⟩,
     ⟨some 54, .bin .eql (.tmp 53) (.con (.int .i64 4)), none, 0⟩,
     ⟨some 55, .mov (.tmp 54), none, 0⟩,
     ⟨some 56, .fieldAddr 1 (.tmp 2), some (55, true), 0⟩,
     ⟨some 57, .load 1 false (.tmp 56), some (55, true), 0⟩,
     ⟨some 58, .fieldAddr 1 (.tmp 3), some (55, true), 0⟩,
     ⟨some 59, .load 1 false (.tmp 58), some (55, true), 0⟩,
     ⟨some 60, .bin .geq (.tmp 57) (.tmp 59), some (55, true), 0⟩,
     ⟨some 61, .pick (.tmp 55) (.tmp 60) (.con (.bool false)), none, 0⟩,
     ⟨some 4, .mov (.tmp 61), none, 0⟩])
  .ret)))) }
def f_haulageref05_Right : XFunc := { ntmps := 57, res := [.tmp 2], pure := true, body :=
  (.seq (.ops [⟨some 1, .box (.tmp 0), none, 0⟩,
     ⟨some 2, .mov (.con (.bool false)), none, 0⟩])
  (.seq (.seq (.ops [⟨some 3, .fieldAddr 0 (.tmp 1), none, 0⟩,
      ⟨some 4, .load 1 false (.tmp 3), none, 0⟩])
   (.block 0
    (.seq (.ops [⟨some 6, .bin .eql (.tmp 4) (.con (.int .i64 0)), none, 0⟩,
       ⟨some 5, .mov (.tmp 6), none, 0⟩])
    (.cond (.tmp 5)
     (.seq (.ops [⟨some 7, .fieldAddr 1 (.tmp 1), none, 0⟩,
         ⟨some 8, .load 1 false (.tmp 7), none, 0⟩,
         ⟨some 9, .bin .eql (.tmp 8) (.con (.int .i64 0)), none, 0⟩,
         ⟨some 10, .mov (.tmp 9), none, 0⟩,
         ⟨some 11, .fieldAddr 2 (.tmp 1), some (10, true), 0⟩,
         ⟨some 12, .load 1 false (.tmp 11), some (10, true), 0⟩,
         ⟨some 13, .bin .eql (.tmp 12) (.con (.str [])), some (10, true), 0⟩,
         ⟨some 14, .pick (.tmp 10) (.tmp 13) (.con (.bool false)), none, 0⟩,
         ⟨some 2, .mov (.tmp 14), none, 0⟩])
      .ret)
     (.seq (.ops [⟨some 16, .bin .eql (.tmp 4) (.con (.int .i64 1)), none, 0⟩,
         ⟨some 15, .mov (.tmp 16), none, 0⟩])
      (.cond (.tmp 15)
       (.seq (.ops [⟨some 17, .fieldAddr 1 (.tmp 1), none, 0⟩,
           ⟨some 18, .load 1 false (.tmp 17), none, 0⟩,
           ⟨some 19, .call (.fn 36) [(.tmp 18), (.con (.int .i64 32))], none, 0⟩,
           ⟨some 20, .mov (.tmp 19), none, 0⟩,
           ⟨some 21, .fieldAddr 2 (.tmp 1), some (20, true), 0⟩,
           ⟨some 22, .load 1 false (.tmp 21), some (20, true), 0⟩,
           ⟨some 23, .bin .eql (.tmp 22) (.con (.str [])), some (20, true), 0⟩,
           ⟨some 24, .pick (.tmp 20) (.tmp 23) (.con (.bool false)), none, 0⟩,
           ⟨some 2, .mov (.tmp 24), none, 0⟩])
        .ret)
       (.seq (.ops [⟨some 26, .bin .eql (.tmp 4) (.con (.int .i64 2)), none, 0⟩,
           ⟨some 25, .mov (.tmp 26), none, 0⟩])
        (.cond (.tmp 25)
         (.seq (.ops [⟨some 27, .fieldAddr 2 (.tmp 1), none, 0⟩,
             ⟨some 28, .load 1 false (.tmp 27), none, 0⟩,
             ⟨some 29, .bin .eql (.tmp 28) (.con (.str [])), none, 0⟩,
             ⟨some 2, .mov (.tmp 29), none, 0⟩])
          .ret)
         (.seq (.ops [⟨some 31, .bin .eql (.tmp 4) (.con (.int .i64 3)), none, 0⟩,
             ⟨some 30, .mov (.tmp 31), none, 0⟩])
          (.cond (.tmp 30)
           (.seq (.ops [⟨some 32, .fieldAddr 1 (.tmp 1), none, 0⟩,
               ⟨some 33, .load 1 false (.tmp 32), none, 0⟩,
               ⟨some 34, .bin .eql (.tmp 33) (.con (.int .i64 0)), none, 0⟩,
               ⟨some 35, .mov (.tmp 34), none, 0⟩,
               ⟨some 36, .fieldAddr 2 (.tmp 1), some (35, true), 0⟩,
               ⟨some 37, .load 1 false (.tmp 36), some (35, true), 0⟩,
               ⟨some 38, .lenS (.tmp 37), some (35, true), 0⟩,
               ⟨some 39, .bin .leq (.tmp 38) (.con (.int .i64 120)), some (35, true), 0⟩,
               ⟨some 40, .pick (.tmp 35) (.tmp 39) (.con (.bool false)), none, 0⟩,
               ⟨some 41, .mov (.tmp 40), none, 0⟩,
               ⟨some 42, .fieldAddr 2 (.tmp 1), some (41, true), 0⟩,
               ⟨some 43, .load 1 false (.tmp 42), some (41, true), 0⟩,
               ⟨some 44, .call (.fn 22) [(.tmp 43)], some (41, true), 0⟩,
               ⟨some 45, .pick (.tmp 41) (.tmp 44) (.con (.bool false)), none, 0⟩,
               ⟨some 2, .mov (.tmp 45), none, 0⟩])
            .ret)
           (.seq (.ops [⟨some 47, .bin .eql (.tmp 4) (.con (.int .i64 4)), none, 0⟩,
               ⟨some 46, .mov (.tmp 47), none, 0⟩])
            (.cond (.tmp 46)
             (.seq (.ops [⟨some 48, .fieldAddr 1 (.tmp 1), none, 0⟩,
                 ⟨some 49, .load 1 false (.tmp 48), none, 0⟩,
                 ⟨some 50, .bin .eql (.tmp 49) (.con (.int .i64 0)), none, 0⟩,
                 ⟨some 51, .mov (.tmp 50), none, 0⟩,
                 ⟨some 52, .fieldAddr 2 (.tmp 1), some (51, true), 0⟩,
                 ⟨some 53, .load 1 false (.tmp 52), some (51, true), 0⟩,
                 ⟨some 54, .lenS (.tmp 53), some (51, true), 0⟩,
                 ⟨some 55, .bin .leq (.tmp 54) (.con (.int .i64 120)), some (51, true), 0⟩,
                 ⟨some 56, .pick (.tmp 51) (.tmp 55) (.con (.bool false)), none, 0⟩,
                 ⟨some 2, .mov (.tmp 56), none, 0⟩])
              .ret)
             .skip))))))))))))
  (.seq (.ops [⟨some 2, .mov (.con (.bool false)), none, 0⟩])
  .ret))) }
def f_haulageref05_Digits : XFunc := { ntmps := 36, res := [.tmp 2], pure := true, body :=
  (.seq (.ops [⟨some 2, .mov (.con (.str [])), none, 0⟩])
  (.seq (.seq (.ops [⟨some 4, .mov (.tmp 0), none, 0⟩,
      ⟨some 5, .bin .gtr (.tmp 4) (.con (.int .i64 (-10))), none, 0⟩,
      ⟨some 6, .mov (.tmp 5), none, 0⟩,
      ⟨some 7, .mov (.tmp 0), some (6, true), 0⟩,
      ⟨some 8, .bin .lss (.tmp 7) (.con (.int .i64 0)), some (6, true), 0⟩,
      ⟨some 9, .pick (.tmp 6) (.tmp 8) (.con (.bool false)), none, 0⟩])
   (.cond (.tmp 9)
    (.seq (.ops [⟨some 10, .mov (.tmp 0), none, 0⟩,
        ⟨some 11, .un .neg (.tmp 10), none, 0⟩,
        ⟨some 12, .call (.fn 40) [(.tmp 11)], none, 0⟩,
        ⟨some 13, .bin .add (.con (.str [45])) (.tmp 12), none, 0⟩,
        ⟨some 2, .mov (.tmp 13), none, 0⟩])
     .ret)
    .skip))
  (.seq (.seq (.ops [⟨some 14, .mov (.tmp 0), none, 0⟩,
      ⟨some 15, .bin .geq (.tmp 14) (.con (.int .i64 0)), none, 0⟩,
      ⟨some 16, .mov (.tmp 15), none, 0⟩,
      ⟨some 17, .mov (.tmp 0), some (16, true), 0⟩,
      ⟨some 18, .bin .lss (.tmp 17) (.con (.int .i64 10)), some (16, true), 0⟩,
      ⟨some 19, .pick (.tmp 16) (.tmp 18) (.con (.bool false)), none, 0⟩])
   (.cond (.tmp 19)
    (.seq (.ops [⟨some 20, .mov (.tmp 0), none, 0⟩,
        ⟨some 21, .mov (.tmp 0), none, 0⟩,
        ⟨some 22, .bin .add (.tmp 21) (.con (.int .i64 1)), none, 0⟩,
        ⟨some 23, .cutStr (.con (.str [48, 49, 50, 51, 52, 53, 54, 55, 56, 57])) (some (.tmp 20)) (some (.tmp 22)), none, 0⟩,
        ⟨some 2, .mov (.tmp 23), none, 0⟩])
     .ret)
    .skip))
  (.seq (.ops [⟨some 24, .mov (.tmp 0), none, 0⟩,
     ⟨some 25, .bin .rem (.tmp 24) (.con (.int .i64 10)), none, 0⟩,
     ⟨some 3, .mov (.tmp 25), none, 0⟩])
  (.seq (.seq (.ops [⟨some 26, .mov (.tmp 3), none, 0⟩,
      ⟨some 27, .bin .lss (.tmp 26) (.con (.int .i64 0)), none, 0⟩])
   (.cond (.tmp 27)
    (.ops [⟨some 28, .mov (.tmp 3), none, 0⟩,
       ⟨some 29, .un .neg (.tmp 28), none, 0⟩,
       ⟨some 3, .mov (.tmp 29), none, 0⟩])
    .skip))
  (.seq (.ops [⟨some 30, .mov (.tmp 0), none, 0⟩,
     ⟨some 31, .bin .quo (.tmp 30) (.con (.int .i64 10)), none, 0⟩,
     ⟨some 32, .call (.fn 40) [(.tmp 31)], none, 0⟩,
     ⟨some 33, .mov (.tmp 3), none, 0⟩,
     ⟨some 34, .call (.fn 40) [(.tmp 33)], none, 0⟩,
     ⟨some 35, .bin .add (.tmp 32) (.tmp 34), none, 0⟩,
     ⟨some 2, .mov (.tmp 35), none, 0⟩])
  .ret)))))) }
def f_haulageref04_Read_k0 : List Bool := [true, false, false, true, false, false, false, false, false, false, false, false, false, false, false, false, false, false, false, false, false, false, false, false, false, false]
def f_haulageref04_Read_b0 : XCode :=
  (.seq (.seq (.ops [⟨some 4, .mov (.tmp 3), none, 0⟩,
     ⟨some 5, .mov (.tmp 0), none, 0⟩,
     ⟨some 6, .lenS (.tmp 5), none, 0⟩,
     ⟨some 7, .bin .lss (.tmp 4) (.tmp 6), none, 0⟩,
     ⟨some 8, .mov (.tmp 7), none, 0⟩,
     ⟨some 9, .mov (.tmp 0), some (8, true), 0⟩,
     ⟨some 10, .mov (.tmp 3), some (8, true), 0⟩,
     ⟨some 11, .indexStr (.tmp 9) (.tmp 10), some (8, true), 0⟩,
     ⟨some 12, .call (.fn 66) [(.tmp 11)], some (8, true), 0⟩,
     ⟨some 13, .pick (.tmp 8) (.tmp 12) (.con (.bool false)), none, 0⟩,
     ⟨some 14, .mov (.tmp 13), none, 0⟩,
     ⟨some 15, .mov (.tmp 3), some (14, true), 0⟩,
     ⟨some 16, .bin .gtr (.tmp 15) (.con (.int .i64 0)), some (14, true), 0⟩,
     ⟨some 17, .mov (.tmp 16), some (14, true), 0⟩,
     ⟨some 18, .mov (.tmp 0), some (17, false), 0⟩,
     ⟨some 19, .indexStr (.tmp 18) (.con (.int .i64 0)), some (17, false), 0⟩,
     ⟨some 20, .call (.fn 67) [(.tmp 19)], some (17, false), 0⟩,
     ⟨some 21, .pick (.tmp 17) (.con (.bool true)) (.tmp 20), some (14, true), 0⟩,
     ⟨some 22, .pick (.tmp 14) (.tmp 21) (.con (.bool false)), none, 0⟩])
  (.cond (.tmp 22)
   .skip
   (.exit 0)))
 (.block 1
  (.ops [⟨some 23, .mov (.tmp 3), none, 0⟩,
    ⟨some 24, .bin .add (.tmp 23) (.con (.int .i64 1)), none, 0⟩,
    ⟨some 3, .mov (.tmp 24), none, 0⟩])))
def f_haulageref04_Read_s0 (t0 t3 : AV) : List AV := [t0, .unk, .unk, t3, .unk, .unk, .unk, .unk, .unk, .unk, .unk, .unk, .unk, .unk, .unk, .unk, .unk, .unk, .unk, .unk, .unk, .unk, .unk, .unk, .unk, .unk]
def f_haulageref04_Read : XFunc := { ntmps := 26, res := [.tmp 2], pure := true, body :=
  (.seq (.ops [⟨some 2, .mov (.con (.int .i64 0)), none, 0⟩])
  (.seq (.ops [⟨some 3, .mov (.con (.int .i64 0)), none, 0⟩])
  (.seq (.block 0
    (.loop f_haulageref04_Read_k0 f_haulageref04_Read_b0))
  (.seq (.ops [⟨some 25, .mov (.tmp 3), none, 0⟩,
     ⟨some 2, .mov (.tmp 25), none, 0⟩])
  .ret)))) }
def f_haulageref01_Fits : XFunc := { ntmps := 26, res := [.tmp 4], pure := true, body :=
  (.seq (.ops [⟨some 4, .mov (.con (.bool false)), none, 0⟩])
  (.seq (.seq (.ops [⟨some 5, .mov (.tmp 1), none, 0⟩,
      ⟨some 6, .bin .lss (.tmp 5) (.con (.int .i64 1)), none, 0⟩,
      ⟨some 7, .mov (.tmp 6), none, 0⟩,
      ⟨some 8, .mov (.tmp 1), some (7, false), 0⟩,
      ⟨some 9, .bin .gtr (.tmp 8) (.con (.int .i64 64)), some (7, false), 0⟩,
      ⟨some 10, .pick (.tmp 7) (.con (.bool true)) (.tmp 9), none, 0⟩])
   (.cond (.tmp 10)
    (.seq (.ops [⟨some 4, .mov (.con (.bool false)), none, 0⟩])
     .ret)
    .skip))
  (.seq (.ops [⟨some 11, .mov (.tmp 1), none, 0⟩,
     ⟨some 12, .bin .eql (.tmp 11) (.con (.int .i64 64)), none, 0⟩,
     ⟨some 13, .mov (.tmp 12), none, 0⟩,
     ⟨some 14, .mov (.tmp 0), some (13, false), 0⟩,
     ⟨some 15, .mov (.tmp 1), some (13, false), 0⟩,
     ⟨some 16, .call (.fn 56) [(.tmp 15)], some (13, false), 0⟩,
     ⟨some 17, .un .neg (.tmp 16), some (13, false), 0⟩,
     ⟨some 18, .bin .geq (.tmp 14) (.tmp 17), some (13, false), 0⟩,
     ⟨some 19, .mov (.tmp 18), some (13, false), 0⟩,
     ⟨some 20, .mov (.tmp 0), some (19, true), 0⟩,
     ⟨some 21, .mov (.tmp 1), some (19, true), 0⟩,
     ⟨some 22, .call (.fn 56) [(.tmp 21)], some (19, true), 0⟩,
     ⟨some 23, .bin .lss (.tmp 20) (.tmp 22), some (19, true), 0⟩,
     ⟨some 24, .pick (.tmp 19) (.tmp 23) (.con (.bool false)), some (13, false), 0⟩,
     ⟨some 25, .pick (.tmp 13) (.con (.bool true)) (.tmp 24), none, 0⟩,
     ⟨some 4, .mov (.tmp 25), none, 0⟩])
  .ret))) }
def f_haulageref04_Part : XFunc := { ntmps := 17, res := [.tmp 2], pure := true, body :=
  (.seq (.ops [⟨some 2, .mov (.con (.bool false)), none, 0⟩])
  (.seq (.ops [⟨some 3, .mov (.tmp 0), none, 0⟩,
     ⟨some 4, .call (.fn 67) [(.tmp 3)], none, 0⟩,
     ⟨some 5, .mov (.tmp 4), none, 0⟩,
     ⟨some 6, .mov (.tmp 0), some (5, false), 0⟩,
     ⟨some 7, .bin .geq (.tmp 6) (.con (.int .u8 48)), some (5, false), 0⟩,
     ⟨some 8, .mov (.tmp 7), some (5, false), 0⟩,
     ⟨some 9, .mov (.tmp 0), some (8, true), 0⟩,
     ⟨some 10, .bin .leq (.tmp 9) (.con (.int .u8 57)), some (8, true), 0⟩,
     ⟨some 11, .pick (.tmp 8) (.tmp 10) (.con (.bool false)), some (5, false), 0⟩,
     ⟨some 12, .pick (.tmp 5) (.con (.bool true)) (.tmp 11), none, 0⟩,
     ⟨some 13, .mov (.tmp 12), none, 0⟩,
     ⟨some 14, .mov (.tmp 0), some (13, false), 0⟩,
     ⟨some 15, .bin .eql (.tmp 14) (.con (.int .u8 95)), some (13, false), 0⟩,
     ⟨some 16, .pick (.tmp 13) (.con (.bool true)) (.tmp 15), none, 0⟩,
     ⟨some 2, .mov (.tmp 16), none, 0⟩])
  .ret)) }
def f_haulageref04_letter : XFunc := { ntmps := 9, res := [.tmp 2], pure := true, body :=
  (.seq (.ops [⟨some 2, .mov (.con (.bool false)), none, 0⟩])
  (.seq (.ops [⟨some 3, .mov (.tmp 0), none, 0⟩,
     ⟨some 4, .bin .geq (.tmp 3) (.con (.int .u8 97)), none, 0⟩,
     ⟨some 5, .mov (.tmp 4), none, 0⟩,
     ⟨some 6, .mov (.tmp 0), some (5, true), 0⟩,
     ⟨some 7, .bin .leq (.tmp 6) (.con (.int .u8 122)), some (5, true), 0⟩,
     ⟨some 8, .pick (.tmp 5) (.tmp 7) (.con (.bool false)), none, 0⟩,
     ⟨some 2, .mov (.tmp 8), none, 0⟩])
  .ret)) }
def f_haulageref01_Half_k0 : List Bool := [true, false, false, true, true, false, false, false, false, false, false, false, false]
def f_haulageref01_Half_b0 : XCode :=
  (.seq (.seq (.ops [⟨some 5, .mov (.tmp 4), none, 0⟩,
     ⟨some 6, .mov (.tmp 0), none, 0⟩,
     ⟨some 7, .bin .lss (.tmp 5) (.tmp 6), none, 0⟩])
  (.cond (.tmp 7)
   .skip
   (.exit 0)))
 (.seq (.block 1
   (.ops [⟨some 10, .mov (.tmp 3), none, 0⟩,
     ⟨some 11, .bin .mul (.con (.int .i64 2)) (.tmp 10), none, 0⟩,
     ⟨some 3, .mov (.tmp 11), none, 0⟩]))
 (.ops [⟨some 8, .mov (.tmp 4), none, 0⟩,
   ⟨some 9, .bin .add (.tmp 8) (.con (.int .i64 1)), none, 0⟩,
   ⟨some 4, .mov (.tmp 9), none, 0⟩])))
def f_haulageref01_Half_s0 (t0 t3 t4 : AV) : List AV := [t0, .unk, .unk, t3, t4, .unk, .unk, .unk, .unk, .unk, .unk, .unk, .unk]
def f_haulageref01_Half : XFunc := { ntmps := 13, res := [.tmp 2], pure := true, body :=
  (.seq (.ops [⟨some 2, .mov (.con (.int .i64 0)), none, 0⟩])
  (.seq (.ops [⟨some 3, .mov (.con (.int .i64 1)), none, 0⟩])
  (.seq (.seq (.ops [⟨some 4, .mov (.con (.int .i64 1)), none, 0⟩])
   (.block 0
    (.loop f_haulageref01_Half_k0 f_haulageref01_Half_b0)))
  (.seq (.ops [⟨some 12, .mov (.tmp 3), none, 0⟩,
     ⟨some 2, .mov (.tmp 12), none, 0⟩])
  .ret)))) }
end Hx.Fn
