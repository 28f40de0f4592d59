/- HxFn10b: written by gen.py -/
import Derived.Test.YtfobhbameffplaaHxDefs
namespace Hx.Fn
open Go
def f_haulageref04_Order_k0 : List Bool := [true, true, false, false, false, true, false, false, false, false, false, false, false, false, false, false, false, false, false, false, false, false, false, false, false, false, false, false, false, false, false, false, false, false, false, false, false, false, false, false, false, false]
def f_haulageref04_Order_b0 : XCode :=
  (.seq (.seq (.ops [⟨some 6, .mov (.tmp 5), none, 0⟩,
     ⟨some 7, .mov (.tmp 0), none, 0⟩,
     ⟨some 8, .lenS (.tmp 7), none, 0⟩,
     ⟨some 9, .bin .lss (.tmp 6) (.tmp 8), none, 0⟩,
     ⟨some 10, .mov (.tmp 9), none, 0⟩,
     ⟨some 11, .mov (.tmp 5), some (10, true), 0⟩,
     ⟨some 12, .mov (.tmp 1), some (10, true), 0⟩,
     ⟨some 13, .lenS (.tmp 12), some (10, true), 0⟩,
     ⟨some 14, .bin .lss (.tmp 11) (.tmp 13), some (10, true), 0⟩,
     ⟨some 15, .pick (.tmp 10) (.tmp 14) (.con (.bool false)), none, 0⟩])
  (.cond (.tmp 15)
   .skip
   (.exit 0)))
 (.seq (.block 1
   (.seq (.seq (.draw [⟨some 18, .mov (.tmp 0), none, 0⟩,
       ⟨some 19, .mov (.tmp 5), none, 0⟩,
       ⟨some 20, .indexStr (.tmp 18) (.tmp 19), none, 0⟩,
       ⟨some 21, .mov (.tmp 1), none, 0⟩,
       ⟨some 22, .mov (.tmp 5), none, 0⟩,
       ⟨some 23, .indexStr (.tmp 21) (.tmp 22), none, 0⟩,
       ⟨some 24, .bin .lss (.tmp 20) (.tmp 23), none, 0⟩]
      [[], [], [0, 1], [], [], [3, 4], [0, 1, 2, 3, 4, 5]])
    (.cond (.tmp 24)
     (.seq (.ops [⟨some 4, .mov (.con (.int .i64 (-1))), none, 0⟩])
      .ret)
     .skip))
   (.seq (.draw [⟨some 25, .mov (.tmp 0), none, 0⟩,
      ⟨some 26, .mov (.tmp 5), none, 0⟩,
      ⟨some 27, .indexStr (.tmp 25) (.tmp 26), none, 0⟩,
      ⟨some 28, .mov (.tmp 1), none, 0⟩,
      ⟨some 29, .mov (.tmp 5), none, 0⟩,
      ⟨some 30, .indexStr (.tmp 28) (.tmp 29), none, 0⟩,
      ⟨some 31, .bin .gtr (.tmp 27) (.tmp 30), none, 0⟩]
     [[], [], [0, 1], [], [], [3, 4], [0, 1, 2, 3, 4, 5]])
   (.cond (.tmp 31)
    (.seq (.ops [⟨some 4, .mov (.con (.int .i64 1)), none, 0⟩])
     .ret)
    .skip))))
 (.ops [⟨some 16, .mov (.tmp 5), none, 0⟩,
   ⟨some 17, .bin .add (.tmp 16) (.con (.int .i64 1)), none, 0⟩,
   ⟨some 5, .mov (.tmp 17), none, 0⟩])))
def f_haulageref04_Order_s0 (t0 t1 t5 : AV) : List AV := [t0, t1, .unk, .unk, .unk, t5, .unk, .unk, .unk, .unk, .unk, .unk, .unk, .unk, .unk, .unk, .unk, .unk, .unk, .unk, .unk, .unk, .unk, .unk, .unk, .unk, .unk, .unk, .unk, .unk, .unk, .unk, .unk, .unk, .unk, .unk, .unk, .unk, .unk, .unk, .unk, .unk]
def f_haulageref04_Order : XFunc := { ntmps := 42, res := [.tmp 4], pure := true, body :=
  (.seq (.ops [⟨some 4, .mov (.con (.int .i64 0)), none, 0⟩])
  (.seq (.seq (.ops [⟨some 5, .mov (.con (.int .i64 0)), none, 0⟩])
   (.block 0
    (.loop f_haulageref04_Order_k0 f_haulageref04_Order_b0)))
  (.seq (.seq (.ops [⟨some 32, .mov (.tmp 0), none, 0⟩,
      ⟨some 33, .lenS (.tmp 32), none, 0⟩,
      ⟨some 34, .mov (.tmp 1), none, 0⟩,
      ⟨some 35, .lenS (.tmp 34), none, 0⟩,
      ⟨some 36, .bin .lss (.tmp 33) (.tmp 35), none, 0⟩])
   (.cond (.tmp 36)
    (.seq (.ops [⟨some 4, .mov (.con (.int .i64 (-1))), none, 0⟩])
     .ret)
    .skip))
  (.seq (.seq (.ops [⟨some 37, .mov (.tmp 0), none, 0⟩,
      ⟨some 38, .lenS (.tmp 37), none, 0⟩,
      ⟨some 39, .mov (.tmp 1), none, 0⟩,
      ⟨some 40, .lenS (.tmp 39), none, 0⟩,
      ⟨some 41, .bin .gtr (.tmp 38) (.tmp 40), none, 0⟩])
   (.cond (.tmp 41)
    (.seq (.ops [⟨some 4, .mov (.con (.int .i64 1)), none, 0⟩])
     .ret)
    .skip))
  (.seq (.ops [⟨some 4, .mov (.con (.int .i64 0)), none, 0⟩])
  .ret))))) }
def f_haulageref05_Order : XFunc := { ntmps := 50, res := [.tmp 4], pure := true, body :=
  (.seq (.ops [⟨some 2, .box (.tmp 0), none, 0⟩,
     ⟨some 3, .box (.tmp 1), none, 0⟩,
     ⟨some 4, .mov (.con (.int .i64 0)), none, 0⟩])
  (.seq (.block 0
    (.seq (.ops [⟨some 6, .fieldAddr 0 (.tmp 2), none, 0⟩,
       ⟨some 7, .load 1 false (.tmp 6), none, 0⟩,
       ⟨some 8, .fieldAddr 0 (.tmp 3), none, 0⟩,
       ⟨some 9, .load 1 false (.tmp 8), none, 0⟩,
       ⟨some 10, .bin .lss (.tmp 7) (.tmp 9), none, 0⟩,
       ⟨some 11, .mov (.tmp 10), none, 0⟩,
       ⟨some 12, .fieldAddr 0 (.tmp 2), some (11, false), 0⟩,
       ⟨some 13, .load 1 false (.tmp 12), some (11, false), 0⟩,
       ⟨some 14, .fieldAddr 0 (.tmp 3), some (11, false), 0⟩,
       ⟨some 15, .load 1 false (.tmp 14), some (11, false), 0⟩,
       ⟨some 16, .bin .eql (.tmp 13) (.tmp 15), some (11, false), 0⟩,
       ⟨some 17, .mov (.tmp 16), some (11, false), 0⟩,
       ⟨some 18, .fieldAddr 1 (.tmp 2), some (17, true), 0⟩,
       ⟨some 19, .load 1 false (.tmp 18), some (17, true), 0⟩,
       ⟨some 20, .fieldAddr 1 (.tmp 3), some (17, true), 0⟩,
       ⟨some 21, .load 1 false (.tmp 20), some (17, true), 0⟩,
       ⟨some 22, .bin .lss (.tmp 19) (.tmp 21), some (17, true), 0⟩,
       ⟨some 23, .pick (.tmp 17) (.tmp 22) (.con (.bool false)), some (11, false), 0⟩,
       ⟨some 24, .pick (.tmp 11) (.con (.bool true)) (.tmp 23), none, 0⟩,
       ⟨some 5, .mov (.tmp 24), none, 0⟩])
    (.cond (.tmp 5)
     (.seq (.ops [⟨some 4, .mov (.con (.int .i64 (-1))), none, 0⟩])
      .ret)
     (.seq (.ops [⟨some 26, .fieldAddr 0 (.tmp 2), none, 0⟩,
         ⟨some 27, .load 1 false (.tmp 26), none, 0⟩,
         ⟨some 28, .fieldAddr 0 (.tmp 3), none, 0⟩,
         ⟨some 29, .load 1 false (.tmp 28), none, 0⟩,
         ⟨some 30, .bin .gtr (.tmp 27) (.tmp 29), none, 0⟩,
         ⟨some 31, .mov (.tmp 30), none, 0⟩,
         ⟨some 32, .fieldAddr 0 (.tmp 2), some (31, false), 0⟩,
         ⟨some 33, .load 1 false (.tmp 32), some (31, false), 0⟩,
         ⟨some 34, .fieldAddr 0 (.tmp 3), some (31, false), 0⟩,
         ⟨some 35, .load 1 false (.tmp 34), some (31, false), 0⟩,
         ⟨some 36, .bin .eql (.tmp 33) (.tmp 35), some (31, false), 0⟩,
         ⟨some 37, .mov (.tmp 36), some (31, false), 0⟩,
         ⟨some 38, .fieldAddr 1 (.tmp 2), some (37, true), 0⟩,
         ⟨some 39, .load 1 false (.tmp 38), some (37, true), 0⟩,
         ⟨some 40, .fieldAddr 1 (.tmp 3), some (37, true), 0⟩,
         ⟨some 41, .load 1 false (.tmp 40), some (37, true), 0⟩,
         ⟨some 42, .bin .gtr (.tmp 39) (.tmp 41), some (37, true), 0⟩,
         ⟨some 43, .pick (.tmp 37) (.tmp 42) (.con (.bool false)), some (31, false), 0⟩,
         ⟨some 44, .pick (.tmp 31) (.con (.bool true)) (.tmp 43), none, 0⟩,
         ⟨some 25, .mov (.tmp 44), none, 0⟩])
      (.cond (.tmp 25)
       (.seq (.ops [⟨some 4, .mov (.con (.int .i64 1)), none, 0⟩])
        .ret)
       .skip)))))
  (.seq (.ops [⟨some 45, .fieldAddr 2 (.tmp 2), none, 0⟩,
     ⟨some 46, .load 1 false (.tmp 45), none, 0⟩,
     ⟨some 47, .fieldAddr 2 (.tmp 3), none, 0⟩,
     ⟨some 48, .load 1 false (.tmp 47), none, 0⟩,
     ⟨some 49, .call (.fn 59) [(.tmp 46), (.tmp 48)], none, 0⟩,
     ⟨some 4, .mov (.tmp 49), none, 0⟩])
  .ret))) }
end Hx.Fn

namespace Hx.Fn
open Go
def f_haulageref09_Plain_k0 : List Bool := [false, true, false, true, true, false, false, false, false, false, false, false, false, false, false, false, false, false, false, false, false, false, false, false, false, false, false, false, false, false, false, false, false, false, false, false, false, false, false, false, false, false, false, false, false, false, false, false, false, false, false, false, false, false, false, false, false, false, false, false, false, false, false, false, false, false, false, false, false, false, false, false, false, false, false, false, false, false, false, false, false, false, false, false, false, false, false]
def f_haulageref09_Plain_b0 : XCode :=
  (.seq (.seq (.ops [⟨some 20, .mov (.tmp 4), none, 0⟩,
     ⟨some 21, .fieldAddr 11 (.tmp 1), none, 0⟩,
     ⟨some 22, .load 1 false (.tmp 21), none, 0⟩,
     ⟨some 23, .len (.tmp 22), none, 0⟩,
     ⟨some 24, .bin .lss (.tmp 20) (.tmp 23), none, 0⟩])
  (.cond (.tmp 24)
   .skip
   (.exit 1)))
 (.seq (.block 2
   (.seq (.ops [⟨some 27, .fieldAddr 11 (.tmp 1), none, 0⟩,
      ⟨some 28, .load 1 false (.tmp 27), none, 0⟩,
      ⟨some 29, .mov (.tmp 4), none, 0⟩,
      ⟨some 30, .addrRow 8 (.tmp 28) (.tmp 29), none, 0⟩,
      ⟨some 31, .fieldAddr 0 (.tmp 30), none, 0⟩,
      ⟨some 32, .load 1 false (.tmp 31), none, 0⟩,
      ⟨some 33, .bin .neq (.tmp 32) (.con (.int .i64 0)), none, 0⟩])
   (.cond (.tmp 33)
    (.seq (.ops [⟨some 2, .mov (.con (.bool false)), none, 0⟩])
     .ret)
    .skip)))
 (.ops [⟨some 25, .mov (.tmp 4), none, 0⟩,
   ⟨some 26, .bin .add (.tmp 25) (.con (.int .i64 1)), none, 0⟩,
   ⟨some 4, .mov (.tmp 26), none, 0⟩])))
def f_haulageref09_Plain_s0 (t1 t3 t4 : AV) : List AV := [.unk, t1, .unk, t3, t4, .unk, .unk, .unk, .unk, .unk, .unk, .unk, .unk, .unk, .unk, .unk, .unk, .unk, .unk, .unk, .unk, .unk, .unk, .unk, .unk, .unk, .unk, .unk, .unk, .unk, .unk, .unk, .unk, .unk, .unk, .unk, .unk, .unk, .unk, .unk, .unk, .unk, .unk, .unk, .unk, .unk, .unk, .unk, .unk, .unk, .unk, .unk, .unk, .unk, .unk, .unk, .unk, .unk, .unk, .unk, .unk, .unk, .unk, .unk, .unk, .unk, .unk, .unk, .unk, .unk, .unk, .unk, .unk, .unk, .unk, .unk, .unk, .unk, .unk, .unk, .unk, .unk, .unk, .unk, .unk, .unk, .unk]
def f_haulageref09_Plain : XFunc := { ntmps := 87, res := [.tmp 2], pure := true, body :=
  (.seq (.ops [⟨some 1, .box (.tmp 0), none, 0⟩,
     ⟨some 2, .mov (.con (.bool false)), none, 0⟩])
  (.seq (.ops [⟨some 5, .fieldAddr 0 (.tmp 1), none, 0⟩,
     ⟨some 6, .load 1 false (.tmp 5), none, 0⟩,
     ⟨some 7, .fieldAddr 1 (.tmp 1), none, 0⟩,
     ⟨some 8, .load 1 false (.tmp 7), none, 0⟩,
     ⟨some 9, .build [.int .i64 0, .str [], .str [], .str [], .str [], .int .i64 0, .int .i64 0, .bool false, .int .i64 0, .int .i64 0, .str [], .nils] [(0, 1, (.tmp 6)), (1, 1, (.tmp 8))], none, 0⟩,
     ⟨some 3, .alloc [.int .i64 0, .str [], .str [], .str [], .str [], .int .i64 0, .int .i64 0, .bool false, .int .i64 0, .int .i64 0, .str [], .nils], none, 0⟩,
     ⟨none, .store 12 (.tmp 3) (.tmp 9), none, 0⟩])
  (.seq (.seq (.ops [⟨some 10, .fieldAddr 0 (.tmp 1), none, 0⟩,
      ⟨some 11, .load 1 false (.tmp 10), none, 0⟩])
   (.block 0
    (.seq (.ops [⟨some 13, .bin .eql (.tmp 11) (.con (.int .i64 1)), none, 0⟩,
       ⟨some 12, .mov (.tmp 13), none, 0⟩])
    (.cond (.tmp 12)
     (.seq (.drawS [⟨some 14, .fieldAddr 4 (.tmp 1), none, 0⟩,
         ⟨some 15, .load 1 false (.tmp 14), none, 0⟩,
         ⟨some 16, .fieldAddr 11 (.tmp 1), none, 0⟩,
         ⟨some 17, .load 1 false (.tmp 16), none, 0⟩,
         ⟨some 18, .fieldAddr 4 (.tmp 3), none, 0⟩,
         ⟨none, .store 1 (.tmp 18) (.tmp 15), none, 3⟩,
         ⟨some 19, .fieldAddr 11 (.tmp 3), none, 0⟩,
         ⟨none, .store 1 (.tmp 19) (.tmp 17), none, 3⟩]
        [[], [0], [], [2], [0, 1], [0, 1, 4], [0, 1, 2, 3, 4, 5], [0, 1, 2, 3, 4, 5, 6]] [3])
      (.seq (.ops [⟨some 4, .mov (.con (.int .i64 0)), none, 0⟩])
      (.block 1
       (.loop f_haulageref09_Plain_k0 f_haulageref09_Plain_b0))))
     (.seq (.ops [⟨some 35, .bin .eql (.tmp 11) (.con (.int .i64 2)), none, 0⟩,
         ⟨some 34, .mov (.tmp 35), none, 0⟩])
      (.cond (.tmp 34)
       .skip
       (.seq (.ops [⟨some 37, .bin .eql (.tmp 11) (.con (.int .i64 3)), none, 0⟩,
           ⟨some 36, .mov (.tmp 37), none, 0⟩])
        (.cond (.tmp 36)
         (.ops [⟨some 38, .fieldAddr 3 (.tmp 1), none, 0⟩,
            ⟨some 39, .load 1 false (.tmp 38), none, 0⟩,
            ⟨some 40, .fieldAddr 3 (.tmp 3), none, 0⟩,
            ⟨none, .store 1 (.tmp 40) (.tmp 39), none, 0⟩])
         (.seq (.ops [⟨some 42, .bin .eql (.tmp 11) (.con (.int .i64 4)), none, 0⟩,
             ⟨some 41, .mov (.tmp 42), none, 0⟩])
          (.cond (.tmp 41)
           (.drawS [⟨some 43, .fieldAddr 2 (.tmp 1), none, 0⟩,
              ⟨some 44, .load 1 false (.tmp 43), none, 0⟩,
              ⟨some 45, .fieldAddr 5 (.tmp 1), none, 0⟩,
              ⟨some 46, .load 2 true (.tmp 45), none, 0⟩,
              ⟨some 47, .fieldAddr 7 (.tmp 1), none, 0⟩,
              ⟨some 48, .load 1 false (.tmp 47), none, 0⟩,
              ⟨some 49, .fieldAddr 8 (.tmp 1), none, 0⟩,
              ⟨some 50, .load 3 true (.tmp 49), none, 0⟩,
              ⟨some 51, .fieldAddr 2 (.tmp 3), none, 0⟩,
              ⟨none, .store 1 (.tmp 51) (.tmp 44), none, 3⟩,
              ⟨some 52, .fieldAddr 5 (.tmp 3), none, 0⟩,
              ⟨none, .store 2 (.tmp 52) (.tmp 46), none, 3⟩,
              ⟨some 53, .fieldAddr 7 (.tmp 3), none, 0⟩,
              ⟨none, .store 1 (.tmp 53) (.tmp 48), none, 3⟩,
              ⟨some 54, .fieldAddr 8 (.tmp 3), none, 0⟩,
              ⟨none, .store 3 (.tmp 54) (.tmp 50), none, 3⟩]
             [[], [0], [], [2], [], [4], [], [6], [0, 1], [0, 1, 8], [0, 1, 2, 3, 8, 9], [0, 1, 2, 3, 8, 9, 10], [0, 1, 2, 3, 4, 5, 8, 9, 10, 11], [0, 1, 2, 3, 4, 5, 8, 9, 10, 11, 12], [0, 1, 2, 3, 4, 5, 6, 7, 8, 9, 10, 11, 12, 13], [0, 1, 2, 3, 4, 5, 6, 7, 8, 9, 10, 11, 12, 13, 14]] [3])
           (.seq (.ops [⟨some 56, .bin .eql (.tmp 11) (.con (.int .i64 5)), none, 0⟩,
               ⟨some 55, .mov (.tmp 56), none, 0⟩])
            (.cond (.tmp 55)
             (.ops [⟨some 57, .fieldAddr 2 (.tmp 1), none, 0⟩,
                ⟨some 58, .load 1 false (.tmp 57), none, 0⟩,
                ⟨some 59, .fieldAddr 2 (.tmp 3), none, 0⟩,
                ⟨none, .store 1 (.tmp 59) (.tmp 58), none, 0⟩])
             (.seq (.ops [⟨some 61, .bin .eql (.tmp 11) (.con (.int .i64 6)), none, 0⟩,
                 ⟨some 60, .mov (.tmp 61), none, 0⟩])
              (.cond (.tmp 60)
               (.drawS [⟨some 62, .fieldAddr 2 (.tmp 1), none, 0⟩,
                  ⟨some 63, .load 1 false (.tmp 62), none, 0⟩,
                  ⟨some 64, .fieldAddr 3 (.tmp 1), none, 0⟩,
                  ⟨some 65, .load 1 false (.tmp 64), none, 0⟩,
                  ⟨some 66, .fieldAddr 2 (.tmp 3), none, 0⟩,
                  ⟨none, .store 1 (.tmp 66) (.tmp 63), none, 3⟩,
                  ⟨some 67, .fieldAddr 3 (.tmp 3), none, 0⟩,
                  ⟨none, .store 1 (.tmp 67) (.tmp 65), none, 3⟩]
                 [[], [0], [], [2], [0, 1], [0, 1, 4], [0, 1, 2, 3, 4, 5], [0, 1, 2, 3, 4, 5, 6]] [3])
               (.seq (.ops [⟨some 69, .bin .eql (.tmp 11) (.con (.int .i64 7)), none, 0⟩,
                   ⟨some 68, .mov (.tmp 69), none, 0⟩])
                (.cond (.tmp 68)
                 (.drawS [⟨some 70, .fieldAddr 2 (.tmp 1), none, 0⟩,
                    ⟨some 71, .load 1 false (.tmp 70), none, 0⟩,
                    ⟨some 72, .fieldAddr 5 (.tmp 1), none, 0⟩,
                    ⟨some 73, .load 2 true (.tmp 72), none, 0⟩,
                    ⟨some 74, .fieldAddr 2 (.tmp 3), none, 0⟩,
                    ⟨none, .store 1 (.tmp 74) (.tmp 71), none, 3⟩,
                    ⟨some 75, .fieldAddr 5 (.tmp 3), none, 0⟩,
                    ⟨none, .store 2 (.tmp 75) (.tmp 73), none, 3⟩]
                   [[], [0], [], [2], [0, 1], [0, 1, 4], [0, 1, 2, 3, 4, 5], [0, 1, 2, 3, 4, 5, 6]] [3])
                 (.seq (.ops [⟨some 77, .bin .eql (.tmp 11) (.con (.int .i64 8)), none, 0⟩,
                     ⟨some 76, .mov (.tmp 77), none, 0⟩])
                  (.cond (.tmp 76)
                   (.drawS [⟨some 78, .fieldAddr 2 (.tmp 1), none, 0⟩,
                      ⟨some 79, .load 1 false (.tmp 78), none, 0⟩,
                      ⟨some 80, .fieldAddr 8 (.tmp 1), none, 0⟩,
                      ⟨some 81, .load 3 true (.tmp 80), none, 0⟩,
                      ⟨some 82, .fieldAddr 2 (.tmp 3), none, 0⟩,
                      ⟨none, .store 1 (.tmp 82) (.tmp 79), none, 3⟩,
                      ⟨some 83, .fieldAddr 8 (.tmp 3), none, 0⟩,
                      ⟨none, .store 3 (.tmp 83) (.tmp 81), none, 3⟩]
                     [[], [0], [], [2], [0, 1], [0, 1, 4], [0, 1, 2, 3, 4, 5], [0, 1, 2, 3, 4, 5, 6]] [3])
                   (.seq (.ops [⟨some 2, .mov (.con (.bool false)), none, 0⟩])
                    .ret)))))))))))))))))))
  (.seq (.ops [⟨some 84, .load 12 true (.tmp 3), none, 0⟩,
     ⟨some 85, .load 12 true (.tmp 1), none, 0⟩,
     ⟨some 86, .call (.fn 178) [(.tmp 84), (.tmp 85)], none, 0⟩,
     ⟨some 2, .mov (.tmp 86), none, 0⟩])
  .ret)))) }
end Hx.Fn
