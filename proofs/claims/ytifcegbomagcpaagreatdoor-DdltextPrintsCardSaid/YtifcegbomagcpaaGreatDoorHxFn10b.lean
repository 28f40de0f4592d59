/- HxFn10b: written by gen.py -/
import Derived.Test.YtifcegbomagcpaaGreatDoorHxDefs
namespace Hx.Fn
open Go
def f_haulagelaw10_DdltextPrints : XFunc := { ntmps := 38, res := [.tmp 2], pure := true, body :=
  (.seq (.ops [⟨some 1, .box (.tmp 0), none, 0⟩,
     ⟨some 2, .mov (.con (.bool false)), none, 0⟩])
  (.seq (.seq (.ops [⟨some 6, .call (.fn 231) [], none, 0⟩,
      ⟨some 7, .un .not (.tmp 6), none, 0⟩])
   (.cond (.tmp 7)
    (.seq (.ops [⟨some 2, .mov (.con (.bool false)), none, 0⟩])
     .ret)
    .skip))
  (.seq (.seq (.ops [⟨some 8, .load 12 true (.tmp 1), none, 0⟩,
      ⟨some 9, .call (.fn 171) [(.tmp 8)], none, 0⟩,
      ⟨some 10, .un .not (.tmp 9), none, 0⟩])
   (.cond (.tmp 10)
    (.seq (.ops [⟨some 2, .mov (.con (.bool true)), none, 0⟩])
     .ret)
    .skip))
  (.seq (.ops [⟨some 12, .load 12 true (.tmp 1), none, 0⟩,
     ⟨some 13, .call (.fn 234) [(.tmp 12)], none, 0⟩,
     ⟨some 11, .mov (.tmp 13), none, 0⟩,
     ⟨some 14, .extract (.tmp 11) 0, none, 0⟩,
     ⟨some 15, .extract (.tmp 11) 1, none, 0⟩,
     ⟨some 3, .mov (.tmp 14), none, 0⟩,
     ⟨some 4, .mov (.tmp 15), none, 0⟩])
  (.seq (.ops [⟨some 16, .load 12 true (.tmp 1), none, 0⟩,
     ⟨some 17, .call (.fn 274) [(.tmp 16)], none, 0⟩,
     ⟨some 5, .mov (.tmp 17), none, 0⟩])
  (.seq (.seq (.ops [⟨some 18, .load 12 true (.tmp 1), none, 0⟩,
      ⟨some 19, .call (.fn 244) [(.tmp 18)], none, 0⟩,
      ⟨some 20, .mov (.tmp 5), none, 0⟩,
      ⟨some 21, .eqB true (.tmp 19) (.tmp 20), none, 0⟩])
   (.cond (.tmp 21)
    (.seq (.ops [⟨some 2, .mov (.con (.bool false)), none, 0⟩])
     .ret)
    .skip))
  (.seq (.seq (.ops [⟨some 22, .mov (.tmp 5), none, 0⟩,
      ⟨some 23, .un .not (.tmp 22), none, 0⟩])
   (.cond (.tmp 23)
    (.seq (.ops [⟨some 24, .mov (.tmp 3), none, 0⟩,
        ⟨some 25, .bin .eql (.tmp 24) (.con (.str [])), none, 0⟩,
        ⟨some 26, .mov (.tmp 25), none, 0⟩,
        ⟨some 27, .mov (.tmp 4), some (26, true), 0⟩,
        ⟨some 28, .bin .eql (.tmp 27) (.con (.int .i64 2)), some (26, true), 0⟩,
        ⟨some 29, .pick (.tmp 26) (.tmp 28) (.con (.bool false)), none, 0⟩,
        ⟨some 2, .mov (.tmp 29), none, 0⟩])
     .ret)
    .skip))
  (.seq (.ops [⟨some 30, .mov (.tmp 3), none, 0⟩,
     ⟨some 31, .load 12 true (.tmp 1), none, 0⟩,
     ⟨some 32, .call (.fn 275) [(.tmp 31)], none, 0⟩,
     ⟨some 33, .bin .eql (.tmp 30) (.tmp 32), none, 0⟩,
     ⟨some 34, .mov (.tmp 33), none, 0⟩,
     ⟨some 35, .mov (.tmp 4), some (34, true), 0⟩,
     ⟨some 36, .bin .eql (.tmp 35) (.con (.int .i64 0)), some (34, true), 0⟩,
     ⟨some 37, .pick (.tmp 34) (.tmp 36) (.con (.bool false)), none, 0⟩,
     ⟨some 2, .mov (.tmp 37), none, 0⟩])
  .ret)))))))) }
def f_haulageref10_Can_k0 : List Bool := [false, true, false, true, false, false, false, false, false, false, false, false, false, false, false, false, false, false, false, false, false, false, false, false, false, false, false, false, false, false, false, false, false, false, false, false, false, false, false, false, false, false, false, false, false, false, false, false, false, false, false, false, false, false, false, false, false, false, false, false, false, false, false, false, false, false, false, false, false, false, false, false, false, false, false, false, false, false, false, false, false, false, false, false, false, false, false, false, false, false, false, false, false, false, false, false, false, false, false, false, false]
def f_haulageref10_Can_b0 : XCode :=
  (.seq (.seq (.ops [⟨some 17, .mov (.tmp 3), none, 0⟩,
     ⟨some 18, .fieldAddr 11 (.tmp 1), none, 0⟩,
     ⟨some 19, .load 1 false (.tmp 18), none, 0⟩,
     ⟨some 20, .len (.tmp 19), none, 0⟩,
     ⟨some 21, .bin .lss (.tmp 17) (.tmp 20), none, 0⟩])
  (.cond (.tmp 21)
   .skip
   (.exit 1)))
 (.seq (.block 2
   (.seq (.ops [⟨some 24, .fieldAddr 11 (.tmp 1), none, 0⟩,
      ⟨some 25, .load 1 false (.tmp 24), none, 0⟩,
      ⟨some 26, .mov (.tmp 3), none, 0⟩,
      ⟨some 27, .addrRow 8 (.tmp 25) (.tmp 26), none, 0⟩,
      ⟨some 28, .load 8 true (.tmp 27), none, 0⟩,
      ⟨some 29, .call (.fn 276) [(.tmp 28)], none, 0⟩,
      ⟨some 30, .un .not (.tmp 29), none, 0⟩])
   (.cond (.tmp 30)
    (.seq (.ops [⟨some 2, .mov (.con (.bool false)), none, 0⟩])
     .ret)
    .skip)))
 (.ops [⟨some 22, .mov (.tmp 3), none, 0⟩,
   ⟨some 23, .bin .add (.tmp 22) (.con (.int .i64 1)), none, 0⟩,
   ⟨some 3, .mov (.tmp 23), none, 0⟩])))
def f_haulageref10_Can_s0 (t1 t3 : AV) : List AV := [.unk, t1, .unk, t3, .unk, .unk, .unk, .unk, .unk, .unk, .unk, .unk, .unk, .unk, .unk, .unk, .unk, .unk, .unk, .unk, .unk, .unk, .unk, .unk, .unk, .unk, .unk, .unk, .unk, .unk, .unk, .unk, .unk, .unk, .unk, .unk, .unk, .unk, .unk, .unk, .unk, .unk, .unk, .unk, .unk, .unk, .unk, .unk, .unk, .unk, .unk, .unk, .unk, .unk, .unk, .unk, .unk, .unk, .unk, .unk, .unk, .unk, .unk, .unk, .unk, .unk, .unk, .unk, .unk, .unk, .unk, .unk, .unk, .unk, .unk, .unk, .unk, .unk, .unk, .unk, .unk, .unk, .unk, .unk, .unk, .unk, .unk, .unk, .unk, .unk, .unk, .unk, .unk, .unk, .unk, .unk, .unk, .unk, .unk, .unk, .unk]
def f_haulageref10_Can : XFunc := { ntmps := 101, res := [.tmp 2], pure := true, body :=
  (.seq (.ops [⟨some 1, .box (.tmp 0), none, 0⟩,
     ⟨some 2, .mov (.con (.bool false)), none, 0⟩])
  (.seq (.seq (.ops [⟨some 4, .load 12 true (.tmp 1), none, 0⟩,
      ⟨some 5, .call (.fn 194) [(.tmp 4)], none, 0⟩,
      ⟨some 6, .un .not (.tmp 5), none, 0⟩,
      ⟨some 7, .mov (.tmp 6), none, 0⟩,
      ⟨some 8, .fieldAddr 1 (.tmp 1), some (7, false), 0⟩,
      ⟨some 9, .load 1 false (.tmp 8), some (7, false), 0⟩,
      ⟨some 10, .call (.fn 188) [(.tmp 9)], some (7, false), 0⟩,
      ⟨some 11, .un .not (.tmp 10), some (7, false), 0⟩,
      ⟨some 12, .pick (.tmp 7) (.con (.bool true)) (.tmp 11), none, 0⟩])
   (.cond (.tmp 12)
    (.seq (.ops [⟨some 2, .mov (.con (.bool false)), none, 0⟩])
     .ret)
    .skip))
  (.seq (.seq (.ops [⟨some 13, .fieldAddr 0 (.tmp 1), none, 0⟩,
      ⟨some 14, .load 1 false (.tmp 13), none, 0⟩])
   (.block 0
    (.seq (.ops [⟨some 16, .bin .eql (.tmp 14) (.con (.int .i64 1)), none, 0⟩,
       ⟨some 15, .mov (.tmp 16), none, 0⟩])
    (.cond (.tmp 15)
     (.seq (.seq (.ops [⟨some 3, .mov (.con (.int .i64 0)), none, 0⟩])
       (.block 1
        (.loop f_haulageref10_Can_k0 f_haulageref10_Can_b0)))
      (.seq (.ops [⟨some 31, .fieldAddr 4 (.tmp 1), none, 0⟩,
         ⟨some 32, .load 1 false (.tmp 31), none, 0⟩,
         ⟨some 33, .call (.fn 188) [(.tmp 32)], none, 0⟩,
         ⟨some 34, .mov (.tmp 33), none, 0⟩,
         ⟨some 35, .fieldAddr 11 (.tmp 1), some (34, true), 0⟩,
         ⟨some 36, .load 1 false (.tmp 35), some (34, true), 0⟩,
         ⟨some 37, .len (.tmp 36), some (34, true), 0⟩,
         ⟨some 38, .bin .geq (.tmp 37) (.con (.int .i64 1)), some (34, true), 0⟩,
         ⟨some 39, .pick (.tmp 34) (.tmp 38) (.con (.bool false)), none, 0⟩,
         ⟨some 40, .mov (.tmp 39), none, 0⟩,
         ⟨some 41, .fieldAddr 11 (.tmp 1), some (40, true), 0⟩,
         ⟨some 42, .load 1 false (.tmp 41), some (40, true), 0⟩,
         ⟨some 43, .len (.tmp 42), some (40, true), 0⟩,
         ⟨some 44, .bin .leq (.tmp 43) (.con (.int .i64 10)), some (40, true), 0⟩,
         ⟨some 45, .pick (.tmp 40) (.tmp 44) (.con (.bool false)), none, 0⟩,
         ⟨some 2, .mov (.tmp 45), none, 0⟩])
      .ret))
     (.seq (.ops [⟨some 47, .bin .eql (.tmp 14) (.con (.int .i64 3)), none, 0⟩,
         ⟨some 46, .mov (.tmp 47), none, 0⟩])
      (.cond (.tmp 46)
       (.seq (.ops [⟨some 48, .fieldAddr 3 (.tmp 1), none, 0⟩,
           ⟨some 49, .load 1 false (.tmp 48), none, 0⟩,
           ⟨some 50, .call (.fn 188) [(.tmp 49)], none, 0⟩,
           ⟨some 2, .mov (.tmp 50), none, 0⟩])
        .ret)
       (.seq (.ops [⟨some 52, .bin .eql (.tmp 14) (.con (.int .i64 4)), none, 0⟩,
           ⟨some 51, .mov (.tmp 52), none, 0⟩])
        (.cond (.tmp 51)
         (.seq (.ops [⟨some 53, .fieldAddr 2 (.tmp 1), none, 0⟩,
             ⟨some 54, .load 1 false (.tmp 53), none, 0⟩,
             ⟨some 55, .call (.fn 188) [(.tmp 54)], none, 0⟩,
             ⟨some 56, .mov (.tmp 55), none, 0⟩,
             ⟨some 57, .fieldAddr 5 (.tmp 1), some (56, true), 0⟩,
             ⟨some 58, .load 2 true (.tmp 57), some (56, true), 0⟩,
             ⟨some 59, .call (.fn 85) [(.tmp 58)], some (56, true), 0⟩,
             ⟨some 60, .pick (.tmp 56) (.tmp 59) (.con (.bool false)), none, 0⟩,
             ⟨some 61, .mov (.tmp 60), none, 0⟩,
             ⟨some 62, .fieldAddr 8 (.tmp 1), some (61, true), 0⟩,
             ⟨some 63, .load 3 true (.tmp 62), some (61, true), 0⟩,
             ⟨some 64, .call (.fn 34) [(.tmp 63)], some (61, true), 0⟩,
             ⟨some 65, .pick (.tmp 61) (.tmp 64) (.con (.bool false)), none, 0⟩,
             ⟨some 2, .mov (.tmp 65), none, 0⟩])
          .ret)
         (.seq (.ops [⟨some 67, .bin .eql (.tmp 14) (.con (.int .i64 5)), none, 0⟩,
             ⟨some 66, .mov (.tmp 67), none, 0⟩])
          (.cond (.tmp 66)
           (.seq (.ops [⟨some 68, .fieldAddr 2 (.tmp 1), none, 0⟩,
               ⟨some 69, .load 1 false (.tmp 68), none, 0⟩,
               ⟨some 70, .call (.fn 188) [(.tmp 69)], none, 0⟩,
               ⟨some 2, .mov (.tmp 70), none, 0⟩])
            .ret)
           (.seq (.ops [⟨some 72, .bin .eql (.tmp 14) (.con (.int .i64 6)), none, 0⟩,
               ⟨some 71, .mov (.tmp 72), none, 0⟩])
            (.cond (.tmp 71)
             (.seq (.ops [⟨some 73, .fieldAddr 2 (.tmp 1), none, 0⟩,
                 ⟨some 74, .load 1 false (.tmp 73), none, 0⟩,
                 ⟨some 75, .call (.fn 188) [(.tmp 74)], none, 0⟩,
                 ⟨some 76, .mov (.tmp 75), none, 0⟩,
                 ⟨some 77, .fieldAddr 3 (.tmp 1), some (76, true), 0⟩,
                 ⟨some 78, .load 1 false (.tmp 77), some (76, true), 0⟩,
                 ⟨some 79, .call (.fn 188) [(.tmp 78)], some (76, true), 0⟩,
                 ⟨some 80, .pick (.tmp 76) (.tmp 79) (.con (.bool false)), none, 0⟩,
                 ⟨some 2, .mov (.tmp 80), none, 0⟩])
              .ret)
             (.seq (.ops [⟨some 82, .bin .eql (.tmp 14) (.con (.int .i64 7)), none, 0⟩,
                 ⟨some 81, .mov (.tmp 82), none, 0⟩])
              (.cond (.tmp 81)
               (.seq (.ops [⟨some 83, .fieldAddr 2 (.tmp 1), none, 0⟩,
                   ⟨some 84, .load 1 false (.tmp 83), none, 0⟩,
                   ⟨some 85, .call (.fn 188) [(.tmp 84)], none, 0⟩,
                   ⟨some 86, .mov (.tmp 85), none, 0⟩,
                   ⟨some 87, .fieldAddr 5 (.tmp 1), some (86, true), 0⟩,
                   ⟨some 88, .load 2 true (.tmp 87), some (86, true), 0⟩,
                   ⟨some 89, .call (.fn 85) [(.tmp 88)], some (86, true), 0⟩,
                   ⟨some 90, .pick (.tmp 86) (.tmp 89) (.con (.bool false)), none, 0⟩,
                   ⟨some 2, .mov (.tmp 90), none, 0⟩])
                .ret)
               (.seq (.ops [⟨some 92, .bin .eql (.tmp 14) (.con (.int .i64 8)), none, 0⟩,
                   ⟨some 91, .mov (.tmp 92), none, 0⟩])
                (.cond (.tmp 91)
                 (.seq (.ops [⟨some 93, .fieldAddr 2 (.tmp 1), none, 0⟩,
                     ⟨some 94, .load 1 false (.tmp 93), none, 0⟩,
                     ⟨some 95, .call (.fn 188) [(.tmp 94)], none, 0⟩,
                     ⟨some 96, .mov (.tmp 95), none, 0⟩,
                     ⟨some 97, .fieldAddr 8 (.tmp 1), some (96, true), 0⟩,
                     ⟨some 98, .load 3 true (.tmp 97), some (96, true), 0⟩,
                     ⟨some 99, .call (.fn 34) [(.tmp 98)], some (96, true), 0⟩,
                     ⟨some 100, .pick (.tmp 96) (.tmp 99) (.con (.bool false)), none, 0⟩,
                     ⟨some 2, .mov (.tmp 100), none, 0⟩])
                  .ret)
                 .skip))))))))))))))))
  (.seq (.ops [⟨some 2, .mov (.con (.bool true)), none, 0⟩])
  .ret)))) }
def f_haulageref10_Print_k0 : List Bool := [false, true, false, true, true, false, false, false, false, false, false, false, false, false, false, false, false, false, false, false, false, false, false, false, false, false, false, false, false, false, false, false, false, false, false, false, false, false, false, false, false, false, false, false, false, false, false, false, false, false, false, false, false, false, false, false, false, false, false, false, false, false, false, false, false, false, false, false, false, false, false, false, false, false, false, false, false, false, false, false, false, false, false, false, false, false, false, false, false, false, false, false, false, false, false, false, false, false, false, false, false, false, false, false, false, false, false, false, false, false, false, false, false, false, false, false, false, false, false, false, false, false, false, false]
def f_haulageref10_Print_b0 : XCode :=
  (.seq (.seq (.ops [⟨some 14, .mov (.tmp 4), none, 0⟩,
     ⟨some 15, .fieldAddr 11 (.tmp 1), none, 0⟩,
     ⟨some 16, .load 1 false (.tmp 15), none, 0⟩,
     ⟨some 17, .len (.tmp 16), none, 0⟩,
     ⟨some 18, .bin .lss (.tmp 14) (.tmp 17), none, 0⟩])
  (.cond (.tmp 18)
   .skip
   (.exit 1)))
 (.seq (.block 2
   (.seq (.seq (.ops [⟨some 21, .mov (.tmp 4), none, 0⟩,
       ⟨some 22, .bin .gtr (.tmp 21) (.con (.int .i64 0)), none, 0⟩])
    (.cond (.tmp 22)
     (.ops [⟨some 23, .mov (.tmp 3), none, 0⟩,
        ⟨some 24, .bin .add (.tmp 23) (.con (.str [44, 32])), none, 0⟩,
        ⟨some 3, .mov (.tmp 24), none, 0⟩])
     .skip))
   (.seq (.ops [⟨some 25, .fieldAddr 11 (.tmp 1), none, 0⟩,
      ⟨some 26, .load 1 false (.tmp 25), none, 0⟩,
      ⟨some 27, .mov (.tmp 4), none, 0⟩,
      ⟨some 28, .addrRow 8 (.tmp 26) (.tmp 27), none, 0⟩,
      ⟨some 29, .load 8 true (.tmp 28), none, 0⟩,
      ⟨some 5, .alloc [.int .i64 0, .str [], .int .i64 0, .int .i64 0, .bool false, .int .i64 0, .int .i64 0, .str []], none, 0⟩,
      ⟨none, .store 8 (.tmp 5) (.tmp 29), none, 0⟩])
   (.ops [⟨some 30, .mov (.tmp 3), none, 0⟩,
     ⟨some 31, .fieldAddr 1 (.tmp 5), none, 0⟩,
     ⟨some 32, .load 1 false (.tmp 31), none, 0⟩,
     ⟨some 33, .fieldAddr 2 (.tmp 5), none, 0⟩,
     ⟨some 34, .load 2 true (.tmp 33), none, 0⟩,
     ⟨some 35, .fieldAddr 4 (.tmp 5), none, 0⟩,
     ⟨some 36, .load 1 false (.tmp 35), none, 0⟩,
     ⟨some 37, .fieldAddr 5 (.tmp 5), none, 0⟩,
     ⟨some 38, .load 3 true (.tmp 37), none, 0⟩,
     ⟨some 39, .call (.fn 277) [(.tmp 32), (.tmp 34), (.tmp 36), (.tmp 38)], none, 0⟩,
     ⟨some 40, .bin .add (.tmp 30) (.tmp 39), none, 0⟩,
     ⟨some 3, .mov (.tmp 40), none, 0⟩]))))
 (.ops [⟨some 19, .mov (.tmp 4), none, 0⟩,
   ⟨some 20, .bin .add (.tmp 19) (.con (.int .i64 1)), none, 0⟩,
   ⟨some 4, .mov (.tmp 20), none, 0⟩])))
def f_haulageref10_Print_s0 (t1 t3 t4 : AV) : List AV := [.unk, t1, .unk, t3, t4, .unk, .unk, .unk, .unk, .unk, .unk, .unk, .unk, .unk, .unk, .unk, .unk, .unk, .unk, .unk, .unk, .unk, .unk, .unk, .unk, .unk, .unk, .unk, .unk, .unk, .unk, .unk, .unk, .unk, .unk, .unk, .unk, .unk, .unk, .unk, .unk, .unk, .unk, .unk, .unk, .unk, .unk, .unk, .unk, .unk, .unk, .unk, .unk, .unk, .unk, .unk, .unk, .unk, .unk, .unk, .unk, .unk, .unk, .unk, .unk, .unk, .unk, .unk, .unk, .unk, .unk, .unk, .unk, .unk, .unk, .unk, .unk, .unk, .unk, .unk, .unk, .unk, .unk, .unk, .unk, .unk, .unk, .unk, .unk, .unk, .unk, .unk, .unk, .unk, .unk, .unk, .unk, .unk, .unk, .unk, .unk, .unk, .unk, .unk, .unk, .unk, .unk, .unk, .unk, .unk, .unk, .unk, .unk, .unk, .unk, .unk, .unk, .unk, .unk, .unk, .unk, .unk, .unk, .unk]
def f_haulageref10_Print : XFunc := { ntmps := 124, res := [.tmp 2], pure := true, body :=
  (.seq (.ops [⟨some 1, .box (.tmp 0), none, 0⟩,
     ⟨some 2, .mov (.con (.str [])), none, 0⟩])
  (.seq (.seq (.ops [⟨some 6, .fieldAddr 0 (.tmp 1), none, 0⟩,
      ⟨some 7, .load 1 false (.tmp 6), none, 0⟩])
   (.block 0
    (.seq (.ops [⟨some 9, .bin .eql (.tmp 7) (.con (.int .i64 1)), none, 0⟩,
       ⟨some 8, .mov (.tmp 9), none, 0⟩])
    (.cond (.tmp 8)
     (.seq (.ops [⟨some 10, .fieldAddr 1 (.tmp 1), none, 0⟩,
         ⟨some 11, .load 1 false (.tmp 10), none, 0⟩,
         ⟨some 12, .bin .add (.con (.str [99, 114, 101, 97, 116, 101, 32])) (.tmp 11), none, 0⟩,
         ⟨some 13, .bin .add (.tmp 12) (.con (.str [32, 40])), none, 0⟩,
         ⟨some 3, .mov (.tmp 13), none, 0⟩])
      (.seq (.seq (.ops [⟨some 4, .mov (.con (.int .i64 0)), none, 0⟩])
       (.block 1
        (.loop f_haulageref10_Print_k0 f_haulageref10_Print_b0)))
      (.seq (.ops [⟨some 41, .mov (.tmp 3), none, 0⟩,
         ⟨some 42, .bin .add (.tmp 41) (.con (.str [41, 32, 107, 101, 121, 32])), none, 0⟩,
         ⟨some 43, .fieldAddr 4 (.tmp 1), none, 0⟩,
         ⟨some 44, .load 1 false (.tmp 43), none, 0⟩,
         ⟨some 45, .bin .add (.tmp 42) (.tmp 44), none, 0⟩,
         ⟨some 2, .mov (.tmp 45), none, 0⟩])
      .ret)))
     (.seq (.ops [⟨some 47, .bin .eql (.tmp 7) (.con (.int .i64 2)), none, 0⟩,
         ⟨some 46, .mov (.tmp 47), none, 0⟩])
      (.cond (.tmp 46)
       (.seq (.ops [⟨some 48, .fieldAddr 1 (.tmp 1), none, 0⟩,
           ⟨some 49, .load 1 false (.tmp 48), none, 0⟩,
           ⟨some 50, .bin .add (.con (.str [100, 114, 111, 112, 32])) (.tmp 49), none, 0⟩,
           ⟨some 2, .mov (.tmp 50), none, 0⟩])
        .ret)
       (.seq (.ops [⟨some 52, .bin .eql (.tmp 7) (.con (.int .i64 3)), none, 0⟩,
           ⟨some 51, .mov (.tmp 52), none, 0⟩])
        (.cond (.tmp 51)
         (.seq (.ops [⟨some 53, .fieldAddr 1 (.tmp 1), none, 0⟩,
             ⟨some 54, .load 1 false (.tmp 53), none, 0⟩,
             ⟨some 55, .bin .add (.con (.str [114, 101, 110, 97, 109, 101, 32])) (.tmp 54), none, 0⟩,
             ⟨some 56, .bin .add (.tmp 55) (.con (.str [32, 116, 111, 32])), none, 0⟩,
             ⟨some 57, .fieldAddr 3 (.tmp 1), none, 0⟩,
             ⟨some 58, .load 1 false (.tmp 57), none, 0⟩,
             ⟨some 59, .bin .add (.tmp 56) (.tmp 58), none, 0⟩,
             ⟨some 2, .mov (.tmp 59), none, 0⟩])
          .ret)
         (.seq (.ops [⟨some 61, .bin .eql (.tmp 7) (.con (.int .i64 4)), none, 0⟩,
             ⟨some 60, .mov (.tmp 61), none, 0⟩])
          (.cond (.tmp 60)
           (.seq (.draw [⟨some 62, .fieldAddr 1 (.tmp 1), none, 0⟩,
               ⟨some 63, .load 1 false (.tmp 62), none, 0⟩,
               ⟨some 64, .bin .add (.con (.str [97, 100, 100, 32])) (.tmp 63), none, 0⟩,
               ⟨some 65, .bin .add (.tmp 64) (.con (.str [32])), none, 0⟩,
               ⟨some 66, .fieldAddr 2 (.tmp 1), none, 0⟩,
               ⟨some 67, .load 1 false (.tmp 66), none, 0⟩,
               ⟨some 68, .fieldAddr 5 (.tmp 1), none, 0⟩,
               ⟨some 69, .load 2 true (.tmp 68), none, 0⟩,
               ⟨some 70, .fieldAddr 7 (.tmp 1), none, 0⟩,
               ⟨some 71, .load 1 false (.tmp 70), none, 0⟩,
               ⟨some 72, .fieldAddr 8 (.tmp 1), none, 0⟩,
               ⟨some 73, .load 3 true (.tmp 72), none, 0⟩,
               ⟨some 74, .call (.fn 277) [(.tmp 67), (.tmp 69), (.tmp 71), (.tmp 73)], none, 0⟩,
               ⟨some 75, .bin .add (.tmp 65) (.tmp 74), none, 0⟩,
               ⟨some 2, .mov (.tmp 75), none, 0⟩]
              [[], [0], [0, 1], [0, 1, 2], [], [4], [], [6], [], [8], [], [10], [4, 5, 6, 7, 8, 9, 10, 11], [0, 1, 2, 3, 4, 5, 6, 7, 8, 9, 10, 11, 12], [0, 1, 2, 3, 4, 5, 6, 7, 8, 9, 10, 11, 12, 13]])
            .ret)
           (.seq (.ops [⟨some 77, .bin .eql (.tmp 7) (.con (.int .i64 5)), none, 0⟩,
               ⟨some 76, .mov (.tmp 77), none, 0⟩])
            (.cond (.tmp 76)
             (.seq (.ops [⟨some 78, .fieldAddr 1 (.tmp 1), none, 0⟩,
                 ⟨some 79, .load 1 false (.tmp 78), none, 0⟩,
                 ⟨some 80, .bin .add (.con (.str [99, 117, 116, 32])) (.tmp 79), none, 0⟩,
                 ⟨some 81, .bin .add (.tmp 80) (.con (.str [32])), none, 0⟩,
                 ⟨some 82, .fieldAddr 2 (.tmp 1), none, 0⟩,
                 ⟨some 83, .load 1 false (.tmp 82), none, 0⟩,
                 ⟨some 84, .bin .add (.tmp 81) (.tmp 83), none, 0⟩,
                 ⟨some 2, .mov (.tmp 84), none, 0⟩])
              .ret)
             (.seq (.ops [⟨some 86, .bin .eql (.tmp 7) (.con (.int .i64 6)), none, 0⟩,
                 ⟨some 85, .mov (.tmp 86), none, 0⟩])
              (.cond (.tmp 85)
               (.seq (.ops [⟨some 87, .fieldAddr 1 (.tmp 1), none, 0⟩,
                   ⟨some 88, .load 1 false (.tmp 87), none, 0⟩,
                   ⟨some 89, .bin .add (.con (.str [99, 97, 108, 108, 32])) (.tmp 88), none, 0⟩,
                   ⟨some 90, .bin .add (.tmp 89) (.con (.str [32])), none, 0⟩,
                   ⟨some 91, .fieldAddr 2 (.tmp 1), none, 0⟩,
                   ⟨some 92, .load 1 false (.tmp 91), none, 0⟩,
                   ⟨some 93, .bin .add (.tmp 90) (.tmp 92), none, 0⟩,
                   ⟨some 94, .bin .add (.tmp 93) (.con (.str [32, 116, 111, 32])), none, 0⟩,
                   ⟨some 95, .fieldAddr 3 (.tmp 1), none, 0⟩,
                   ⟨some 96, .load 1 false (.tmp 95), none, 0⟩,
                   ⟨some 97, .bin .add (.tmp 94) (.tmp 96), none, 0⟩,
                   ⟨some 2, .mov (.tmp 97), none, 0⟩])
                .ret)
               (.seq (.ops [⟨some 99, .bin .eql (.tmp 7) (.con (.int .i64 7)), none, 0⟩,
                   ⟨some 98, .mov (.tmp 99), none, 0⟩])
                (.cond (.tmp 98)
                 (.seq (.draw [⟨some 100, .fieldAddr 1 (.tmp 1), none, 0⟩,
                     ⟨some 101, .load 1 false (.tmp 100), none, 0⟩,
                     ⟨some 102, .bin .add (.con (.str [119, 105, 100, 101, 110, 32])) (.tmp 101), none, 0⟩,
                     ⟨some 103, .bin .add (.tmp 102) (.con (.str [32])), none, 0⟩,
                     ⟨some 104, .fieldAddr 2 (.tmp 1), none, 0⟩,
                     ⟨some 105, .load 1 false (.tmp 104), none, 0⟩,
                     ⟨some 106, .bin .add (.tmp 103) (.tmp 105), none, 0⟩,
                     ⟨some 107, .bin .add (.tmp 106) (.con (.str [32])), none, 0⟩,
                     ⟨some 108, .fieldAddr 5 (.tmp 1), none, 0⟩,
                     ⟨some 109, .load 2 true (.tmp 108), none, 0⟩,
                     ⟨some 110, .call (.fn 94) [(.tmp 109)], none, 0⟩,
                     ⟨some 111, .bin .add (.tmp 107) (.tmp 110), none, 0⟩,
                     ⟨some 2, .mov (.tmp 111), none, 0⟩]
                    [[], [0], [0, 1], [0, 1, 2], [], [4], [0, 1, 2, 3, 4, 5], [0, 1, 2, 3, 4, 5, 6], [], [8], [8, 9], [0, 1, 2, 3, 4, 5, 6, 7, 8, 9, 10], [0, 1, 2, 3, 4, 5, 6, 7, 8, 9, 10, 11]])
                  .ret)
                 .skip))))))))))))))))
  (.seq (.draw [⟨some 112, .fieldAddr 1 (.tmp 1), none, 0⟩,
     ⟨some 113, .load 1 false (.tmp 112), none, 0⟩,
     ⟨some 114, .bin .add (.con (.str [112, 114, 101, 115, 101, 116, 32])) (.tmp 113), none, 0⟩,
     ⟨some 115, .bin .add (.tmp 114) (.con (.str [32])), none, 0⟩,
     ⟨some 116, .fieldAddr 2 (.tmp 1), none, 0⟩,
     ⟨some 117, .load 1 false (.tmp 116), none, 0⟩,
     ⟨some 118, .bin .add (.tmp 115) (.tmp 117), none, 0⟩,
     ⟨some 119, .bin .add (.tmp 118) (.con (.str [32])), none, 0⟩,
     ⟨some 120, .fieldAddr 8 (.tmp 1), none, 0⟩,
     ⟨some 121, .load 3 true (.tmp 120), none, 0⟩,
     ⟨some 122, .call (.fn 44) [(.tmp 121)], none, 0⟩,
     ⟨some 123, .bin .add (.tmp 119) (.tmp 122), none, 0⟩,
     ⟨some 2, .mov (.tmp 123), none, 0⟩]
    [[], [0], [0, 1], [0, 1, 2], [], [4], [0, 1, 2, 3, 4, 5], [0, 1, 2, 3, 4, 5, 6], [], [8], [8, 9], [0, 1, 2, 3, 4, 5, 6, 7, 8, 9, 10], [0, 1, 2, 3, 4, 5, 6, 7, 8, 9, 10, 11]])
  .ret))) }
def f_haulageref09_Plain_k0 : List Bool := [false, true, false, true, true, false, false, false, false, false, false, false, false, false, false, false, false, false, false, false, false, false, false, false, false, false, false, false, false, false, false, false, false, false, false, false, false, false, false, false, false, false, false, false, false, false, false, false, false, false, false, false, false, false, false, false, false, false, false, false, false, false, false, false, false, false, false, false, false, false, false, false, false, false, false, false, false, false, false, false, false, false, false, false, false, false, false]
def f_haulageref09_Plain_b0 : XCode :=
  (.seq (.seq (.ops [⟨some 20, .mov (.tmp 4), none, 0⟩,
     ⟨some 21, .fieldAddr 11 (.tmp 1), none, 0⟩,
     ⟨some 22, .load 1 false (.tmp 21), none, 0⟩,
     ⟨some 23, .len (.tmp 22), none, 0⟩,
     ⟨some 24, .bin .lss (.tmp 20) (.tmp 23), none, 0⟩])
  (.cond (.tmp 24)
   .skip
   (.exit 1)))
 (.seq (.block 2
   (.seq (.ops [⟨some 27, .fieldAddr 11 (.tmp 1), none, 0⟩,
      ⟨some 28, .load 1 false (.tmp 27), none, 0⟩,
      ⟨some 29, .mov (.tmp 4), none, 0⟩,
      ⟨some 30, .addrRow 8 (.tmp 28) (.tmp 29), none, 0⟩,
      ⟨some 31, .fieldAddr 0 (.tmp 30), none, 0⟩,
      ⟨some 32, .load 1 false (.tmp 31), none, 0⟩,
      ⟨some 33, .bin .neq (.tmp 32) (.con (.int .i64 0)), none, 0⟩])
   (.cond (.tmp 33)
    (.seq (.ops [⟨some 2, .mov (.con (.bool false)), none, 0⟩])
     .ret)
    .skip)))
 (.ops [⟨some 25, .mov (.tmp 4), none, 0⟩,
   ⟨some 26, .bin .add (.tmp 25) (.con (.int .i64 1)), none, 0⟩,
   ⟨some 4, .mov (.tmp 26), none, 0⟩])))
def f_haulageref09_Plain_s0 (t1 t3 t4 : AV) : List AV := [.unk, t1, .unk, t3, t4, .unk, .unk, .unk, .unk, .unk, .unk, .unk, .unk, .unk, .unk, .unk, .unk, .unk, .unk, .unk, .unk, .unk, .unk, .unk, .unk, .unk, .unk, .unk, .unk, .unk, .unk, .unk, .unk, .unk, .unk, .unk, .unk, .unk, .unk, .unk, .unk, .unk, .unk, .unk, .unk, .unk, .unk, .unk, .unk, .unk, .unk, .unk, .unk, .unk, .unk, .unk, .unk, .unk, .unk, .unk, .unk, .unk, .unk, .unk, .unk, .unk, .unk, .unk, .unk, .unk, .unk, .unk, .unk, .unk, .unk, .unk, .unk, .unk, .unk, .unk, .unk, .unk, .unk, .unk, .unk, .unk, .unk]
def f_haulageref09_Plain : XFunc := { ntmps := 87, res := [.tmp 2], pure := true, body :=
  (.seq (.ops [⟨some 1, .box (.tmp 0), none, 0⟩,
     ⟨some 2, .mov (.con (.bool false)), none, 0⟩])
  (.seq (.ops [⟨some 5, .fieldAddr 0 (.tmp 1), none, 0⟩,
     ⟨some 6, .load 1 false (.tmp 5), none, 0⟩,
     ⟨some 7, .fieldAddr 1 (.tmp 1), none, 0⟩,
     ⟨some 8, .load 1 false (.tmp 7), none, 0⟩,
     ⟨some 9, .build [.int .i64 0, .str [], .str [], .str [], .str [], .int .i64 0, .int .i64 0, .bool false, .int .i64 0, .int .i64 0, .str [], .nils] [(0, 1, (.tmp 6)), (1, 1, (.tmp 8))], none, 0⟩,
     ⟨some 3, .alloc [.int .i64 0, .str [], .str [], .str [], .str [], .int .i64 0, .int .i64 0, .bool false, .int .i64 0, .int .i64 0, .str [], .nils], none, 0⟩,
     ⟨none, .store 12 (.tmp 3) (.tmp 9), none, 0⟩])
  (.seq (.seq (.ops [⟨some 10, .fieldAddr 0 (.tmp 1), none, 0⟩,
      ⟨some 11, .load 1 false (.tmp 10), none, 0⟩])
   (.block 0
    (.seq (.ops [⟨some 13, .bin .eql (.tmp 11) (.con (.int .i64 1)), none, 0⟩,
       ⟨some 12, .mov (.tmp 13), none, 0⟩])
    (.cond (.tmp 12)
     (.seq (.drawS [⟨some 14, .fieldAddr 4 (.tmp 1), none, 0⟩,
         ⟨some 15, .load 1 false (.tmp 14), none, 0⟩,
         ⟨some 16, .fieldAddr 11 (.tmp 1), none, 0⟩,
         ⟨some 17, .load 1 false (.tmp 16), none, 0⟩,
         ⟨some 18, .fieldAddr 4 (.tmp 3), none, 0⟩,
         ⟨none, .store 1 (.tmp 18) (.tmp 15), none, 3⟩,
         ⟨some 19, .fieldAddr 11 (.tmp 3), none, 0⟩,
         ⟨none, .store 1 (.tmp 19) (.tmp 17), none, 3⟩]
        [[], [0], [], [2], [0, 1], [0, 1, 4], [0, 1, 2, 3, 4, 5], [0, 1, 2, 3, 4, 5, 6]] [3])
      (.seq (.ops [⟨some 4, .mov (.con (.int .i64 0)), none, 0⟩])
      (.block 1
       (.loop f_haulageref09_Plain_k0 f_haulageref09_Plain_b0))))
     (.seq (.ops [⟨some 35, .bin .eql (.tmp 11) (.con (.int .i64 2)), none, 0⟩,
         ⟨some 34, .mov (.tmp 35), none, 0⟩])
      (.cond (.tmp 34)
       .skip
       (.seq (.ops [⟨some 37, .bin .eql (.tmp 11) (.con (.int .i64 3)), none, 0⟩,
           ⟨some 36, .mov (.tmp 37), none, 0⟩])
        (.cond (.tmp 36)
         (.ops [⟨some 38, .fieldAddr 3 (.tmp 1), none, 0⟩,
            ⟨some 39, .load 1 false (.tmp 38), none, 0⟩,
            ⟨some 40, .fieldAddr 3 (.tmp 3), none, 0⟩,
            ⟨none, .store 1 (.tmp 40) (.tmp 39), none, 0⟩])
         (.seq (.ops [⟨some 42, .bin .eql (.tmp 11) (.con (.int .i64 4)), none, 0⟩,
             ⟨some 41, .mov (.tmp 42), none, 0⟩])
          (.cond (.tmp 41)
           (.drawS [⟨some 43, .fieldAddr 2 (.tmp 1), none, 0⟩,
              ⟨some 44, .load 1 false (.tmp 43), none, 0⟩,
              ⟨some 45, .fieldAddr 5 (.tmp 1), none, 0⟩,
              ⟨some 46, .load 2 true (.tmp 45), none, 0⟩,
              ⟨some 47, .fieldAddr 7 (.tmp 1), none, 0⟩,
              ⟨some 48, .load 1 false (.tmp 47), none, 0⟩,
              ⟨some 49, .fieldAddr 8 (.tmp 1), none, 0⟩,
              ⟨some 50, .load 3 true (.tmp 49), none, 0⟩,
              ⟨some 51, .fieldAddr 2 (.tmp 3), none, 0⟩,
              ⟨none, .store 1 (.tmp 51) (.tmp 44), none, 3⟩,
              ⟨some 52, .fieldAddr 5 (.tmp 3), none, 0⟩,
              ⟨none, .store 2 (.tmp 52) (.tmp 46), none, 3⟩,
              ⟨some 53, .fieldAddr 7 (.tmp 3), none, 0⟩,
              ⟨none, .store 1 (.tmp 53) (.tmp 48), none, 3⟩,
              ⟨some 54, .fieldAddr 8 (.tmp 3), none, 0⟩,
              ⟨none, .store 3 (.tmp 54) (.tmp 50), none, 3⟩]
             [[], [0], [], [2], [], [4], [], [6], [0, 1], [0, 1, 8], [0, 1, 2, 3, 8, 9], [0, 1, 2, 3, 8, 9, 10], [0, 1, 2, 3, 4, 5, 8, 9, 10, 11], [0, 1, 2, 3, 4, 5, 8, 9, 10, 11, 12], [0, 1, 2, 3, 4, 5, 6, 7, 8, 9, 10, 11, 12, 13], [0, 1, 2, 3, 4, 5, 6, 7, 8, 9, 10, 11, 12, 13, 14]] [3])
           (.seq (.ops [⟨some 56, .bin .eql (.tmp 11) (.con (.int .i64 5)), none, 0⟩,
               ⟨some 55, .mov (.tmp 56), none, 0⟩])
            (.cond (.tmp 55)
             (.ops [⟨some 57, .fieldAddr 2 (.tmp 1), none, 0⟩,
                ⟨some 58, .load 1 false (.tmp 57), none, 0⟩,
                ⟨some 59, .fieldAddr 2 (.tmp 3), none, 0⟩,
                ⟨none, .store 1 (.tmp 59) (.tmp 58), none, 0⟩])
             (.seq (.ops [⟨some 61, .bin .eql (.tmp 11) (.con (.int .i64 6)), none, 0⟩,
                 ⟨some 60, .mov (.tmp 61), none, 0⟩])
              (.cond (.tmp 60)
               (.drawS [⟨some 62, .fieldAddr 2 (.tmp 1), none, 0⟩,
                  ⟨some 63, .load 1 false (.tmp 62), none, 0⟩,
                  ⟨some 64, .fieldAddr 3 (.tmp 1), none, 0⟩,
                  ⟨some 65, .load 1 false (.tmp 64), none, 0⟩,
                  ⟨some 66, .fieldAddr 2 (.tmp 3), none, 0⟩,
                  ⟨none, .store 1 (.tmp 66) (.tmp 63), none, 3⟩,
                  ⟨some 67, .fieldAddr 3 (.tmp 3), none, 0⟩,
                  ⟨none, .store 1 (.tmp 67) (.tmp 65), none, 3⟩]
                 [[], [0], [], [2], [0, 1], [0, 1, 4], [0, 1, 2, 3, 4, 5], [0, 1, 2, 3, 4, 5, 6]] [3])
               (.seq (.ops [⟨some 69, .bin .eql (.tmp 11) (.con (.int .i64 7)), none, 0⟩,
                   ⟨some 68, .mov (.tmp 69), none, 0⟩])
                (.cond (.tmp 68)
                 (.drawS [⟨some 70, .fieldAddr 2 (.tmp 1), none, 0⟩,
                    ⟨some 71, .load 1 false (.tmp 70), none, 0⟩,
                    ⟨some 72, .fieldAddr 5 (.tmp 1), none, 0⟩,
                    ⟨some 73, .load 2 true (.tmp 72), none, 0⟩,
                    ⟨some 74, .fieldAddr 2 (.tmp 3), none, 0⟩,
                    ⟨none, .store 1 (.tmp 74) (.tmp 71), none, 3⟩,
                    ⟨some 75, .fieldAddr 5 (.tmp 3), none, 0⟩,
                    ⟨none, .store 2 (.tmp 75) (.tmp 73), none, 3⟩]
                   [[], [0], [], [2], [0, 1], [0, 1, 4], [0, 1, 2, 3, 4, 5], [0, 1, 2, 3, 4, 5, 6]] [3])
                 (.seq (.ops [⟨some 77, .bin .eql (.tmp 11) (.con (.int .i64 8)), none, 0⟩,
                     ⟨some 76, .mov (.tmp 77), none, 0⟩])
                  (.cond (.tmp 76)
                   (.drawS [⟨some 78, .fieldAddr 2 (.tmp 1), none, 0⟩,
                      ⟨some 79, .load 1 false (.tmp 78), none, 0⟩,
                      ⟨some 80, .fieldAddr 8 (.tmp 1), none, 0⟩,
                      ⟨some 81, .load 3 true (.tmp 80), none, 0⟩,
                      ⟨some 82, .fieldAddr 2 (.tmp 3), none, 0⟩,
                      ⟨none, .store 1 (.tmp 82) (.tmp 79), none, 3⟩,
                      ⟨some 83, .fieldAddr 8 (.tmp 3), none, 0⟩,
                      ⟨none, .store 3 (.tmp 83) (.tmp 81), none, 3⟩]
                     [[], [0], [], [2], [0, 1], [0, 1, 4], [0, 1, 2, 3, 4, 5], [0, 1, 2, 3, 4, 5, 6]] [3])
                   (.seq (.ops [⟨some 2, .mov (.con (.bool false)), none, 0⟩])
                    .ret)))))))))))))))))))
  (.seq (.ops [⟨some 84, .load 12 true (.tmp 3), none, 0⟩,
     ⟨some 85, .load 12 true (.tmp 1), none, 0⟩,
     ⟨some 86, .call (.fn 178) [(.tmp 84), (.tmp 85)], none, 0⟩,
     ⟨some 2, .mov (.tmp 86), none, 0⟩])
  .ret)))) }
def f_haulageref10_column : XFunc := { ntmps := 16, res := [.tmp 2], pure := true, body :=
  (.seq (.ops [⟨some 1, .box (.tmp 0), none, 0⟩,
     ⟨some 2, .mov (.con (.bool false)), none, 0⟩])
  (.seq (.ops [⟨some 3, .fieldAddr 1 (.tmp 1), none, 0⟩,
     ⟨some 4, .load 1 false (.tmp 3), none, 0⟩,
     ⟨some 5, .call (.fn 188) [(.tmp 4)], none, 0⟩,
     ⟨some 6, .mov (.tmp 5), none, 0⟩,
     ⟨some 7, .fieldAddr 2 (.tmp 1), some (6, true), 0⟩,
     ⟨some 8, .load 2 true (.tmp 7), some (6, true), 0⟩,
     ⟨some 9, .call (.fn 85) [(.tmp 8)], some (6, true), 0⟩,
     ⟨some 10, .pick (.tmp 6) (.tmp 9) (.con (.bool false)), none, 0⟩,
     ⟨some 11, .mov (.tmp 10), none, 0⟩,
     ⟨some 12, .fieldAddr 5 (.tmp 1), some (11, true), 0⟩,
     ⟨some 13, .load 3 true (.tmp 12), some (11, true), 0⟩,
     ⟨some 14, .call (.fn 34) [(.tmp 13)], some (11, true), 0⟩,
     ⟨some 15, .pick (.tmp 11) (.tmp 14) (.con (.bool false)), none, 0⟩,
     ⟨some 2, .mov (.tmp 15), none, 0⟩])
  .ret)) }
def f_haulageref10_col : XFunc := { ntmps := 27, res := [.tmp 8], pure := true, body :=
  (.seq (.ops [⟨some 5, .box (.tmp 1), none, 0⟩,
     ⟨some 7, .box (.tmp 3), none, 0⟩,
     ⟨some 8, .mov (.con (.str [])), none, 0⟩])
  (.seq (.ops [⟨some 10, .mov (.tmp 0), none, 0⟩,
     ⟨some 11, .bin .add (.tmp 10) (.con (.str [32])), none, 0⟩,
     ⟨some 12, .load 2 true (.tmp 5), none, 0⟩,
     ⟨some 13, .call (.fn 94) [(.tmp 12)], none, 0⟩,
     ⟨some 14, .bin .add (.tmp 11) (.tmp 13), none, 0⟩,
     ⟨some 9, .mov (.tmp 14), none, 0⟩])
  (.seq (.seq (.ops [⟨some 15, .mov (.tmp 2), none, 0⟩])
   (.cond (.tmp 15)
    (.ops [⟨some 16, .mov (.tmp 9), none, 0⟩,
       ⟨some 17, .bin .add (.tmp 16) (.con (.str [32, 110, 117, 108, 108])), none, 0⟩,
       ⟨some 9, .mov (.tmp 17), none, 0⟩])
    .skip))
  (.seq (.seq (.ops [⟨some 18, .fieldAddr 0 (.tmp 7), none, 0⟩,
      ⟨some 19, .load 1 false (.tmp 18), none, 0⟩,
      ⟨some 20, .bin .neq (.tmp 19) (.con (.int .i64 0)), none, 0⟩])
   (.cond (.tmp 20)
    (.ops [⟨some 21, .mov (.tmp 9), none, 0⟩,
       ⟨some 22, .bin .add (.tmp 21) (.con (.str [32, 100, 101, 102, 97, 117, 108, 116, 32])), none, 0⟩,
       ⟨some 23, .load 3 true (.tmp 7), none, 0⟩,
       ⟨some 24, .call (.fn 44) [(.tmp 23)], none, 0⟩,
       ⟨some 25, .bin .add (.tmp 22) (.tmp 24), none, 0⟩,
       ⟨some 9, .mov (.tmp 25), none, 0⟩])
    .skip))
  (.seq (.ops [⟨some 26, .mov (.tmp 9), none, 0⟩,
     ⟨some 8, .mov (.tmp 26), none, 0⟩])
  .ret))))) }
end Hx.Fn
