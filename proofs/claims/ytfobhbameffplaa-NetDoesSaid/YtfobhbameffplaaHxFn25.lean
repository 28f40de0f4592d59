/- HxFn25: written by gen.py -/
import Derived.Test.YtfobhbameffplaaHxFn10
namespace Hx.Fn
open Go
def f_haulagelaw25_lives : XFunc := { ntmps := 56, res := [.tmp 0], pure := true, body :=
  (.seq (.ops [⟨some 0, .mov (.con (.bool false)), none, 0⟩])
  (.seq (.ops [⟨some 6, .build [.int .i64 0, .int .i64 0, .str [], .int .i64 0, .int .i64 0, .str [], .nils, .int .i64 0, .str [], .str [], .str [], .str [], .int .i64 0, .int .i64 0, .bool false, .int .i64 0, .int .i64 0, .str [], .nils] [(0, 1, (.con (.int .i64 1))), (2, 1, (.con (.str [116])))], none, 0⟩,
     ⟨some 7, .build [.int .i64 0, .int .i64 0, .str [], .int .i64 0, .int .i64 0, .str [], .nils, .int .i64 0, .str [], .str [], .str [], .str [], .int .i64 0, .int .i64 0, .bool false, .int .i64 0, .int .i64 0, .str [], .nils] [(0, 1, (.con (.int .i64 2))), (1, 1, (.con (.int .i64 1))), (2, 1, (.con (.str [116])))], none, 0⟩,
     ⟨some 8, .build [.int .i64 0, .int .i64 0, .str [], .int .i64 0, .int .i64 0, .str [], .nils, .int .i64 0, .str [], .str [], .str [], .str [], .int .i64 0, .int .i64 0, .bool false, .int .i64 0, .int .i64 0, .str [], .nils] [(0, 1, (.con (.int .i64 3))), (1, 1, (.con (.int .i64 2))), (2, 1, (.con (.str [116])))], none, 0⟩,
     ⟨some 9, .rowLit false 19 3 [.int .i64 0, .int .i64 0, .str [], .int .i64 0, .int .i64 0, .str [], .nils, .int .i64 0, .str [], .str [], .str [], .str [], .int .i64 0, .int .i64 0, .bool false, .int .i64 0, .int .i64 0, .str [], .nils] [(0, 19, (.tmp 6)), (19, 19, (.tmp 7)), (38, 19, (.tmp 8))], none, 0⟩,
     ⟨some 1, .mov (.tmp 9), none, 0⟩])
  (.seq (.ops [⟨some 11, .mov (.tmp 1), none, 0⟩,
     ⟨some 12, .call (.fn 127) [(.tmp 11)], none, 0⟩,
     ⟨some 10, .mov (.tmp 12), none, 0⟩,
     ⟨some 13, .extract (.tmp 10) 0, none, 0⟩,
     ⟨some 14, .extract (.tmp 10) 1, none, 0⟩,
     ⟨some 2, .mov (.tmp 13), none, 0⟩,
     ⟨some 3, .mov (.tmp 14), none, 0⟩])
  (.seq (.ops [⟨some 16, .mov (.tmp 1), none, 0⟩,
     ⟨some 17, .cutRow 19 (.tmp 16) none (some (.con (.int .i64 2))), none, 0⟩,
     ⟨some 18, .call (.fn 127) [(.tmp 17)], none, 0⟩,
     ⟨some 15, .mov (.tmp 18), none, 0⟩,
     ⟨some 19, .extract (.tmp 15) 0, none, 0⟩,
     ⟨some 20, .extract (.tmp 15) 1, none, 0⟩,
     ⟨some 4, .mov (.tmp 19), none, 0⟩,
     ⟨some 5, .mov (.tmp 20), none, 0⟩])
  (.seq (.ops [⟨some 21, .mov (.tmp 3), none, 0⟩,
     ⟨some 22, .bin .eql (.tmp 21) (.con (.int .i64 0)), none, 0⟩,
     ⟨some 23, .mov (.tmp 22), none, 0⟩,
     ⟨some 24, .mov (.tmp 5), some (23, true), 0⟩,
     ⟨some 25, .bin .eql (.tmp 24) (.con (.int .i64 0)), some (23, true), 0⟩,
     ⟨some 26, .pick (.tmp 23) (.tmp 25) (.con (.bool false)), none, 0⟩,
     ⟨some 27, .mov (.tmp 26), none, 0⟩,
     ⟨some 28, .mov (.tmp 2), some (27, true), 0⟩,
     ⟨some 29, .len (.tmp 28), some (27, true), 0⟩,
     ⟨some 30, .bin .eql (.tmp 29) (.con (.int .i64 0)), some (27, true), 0⟩,
     ⟨some 31, .pick (.tmp 27) (.tmp 30) (.con (.bool false)), none, 0⟩,
     ⟨some 32, .mov (.tmp 31), none, 0⟩,
     ⟨some 33, .mov (.tmp 4), some (32, true), 0⟩,
     ⟨some 34, .len (.tmp 33), some (32, true), 0⟩,
     ⟨some 35, .bin .eql (.tmp 34) (.con (.int .i64 1)), some (32, true), 0⟩,
     ⟨some 36, .pick (.tmp 32) (.tmp 35) (.con (.bool false)), none, 0⟩,
     ⟨some 37, .mov (.tmp 36), none, 0⟩,
     ⟨some 38, .mov (.tmp 4), some (37, true), 0⟩,
     ⟨some 39, .addrRow 19 (.tmp 38) (.con (.int .i64 0)), some (37, true), 0⟩,
     ⟨some 40, .fieldAddr 0 (.tmp 39), some (37, true), 0⟩,
     ⟨some 41, .load 1 false (.tmp 40), some (37, true), 0⟩,
     ⟨some 42, .bin .eql (.tmp 41) (.con (.int .i64 1)), some (37, true), 0⟩,
     ⟨some 43, .pick (.tmp 37) (.tmp 42) (.con (.bool false)), none, 0⟩,
     ⟨some 44, .mov (.tmp 43), none, 0⟩,
     ⟨some 45, .mov (.tmp 4), some (44, true), 0⟩,
     ⟨some 46, .addrRow 19 (.tmp 45) (.con (.int .i64 0)), some (44, true), 0⟩,
     ⟨some 47, .fieldAddr 1 (.tmp 46), some (44, true), 0⟩,
     ⟨some 48, .load 1 false (.tmp 47), some (44, true), 0⟩,
     ⟨some 49, .bin .eql (.tmp 48) (.con (.int .i64 1)), some (44, true), 0⟩,
     ⟨some 50, .pick (.tmp 44) (.tmp 49) (.con (.bool false)), none, 0⟩,
     ⟨some 51, .mov (.tmp 50), none, 0⟩,
     ⟨some 52, .mov (.tmp 1), some (51, true), 0⟩,
     ⟨some 53, .call (.fn 134) [(.tmp 52)], some (51, true), 0⟩,
     ⟨some 54, .bin .eql (.tmp 53) (.con (.int .i64 1)), some (51, true), 0⟩,
     ⟨some 55, .pick (.tmp 51) (.tmp 54) (.con (.bool false)), none, 0⟩,
     ⟨some 0, .mov (.tmp 55), none, 0⟩])
  .ret))))) }
def f_haulagelaw25_few_k0 : List Bool := [true, false, false, true, false, false, false, false, false, false, false, false, false, false, false, false, false, false, false]
def f_haulagelaw25_few_b0 : XCode :=
  (.seq (.seq (.ops [⟨some 7, .mov (.tmp 3), none, 0⟩,
     ⟨some 8, .mov (.tmp 0), none, 0⟩,
     ⟨some 9, .len (.tmp 8), none, 0⟩,
     ⟨some 10, .bin .lss (.tmp 7) (.tmp 9), none, 0⟩])
  (.cond (.tmp 10)
   .skip
   (.exit 0)))
 (.seq (.block 1
   (.seq (.ops [⟨some 13, .mov (.tmp 0), none, 0⟩,
      ⟨some 14, .mov (.tmp 3), none, 0⟩,
      ⟨some 15, .addrRow 19 (.tmp 13) (.tmp 14), none, 0⟩,
      ⟨some 16, .load 19 true (.tmp 15), none, 0⟩,
      ⟨some 17, .call (.fn 139) [(.tmp 16)], none, 0⟩,
      ⟨some 18, .un .not (.tmp 17), none, 0⟩])
   (.cond (.tmp 18)
    (.seq (.ops [⟨some 2, .mov (.con (.bool false)), none, 0⟩])
     .ret)
    .skip)))
 (.ops [⟨some 11, .mov (.tmp 3), none, 0⟩,
   ⟨some 12, .bin .add (.tmp 11) (.con (.int .i64 1)), none, 0⟩,
   ⟨some 3, .mov (.tmp 12), none, 0⟩])))
def f_haulagelaw25_few_s0 (t0 t3 : AV) : List AV := [t0, .unk, .unk, t3, .unk, .unk, .unk, .unk, .unk, .unk, .unk, .unk, .unk, .unk, .unk, .unk, .unk, .unk, .unk]
def f_haulagelaw25_few : XFunc := { ntmps := 19, res := [.tmp 2], pure := true, body :=
  (.seq (.ops [⟨some 2, .mov (.con (.bool false)), none, 0⟩])
  (.seq (.seq (.ops [⟨some 4, .mov (.tmp 0), none, 0⟩,
      ⟨some 5, .len (.tmp 4), none, 0⟩,
      ⟨some 6, .bin .gtr (.tmp 5) (.con (.int .i64 60)), none, 0⟩])
   (.cond (.tmp 6)
    (.seq (.ops [⟨some 2, .mov (.con (.bool false)), none, 0⟩])
     .ret)
    .skip))
  (.seq (.seq (.ops [⟨some 3, .mov (.con (.int .i64 0)), none, 0⟩])
   (.block 0
    (.loop f_haulagelaw25_few_k0 f_haulagelaw25_few_b0)))
  (.seq (.ops [⟨some 2, .mov (.con (.bool true)), none, 0⟩])
  .ret)))) }
def f_net_Of_k0 : List Bool := [false, false, false, false, true, true, false, false, false, false, true, true, true, false, false, false, false, false, false, false, false, false, false, false, false, false, false, false, false, false, false, false, false, false, false, false, false, false, false, false, false, false, false, false, false, false, false, false, false]
def f_net_Of_b0 : XCode :=
  (.seq (.ops [⟨some 13, .bin .lss (.tmp 12) (.tmp 11), none, 0⟩])
 (.seq (.cond (.tmp 13)
   .skip
   (.exit 0))
 (.seq (.block 1
   (.seq (.ops [⟨some 14, .addrRow 19 (.tmp 10) (.tmp 12), none, 0⟩,
      ⟨some 15, .load 19 true (.tmp 14), none, 0⟩,
      ⟨some 7, .alloc [.int .i64 0, .int .i64 0, .str [], .int .i64 0, .int .i64 0, .str [], .nils, .int .i64 0, .str [], .str [], .str [], .str [], .int .i64 0, .int .i64 0, .bool false, .int .i64 0, .int .i64 0, .str [], .nils], none, 0⟩,
      ⟨none, .store 19 (.tmp 7) (.tmp 15), none, 0⟩])
   (.seq (.seq (.ops [⟨some 16, .load 19 true (.tmp 7), none, 0⟩,
       ⟨some 17, .call (.fn 144) [(.tmp 16)], none, 0⟩,
       ⟨some 18, .un .not (.tmp 17), none, 0⟩])
    (.cond (.tmp 18)
     (.seq (.ops [⟨some 2, .mov (.con .nils), none, 0⟩,
         ⟨some 3, .mov (.con (.int .i64 2)), none, 0⟩])
      .ret)
     .skip))
   (.seq (.draw [⟨some 19, .fieldAddr 6 (.tmp 7), none, 0⟩,
      ⟨some 20, .load 1 false (.tmp 19), none, 0⟩,
      ⟨some 21, .call (.fn 145) [(.tmp 20)], none, 0⟩,
      ⟨some 22, .fieldAddr 7 (.tmp 7), none, 0⟩,
      ⟨some 23, .fieldAddr 11 (.tmp 22), none, 0⟩,
      ⟨some 24, .load 1 false (.tmp 23), none, 0⟩,
      ⟨some 25, .call (.fn 146) [(.tmp 24)], none, 0⟩,
      ⟨some 26, .fieldAddr 6 (.tmp 7), none, 0⟩,
      ⟨none, .store 1 (.tmp 26) (.tmp 21), none, 2⟩,
      ⟨some 27, .fieldAddr 7 (.tmp 7), none, 0⟩,
      ⟨some 28, .fieldAddr 11 (.tmp 27), none, 0⟩,
      ⟨none, .store 1 (.tmp 28) (.tmp 25), none, 2⟩]
     [[], [0], [0, 1], [], [3], [3, 4], [0, 1, 2, 3, 4, 5], [0, 1, 2, 3, 4, 5], [0, 1, 2, 3, 4, 5, 6, 7], [0, 1, 2, 3, 4, 5, 6, 7, 8], [0, 1, 2, 3, 4, 5, 6, 7, 8, 9], [0, 1, 2, 3, 4, 5, 6, 7, 8, 9, 10]])
   (.seq (.seq (.ops [⟨some 29, .fieldAddr 0 (.tmp 7), none, 0⟩,
       ⟨some 30, .load 1 false (.tmp 29), none, 0⟩,
       ⟨some 31, .bin .eql (.tmp 30) (.con (.int .i64 4)), none, 0⟩])
    (.cond (.tmp 31)
     (.seq (.drawK [⟨some 32, .mov (.tmp 5), none, 0⟩,
         ⟨some 33, .mov (.tmp 4), none, 0⟩,
         ⟨some 34, .call (.fn 147) [(.tmp 32), (.tmp 33)], none, 4⟩,
         ⟨some 35, .load 19 true (.tmp 7), none, 0⟩,
         ⟨some 36, .rowVals 19 1 [.int .i64 0, .int .i64 0, .str [], .int .i64 0, .int .i64 0, .str [], .nils, .int .i64 0, .str [], .str [], .str [], .str [], .int .i64 0, .int .i64 0, .bool false, .int .i64 0, .int .i64 0, .str [], .nils] [(0, 19, (.tmp 35))], none, 0⟩,
         ⟨some 37, .append false 19 240 (.tmp 34) (.tmp 36), none, 1⟩,
         ⟨some 4, .mov (.tmp 37), none, 0⟩]
        [[], [], [0, 1], [], [3], [0, 1, 2, 3, 4], [0, 1, 2, 3, 4, 5]] [7])
      (.seq (.ops [⟨some 38, .call (.fn 143) [], none, 0⟩,
         ⟨some 5, .mov (.tmp 38), none, 0⟩])
      (.exit 1)))
     .skip))
   (.seq (.ops [⟨some 39, .mov (.tmp 5), none, 0⟩,
      ⟨some 40, .load 19 true (.tmp 7), none, 0⟩,
      ⟨some 41, .call (.fn 148) [(.tmp 39), (.tmp 40)], none, 0⟩,
      ⟨some 8, .mov (.tmp 41), none, 0⟩])
   (.seq (.ops [⟨some 42, .mov (.tmp 8), none, 0⟩,
      ⟨some 43, .bin .neq (.tmp 42) (.con (.int .i64 0)), none, 0⟩])
   (.cond (.tmp 43)
    (.seq (.ops [⟨some 44, .mov (.tmp 8), none, 0⟩,
        ⟨some 2, .mov (.con .nils), none, 0⟩,
        ⟨some 3, .mov (.tmp 44), none, 0⟩])
     .ret)
    .skip))))))))
 (.ops [⟨some 45, .bin .add (.tmp 12) (.con (.int .i64 1)), none, 0⟩,
   ⟨some 12, .mov (.tmp 45), none, 0⟩]))))
def f_net_Of_s0 (t4 t5 t10 t11 t12 : AV) : List AV := [.unk, .unk, .unk, .unk, t4, t5, .unk, .unk, .unk, .unk, t10, t11, t12, .unk, .unk, .unk, .unk, .unk, .unk, .unk, .unk, .unk, .unk, .unk, .unk, .unk, .unk, .unk, .unk, .unk, .unk, .unk, .unk, .unk, .unk, .unk, .unk, .unk, .unk, .unk, .unk, .unk, .unk, .unk, .unk, .unk, .unk, .unk, .unk]
def f_net_Of : XFunc := { ntmps := 49, res := [.tmp 2, .tmp 3], pure := true, body :=
  (.seq (.ops [⟨some 2, .mov (.con .nils), none, 0⟩,
     ⟨some 3, .mov (.con (.int .i64 0)), none, 0⟩])
  (.seq (.ops [⟨some 4, .mov (.con .nils), none, 0⟩])
  (.seq (.ops [⟨some 9, .call (.fn 143) [], none, 0⟩,
     ⟨some 5, .mov (.tmp 9), none, 0⟩])
  (.seq (.seq (.ops [⟨some 10, .mov (.tmp 0), none, 0⟩,
      ⟨some 11, .len (.tmp 10), none, 0⟩,
      ⟨some 12, .mov (.con (.int .i64 0)), none, 0⟩])
   (.block 0
    (.loop f_net_Of_k0 f_net_Of_b0)))
  (.seq (.ops [⟨some 46, .mov (.tmp 5), none, 0⟩,
     ⟨some 47, .mov (.tmp 4), none, 0⟩,
     ⟨some 48, .call (.fn 147) [(.tmp 46), (.tmp 47)], none, 0⟩,
     ⟨some 2, .mov (.tmp 48), none, 0⟩,
     ⟨some 3, .mov (.con (.int .i64 0)), none, 0⟩])
  .ret))))) }
def f_net_Rows_k0 : List Bool := [false, false, false, true, true, false, false, false, true, true, true, false, false, false, false, false, false, false, false, false, false, false, false, false, false, false, false, false, false, false, false, false, false, false, false]
def f_net_Rows_b0 : XCode :=
  (.seq (.ops [⟨some 11, .bin .lss (.tmp 10) (.tmp 9), none, 0⟩])
 (.seq (.cond (.tmp 11)
   .skip
   (.exit 0))
 (.seq (.block 1
   (.seq (.ops [⟨some 12, .addrRow 19 (.tmp 8) (.tmp 10), none, 0⟩,
      ⟨some 13, .load 19 true (.tmp 12), none, 0⟩,
      ⟨some 6, .alloc [.int .i64 0, .int .i64 0, .str [], .int .i64 0, .int .i64 0, .str [], .nils, .int .i64 0, .str [], .str [], .str [], .str [], .int .i64 0, .int .i64 0, .bool false, .int .i64 0, .int .i64 0, .str [], .nils], none, 0⟩,
      ⟨none, .store 19 (.tmp 6) (.tmp 13), none, 0⟩])
   (.seq (.ops [⟨some 14, .fieldAddr 0 (.tmp 6), none, 0⟩,
      ⟨some 15, .load 1 false (.tmp 14), none, 0⟩])
   (.block 2
    (.seq (.ops [⟨some 17, .bin .eql (.tmp 15) (.con (.int .i64 4)), none, 0⟩,
       ⟨some 16, .mov (.tmp 17), none, 0⟩])
    (.cond (.tmp 16)
     (.ops [⟨some 18, .mov (.tmp 4), none, 0⟩,
        ⟨none, .clearM (.tmp 18), none, 0⟩])
     (.seq (.seq (.ops [⟨some 20, .bin .eql (.tmp 15) (.con (.int .i64 1)), none, 0⟩,
          ⟨some 19, .mov (.tmp 20), none, 0⟩])
       (.cond (.tmp 19)
        .skip
        (.seq (.ops [⟨some 21, .bin .eql (.tmp 15) (.con (.int .i64 2)), none, 0⟩,
            ⟨some 19, .mov (.tmp 21), none, 0⟩])
         (.cond (.tmp 19)
          .skip
          (.ops [⟨some 22, .bin .eql (.tmp 15) (.con (.int .i64 3)), none, 0⟩,
             ⟨some 19, .mov (.tmp 22), none, 0⟩])))))
      (.cond (.tmp 19)
       (.seq (.ops [⟨some 23, .mov (.tmp 4), none, 0⟩,
           ⟨some 24, .load 19 true (.tmp 6), none, 0⟩,
           ⟨some 25, .call (.fn 281) [(.tmp 24)], none, 0⟩,
           ⟨some 26, .lookup false (.struct [(0, 1, .str), (1, 3, (.struct [(0, 1, .int), (1, 1, .int), (2, 1, .str)]))]) [.bool false] false (.tmp 23) (.tmp 25), none, 0⟩,
           ⟨some 27, .un .not (.tmp 26), none, 0⟩])
        (.cond (.tmp 27)
         (.seq (.ops [⟨some 28, .mov (.tmp 4), none, 0⟩,
             ⟨some 29, .load 19 true (.tmp 6), none, 0⟩,
             ⟨some 30, .call (.fn 281) [(.tmp 29)], none, 0⟩,
             ⟨none, .mapSet (.struct [(0, 1, .str), (1, 3, (.struct [(0, 1, .int), (1, 1, .int), (2, 1, .str)]))]) (.tmp 28) (.tmp 30) (.con (.bool true)), none, 0⟩])
          (.ops [⟨some 31, .mov (.tmp 3), none, 0⟩,
            ⟨some 32, .bin .add (.tmp 31) (.con (.int .i64 1)), none, 0⟩,
            ⟨some 3, .mov (.tmp 32), none, 0⟩]))
         .skip))
       .skip))))))))
 (.ops [⟨some 33, .bin .add (.tmp 10) (.con (.int .i64 1)), none, 0⟩,
   ⟨some 10, .mov (.tmp 33), none, 0⟩]))))
def f_net_Rows : XFunc := { ntmps := 35, res := [.tmp 2], pure := true, body :=
  (.seq (.ops [⟨some 2, .mov (.con (.int .i64 0)), none, 0⟩])
  (.seq (.ops [⟨some 3, .mov (.con (.int .i64 0)), none, 0⟩])
  (.seq (.ops [⟨some 7, .mkMap, none, 0⟩,
     ⟨some 4, .mov (.tmp 7), none, 0⟩])
  (.seq (.seq (.ops [⟨some 8, .mov (.tmp 0), none, 0⟩,
      ⟨some 9, .len (.tmp 8), none, 0⟩,
      ⟨some 10, .mov (.con (.int .i64 0)), none, 0⟩])
   (.block 0
    (.loop f_net_Rows_k0 f_net_Rows_b0)))
  (.seq (.ops [⟨some 34, .mov (.tmp 3), none, 0⟩,
     ⟨some 2, .mov (.tmp 34), none, 0⟩])
  .ret))))) }
def f_haulagelaw15_FewChange_k0 : List Bool := [false, true, false, true, false, false, false, false, false, false, false, false, false, false, false, false, false, false, false, false, false, false, false, false, false, false, false, false, false, false, false, false, false, false, false, false, false, false, false, false, false, false, false, false, false, false, false, false, false]
def f_haulagelaw15_FewChange_b0 : XCode :=
  (.seq (.seq (.ops [⟨some 25, .mov (.tmp 3), none, 0⟩,
     ⟨some 26, .fieldAddr 6 (.tmp 1), none, 0⟩,
     ⟨some 27, .load 1 false (.tmp 26), none, 0⟩,
     ⟨some 28, .len (.tmp 27), none, 0⟩,
     ⟨some 29, .bin .lss (.tmp 25) (.tmp 28), none, 0⟩])
  (.cond (.tmp 29)
   .skip
   (.exit 0)))
 (.seq (.block 1
   (.seq (.draw [⟨some 32, .fieldAddr 6 (.tmp 1), none, 0⟩,
      ⟨some 33, .load 1 false (.tmp 32), none, 0⟩,
      ⟨some 34, .mov (.tmp 3), none, 0⟩,
      ⟨some 35, .addrRow 6 (.tmp 33) (.tmp 34), none, 0⟩,
      ⟨some 36, .fieldAddr 0 (.tmp 35), none, 0⟩,
      ⟨some 37, .load 1 false (.tmp 36), none, 0⟩,
      ⟨some 38, .lenS (.tmp 37), none, 0⟩,
      ⟨some 39, .fieldAddr 6 (.tmp 1), none, 0⟩,
      ⟨some 40, .load 1 false (.tmp 39), none, 0⟩,
      ⟨some 41, .mov (.tmp 3), none, 0⟩,
      ⟨some 42, .addrRow 6 (.tmp 40) (.tmp 41), none, 0⟩,
      ⟨some 43, .fieldAddr 3 (.tmp 42), none, 0⟩,
      ⟨some 44, .fieldAddr 2 (.tmp 43), none, 0⟩,
      ⟨some 45, .load 1 false (.tmp 44), none, 0⟩,
      ⟨some 46, .lenS (.tmp 45), none, 0⟩,
      ⟨some 47, .bin .add (.tmp 38) (.tmp 46), none, 0⟩,
      ⟨some 48, .bin .gtr (.tmp 47) (.con (.int .i64 400)), none, 0⟩]
     [[], [0], [], [0, 1, 2], [0, 1, 2, 3], [0, 1, 2, 3, 4], [0, 1, 2, 3, 4, 5], [], [7], [], [7, 8, 9], [7, 8, 9, 10], [7, 8, 9, 10, 11], [7, 8, 9, 10, 11, 12], [7, 8, 9, 10, 11, 12, 13], [0, 1, 2, 3, 4, 5, 6, 7, 8, 9, 10, 11, 12, 13, 14], [0, 1, 2, 3, 4, 5, 6, 7, 8, 9, 10, 11, 12, 13, 14, 15]])
   (.cond (.tmp 48)
    (.seq (.ops [⟨some 2, .mov (.con (.bool false)), none, 0⟩])
     .ret)
    .skip)))
 (.ops [⟨some 30, .mov (.tmp 3), none, 0⟩,
   ⟨some 31, .bin .add (.tmp 30) (.con (.int .i64 1)), none, 0⟩,
   ⟨some 3, .mov (.tmp 31), none, 0⟩])))
def f_haulagelaw15_FewChange_s0 (t1 t3 : AV) : List AV := [.unk, t1, .unk, t3, .unk, .unk, .unk, .unk, .unk, .unk, .unk, .unk, .unk, .unk, .unk, .unk, .unk, .unk, .unk, .unk, .unk, .unk, .unk, .unk, .unk, .unk, .unk, .unk, .unk, .unk, .unk, .unk, .unk, .unk, .unk, .unk, .unk, .unk, .unk, .unk, .unk, .unk, .unk, .unk, .unk, .unk, .unk, .unk, .unk]
def f_haulagelaw15_FewChange : XFunc := { ntmps := 49, res := [.tmp 2], pure := true, body :=
  (.seq (.ops [⟨some 1, .box (.tmp 0), none, 0⟩,
     ⟨some 2, .mov (.con (.bool false)), none, 0⟩])
  (.seq (.seq (.ops [⟨some 4, .fieldAddr 2 (.tmp 1), none, 0⟩,
      ⟨some 5, .load 1 false (.tmp 4), none, 0⟩,
      ⟨some 6, .lenS (.tmp 5), none, 0⟩,
      ⟨some 7, .fieldAddr 3 (.tmp 1), none, 0⟩,
      ⟨some 8, .fieldAddr 2 (.tmp 7), none, 0⟩,
      ⟨some 9, .load 1 false (.tmp 8), none, 0⟩,
      ⟨some 10, .lenS (.tmp 9), none, 0⟩,
      ⟨some 11, .bin .add (.tmp 6) (.tmp 10), none, 0⟩,
      ⟨some 12, .bin .gtr (.tmp 11) (.con (.int .i64 400)), none, 0⟩,
      ⟨some 13, .mov (.tmp 12), none, 0⟩,
      ⟨some 14, .fieldAddr 6 (.tmp 1), some (13, false), 0⟩,
      ⟨some 15, .load 1 false (.tmp 14), some (13, false), 0⟩,
      ⟨some 16, .len (.tmp 15), some (13, false), 0⟩,
      ⟨some 17, .bin .gtr (.tmp 16) (.con (.int .i64 20)), some (13, false), 0⟩,
      ⟨some 18, .pick (.tmp 13) (.con (.bool true)) (.tmp 17), none, 0⟩,
      ⟨some 19, .mov (.tmp 18), none, 0⟩,
      ⟨some 20, .fieldAddr 7 (.tmp 1), some (19, false), 0⟩,
      ⟨some 21, .load 12 true (.tmp 20), some (19, false), 0⟩,
      ⟨some 22, .call (.fn 171) [(.tmp 21)], some (19, false), 0⟩,
      ⟨some 23, .un .not (.tmp 22), some (19, false), 0⟩,
      ⟨some 24, .pick (.tmp 19) (.con (.bool true)) (.tmp 23), none, 0⟩])
   (.cond (.tmp 24)
    (.seq (.ops [⟨some 2, .mov (.con (.bool false)), none, 0⟩])
     .ret)
    .skip))
  (.seq (.seq (.ops [⟨some 3, .mov (.con (.int .i64 0)), none, 0⟩])
   (.block 0
    (.loop f_haulagelaw15_FewChange_k0 f_haulagelaw15_FewChange_b0)))
  (.seq (.ops [⟨some 2, .mov (.con (.bool true)), none, 0⟩])
  .ret)))) }
def f_net_began : XFunc := { ntmps := 4, res := [.tmp 0], pure := false, body :=
  (.seq (.ops [⟨some 0, .mov (.con .nilp), none, 0⟩])
  (.seq (.ops [⟨some 1, .mkMap, none, 0⟩,
     ⟨some 2, .build [.nils, .nilm] [(1, 1, (.tmp 1))], none, 0⟩,
     ⟨some 3, .box (.tmp 2), none, 0⟩,
     ⟨some 0, .mov (.tmp 3), none, 0⟩])
  .ret)) }
def f_state_PlainChange : XFunc := { ntmps := 47, res := [.tmp 2], pure := true, body :=
  (.seq (.ops [⟨some 1, .box (.tmp 0), none, 0⟩,
     ⟨some 2, .mov (.con (.bool false)), none, 0⟩])
  (.seq (.seq (.ops [⟨some 3, .fieldAddr 1 (.tmp 1), none, 0⟩,
      ⟨some 4, .load 1 false (.tmp 3), none, 0⟩,
      ⟨some 5, .bin .lss (.tmp 4) (.con (.int .i64 0)), none, 0⟩])
   (.cond (.tmp 5)
    (.seq (.ops [⟨some 2, .mov (.con (.bool false)), none, 0⟩])
     .ret)
    .skip))
  (.seq (.seq (.ops [⟨some 6, .fieldAddr 0 (.tmp 1), none, 0⟩,
      ⟨some 7, .load 1 false (.tmp 6), none, 0⟩])
   (.block 0
    (.seq (.seq (.ops [⟨some 9, .bin .eql (.tmp 7) (.con (.int .i64 1)), none, 0⟩,
        ⟨some 8, .mov (.tmp 9), none, 0⟩])
     (.cond (.tmp 8)
      .skip
      (.ops [⟨some 10, .bin .eql (.tmp 7) (.con (.int .i64 2)), none, 0⟩,
         ⟨some 8, .mov (.tmp 10), none, 0⟩])))
    (.cond (.tmp 8)
     (.seq (.ops [⟨some 11, .fieldAddr 7 (.tmp 1), none, 0⟩,
         ⟨some 12, .load 12 true (.tmp 11), none, 0⟩,
         ⟨some 13, .build [.int .i64 0, .str [], .str [], .str [], .str [], .int .i64 0, .int .i64 0, .bool false, .int .i64 0, .int .i64 0, .str [], .nils] [], none, 0⟩,
         ⟨some 14, .call (.fn 174) [(.tmp 12), (.tmp 13)], none, 0⟩,
         ⟨some 2, .mov (.tmp 14), none, 0⟩])
      .ret)
     (.seq (.ops [⟨some 16, .bin .eql (.tmp 7) (.con (.int .i64 3)), none, 0⟩,
         ⟨some 15, .mov (.tmp 16), none, 0⟩])
      (.cond (.tmp 15)
       (.seq (.ops [⟨some 17, .fieldAddr 6 (.tmp 1), none, 0⟩,
           ⟨some 18, .load 1 false (.tmp 17), none, 0⟩,
           ⟨some 19, .len (.tmp 18), none, 0⟩,
           ⟨some 20, .bin .eql (.tmp 19) (.con (.int .i64 0)), none, 0⟩,
           ⟨some 21, .mov (.tmp 20), none, 0⟩,
           ⟨some 22, .fieldAddr 7 (.tmp 1), some (21, true), 0⟩,
           ⟨some 23, .load 12 true (.tmp 22), some (21, true), 0⟩,
           ⟨some 24, .build [.int .i64 0, .str [], .str [], .str [], .str [], .int .i64 0, .int .i64 0, .bool false, .int .i64 0, .int .i64 0, .str [], .nils] [], some (21, true), 0⟩,
           ⟨some 25, .call (.fn 174) [(.tmp 23), (.tmp 24)], some (21, true), 0⟩,
           ⟨some 26, .pick (.tmp 21) (.tmp 25) (.con (.bool false)), none, 0⟩,
           ⟨some 2, .mov (.tmp 26), none, 0⟩])
        .ret)
       (.seq (.ops [⟨some 28, .bin .eql (.tmp 7) (.con (.int .i64 4)), none, 0⟩,
           ⟨some 27, .mov (.tmp 28), none, 0⟩])
        (.cond (.tmp 27)
         (.seq (.ops [⟨some 29, .fieldAddr 2 (.tmp 1), none, 0⟩,
             ⟨some 30, .load 1 false (.tmp 29), none, 0⟩,
             ⟨some 31, .fieldAddr 7 (.tmp 1), none, 0⟩,
             ⟨some 32, .fieldAddr 1 (.tmp 31), none, 0⟩,
             ⟨some 33, .load 1 false (.tmp 32), none, 0⟩,
             ⟨some 34, .bin .eql (.tmp 30) (.tmp 33), none, 0⟩,
             ⟨some 35, .mov (.tmp 34), none, 0⟩,
             ⟨some 36, .fieldAddr 3 (.tmp 1), some (35, true), 0⟩,
             ⟨some 37, .load 3 true (.tmp 36), some (35, true), 0⟩,
             ⟨some 38, .build [.int .i64 0, .int .i64 0, .str []] [], some (35, true), 0⟩,
             ⟨some 39, .eqA false (.struct [(0, 1, .int), (1, 1, .int), (2, 1, .str)]) (.tmp 37) (.tmp 38), some (35, true), 0⟩,
             ⟨some 40, .pick (.tmp 35) (.tmp 39) (.con (.bool false)), none, 0⟩,
             ⟨some 41, .mov (.tmp 40), none, 0⟩,
             ⟨some 42, .fieldAddr 6 (.tmp 1), some (41, true), 0⟩,
             ⟨some 43, .load 1 false (.tmp 42), some (41, true), 0⟩,
             ⟨some 44, .len (.tmp 43), some (41, true), 0⟩,
             ⟨some 45, .bin .eql (.tmp 44) (.con (.int .i64 0)), some (41, true), 0⟩,
             ⟨some 46, .pick (.tmp 41) (.tmp 45) (.con (.bool false)), none, 0⟩,
             ⟨some 2, .mov (.tmp 46), none, 0⟩])
          .ret)
         .skip))))))))
  (.seq (.ops [⟨some 2, .mov (.con (.bool false)), none, 0⟩])
  .ret)))) }
def f_slices_Clone_api_Cell_api_Cell : XFunc := { ntmps := 8, res := [.tmp 2], pure := true, body :=
  (.seq (.ops [⟨some 2, .mov (.con .nils), none, 0⟩])
  (.seq (.seq (.ops [⟨some 3, .mov (.tmp 0), none, 0⟩,
      ⟨some 4, .nilS false (.tmp 3), none, 0⟩])
   (.cond (.tmp 4)
    (.seq (.ops [⟨some 2, .mov (.con .nils), none, 0⟩])
     .ret)
    .skip))
  (.seq (.ops [⟨some 5, .rowLit false 6 0 [.str [], .int .i64 0, .int .i64 0, .int .i64 0, .int .i64 0, .str []] [], none, 0⟩,
     ⟨some 6, .mov (.tmp 0), none, 0⟩,
     ⟨some 7, .append false 6 64 (.tmp 5) (.tmp 6), none, 0⟩,
     ⟨some 2, .mov (.tmp 7), none, 0⟩])
  .ret))) }
def f_slices_Clone_api_Column_api_Column : XFunc := { ntmps := 8, res := [.tmp 2], pure := true, body :=
  (.seq (.ops [⟨some 2, .mov (.con .nils), none, 0⟩])
  (.seq (.seq (.ops [⟨some 3, .mov (.tmp 0), none, 0⟩,
      ⟨some 4, .nilS false (.tmp 3), none, 0⟩])
   (.cond (.tmp 4)
    (.seq (.ops [⟨some 2, .mov (.con .nils), none, 0⟩])
     .ret)
    .skip))
  (.seq (.ops [⟨some 5, .rowLit false 8 0 [.int .i64 0, .str [], .int .i64 0, .int .i64 0, .bool false, .int .i64 0, .int .i64 0, .str []] [], none, 0⟩,
     ⟨some 6, .mov (.tmp 0), none, 0⟩,
     ⟨some 7, .append false 8 80 (.tmp 5) (.tmp 6), none, 0⟩,
     ⟨some 2, .mov (.tmp 7), none, 0⟩])
  .ret))) }
def f_net_run_end_k1 : List Bool := [true, true, false, false, false, false, true, false, false, false, true, true, false, false, false, false, false, true, true, true, false, false, false, false, false, false, false, false, false, false, false, false, false, false, false, false, false, false, false, false, false]
def f_net_run_end_b1 : XCode :=
  (.seq (.ops [⟨some 20, .bin .lss (.tmp 19) (.tmp 18), none, 0⟩])
 (.seq (.cond (.tmp 20)
   .skip
   (.exit 2))
 (.seq (.block 3
   (.seq (.ops [⟨some 21, .addrRow 4 (.tmp 17) (.tmp 19), none, 0⟩,
      ⟨some 22, .load 4 true (.tmp 21), none, 0⟩,
      ⟨some 8, .alloc [.str [], .int .i64 0, .int .i64 0, .str []], none, 0⟩,
      ⟨none, .store 4 (.tmp 8) (.tmp 22), none, 0⟩])
   (.seq (.draw [⟨some 23, .mov (.tmp 0), none, 0⟩,
      ⟨some 24, .nilCheck (.tmp 23), none, 0⟩,
      ⟨some 25, .fieldAddr 1 (.tmp 24), none, 0⟩,
      ⟨some 26, .load 1 false (.tmp 25), none, 0⟩,
      ⟨some 27, .load 4 true (.tmp 8), none, 0⟩,
      ⟨some 28, .lookup false (.struct [(0, 1, .str), (1, 3, (.struct [(0, 1, .int), (1, 1, .int), (2, 1, .str)]))]) [.int .i64 0, .int .i64 0, .str [], .int .i64 0, .int .i64 0, .str [], .nils, .int .i64 0, .str [], .str [], .str [], .str [], .int .i64 0, .int .i64 0, .bool false, .int .i64 0, .int .i64 0, .str [], .nils, .int .i64 0, .int .i64 0, .str [], .int .i64 0, .int .i64 0, .str [], .nils, .int .i64 0, .str [], .str [], .str [], .str [], .int .i64 0, .int .i64 0, .bool false, .int .i64 0, .int .i64 0, .str [], .nils] true (.tmp 26) (.tmp 27), none, 0⟩,
      ⟨some 29, .call (.fn 282) [(.tmp 28)], none, 0⟩,
      ⟨some 9, .alloc [.int .i64 0, .int .i64 0, .str [], .int .i64 0, .int .i64 0, .str [], .nils, .int .i64 0, .str [], .str [], .str [], .str [], .int .i64 0, .int .i64 0, .bool false, .int .i64 0, .int .i64 0, .str [], .nils], none, 1⟩,
      ⟨none, .store 19 (.tmp 9) (.tmp 29), none, 2⟩]
     [[], [0], [0, 1], [0, 1, 2], [], [0, 1, 2, 3, 4], [0, 1, 2, 3, 4, 5], [], [0, 1, 2, 3, 4, 5, 6, 7]])
   (.seq (.ops [⟨some 30, .fieldAddr 0 (.tmp 9), none, 0⟩,
      ⟨some 31, .load 1 false (.tmp 30), none, 0⟩,
      ⟨some 32, .mov (.tmp 6), none, 0⟩,
      ⟨some 33, .bin .eql (.tmp 31) (.tmp 32), none, 0⟩])
   (.cond (.tmp 33)
    (.ops [⟨some 34, .mov (.tmp 1), none, 0⟩,
       ⟨some 35, .load 19 true (.tmp 9), none, 0⟩,
       ⟨some 36, .rowVals 19 1 [.int .i64 0, .int .i64 0, .str [], .int .i64 0, .int .i64 0, .str [], .nils, .int .i64 0, .str [], .str [], .str [], .str [], .int .i64 0, .int .i64 0, .bool false, .int .i64 0, .int .i64 0, .str [], .nils] [(0, 19, (.tmp 35))], none, 0⟩,
       ⟨some 37, .append false 19 240 (.tmp 34) (.tmp 36), none, 0⟩,
       ⟨some 1, .mov (.tmp 37), none, 0⟩])
    .skip)))))
 (.ops [⟨some 38, .bin .add (.tmp 19) (.con (.int .i64 1)), none, 0⟩,
   ⟨some 19, .mov (.tmp 38), none, 0⟩]))))
def f_net_run_end_s1 (t0 t1 t6 t10 t11 t17 t18 t19 : AV) : List AV := [t0, t1, .unk, .unk, .unk, .unk, t6, .unk, .unk, .unk, t10, t11, .unk, .unk, .unk, .unk, .unk, t17, t18, t19, .unk, .unk, .unk, .unk, .unk, .unk, .unk, .unk, .unk, .unk, .unk, .unk, .unk, .unk, .unk, .unk, .unk, .unk, .unk, .unk, .unk]
def f_net_run_end_k0 : List Bool := [true, true, false, false, false, false, false, false, false, false, true, true, false, false, false, false, false, false, false, false, false, false, false, false, false, false, false, false, false, false, false, false, false, false, false, false, false, false, false, false, false]
def f_net_run_end_b0 : XCode :=
  (.seq (.ops [⟨some 12, .bin .lss (.tmp 11) (.con (.int .i64 3)), none, 0⟩])
 (.seq (.cond (.tmp 12)
   .skip
   (.exit 0))
 (.seq (.block 1
   (.seq (.ops [⟨some 13, .indexArr 3 1 false (.tmp 10) (.tmp 11), none, 0⟩,
      ⟨some 6, .mov (.tmp 13), none, 0⟩])
   (.seq (.ops [⟨some 14, .mov (.tmp 0), none, 0⟩,
      ⟨some 15, .nilCheck (.tmp 14), none, 0⟩,
      ⟨some 16, .fieldAddr 0 (.tmp 15), none, 0⟩,
      ⟨some 17, .load 1 false (.tmp 16), none, 0⟩,
      ⟨some 18, .len (.tmp 17), none, 0⟩,
      ⟨some 19, .mov (.con (.int .i64 0)), none, 0⟩])
   (.block 2
    (.loop f_net_run_end_k1 f_net_run_end_b1)))))
 (.ops [⟨some 39, .bin .add (.tmp 11) (.con (.int .i64 1)), none, 0⟩,
   ⟨some 11, .mov (.tmp 39), none, 0⟩]))))
def f_net_run_end_s0 (t0 t1 t10 t11 : AV) : List AV := [t0, t1, .unk, .unk, .unk, .unk, .unk, .unk, .unk, .unk, t10, t11, .unk, .unk, .unk, .unk, .unk, .unk, .unk, .unk, .unk, .unk, .unk, .unk, .unk, .unk, .unk, .unk, .unk, .unk, .unk, .unk, .unk, .unk, .unk, .unk, .unk, .unk, .unk, .unk, .unk]
def f_net_run_end : XFunc := { ntmps := 41, res := [.tmp 4], pure := false, body :=
  (.seq (.ops [⟨some 4, .mov (.con .nils), none, 0⟩])
  (.seq (.seq (.ops [⟨some 10, .build [.int .i64 0, .int .i64 0, .int .i64 0] [(0, 1, (.con (.int .i64 3))), (1, 1, (.con (.int .i64 2))), (2, 1, (.con (.int .i64 1)))], none, 0⟩,
      ⟨some 11, .mov (.con (.int .i64 0)), none, 0⟩])
   (.block 0
    (.loop f_net_run_end_k0 f_net_run_end_b0)))
  (.seq (.ops [⟨some 40, .mov (.tmp 1), none, 0⟩,
     ⟨some 4, .mov (.tmp 40), none, 0⟩])
  .ret))) }
def f_net_run_add : XFunc := { ntmps := 67, res := [.tmp 4], pure := false, body :=
  (.seq (.ops [⟨some 3, .box (.tmp 1), none, 0⟩,
     ⟨some 4, .mov (.con (.int .i64 0)), none, 0⟩])
  (.seq (.ops [⟨some 9, .load 19 true (.tmp 3), none, 0⟩,
     ⟨some 10, .call (.fn 281) [(.tmp 9)], none, 0⟩,
     ⟨some 5, .alloc [.str [], .int .i64 0, .int .i64 0, .str []], none, 0⟩,
     ⟨none, .store 4 (.tmp 5) (.tmp 10), none, 0⟩])
  (.seq (.draw [⟨some 12, .mov (.tmp 0), none, 0⟩,
     ⟨some 13, .nilCheck (.tmp 12), none, 0⟩,
     ⟨some 14, .fieldAddr 1 (.tmp 13), none, 0⟩,
     ⟨some 15, .load 1 false (.tmp 14), none, 0⟩,
     ⟨some 16, .load 4 true (.tmp 5), none, 0⟩,
     ⟨some 17, .lookup true (.struct [(0, 1, .str), (1, 3, (.struct [(0, 1, .int), (1, 1, .int), (2, 1, .str)]))]) [.int .i64 0, .int .i64 0, .str [], .int .i64 0, .int .i64 0, .str [], .nils, .int .i64 0, .str [], .str [], .str [], .str [], .int .i64 0, .int .i64 0, .bool false, .int .i64 0, .int .i64 0, .str [], .nils, .int .i64 0, .int .i64 0, .str [], .int .i64 0, .int .i64 0, .str [], .nils, .int .i64 0, .str [], .str [], .str [], .str [], .int .i64 0, .int .i64 0, .bool false, .int .i64 0, .int .i64 0, .str [], .nils] true (.tmp 15) (.tmp 16), none, 0⟩,
     ⟨some 11, .mov (.tmp 17), none, 0⟩,
     ⟨some 18, .extract (.tmp 11) 0, none, 0⟩,
     ⟨some 19, .extract (.tmp 11) 1, none, 0⟩,
     ⟨some 6, .alloc [.int .i64 0, .int .i64 0, .str [], .int .i64 0, .int .i64 0, .str [], .nils, .int .i64 0, .str [], .str [], .str [], .str [], .int .i64 0, .int .i64 0, .bool false, .int .i64 0, .int .i64 0, .str [], .nils, .int .i64 0, .int .i64 0, .str [], .int .i64 0, .int .i64 0, .str [], .nils, .int .i64 0, .str [], .str [], .str [], .str [], .int .i64 0, .int .i64 0, .bool false, .int .i64 0, .int .i64 0, .str [], .nils], none, 1⟩,
     ⟨none, .store 38 (.tmp 6) (.tmp 18), none, 2⟩,
     ⟨some 7, .mov (.tmp 19), none, 0⟩]
    [[], [0], [0, 1], [0, 1, 2], [], [0, 1, 2, 3, 4], [0, 1, 2, 3, 4, 5], [0, 1, 2, 3, 4, 5, 6], [0, 1, 2, 3, 4, 5, 6], [], [0, 1, 2, 3, 4, 5, 6, 7, 9], [0, 1, 2, 3, 4, 5, 6, 7, 8, 9, 10]])
  (.seq (.seq (.ops [⟨some 20, .mov (.tmp 7), none, 0⟩,
      ⟨some 21, .un .not (.tmp 20), none, 0⟩])
   (.cond (.tmp 21)
    (.seq (.draw [⟨some 22, .mov (.tmp 0), none, 0⟩,
        ⟨some 23, .mov (.tmp 0), none, 0⟩,
        ⟨some 24, .nilCheck (.tmp 23), none, 0⟩,
        ⟨some 25, .fieldAddr 0 (.tmp 24), none, 0⟩,
        ⟨some 26, .load 1 false (.tmp 25), none, 0⟩,
        ⟨some 27, .load 4 true (.tmp 5), none, 0⟩,
        ⟨some 28, .rowVals 4 1 [.str [], .int .i64 0, .int .i64 0, .str []] [(0, 4, (.tmp 27))], none, 0⟩,
        ⟨some 29, .append false 4 48 (.tmp 26) (.tmp 28), none, 1⟩,
        ⟨some 30, .nilCheck (.tmp 22), none, 0⟩,
        ⟨some 31, .fieldAddr 0 (.tmp 30), none, 0⟩,
        ⟨none, .store 1 (.tmp 31) (.tmp 29), none, 2⟩]
       [[], [], [1], [1, 2], [1, 2, 3], [], [5], [1, 2, 3, 4, 5, 6], [0, 1, 2, 3, 4, 5, 6, 7], [0, 1, 2, 3, 4, 5, 6, 7, 8], [0, 1, 2, 3, 4, 5, 6, 7, 8, 9]])
     (.seq (.draw [⟨some 32, .mov (.tmp 0), none, 0⟩,
        ⟨some 33, .nilCheck (.tmp 32), none, 0⟩,
        ⟨some 34, .fieldAddr 1 (.tmp 33), none, 0⟩,
        ⟨some 35, .load 1 false (.tmp 34), none, 0⟩,
        ⟨some 36, .load 4 true (.tmp 5), none, 0⟩,
        ⟨some 37, .load 19 true (.tmp 3), none, 0⟩,
        ⟨some 38, .load 19 true (.tmp 3), none, 0⟩,
        ⟨some 39, .build [.int .i64 0, .int .i64 0, .str [], .int .i64 0, .int .i64 0, .str [], .nils, .int .i64 0, .str [], .str [], .str [], .str [], .int .i64 0, .int .i64 0, .bool false, .int .i64 0, .int .i64 0, .str [], .nils, .int .i64 0, .int .i64 0, .str [], .int .i64 0, .int .i64 0, .str [], .nils, .int .i64 0, .str [], .str [], .str [], .str [], .int .i64 0, .int .i64 0, .bool false, .int .i64 0, .int .i64 0, .str [], .nils] [(0, 19, (.tmp 37)), (19, 19, (.tmp 38))], none, 0⟩,
        ⟨none, .mapSet (.struct [(0, 1, .str), (1, 3, (.struct [(0, 1, .int), (1, 1, .int), (2, 1, .str)]))]) (.tmp 35) (.tmp 36) (.tmp 39), none, 2⟩]
       [[], [0], [0, 1], [0, 1, 2], [], [], [], [5, 6], [0, 1, 2, 3, 4, 5, 6, 7]])
     (.seq (.ops [⟨some 4, .mov (.con (.int .i64 0)), none, 0⟩])
     .ret)))
    .skip))
  (.seq (.ops [⟨some 40, .fieldAddr 19 (.tmp 6), none, 0⟩,
     ⟨some 41, .fieldAddr 0 (.tmp 40), none, 0⟩,
     ⟨some 42, .load 1 false (.tmp 41), none, 0⟩,
     ⟨some 43, .bin .eql (.tmp 42) (.con (.int .i64 3)), none, 0⟩,
     ⟨some 8, .mov (.tmp 43), none, 0⟩])
  (.seq (.block 0
    (.seq (.ops [⟨some 45, .fieldAddr 0 (.tmp 3), none, 0⟩,
       ⟨some 46, .load 1 false (.tmp 45), none, 0⟩,
       ⟨some 47, .bin .eql (.tmp 46) (.con (.int .i64 1)), none, 0⟩,
       ⟨some 48, .mov (.tmp 47), none, 0⟩,
       ⟨some 49, .mov (.tmp 8), some (48, true), 0⟩,
       ⟨some 50, .un .not (.tmp 49), some (48, true), 0⟩,
       ⟨some 51, .pick (.tmp 48) (.tmp 50) (.con (.bool false)), none, 0⟩,
       ⟨some 44, .mov (.tmp 51), none, 0⟩])
    (.cond (.tmp 44)
     (.seq (.ops [⟨some 4, .mov (.con (.int .i64 17)), none, 0⟩])
      .ret)
     (.seq (.ops [⟨some 53, .fieldAddr 0 (.tmp 3), none, 0⟩,
         ⟨some 54, .load 1 false (.tmp 53), none, 0⟩,
         ⟨some 55, .bin .neq (.tmp 54) (.con (.int .i64 1)), none, 0⟩,
         ⟨some 56, .mov (.tmp 55), none, 0⟩,
         ⟨some 57, .mov (.tmp 8), some (56, true), 0⟩,
         ⟨some 58, .pick (.tmp 56) (.tmp 57) (.con (.bool false)), none, 0⟩,
         ⟨some 52, .mov (.tmp 58), none, 0⟩])
      (.cond (.tmp 52)
       (.seq (.ops [⟨some 4, .mov (.con (.int .i64 18)), none, 0⟩])
        .ret)
       .skip)))))
  (.seq (.ops [⟨some 59, .load 19 true (.tmp 3), none, 0⟩,
     ⟨some 60, .fieldAddr 19 (.tmp 6), none, 0⟩,
     ⟨none, .store 19 (.tmp 60) (.tmp 59), none, 0⟩])
  (.seq (.draw [⟨some 61, .mov (.tmp 0), none, 0⟩,
     ⟨some 62, .nilCheck (.tmp 61), none, 0⟩,
     ⟨some 63, .fieldAddr 1 (.tmp 62), none, 0⟩,
     ⟨some 64, .load 1 false (.tmp 63), none, 0⟩,
     ⟨some 65, .load 4 true (.tmp 5), none, 0⟩,
     ⟨some 66, .load 38 true (.tmp 6), none, 0⟩,
     ⟨none, .mapSet (.struct [(0, 1, .str), (1, 3, (.struct [(0, 1, .int), (1, 1, .int), (2, 1, .str)]))]) (.tmp 64) (.tmp 65) (.tmp 66), none, 2⟩]
    [[], [0], [0, 1], [0, 1, 2], [], [], [0, 1, 2, 3, 4, 5]])
  (.seq (.ops [⟨some 4, .mov (.con (.int .i64 0)), none, 0⟩])
  .ret))))))))) }
def f_haulageref15_PlainChange : XFunc := { ntmps := 46, res := [.tmp 2], pure := true, body :=
  (.seq (.ops [⟨some 1, .box (.tmp 0), none, 0⟩,
     ⟨some 2, .mov (.con (.bool false)), none, 0⟩])
  (.seq (.ops [⟨some 4, .fieldAddr 7 (.tmp 1), none, 0⟩,
     ⟨some 5, .load 12 true (.tmp 4), none, 0⟩,
     ⟨some 6, .build [.int .i64 0, .str [], .str [], .str [], .str [], .int .i64 0, .int .i64 0, .bool false, .int .i64 0, .int .i64 0, .str [], .nils] [], none, 0⟩,
     ⟨some 7, .call (.fn 178) [(.tmp 5), (.tmp 6)], none, 0⟩,
     ⟨some 3, .mov (.tmp 7), none, 0⟩])
  (.seq (.seq (.ops [⟨some 8, .fieldAddr 1 (.tmp 1), none, 0⟩,
      ⟨some 9, .load 1 false (.tmp 8), none, 0⟩,
      ⟨some 10, .bin .lss (.tmp 9) (.con (.int .i64 0)), none, 0⟩])
   (.cond (.tmp 10)
    (.seq (.ops [⟨some 2, .mov (.con (.bool false)), none, 0⟩])
     .ret)
    .skip))
  (.seq (.seq (.ops [⟨some 11, .fieldAddr 0 (.tmp 1), none, 0⟩,
      ⟨some 12, .load 1 false (.tmp 11), none, 0⟩])
   (.block 0
    (.seq (.seq (.ops [⟨some 14, .bin .eql (.tmp 12) (.con (.int .i64 1)), none, 0⟩,
        ⟨some 13, .mov (.tmp 14), none, 0⟩])
     (.cond (.tmp 13)
      .skip
      (.ops [⟨some 15, .bin .eql (.tmp 12) (.con (.int .i64 2)), none, 0⟩,
         ⟨some 13, .mov (.tmp 15), none, 0⟩])))
    (.cond (.tmp 13)
     (.seq (.ops [⟨some 16, .mov (.tmp 3), none, 0⟩,
         ⟨some 2, .mov (.tmp 16), none, 0⟩])
      .ret)
     (.seq (.ops [⟨some 18, .bin .eql (.tmp 12) (.con (.int .i64 3)), none, 0⟩,
         ⟨some 17, .mov (.tmp 18), none, 0⟩])
      (.cond (.tmp 17)
       (.seq (.ops [⟨some 19, .mov (.tmp 3), none, 0⟩,
           ⟨some 20, .mov (.tmp 19), none, 0⟩,
           ⟨some 21, .fieldAddr 6 (.tmp 1), some (20, true), 0⟩,
           ⟨some 22, .load 1 false (.tmp 21), some (20, true), 0⟩,
           ⟨some 23, .len (.tmp 22), some (20, true), 0⟩,
           ⟨some 24, .bin .eql (.tmp 23) (.con (.int .i64 0)), some (20, true), 0⟩,
           ⟨some 25, .pick (.tmp 20) (.tmp 24) (.con (.bool false)), none, 0⟩,
           ⟨some 2, .mov (.tmp 25), none, 0⟩])
        .ret)
       (.seq (.ops [⟨some 27, .bin .eql (.tmp 12) (.con (.int .i64 4)), none, 0⟩,
           ⟨some 26, .mov (.tmp 27), none, 0⟩])
        (.cond (.tmp 26)
         (.seq (.ops [⟨some 28, .fieldAddr 2 (.tmp 1), none, 0⟩,
             ⟨some 29, .load 1 false (.tmp 28), none, 0⟩,
             ⟨some 30, .fieldAddr 7 (.tmp 1), none, 0⟩,
             ⟨some 31, .fieldAddr 1 (.tmp 30), none, 0⟩,
             ⟨some 32, .load 1 false (.tmp 31), none, 0⟩,
             ⟨some 33, .bin .eql (.tmp 29) (.tmp 32), none, 0⟩,
             ⟨some 34, .mov (.tmp 33), none, 0⟩,
             ⟨some 35, .fieldAddr 3 (.tmp 1), some (34, true), 0⟩,
             ⟨some 36, .load 3 true (.tmp 35), some (34, true), 0⟩,
             ⟨some 37, .build [.int .i64 0, .int .i64 0, .str []] [], some (34, true), 0⟩,
             ⟨some 38, .eqA false (.struct [(0, 1, .int), (1, 1, .int), (2, 1, .str)]) (.tmp 36) (.tmp 37), some (34, true), 0⟩,
             ⟨some 39, .pick (.tmp 34) (.tmp 38) (.con (.bool false)), none, 0⟩,
             ⟨some 40, .mov (.tmp 39), none, 0⟩,
             ⟨some 41, .fieldAddr 6 (.tmp 1), some (40, true), 0⟩,
             ⟨some 42, .load 1 false (.tmp 41), some (40, true), 0⟩,
             ⟨some 43, .len (.tmp 42), some (40, true), 0⟩,
             ⟨some 44, .bin .eql (.tmp 43) (.con (.int .i64 0)), some (40, true), 0⟩,
             ⟨some 45, .pick (.tmp 40) (.tmp 44) (.con (.bool false)), none, 0⟩,
             ⟨some 2, .mov (.tmp 45), none, 0⟩])
          .ret)
         .skip))))))))
  (.seq (.ops [⟨some 2, .mov (.con (.bool false)), none, 0⟩])
  .ret))))) }
def f_net_rowOf : XFunc := { ntmps := 8, res := [.cell 2 4 true], pure := true, body :=
  (.seq (.ops [⟨some 1, .box (.tmp 0), none, 0⟩,
     ⟨some 2, .alloc [.str [], .int .i64 0, .int .i64 0, .str []], none, 0⟩])
  (.seq (.ops [⟨some 3, .fieldAddr 2 (.tmp 1), none, 0⟩,
     ⟨some 4, .load 1 false (.tmp 3), none, 0⟩,
     ⟨some 5, .fieldAddr 3 (.tmp 1), none, 0⟩,
     ⟨some 6, .load 3 true (.tmp 5), none, 0⟩,
     ⟨some 7, .build [.str [], .int .i64 0, .int .i64 0, .str []] [(0, 1, (.tmp 4)), (1, 3, (.tmp 6))], none, 0⟩,
     ⟨none, .store 4 (.tmp 2) (.tmp 7), none, 0⟩])
  .ret)) }
def f_ddl_Same : XFunc := { ntmps := 17, res := [.tmp 4], pure := true, body :=
  (.seq (.ops [⟨some 2, .box (.tmp 0), none, 0⟩,
     ⟨some 3, .box (.tmp 1), none, 0⟩,
     ⟨some 4, .mov (.con (.bool false)), none, 0⟩])
  (.seq (.draw [⟨some 5, .fieldAddr 11 (.tmp 2), none, 0⟩,
     ⟨some 6, .load 1 false (.tmp 5), none, 0⟩,
     ⟨some 7, .fieldAddr 11 (.tmp 3), none, 0⟩,
     ⟨some 8, .load 1 false (.tmp 7), none, 0⟩,
     ⟨some 9, .call (.fn 191) [(.tmp 6), (.tmp 8)], none, 0⟩,
     ⟨some 10, .mov (.tmp 9), none, 0⟩,
     ⟨some 11, .load 12 true (.tmp 2), some (10, true), 0⟩,
     ⟨some 12, .call (.fn 192) [(.tmp 11)], some (10, true), 0⟩,
     ⟨some 13, .load 12 true (.tmp 3), some (10, true), 0⟩,
     ⟨some 14, .call (.fn 192) [(.tmp 13)], some (10, true), 0⟩,
     ⟨some 15, .eqA false (.struct [(0, 1, .int), (1, 1, .str), (2, 1, .str), (3, 1, .str), (4, 1, .str), (5, 2, (.struct [(0, 1, .int), (1, 1, .int)])), (7, 1, .bool), (8, 3, (.struct [(0, 1, .int), (1, 1, .int), (2, 1, .str)]))]) (.tmp 12) (.tmp 14), some (10, true), 0⟩,
     ⟨some 16, .pick (.tmp 10) (.tmp 15) (.con (.bool false)), none, 0⟩,
     ⟨some 4, .mov (.tmp 16), none, 0⟩]
    [[], [0], [], [2], [0, 1, 2, 3], [0, 1, 2, 3, 4], [0, 1, 2, 3, 4, 5], [0, 1, 2, 3, 4, 5, 6], [0, 1, 2, 3, 4, 5], [0, 1, 2, 3, 4, 5, 6, 7, 8], [0, 1, 2, 3, 4, 5, 6, 7, 8, 9], [0, 1, 2, 3, 4, 5, 6, 7, 8, 9, 10], [0, 1, 2, 3, 4, 5, 6, 7, 8, 9, 10, 11]])
  .ret)) }
def f_net_both_comes : XFunc := { ntmps := 31, res := [.cell 2 19 true], pure := true, body :=
  (.seq (.ops [⟨some 1, .box (.tmp 0), none, 0⟩,
     ⟨some 2, .alloc [.int .i64 0, .int .i64 0, .str [], .int .i64 0, .int .i64 0, .str [], .nils, .int .i64 0, .str [], .str [], .str [], .str [], .int .i64 0, .int .i64 0, .bool false, .int .i64 0, .int .i64 0, .str [], .nils], none, 0⟩])
  (.seq (.ops [⟨some 6, .fieldAddr 19 (.tmp 1), none, 0⟩,
     ⟨some 7, .load 19 true (.tmp 6), none, 0⟩,
     ⟨some 3, .alloc [.int .i64 0, .int .i64 0, .str [], .int .i64 0, .int .i64 0, .str [], .nils, .int .i64 0, .str [], .str [], .str [], .str [], .int .i64 0, .int .i64 0, .bool false, .int .i64 0, .int .i64 0, .str [], .nils], none, 0⟩,
     ⟨none, .store 19 (.tmp 3) (.tmp 7), none, 0⟩])
  (.seq (.draw [⟨some 8, .fieldAddr 0 (.tmp 1), none, 0⟩,
     ⟨some 9, .fieldAddr 0 (.tmp 8), none, 0⟩,
     ⟨some 10, .load 1 false (.tmp 9), none, 0⟩,
     ⟨some 11, .bin .neq (.tmp 10) (.con (.int .i64 1)), none, 0⟩,
     ⟨some 12, .fieldAddr 0 (.tmp 3), none, 0⟩,
     ⟨some 13, .load 1 false (.tmp 12), none, 0⟩,
     ⟨some 14, .bin .eql (.tmp 13) (.con (.int .i64 3)), none, 0⟩,
     ⟨some 4, .mov (.tmp 11), none, 0⟩,
     ⟨some 5, .mov (.tmp 14), none, 0⟩]
    [[], [0], [0, 1], [0, 1, 2], [], [4], [4, 5], [0, 1, 2, 3], [0, 1, 2, 3, 4, 5, 6, 7]])
  (.seq (.block 0
    (.seq (.ops [⟨some 16, .mov (.tmp 4), none, 0⟩,
       ⟨some 17, .un .not (.tmp 16), none, 0⟩,
       ⟨some 18, .mov (.tmp 17), none, 0⟩,
       ⟨some 19, .mov (.tmp 5), some (18, true), 0⟩,
       ⟨some 20, .pick (.tmp 18) (.tmp 19) (.con (.bool false)), none, 0⟩,
       ⟨some 15, .mov (.tmp 20), none, 0⟩])
    (.cond (.tmp 15)
     (.seq (.ops [⟨some 21, .build [.int .i64 0, .int .i64 0, .str [], .int .i64 0, .int .i64 0, .str [], .nils, .int .i64 0, .str [], .str [], .str [], .str [], .int .i64 0, .int .i64 0, .bool false, .int .i64 0, .int .i64 0, .str [], .nils] [], none, 0⟩,
         ⟨none, .store 19 (.tmp 2) (.tmp 21), none, 0⟩])
      .ret)
     (.seq (.ops [⟨some 23, .mov (.tmp 4), none, 0⟩,
         ⟨some 24, .un .not (.tmp 23), none, 0⟩,
         ⟨some 22, .mov (.tmp 24), none, 0⟩])
      (.cond (.tmp 22)
       (.ops [⟨some 25, .fieldAddr 0 (.tmp 3), none, 0⟩,
          ⟨none, .store 1 (.tmp 25) (.con (.int .i64 1)), none, 0⟩])
       (.seq (.ops [⟨some 27, .mov (.tmp 5), none, 0⟩,
           ⟨some 28, .un .not (.tmp 27), none, 0⟩,
           ⟨some 26, .mov (.tmp 28), none, 0⟩])
        (.cond (.tmp 26)
         (.ops [⟨some 29, .fieldAddr 0 (.tmp 3), none, 0⟩,
            ⟨none, .store 1 (.tmp 29) (.con (.int .i64 2)), none, 0⟩])
         .skip)))))))
  (.seq (.ops [⟨some 30, .load 19 true (.tmp 3), none, 0⟩,
     ⟨none, .store 19 (.tmp 2) (.tmp 30), none, 0⟩])
  .ret))))) }
def f_slices_Equal_api_Column_api_Column_k0 : List Bool := [true, true, false, false, false, false, false, false, false, false, false, false, true, true, false, false, false, false, false, false, false, false, false, false, false, false]
def f_slices_Equal_api_Column_api_Column_b0 : XCode :=
  (.seq (.ops [⟨some 14, .bin .lss (.tmp 13) (.tmp 12), none, 0⟩])
 (.seq (.cond (.tmp 14)
   .skip
   (.exit 0))
 (.seq (.block 1
   (.seq (.ops [⟨some 15, .mov (.tmp 13), none, 0⟩,
      ⟨some 5, .mov (.tmp 15), none, 0⟩])
   (.seq (.draw [⟨some 16, .mov (.tmp 0), none, 0⟩,
      ⟨some 17, .mov (.tmp 5), none, 0⟩,
      ⟨some 18, .addrRow 8 (.tmp 16) (.tmp 17), none, 0⟩,
      ⟨some 19, .load 8 true (.tmp 18), none, 0⟩,
      ⟨some 20, .mov (.tmp 1), none, 0⟩,
      ⟨some 21, .mov (.tmp 5), none, 0⟩,
      ⟨some 22, .addrRow 8 (.tmp 20) (.tmp 21), none, 0⟩,
      ⟨some 23, .load 8 true (.tmp 22), none, 0⟩,
      ⟨some 24, .eqA true (.struct [(0, 1, .int), (1, 1, .str), (2, 2, (.struct [(0, 1, .int), (1, 1, .int)])), (4, 1, .bool), (5, 3, (.struct [(0, 1, .int), (1, 1, .int), (2, 1, .str)]))]) (.tmp 19) (.tmp 23), none, 0⟩]
     [[], [], [0, 1], [0, 1, 2], [], [], [4, 5], [4, 5, 6], [0, 1, 2, 3, 4, 5, 6, 7]])
   (.cond (.tmp 24)
    (.seq (.ops [⟨some 4, .mov (.con (.bool false)), none, 0⟩])
     .ret)
    .skip))))
 (.ops [⟨some 25, .bin .add (.tmp 13) (.con (.int .i64 1)), none, 0⟩,
   ⟨some 13, .mov (.tmp 25), none, 0⟩]))))
def f_slices_Equal_api_Column_api_Column : XFunc := { ntmps := 26, res := [.tmp 4], pure := true, body :=
  (.seq (.ops [⟨some 4, .mov (.con (.bool false)), none, 0⟩])
  (.seq (.seq (.ops [⟨some 6, .mov (.tmp 0), none, 0⟩,
      ⟨some 7, .len (.tmp 6), none, 0⟩,
      ⟨some 8, .mov (.tmp 1), none, 0⟩,
      ⟨some 9, .len (.tmp 8), none, 0⟩,
      ⟨some 10, .bin .neq (.tmp 7) (.tmp 9), none, 0⟩])
   (.cond (.tmp 10)
    (.seq (.ops [⟨some 4, .mov (.con (.bool false)), none, 0⟩])
     .ret)
    .skip))
  (.seq (.seq (.ops [⟨some 11, .mov (.tmp 0), none, 0⟩,
      ⟨some 12, .len (.tmp 11), none, 0⟩,
      ⟨some 13, .mov (.con (.int .i64 0)), none, 0⟩])
   (.block 0
    (.loop f_slices_Equal_api_Column_api_Column_k0 f_slices_Equal_api_Column_api_Column_b0)))
  (.seq (.ops [⟨some 4, .mov (.con (.bool true)), none, 0⟩])
  .ret)))) }
end Hx.Fn
