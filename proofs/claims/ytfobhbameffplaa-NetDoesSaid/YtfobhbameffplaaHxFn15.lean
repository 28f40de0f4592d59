/- HxFn15: written by gen.py -/
import Derived.Test.YtfobhbameffplaaHxFn25
namespace Hx.Fn
open Go
def f_haulagelaw25_NetDoes : XFunc := { ntmps := 65, res := [.tmp 4], pure := true, body :=
  (.seq (.ops [⟨some 2, .box (.tmp 0), none, 0⟩,
     ⟨some 4, .mov (.con (.bool false)), none, 0⟩])
  (.seq (.seq (.ops [⟨some 11, .call (.fn 122) [], none, 0⟩,
      ⟨some 12, .un .not (.tmp 11), none, 0⟩])
   (.cond (.tmp 12)
    (.seq (.ops [⟨some 4, .mov (.con (.bool false)), none, 0⟩])
     .ret)
    .skip))
  (.seq (.seq (.ops [⟨some 13, .load 2 true (.tmp 2), none, 0⟩,
      ⟨some 14, .call (.fn 123) [(.tmp 13)], none, 0⟩,
      ⟨some 15, .un .not (.tmp 14), none, 0⟩,
      ⟨some 16, .mov (.tmp 15), none, 0⟩,
      ⟨some 17, .mov (.tmp 1), some (16, false), 0⟩,
      ⟨some 18, .call (.fn 124) [(.tmp 17)], some (16, false), 0⟩,
      ⟨some 19, .un .not (.tmp 18), some (16, false), 0⟩,
      ⟨some 20, .pick (.tmp 16) (.con (.bool true)) (.tmp 19), none, 0⟩,
      ⟨some 21, .mov (.tmp 20), none, 0⟩,
      ⟨some 22, .load 2 true (.tmp 2), some (21, false), 0⟩,
      ⟨some 23, .call (.fn 125) [(.tmp 22)], some (21, false), 0⟩,
      ⟨some 24, .un .not (.tmp 23), some (21, false), 0⟩,
      ⟨some 25, .pick (.tmp 21) (.con (.bool true)) (.tmp 24), none, 0⟩])
   (.cond (.tmp 25)
    (.seq (.ops [⟨some 4, .mov (.con (.bool true)), none, 0⟩])
     .ret)
    .skip))
  (.seq (.ops [⟨some 27, .load 2 true (.tmp 2), none, 0⟩,
     ⟨some 28, .mov (.tmp 1), none, 0⟩,
     ⟨some 29, .build [.int .i64 0, .nils] [(1, 1, (.tmp 28))], none, 0⟩,
     ⟨some 30, .call (.fn 126) [(.tmp 27), (.tmp 29)], none, 0⟩,
     ⟨some 26, .mov (.tmp 30), none, 0⟩,
     ⟨some 31, .extract (.tmp 26) 0, none, 0⟩,
     ⟨some 32, .extract (.tmp 26) 1, none, 0⟩,
     ⟨some 5, .alloc [.nils, .nils], none, 0⟩,
     ⟨none, .store 2 (.tmp 5) (.tmp 31), none, 0⟩,
     ⟨some 6, .mov (.tmp 32), none, 0⟩])
  (.seq (.seq (.ops [⟨some 33, .mov (.tmp 6), none, 0⟩,
      ⟨some 34, .bin .neq (.tmp 33) (.con (.int .i64 0)), none, 0⟩])
   (.cond (.tmp 34)
    (.seq (.ops [⟨some 4, .mov (.con (.bool true)), none, 0⟩])
     .ret)
    .skip))
  (.seq (.ops [⟨some 36, .mov (.tmp 1), none, 0⟩,
     ⟨some 37, .call (.fn 127) [(.tmp 36)], none, 0⟩,
     ⟨some 35, .mov (.tmp 37), none, 0⟩,
     ⟨some 38, .extract (.tmp 35) 0, none, 0⟩,
     ⟨some 39, .extract (.tmp 35) 1, none, 0⟩,
     ⟨some 7, .mov (.tmp 38), none, 0⟩,
     ⟨some 8, .mov (.tmp 39), none, 0⟩])
  (.seq (.ops [⟨some 41, .load 2 true (.tmp 2), none, 0⟩,
     ⟨some 42, .mov (.tmp 7), none, 0⟩,
     ⟨some 43, .build [.int .i64 0, .nils] [(1, 1, (.tmp 42))], none, 0⟩,
     ⟨some 44, .call (.fn 126) [(.tmp 41), (.tmp 43)], none, 0⟩,
     ⟨some 40, .mov (.tmp 44), none, 0⟩,
     ⟨some 45, .extract (.tmp 40) 0, none, 0⟩,
     ⟨some 46, .extract (.tmp 40) 1, none, 0⟩,
     ⟨some 9, .alloc [.nils, .nils], none, 0⟩,
     ⟨none, .store 2 (.tmp 9) (.tmp 45), none, 0⟩,
     ⟨some 10, .mov (.tmp 46), none, 0⟩])
  (.seq (.ops [⟨some 47, .mov (.tmp 8), none, 0⟩,
     ⟨some 48, .bin .eql (.tmp 47) (.con (.int .i64 0)), none, 0⟩,
     ⟨some 49, .mov (.tmp 48), none, 0⟩,
     ⟨some 50, .mov (.tmp 10), some (49, true), 0⟩,
     ⟨some 51, .bin .eql (.tmp 50) (.con (.int .i64 0)), some (49, true), 0⟩,
     ⟨some 52, .pick (.tmp 49) (.tmp 51) (.con (.bool false)), none, 0⟩,
     ⟨some 53, .mov (.tmp 52), none, 0⟩,
     ⟨some 54, .load 2 true (.tmp 9), some (53, true), 0⟩,
     ⟨some 55, .load 2 true (.tmp 5), some (53, true), 0⟩,
     ⟨some 56, .call (.fn 128) [(.tmp 54), (.tmp 55)], some (53, true), 0⟩,
     ⟨some 57, .pick (.tmp 53) (.tmp 56) (.con (.bool false)), none, 0⟩,
     ⟨some 58, .mov (.tmp 57), none, 0⟩,
     ⟨some 59, .mov (.tmp 7), some (58, true), 0⟩,
     ⟨some 60, .len (.tmp 59), some (58, true), 0⟩,
     ⟨some 61, .mov (.tmp 1), some (58, true), 0⟩,
     ⟨some 62, .len (.tmp 61), some (58, true), 0⟩,
     ⟨some 63, .bin .leq (.tmp 60) (.tmp 62), some (58, true), 0⟩,
     ⟨some 64, .pick (.tmp 58) (.tmp 63) (.con (.bool false)), none, 0⟩,
     ⟨some 4, .mov (.tmp 64), none, 0⟩])
  .ret)))))))) }
def f_haulagelaw15_FewState_k1 : List Bool := [false, true, false, true, true, false, false, false, false, false, false, false, false, false, false, false, false, false, false, false, false, false, false, false, false, false, false, false, false, false, false, false, false, false, false, false, false, false, false, false, false, false, false, false, false, false, false, false, false, false, false, false]
def f_haulagelaw15_FewState_b1 : XCode :=
  (.seq (.seq (.ops [⟨some 30, .mov (.tmp 4), none, 0⟩,
     ⟨some 31, .fieldAddr 1 (.tmp 1), none, 0⟩,
     ⟨some 32, .load 1 false (.tmp 31), none, 0⟩,
     ⟨some 33, .mov (.tmp 3), none, 0⟩,
     ⟨some 34, .addrRow 2 (.tmp 32) (.tmp 33), none, 0⟩,
     ⟨some 35, .fieldAddr 1 (.tmp 34), none, 0⟩,
     ⟨some 36, .load 1 false (.tmp 35), none, 0⟩,
     ⟨some 37, .len (.tmp 36), none, 0⟩,
     ⟨some 38, .bin .lss (.tmp 30) (.tmp 37), none, 0⟩])
  (.cond (.tmp 38)
   .skip
   (.exit 2)))
 (.seq (.block 3
   (.seq (.ops [⟨some 41, .fieldAddr 1 (.tmp 1), none, 0⟩,
      ⟨some 42, .load 1 false (.tmp 41), none, 0⟩,
      ⟨some 43, .mov (.tmp 3), none, 0⟩,
      ⟨some 44, .addrRow 2 (.tmp 42) (.tmp 43), none, 0⟩,
      ⟨some 45, .fieldAddr 1 (.tmp 44), none, 0⟩,
      ⟨some 46, .load 1 false (.tmp 45), none, 0⟩,
      ⟨some 47, .mov (.tmp 4), none, 0⟩,
      ⟨some 48, .addrRow 1 (.tmp 46) (.tmp 47), none, 0⟩,
      ⟨some 49, .load 1 false (.tmp 48), none, 0⟩,
      ⟨some 50, .call (.fn 138) [(.tmp 49)], none, 0⟩,
      ⟨some 51, .un .not (.tmp 50), none, 0⟩])
   (.cond (.tmp 51)
    (.seq (.ops [⟨some 2, .mov (.con (.bool false)), none, 0⟩])
     .ret)
    .skip)))
 (.ops [⟨some 39, .mov (.tmp 4), none, 0⟩,
   ⟨some 40, .bin .add (.tmp 39) (.con (.int .i64 1)), none, 0⟩,
   ⟨some 4, .mov (.tmp 40), none, 0⟩])))
def f_haulagelaw15_FewState_s1 (t1 t3 t4 : AV) : List AV := [.unk, t1, .unk, t3, t4, .unk, .unk, .unk, .unk, .unk, .unk, .unk, .unk, .unk, .unk, .unk, .unk, .unk, .unk, .unk, .unk, .unk, .unk, .unk, .unk, .unk, .unk, .unk, .unk, .unk, .unk, .unk, .unk, .unk, .unk, .unk, .unk, .unk, .unk, .unk, .unk, .unk, .unk, .unk, .unk, .unk, .unk, .unk, .unk, .unk, .unk, .unk]
def f_haulagelaw15_FewState_k0 : List Bool := [false, true, false, true, false, false, false, false, false, false, false, false, false, false, false, false, false, false, false, false, false, false, false, false, false, false, false, false, false, false, false, false, false, false, false, false, false, false, false, false, false, false, false, false, false, false, false, false, false, false, false, false]
def f_haulagelaw15_FewState_b0 : XCode :=
  (.seq (.seq (.ops [⟨some 15, .mov (.tmp 3), none, 0⟩,
     ⟨some 16, .fieldAddr 1 (.tmp 1), none, 0⟩,
     ⟨some 17, .load 1 false (.tmp 16), none, 0⟩,
     ⟨some 18, .len (.tmp 17), none, 0⟩,
     ⟨some 19, .bin .lss (.tmp 15) (.tmp 18), none, 0⟩])
  (.cond (.tmp 19)
   .skip
   (.exit 0)))
 (.seq (.block 1
   (.seq (.seq (.ops [⟨some 22, .fieldAddr 1 (.tmp 1), none, 0⟩,
       ⟨some 23, .load 1 false (.tmp 22), none, 0⟩,
       ⟨some 24, .mov (.tmp 3), none, 0⟩,
       ⟨some 25, .addrRow 2 (.tmp 23) (.tmp 24), none, 0⟩,
       ⟨some 26, .fieldAddr 1 (.tmp 25), none, 0⟩,
       ⟨some 27, .load 1 false (.tmp 26), none, 0⟩,
       ⟨some 28, .len (.tmp 27), none, 0⟩,
       ⟨some 29, .bin .gtr (.tmp 28) (.con (.int .i64 210)), none, 0⟩])
    (.cond (.tmp 29)
     (.seq (.ops [⟨some 2, .mov (.con (.bool false)), none, 0⟩])
      .ret)
     .skip))
   (.seq (.ops [⟨some 4, .mov (.con (.int .i64 0)), none, 0⟩])
   (.block 2
    (.loop f_haulagelaw15_FewState_k1 f_haulagelaw15_FewState_b1)))))
 (.ops [⟨some 20, .mov (.tmp 3), none, 0⟩,
   ⟨some 21, .bin .add (.tmp 20) (.con (.int .i64 1)), none, 0⟩,
   ⟨some 3, .mov (.tmp 21), none, 0⟩])))
def f_haulagelaw15_FewState_s0 (t1 t3 : AV) : List AV := [.unk, t1, .unk, t3, .unk, .unk, .unk, .unk, .unk, .unk, .unk, .unk, .unk, .unk, .unk, .unk, .unk, .unk, .unk, .unk, .unk, .unk, .unk, .unk, .unk, .unk, .unk, .unk, .unk, .unk, .unk, .unk, .unk, .unk, .unk, .unk, .unk, .unk, .unk, .unk, .unk, .unk, .unk, .unk, .unk, .unk, .unk, .unk, .unk, .unk, .unk, .unk]
def f_haulagelaw15_FewState : XFunc := { ntmps := 52, res := [.tmp 2], pure := true, body :=
  (.seq (.ops [⟨some 1, .box (.tmp 0), none, 0⟩,
     ⟨some 2, .mov (.con (.bool false)), none, 0⟩])
  (.seq (.seq (.ops [⟨some 5, .fieldAddr 0 (.tmp 1), none, 0⟩,
      ⟨some 6, .load 1 true (.tmp 5), none, 0⟩,
      ⟨some 7, .call (.fn 137) [(.tmp 6)], none, 0⟩,
      ⟨some 8, .un .not (.tmp 7), none, 0⟩,
      ⟨some 9, .mov (.tmp 8), none, 0⟩,
      ⟨some 10, .fieldAddr 1 (.tmp 1), some (9, false), 0⟩,
      ⟨some 11, .load 1 false (.tmp 10), some (9, false), 0⟩,
      ⟨some 12, .len (.tmp 11), some (9, false), 0⟩,
      ⟨some 13, .bin .gtr (.tmp 12) (.con (.int .i64 10)), some (9, false), 0⟩,
      ⟨some 14, .pick (.tmp 9) (.con (.bool true)) (.tmp 13), none, 0⟩])
   (.cond (.tmp 14)
    (.seq (.ops [⟨some 2, .mov (.con (.bool false)), none, 0⟩])
     .ret)
    .skip))
  (.seq (.seq (.ops [⟨some 3, .mov (.con (.int .i64 0)), none, 0⟩])
   (.block 0
    (.loop f_haulagelaw15_FewState_k0 f_haulagelaw15_FewState_b0)))
  (.seq (.ops [⟨some 2, .mov (.con (.bool true)), none, 0⟩])
  .ret)))) }
def f_haulageref15_Right_k0 : List Bool := [false, true, false, true, false, false, false, false, false, false, false, false, false, false, false, false, false, false, false, false, false, false, false, false, false, false, false, false, false, false, false, false, false, false, false, false, false, false, false, false, false, false, false, false, false, false, false, false, false, false, false, false, false, false, false]
def f_haulageref15_Right_b0 : XCode :=
  (.seq (.seq (.ops [⟨some 18, .mov (.tmp 3), none, 0⟩,
     ⟨some 19, .fieldAddr 1 (.tmp 1), none, 0⟩,
     ⟨some 20, .load 1 false (.tmp 19), none, 0⟩,
     ⟨some 21, .len (.tmp 20), none, 0⟩,
     ⟨some 22, .bin .lss (.tmp 18) (.tmp 21), none, 0⟩])
  (.cond (.tmp 22)
   .skip
   (.exit 0)))
 (.seq (.block 1
   (.seq (.draw [⟨some 25, .fieldAddr 1 (.tmp 1), none, 0⟩,
      ⟨some 26, .load 1 false (.tmp 25), none, 0⟩,
      ⟨some 27, .mov (.tmp 3), none, 0⟩,
      ⟨some 28, .addrRow 2 (.tmp 26) (.tmp 27), none, 0⟩,
      ⟨some 29, .fieldAddr 0 (.tmp 28), none, 0⟩,
      ⟨some 30, .load 1 false (.tmp 29), none, 0⟩,
      ⟨some 31, .fieldAddr 0 (.tmp 1), none, 0⟩,
      ⟨some 32, .fieldAddr 0 (.tmp 31), none, 0⟩,
      ⟨some 33, .load 1 false (.tmp 32), none, 0⟩,
      ⟨some 34, .mov (.tmp 3), none, 0⟩,
      ⟨some 35, .addrRow 5 (.tmp 33) (.tmp 34), none, 0⟩,
      ⟨some 36, .fieldAddr 0 (.tmp 35), none, 0⟩,
      ⟨some 37, .load 1 false (.tmp 36), none, 0⟩,
      ⟨some 38, .bin .neq (.tmp 30) (.tmp 37), none, 0⟩,
      ⟨some 39, .mov (.tmp 38), none, 0⟩,
      ⟨some 40, .fieldAddr 0 (.tmp 1), some (39, false), 0⟩,
      ⟨some 41, .fieldAddr 0 (.tmp 40), some (39, false), 0⟩,
      ⟨some 42, .load 1 false (.tmp 41), some (39, false), 0⟩,
      ⟨some 43, .mov (.tmp 3), some (39, false), 0⟩,
      ⟨some 44, .addrRow 5 (.tmp 42) (.tmp 43), some (39, false), 0⟩,
      ⟨some 45, .load 5 true (.tmp 44), some (39, false), 0⟩,
      ⟨some 46, .fieldAddr 1 (.tmp 1), some (39, false), 0⟩,
      ⟨some 47, .load 1 false (.tmp 46), some (39, false), 0⟩,
      ⟨some 48, .mov (.tmp 3), some (39, false), 0⟩,
      ⟨some 49, .addrRow 2 (.tmp 47) (.tmp 48), some (39, false), 0⟩,
      ⟨some 50, .fieldAddr 1 (.tmp 49), some (39, false), 0⟩,
      ⟨some 51, .load 1 false (.tmp 50), some (39, false), 0⟩,
      ⟨some 52, .call (.fn 141) [(.tmp 45), (.tmp 51)], some (39, false), 0⟩,
      ⟨some 53, .un .not (.tmp 52), some (39, false), 0⟩,
      ⟨some 54, .pick (.tmp 39) (.con (.bool true)) (.tmp 53), none, 0⟩]
     [[], [0], [], [0, 1, 2], [0, 1, 2, 3], [0, 1, 2, 3, 4], [], [6], [6, 7], [], [6, 7, 8, 9], [6, 7, 8, 9, 10], [6, 7, 8, 9, 10, 11], [0, 1, 2, 3, 4, 5, 6, 7, 8, 9, 10, 11, 12], [0, 1, 2, 3, 4, 5, 6, 7, 8, 9, 10, 11, 12, 13], [0, 1, 2, 3, 4, 5, 6, 7, 8, 9, 10, 11, 12, 13, 14], [0, 1, 2, 3, 4, 5, 6, 7, 8, 9, 10, 11, 12, 13, 14, 15], [0, 1, 2, 3, 4, 5, 6, 7, 8, 9, 10, 11, 12, 13, 14, 15, 16], [0, 1, 2, 3, 4, 5, 6, 7, 8, 9, 10, 11, 12, 13, 14], [0, 1, 2, 3, 4, 5, 6, 7, 8, 9, 10, 11, 12, 13, 14, 15, 16, 17, 18], [0, 1, 2, 3, 4, 5, 6, 7, 8, 9, 10, 11, 12, 13, 14, 15, 16, 17, 18, 19], [0, 1, 2, 3, 4, 5, 6, 7, 8, 9, 10, 11, 12, 13, 14], [0, 1, 2, 3, 4, 5, 6, 7, 8, 9, 10, 11, 12, 13, 14, 21], [0, 1, 2, 3, 4, 5, 6, 7, 8, 9, 10, 11, 12, 13, 14], [0, 1, 2, 3, 4, 5, 6, 7, 8, 9, 10, 11, 12, 13, 14, 21, 22, 23], [0, 1, 2, 3, 4, 5, 6, 7, 8, 9, 10, 11, 12, 13, 14, 21, 22, 23, 24], [0, 1, 2, 3, 4, 5, 6, 7, 8, 9, 10, 11, 12, 13, 14, 21, 22, 23, 24, 25], [0, 1, 2, 3, 4, 5, 6, 7, 8, 9, 10, 11, 12, 13, 14, 15, 16, 17, 18, 19, 20, 21, 22, 23, 24, 25, 26], [0, 1, 2, 3, 4, 5, 6, 7, 8, 9, 10, 11, 12, 13, 14, 15, 16, 17, 18, 19, 20, 21, 22, 23, 24, 25, 26, 27], [0, 1, 2, 3, 4, 5, 6, 7, 8, 9, 10, 11, 12, 13, 14, 15, 16, 17, 18, 19, 20, 21, 22, 23, 24, 25, 26, 27, 28]])
   (.cond (.tmp 54)
    (.seq (.ops [⟨some 2, .mov (.con (.bool false)), none, 0⟩])
     .ret)
    .skip)))
 (.ops [⟨some 23, .mov (.tmp 3), none, 0⟩,
   ⟨some 24, .bin .add (.tmp 23) (.con (.int .i64 1)), none, 0⟩,
   ⟨some 3, .mov (.tmp 24), none, 0⟩])))
def f_haulageref15_Right_s0 (t1 t3 : AV) : List AV := [.unk, t1, .unk, t3, .unk, .unk, .unk, .unk, .unk, .unk, .unk, .unk, .unk, .unk, .unk, .unk, .unk, .unk, .unk, .unk, .unk, .unk, .unk, .unk, .unk, .unk, .unk, .unk, .unk, .unk, .unk, .unk, .unk, .unk, .unk, .unk, .unk, .unk, .unk, .unk, .unk, .unk, .unk, .unk, .unk, .unk, .unk, .unk, .unk, .unk, .unk, .unk, .unk, .unk, .unk]
def f_haulageref15_Right : XFunc := { ntmps := 55, res := [.tmp 2], pure := true, body :=
  (.seq (.ops [⟨some 1, .box (.tmp 0), none, 0⟩,
     ⟨some 2, .mov (.con (.bool false)), none, 0⟩])
  (.seq (.seq (.ops [⟨some 4, .fieldAddr 0 (.tmp 1), none, 0⟩,
      ⟨some 5, .load 1 true (.tmp 4), none, 0⟩,
      ⟨some 6, .call (.fn 140) [(.tmp 5)], none, 0⟩,
      ⟨some 7, .un .not (.tmp 6), none, 0⟩,
      ⟨some 8, .mov (.tmp 7), none, 0⟩,
      ⟨some 9, .fieldAddr 1 (.tmp 1), some (8, false), 0⟩,
      ⟨some 10, .load 1 false (.tmp 9), some (8, false), 0⟩,
      ⟨some 11, .len (.tmp 10), some (8, false), 0⟩,
      ⟨some 12, .fieldAddr 0 (.tmp 1), some (8, false), 0⟩,
      ⟨some 13, .fieldAddr 0 (.tmp 12), some (8, false), 0⟩,
      ⟨some 14, .load 1 false (.tmp 13), some (8, false), 0⟩,
      ⟨some 15, .len (.tmp 14), some (8, false), 0⟩,
      ⟨some 16, .bin .neq (.tmp 11) (.tmp 15), some (8, false), 0⟩,
      ⟨some 17, .pick (.tmp 8) (.con (.bool true)) (.tmp 16), none, 0⟩])
   (.cond (.tmp 17)
    (.seq (.ops [⟨some 2, .mov (.con (.bool false)), none, 0⟩])
     .ret)
    .skip))
  (.seq (.seq (.ops [⟨some 3, .mov (.con (.int .i64 0)), none, 0⟩])
   (.block 0
    (.loop f_haulageref15_Right_k0 f_haulageref15_Right_b0)))
  (.seq (.ops [⟨some 2, .mov (.con (.bool true)), none, 0⟩])
  .ret)))) }
def f_haulageref20_Apply_k0 : List Bool := [false, false, true, true, true, false, true, false, false, false, false, false, false, false, false, false, false, false, false, false, false, false, false, false, false, false, false, false, false, false, false, false]
def f_haulageref20_Apply_b0 : XCode :=
  (.seq (.seq (.ops [⟨some 9, .mov (.tmp 6), none, 0⟩,
     ⟨some 10, .fieldAddr 1 (.tmp 3), none, 0⟩,
     ⟨some 11, .load 1 false (.tmp 10), none, 0⟩,
     ⟨some 12, .len (.tmp 11), none, 0⟩,
     ⟨some 13, .bin .lss (.tmp 9) (.tmp 12), none, 0⟩])
  (.cond (.tmp 13)
   .skip
   (.exit 0)))
 (.seq (.block 1
   (.seq (.draw [⟨some 17, .load 2 true (.tmp 2), none, 0⟩,
      ⟨some 18, .fieldAddr 1 (.tmp 3), none, 0⟩,
      ⟨some 19, .load 1 false (.tmp 18), none, 0⟩,
      ⟨some 20, .mov (.tmp 6), none, 0⟩,
      ⟨some 21, .addrRow 19 (.tmp 19) (.tmp 20), none, 0⟩,
      ⟨some 22, .load 19 true (.tmp 21), none, 0⟩,
      ⟨some 23, .call (.fn 142) [(.tmp 17), (.tmp 22)], none, 0⟩,
      ⟨some 16, .mov (.tmp 23), none, 0⟩,
      ⟨some 24, .extract (.tmp 16) 0, none, 0⟩,
      ⟨some 25, .extract (.tmp 16) 1, none, 0⟩,
      ⟨some 7, .alloc [.nils, .nils], none, 1⟩,
      ⟨none, .store 2 (.tmp 7) (.tmp 24), none, 2⟩,
      ⟨some 8, .mov (.tmp 25), none, 0⟩]
     [[], [], [1], [], [1, 2, 3], [1, 2, 3, 4], [0, 1, 2, 3, 4, 5], [0, 1, 2, 3, 4, 5, 6], [0, 1, 2, 3, 4, 5, 6, 7], [0, 1, 2, 3, 4, 5, 6, 7], [], [0, 1, 2, 3, 4, 5, 6, 7, 8, 10], [0, 1, 2, 3, 4, 5, 6, 7, 8, 9, 10, 11]])
   (.seq (.seq (.ops [⟨some 26, .mov (.tmp 8), none, 0⟩,
       ⟨some 27, .bin .neq (.tmp 26) (.con (.int .i64 0)), none, 0⟩])
    (.cond (.tmp 27)
     (.seq (.ops [⟨some 28, .load 2 true (.tmp 2), none, 0⟩,
         ⟨some 29, .mov (.tmp 8), none, 0⟩,
         ⟨none, .store 2 (.tmp 4) (.tmp 28), none, 0⟩,
         ⟨some 5, .mov (.tmp 29), none, 0⟩])
      .ret)
     .skip))
   (.ops [⟨some 30, .load 2 true (.tmp 7), none, 0⟩,
     ⟨none, .store 2 (.tmp 2) (.tmp 30), none, 0⟩]))))
 (.ops [⟨some 14, .mov (.tmp 6), none, 0⟩,
   ⟨some 15, .bin .add (.tmp 14) (.con (.int .i64 1)), none, 0⟩,
   ⟨some 6, .mov (.tmp 15), none, 0⟩])))
def f_haulageref20_Apply_s0 (t2 t3 t4 t6 : AV) : List AV := [.unk, .unk, t2, t3, t4, .unk, t6, .unk, .unk, .unk, .unk, .unk, .unk, .unk, .unk, .unk, .unk, .unk, .unk, .unk, .unk, .unk, .unk, .unk, .unk, .unk, .unk, .unk, .unk, .unk, .unk, .unk]
def f_haulageref20_Apply : XFunc := { ntmps := 32, res := [.cell 4 2 true, .tmp 5], pure := true, body :=
  (.seq (.ops [⟨some 2, .box (.tmp 0), none, 0⟩,
     ⟨some 3, .box (.tmp 1), none, 0⟩,
     ⟨some 4, .alloc [.nils, .nils], none, 0⟩,
     ⟨some 5, .mov (.con (.int .i64 0)), none, 0⟩])
  (.seq (.seq (.ops [⟨some 6, .mov (.con (.int .i64 0)), none, 0⟩])
   (.block 0
    (.loop f_haulageref20_Apply_k0 f_haulageref20_Apply_b0)))
  (.seq (.ops [⟨some 31, .load 2 true (.tmp 2), none, 0⟩,
     ⟨none, .store 2 (.tmp 4) (.tmp 31), none, 0⟩,
     ⟨some 5, .mov (.con (.int .i64 0)), none, 0⟩])
  .ret))) }
def f_haulageref15_Same_k0 : List Bool := [false, false, true, true, false, true, false, false, false, false, false, false, false, false, false, false, false, false, false, false, false, false, false, false, false, false, false, false, false, false, false, false, false, false, false, false, false, false, false, false, false, false, false, false, false, false, false, false, false, false, false, false, false, false, false, false, false]
def f_haulageref15_Same_b0 : XCode :=
  (.seq (.seq (.ops [⟨some 21, .mov (.tmp 5), none, 0⟩,
     ⟨some 22, .fieldAddr 1 (.tmp 2), none, 0⟩,
     ⟨some 23, .load 1 false (.tmp 22), none, 0⟩,
     ⟨some 24, .len (.tmp 23), none, 0⟩,
     ⟨some 25, .bin .lss (.tmp 21) (.tmp 24), none, 0⟩])
  (.cond (.tmp 25)
   .skip
   (.exit 0)))
 (.seq (.block 1
   (.seq (.draw [⟨some 28, .fieldAddr 1 (.tmp 2), none, 0⟩,
      ⟨some 29, .load 1 false (.tmp 28), none, 0⟩,
      ⟨some 30, .mov (.tmp 5), none, 0⟩,
      ⟨some 31, .addrRow 2 (.tmp 29) (.tmp 30), none, 0⟩,
      ⟨some 32, .fieldAddr 0 (.tmp 31), none, 0⟩,
      ⟨some 33, .load 1 false (.tmp 32), none, 0⟩,
      ⟨some 34, .fieldAddr 1 (.tmp 3), none, 0⟩,
      ⟨some 35, .load 1 false (.tmp 34), none, 0⟩,
      ⟨some 36, .mov (.tmp 5), none, 0⟩,
      ⟨some 37, .addrRow 2 (.tmp 35) (.tmp 36), none, 0⟩,
      ⟨some 38, .fieldAddr 0 (.tmp 37), none, 0⟩,
      ⟨some 39, .load 1 false (.tmp 38), none, 0⟩,
      ⟨some 40, .bin .neq (.tmp 33) (.tmp 39), none, 0⟩,
      ⟨some 41, .mov (.tmp 40), none, 0⟩,
      ⟨some 42, .fieldAddr 1 (.tmp 2), some (41, false), 0⟩,
      ⟨some 43, .load 1 false (.tmp 42), some (41, false), 0⟩,
      ⟨some 44, .mov (.tmp 5), some (41, false), 0⟩,
      ⟨some 45, .addrRow 2 (.tmp 43) (.tmp 44), some (41, false), 0⟩,
      ⟨some 46, .fieldAddr 1 (.tmp 45), some (41, false), 0⟩,
      ⟨some 47, .load 1 false (.tmp 46), some (41, false), 0⟩,
      ⟨some 48, .fieldAddr 1 (.tmp 3), some (41, false), 0⟩,
      ⟨some 49, .load 1 false (.tmp 48), some (41, false), 0⟩,
      ⟨some 50, .mov (.tmp 5), some (41, false), 0⟩,
      ⟨some 51, .addrRow 2 (.tmp 49) (.tmp 50), some (41, false), 0⟩,
      ⟨some 52, .fieldAddr 1 (.tmp 51), some (41, false), 0⟩,
      ⟨some 53, .load 1 false (.tmp 52), some (41, false), 0⟩,
      ⟨some 54, .call (.fn 150) [(.tmp 47), (.tmp 53)], some (41, false), 0⟩,
      ⟨some 55, .un .not (.tmp 54), some (41, false), 0⟩,
      ⟨some 56, .pick (.tmp 41) (.con (.bool true)) (.tmp 55), none, 0⟩]
     [[], [0], [], [0, 1, 2], [0, 1, 2, 3], [0, 1, 2, 3, 4], [], [6], [], [6, 7, 8], [6, 7, 8, 9], [6, 7, 8, 9, 10], [0, 1, 2, 3, 4, 5, 6, 7, 8, 9, 10, 11], [0, 1, 2, 3, 4, 5, 6, 7, 8, 9, 10, 11, 12], [0, 1, 2, 3, 4, 5, 6, 7, 8, 9, 10, 11, 12, 13], [0, 1, 2, 3, 4, 5, 6, 7, 8, 9, 10, 11, 12, 13, 14], [0, 1, 2, 3, 4, 5, 6, 7, 8, 9, 10, 11, 12, 13], [0, 1, 2, 3, 4, 5, 6, 7, 8, 9, 10, 11, 12, 13, 14, 15, 16], [0, 1, 2, 3, 4, 5, 6, 7, 8, 9, 10, 11, 12, 13, 14, 15, 16, 17], [0, 1, 2, 3, 4, 5, 6, 7, 8, 9, 10, 11, 12, 13, 14, 15, 16, 17, 18], [0, 1, 2, 3, 4, 5, 6, 7, 8, 9, 10, 11, 12, 13], [0, 1, 2, 3, 4, 5, 6, 7, 8, 9, 10, 11, 12, 13, 20], [0, 1, 2, 3, 4, 5, 6, 7, 8, 9, 10, 11, 12, 13], [0, 1, 2, 3, 4, 5, 6, 7, 8, 9, 10, 11, 12, 13, 20, 21, 22], [0, 1, 2, 3, 4, 5, 6, 7, 8, 9, 10, 11, 12, 13, 20, 21, 22, 23], [0, 1, 2, 3, 4, 5, 6, 7, 8, 9, 10, 11, 12, 13, 20, 21, 22, 23, 24], [0, 1, 2, 3, 4, 5, 6, 7, 8, 9, 10, 11, 12, 13, 14, 15, 16, 17, 18, 19, 20, 21, 22, 23, 24, 25], [0, 1, 2, 3, 4, 5, 6, 7, 8, 9, 10, 11, 12, 13, 14, 15, 16, 17, 18, 19, 20, 21, 22, 23, 24, 25, 26], [0, 1, 2, 3, 4, 5, 6, 7, 8, 9, 10, 11, 12, 13, 14, 15, 16, 17, 18, 19, 20, 21, 22, 23, 24, 25, 26, 27]])
   (.cond (.tmp 56)
    (.seq (.ops [⟨some 4, .mov (.con (.bool false)), none, 0⟩])
     .ret)
    .skip)))
 (.ops [⟨some 26, .mov (.tmp 5), none, 0⟩,
   ⟨some 27, .bin .add (.tmp 26) (.con (.int .i64 1)), none, 0⟩,
   ⟨some 5, .mov (.tmp 27), none, 0⟩])))
def f_haulageref15_Same_s0 (t2 t3 t5 : AV) : List AV := [.unk, .unk, t2, t3, .unk, t5, .unk, .unk, .unk, .unk, .unk, .unk, .unk, .unk, .unk, .unk, .unk, .unk, .unk, .unk, .unk, .unk, .unk, .unk, .unk, .unk, .unk, .unk, .unk, .unk, .unk, .unk, .unk, .unk, .unk, .unk, .unk, .unk, .unk, .unk, .unk, .unk, .unk, .unk, .unk, .unk, .unk, .unk, .unk, .unk, .unk, .unk, .unk, .unk, .unk, .unk, .unk]
def f_haulageref15_Same : XFunc := { ntmps := 57, res := [.tmp 4], pure := true, body :=
  (.seq (.ops [⟨some 2, .box (.tmp 0), none, 0⟩,
     ⟨some 3, .box (.tmp 1), none, 0⟩,
     ⟨some 4, .mov (.con (.bool false)), none, 0⟩])
  (.seq (.seq (.ops [⟨some 6, .fieldAddr 0 (.tmp 2), none, 0⟩,
      ⟨some 7, .load 1 true (.tmp 6), none, 0⟩,
      ⟨some 8, .fieldAddr 0 (.tmp 3), none, 0⟩,
      ⟨some 9, .load 1 true (.tmp 8), none, 0⟩,
      ⟨some 10, .call (.fn 149) [(.tmp 7), (.tmp 9)], none, 0⟩,
      ⟨some 11, .un .not (.tmp 10), none, 0⟩,
      ⟨some 12, .mov (.tmp 11), none, 0⟩,
      ⟨some 13, .fieldAddr 1 (.tmp 2), some (12, false), 0⟩,
      ⟨some 14, .load 1 false (.tmp 13), some (12, false), 0⟩,
      ⟨some 15, .len (.tmp 14), some (12, false), 0⟩,
      ⟨some 16, .fieldAddr 1 (.tmp 3), some (12, false), 0⟩,
      ⟨some 17, .load 1 false (.tmp 16), some (12, false), 0⟩,
      ⟨some 18, .len (.tmp 17), some (12, false), 0⟩,
      ⟨some 19, .bin .neq (.tmp 15) (.tmp 18), some (12, false), 0⟩,
      ⟨some 20, .pick (.tmp 12) (.con (.bool true)) (.tmp 19), none, 0⟩])
   (.cond (.tmp 20)
    (.seq (.ops [⟨some 4, .mov (.con (.bool false)), none, 0⟩])
     .ret)
    .skip))
  (.seq (.seq (.ops [⟨some 5, .mov (.con (.int .i64 0)), none, 0⟩])
   (.block 0
    (.loop f_haulageref15_Same_k0 f_haulageref15_Same_b0)))
  (.seq (.ops [⟨some 4, .mov (.con (.bool true)), none, 0⟩])
  .ret)))) }
def f_haulagelaw08_FewAll_k0 : List Bool := [false, true, false, true, false, false, false, false, false, false, false, false, false, false, false, false, false, false, false, false, false, false]
def f_haulagelaw08_FewAll_b0 : XCode :=
  (.seq (.seq (.ops [⟨some 8, .mov (.tmp 3), none, 0⟩,
     ⟨some 9, .fieldAddr 0 (.tmp 1), none, 0⟩,
     ⟨some 10, .load 1 false (.tmp 9), none, 0⟩,
     ⟨some 11, .len (.tmp 10), none, 0⟩,
     ⟨some 12, .bin .lss (.tmp 8) (.tmp 11), none, 0⟩])
  (.cond (.tmp 12)
   .skip
   (.exit 0)))
 (.seq (.block 1
   (.seq (.ops [⟨some 15, .fieldAddr 0 (.tmp 1), none, 0⟩,
      ⟨some 16, .load 1 false (.tmp 15), none, 0⟩,
      ⟨some 17, .mov (.tmp 3), none, 0⟩,
      ⟨some 18, .addrRow 5 (.tmp 16) (.tmp 17), none, 0⟩,
      ⟨some 19, .load 5 true (.tmp 18), none, 0⟩,
      ⟨some 20, .call (.fn 169) [(.tmp 19)], none, 0⟩,
      ⟨some 21, .un .not (.tmp 20), none, 0⟩])
   (.cond (.tmp 21)
    (.seq (.ops [⟨some 2, .mov (.con (.bool false)), none, 0⟩])
     .ret)
    .skip)))
 (.ops [⟨some 13, .mov (.tmp 3), none, 0⟩,
   ⟨some 14, .bin .add (.tmp 13) (.con (.int .i64 1)), none, 0⟩,
   ⟨some 3, .mov (.tmp 14), none, 0⟩])))
def f_haulagelaw08_FewAll_s0 (t1 t3 : AV) : List AV := [.unk, t1, .unk, t3, .unk, .unk, .unk, .unk, .unk, .unk, .unk, .unk, .unk, .unk, .unk, .unk, .unk, .unk, .unk, .unk, .unk, .unk]
def f_haulagelaw08_FewAll : XFunc := { ntmps := 22, res := [.tmp 2], pure := true, body :=
  (.seq (.ops [⟨some 1, .box (.tmp 0), none, 0⟩,
     ⟨some 2, .mov (.con (.bool false)), none, 0⟩])
  (.seq (.seq (.ops [⟨some 4, .fieldAddr 0 (.tmp 1), none, 0⟩,
      ⟨some 5, .load 1 false (.tmp 4), none, 0⟩,
      ⟨some 6, .len (.tmp 5), none, 0⟩,
      ⟨some 7, .bin .gtr (.tmp 6) (.con (.int .i64 10)), none, 0⟩])
   (.cond (.tmp 7)
    (.seq (.ops [⟨some 2, .mov (.con (.bool false)), none, 0⟩])
     .ret)
    .skip))
  (.seq (.seq (.ops [⟨some 3, .mov (.con (.int .i64 0)), none, 0⟩])
   (.block 0
    (.loop f_haulagelaw08_FewAll_k0 f_haulagelaw08_FewAll_b0)))
  (.seq (.ops [⟨some 2, .mov (.con (.bool true)), none, 0⟩])
  .ret)))) }
def f_haulagelaw08_FewValues_k0 : List Bool := [true, false, false, true, false, false, false, false, false, false, false, false, false, false, false, false, false, false, false, false]
def f_haulagelaw08_FewValues_b0 : XCode :=
  (.seq (.seq (.ops [⟨some 7, .mov (.tmp 3), none, 0⟩,
     ⟨some 8, .mov (.tmp 0), none, 0⟩,
     ⟨some 9, .len (.tmp 8), none, 0⟩,
     ⟨some 10, .bin .lss (.tmp 7) (.tmp 9), none, 0⟩])
  (.cond (.tmp 10)
   .skip
   (.exit 0)))
 (.seq (.block 1
   (.seq (.ops [⟨some 13, .mov (.tmp 0), none, 0⟩,
      ⟨some 14, .mov (.tmp 3), none, 0⟩,
      ⟨some 15, .addrRow 3 (.tmp 13) (.tmp 14), none, 0⟩,
      ⟨some 16, .fieldAddr 2 (.tmp 15), none, 0⟩,
      ⟨some 17, .load 1 false (.tmp 16), none, 0⟩,
      ⟨some 18, .call (.fn 170) [(.tmp 17)], none, 0⟩,
      ⟨some 19, .un .not (.tmp 18), none, 0⟩])
   (.cond (.tmp 19)
    (.seq (.ops [⟨some 2, .mov (.con (.bool false)), none, 0⟩])
     .ret)
    .skip)))
 (.ops [⟨some 11, .mov (.tmp 3), none, 0⟩,
   ⟨some 12, .bin .add (.tmp 11) (.con (.int .i64 1)), none, 0⟩,
   ⟨some 3, .mov (.tmp 12), none, 0⟩])))
def f_haulagelaw08_FewValues_s0 (t0 t3 : AV) : List AV := [t0, .unk, .unk, t3, .unk, .unk, .unk, .unk, .unk, .unk, .unk, .unk, .unk, .unk, .unk, .unk, .unk, .unk, .unk, .unk]
def f_haulagelaw08_FewValues : XFunc := { ntmps := 20, res := [.tmp 2], pure := true, body :=
  (.seq (.ops [⟨some 2, .mov (.con (.bool false)), none, 0⟩])
  (.seq (.seq (.ops [⟨some 4, .mov (.tmp 0), none, 0⟩,
      ⟨some 5, .len (.tmp 4), none, 0⟩,
      ⟨some 6, .bin .gtr (.tmp 5) (.con (.int .i64 20)), none, 0⟩])
   (.cond (.tmp 6)
    (.seq (.ops [⟨some 2, .mov (.con (.bool false)), none, 0⟩])
     .ret)
    .skip))
  (.seq (.seq (.ops [⟨some 3, .mov (.con (.int .i64 0)), none, 0⟩])
   (.block 0
    (.loop f_haulagelaw08_FewValues_k0 f_haulagelaw08_FewValues_b0)))
  (.seq (.ops [⟨some 2, .mov (.con (.bool true)), none, 0⟩])
  .ret)))) }
def f_haulageref08_Right_k0 : List Bool := [false, true, false, true, false, false, false, false, false, false, false, false, false, false, false, false, false, false, false, false, false, false, false, false, false, false, false, false, false, false, false, false, false, false, false, false, false, false, false, false, false, false, false, false, false, false, false, false]
def f_haulageref08_Right_b0 : XCode :=
  (.seq (.seq (.ops [⟨some 9, .mov (.tmp 3), none, 0⟩,
     ⟨some 10, .fieldAddr 0 (.tmp 1), none, 0⟩,
     ⟨some 11, .load 1 false (.tmp 10), none, 0⟩,
     ⟨some 12, .len (.tmp 11), none, 0⟩,
     ⟨some 13, .bin .lss (.tmp 9) (.tmp 12), none, 0⟩])
  (.cond (.tmp 13)
   .skip
   (.exit 0)))
 (.seq (.block 1
   (.seq (.ops [⟨some 16, .fieldAddr 0 (.tmp 1), none, 0⟩,
      ⟨some 17, .load 1 false (.tmp 16), none, 0⟩,
      ⟨some 18, .mov (.tmp 3), none, 0⟩,
      ⟨some 19, .addrRow 5 (.tmp 17) (.tmp 18), none, 0⟩,
      ⟨some 20, .load 5 true (.tmp 19), none, 0⟩,
      ⟨some 4, .alloc [.int .i64 0, .str [], .int .i64 0, .int .i64 0, .nils], none, 0⟩,
      ⟨none, .store 5 (.tmp 4) (.tmp 20), none, 0⟩])
   (.seq (.draw [⟨some 21, .load 5 true (.tmp 4), none, 0⟩,
      ⟨some 22, .call (.fn 172) [(.tmp 21)], none, 0⟩,
      ⟨some 23, .un .not (.tmp 22), none, 0⟩,
      ⟨some 24, .mov (.tmp 23), none, 0⟩,
      ⟨some 25, .mov (.tmp 3), some (24, false), 0⟩,
      ⟨some 26, .bin .gtr (.tmp 25) (.con (.int .i64 0)), some (24, false), 0⟩,
      ⟨some 27, .mov (.tmp 26), some (24, false), 0⟩,
      ⟨some 28, .fieldAddr 0 (.tmp 4), some (27, true), 0⟩,
      ⟨some 29, .load 1 false (.tmp 28), some (27, true), 0⟩,
      ⟨some 30, .fieldAddr 0 (.tmp 1), some (27, true), 0⟩,
      ⟨some 31, .load 1 false (.tmp 30), some (27, true), 0⟩,
      ⟨some 32, .mov (.tmp 3), some (27, true), 0⟩,
      ⟨some 33, .bin .sub (.tmp 32) (.con (.int .i64 1)), some (27, true), 0⟩,
      ⟨some 34, .addrRow 5 (.tmp 31) (.tmp 33), some (27, true), 0⟩,
      ⟨some 35, .fieldAddr 0 (.tmp 34), some (27, true), 0⟩,
      ⟨some 36, .load 1 false (.tmp 35), some (27, true), 0⟩,
      ⟨some 37, .bin .leq (.tmp 29) (.tmp 36), some (27, true), 0⟩,
      ⟨some 38, .pick (.tmp 27) (.tmp 37) (.con (.bool false)), some (24, false), 0⟩,
      ⟨some 39, .pick (.tmp 24) (.con (.bool true)) (.tmp 38), none, 0⟩,
      ⟨some 40, .mov (.tmp 39), none, 0⟩,
      ⟨some 41, .load 1 true (.tmp 1), some (40, false), 0⟩,
      ⟨some 42, .fieldAddr 1 (.tmp 4), some (40, false), 0⟩,
      ⟨some 43, .load 1 false (.tmp 42), some (40, false), 0⟩,
      ⟨some 44, .call (.fn 154) [(.tmp 41), (.tmp 43)], some (40, false), 0⟩,
      ⟨some 45, .mov (.tmp 3), some (40, false), 0⟩,
      ⟨some 46, .bin .neq (.tmp 44) (.tmp 45), some (40, false), 0⟩,
      ⟨some 47, .pick (.tmp 40) (.con (.bool true)) (.tmp 46), none, 0⟩]
     [[], [0], [0, 1], [0, 1, 2], [0, 1, 2, 3], [0, 1, 2, 3, 4], [0, 1, 2, 3, 4, 5], [0, 1, 2, 3, 4, 5, 6], [0, 1, 2, 3, 4, 5, 6, 7], [0, 1, 2, 3, 4, 5, 6], [0, 1, 2, 3, 4, 5, 6, 9], [0, 1, 2, 3, 4, 5, 6], [0, 1, 2, 3, 4, 5, 6, 11], [0, 1, 2, 3, 4, 5, 6, 9, 10, 11, 12], [0, 1, 2, 3, 4, 5, 6, 9, 10, 11, 12, 13], [0, 1, 2, 3, 4, 5, 6, 9, 10, 11, 12, 13, 14], [0, 1, 2, 3, 4, 5, 6, 7, 8, 9, 10, 11, 12, 13, 14, 15], [0, 1, 2, 3, 4, 5, 6, 7, 8, 9, 10, 11, 12, 13, 14, 15, 16], [0, 1, 2, 3, 4, 5, 6, 7, 8, 9, 10, 11, 12, 13, 14, 15, 16, 17], [0, 1, 2, 3, 4, 5, 6, 7, 8, 9, 10, 11, 12, 13, 14, 15, 16, 17, 18], [0, 1, 2, 3, 4, 5, 6, 7, 8, 9, 10, 11, 12, 13, 14, 15, 16, 17, 18, 19], [0, 1, 2, 3, 4, 5, 6, 7, 8, 9, 10, 11, 12, 13, 14, 15, 16, 17, 18, 19], [0, 1, 2, 3, 4, 5, 6, 7, 8, 9, 10, 11, 12, 13, 14, 15, 16, 17, 18, 19, 21], [0, 1, 2, 3, 4, 5, 6, 7, 8, 9, 10, 11, 12, 13, 14, 15, 16, 17, 18, 19, 20, 21, 22], [0, 1, 2, 3, 4, 5, 6, 7, 8, 9, 10, 11, 12, 13, 14, 15, 16, 17, 18, 19], [0, 1, 2, 3, 4, 5, 6, 7, 8, 9, 10, 11, 12, 13, 14, 15, 16, 17, 18, 19, 20, 21, 22, 23, 24], [0, 1, 2, 3, 4, 5, 6, 7, 8, 9, 10, 11, 12, 13, 14, 15, 16, 17, 18, 19, 20, 21, 22, 23, 24, 25]])
   (.cond (.tmp 47)
    (.seq (.ops [⟨some 2, .mov (.con (.bool false)), none, 0⟩])
     .ret)
    .skip))))
 (.ops [⟨some 14, .mov (.tmp 3), none, 0⟩,
   ⟨some 15, .bin .add (.tmp 14) (.con (.int .i64 1)), none, 0⟩,
   ⟨some 3, .mov (.tmp 15), none, 0⟩])))
def f_haulageref08_Right_s0 (t1 t3 : AV) : List AV := [.unk, t1, .unk, t3, .unk, .unk, .unk, .unk, .unk, .unk, .unk, .unk, .unk, .unk, .unk, .unk, .unk, .unk, .unk, .unk, .unk, .unk, .unk, .unk, .unk, .unk, .unk, .unk, .unk, .unk, .unk, .unk, .unk, .unk, .unk, .unk, .unk, .unk, .unk, .unk, .unk, .unk, .unk, .unk, .unk, .unk, .unk, .unk]
def f_haulageref08_Right : XFunc := { ntmps := 48, res := [.tmp 2], pure := true, body :=
  (.seq (.ops [⟨some 1, .box (.tmp 0), none, 0⟩,
     ⟨some 2, .mov (.con (.bool false)), none, 0⟩])
  (.seq (.seq (.ops [⟨some 5, .fieldAddr 0 (.tmp 1), none, 0⟩,
      ⟨some 6, .load 1 false (.tmp 5), none, 0⟩,
      ⟨some 7, .len (.tmp 6), none, 0⟩,
      ⟨some 8, .bin .gtr (.tmp 7) (.con (.int .i64 6)), none, 0⟩])
   (.cond (.tmp 8)
    (.seq (.ops [⟨some 2, .mov (.con (.bool false)), none, 0⟩])
     .ret)
    .skip))
  (.seq (.seq (.ops [⟨some 3, .mov (.con (.int .i64 0)), none, 0⟩])
   (.block 0
    (.loop f_haulageref08_Right_k0 f_haulageref08_Right_b0)))
  (.seq (.ops [⟨some 2, .mov (.con (.bool true)), none, 0⟩])
  .ret)))) }
def f_haulageref15_rising_k0 : List Bool := [false, true, true, false, false, true, false, false, false, false, false, false, false, false, false, false, false, false, false, false, false, false, false, false, false, false, false, false, false, false, false, false, false, false, false, false, false, false, false, false, false, false, false, false, false]
def f_haulageref15_rising_b0 : XCode :=
  (.seq (.seq (.ops [⟨some 6, .mov (.tmp 5), none, 0⟩,
     ⟨some 7, .mov (.tmp 1), none, 0⟩,
     ⟨some 8, .len (.tmp 7), none, 0⟩,
     ⟨some 9, .bin .lss (.tmp 6) (.tmp 8), none, 0⟩])
  (.cond (.tmp 9)
   .skip
   (.exit 0)))
 (.seq (.block 1
   (.seq (.seq (.draw [⟨some 12, .load 5 true (.tmp 2), none, 0⟩,
       ⟨some 13, .mov (.tmp 1), none, 0⟩,
       ⟨some 14, .mov (.tmp 5), none, 0⟩,
       ⟨some 15, .addrRow 1 (.tmp 13) (.tmp 14), none, 0⟩,
       ⟨some 16, .load 1 false (.tmp 15), none, 0⟩,
       ⟨some 17, .call (.fn 173) [(.tmp 12), (.tmp 16)], none, 0⟩,
       ⟨some 18, .bin .neq (.tmp 17) (.con (.int .i64 0)), none, 0⟩]
      [[], [], [], [1, 2], [1, 2, 3], [0, 1, 2, 3, 4], [0, 1, 2, 3, 4, 5]])
    (.cond (.tmp 18)
     (.seq (.ops [⟨some 4, .mov (.con (.bool false)), none, 0⟩])
      .ret)
     .skip))
   (.seq (.draw [⟨some 19, .mov (.tmp 5), none, 0⟩,
      ⟨some 20, .bin .gtr (.tmp 19) (.con (.int .i64 0)), none, 0⟩,
      ⟨some 21, .mov (.tmp 20), none, 0⟩,
      ⟨some 22, .mov (.tmp 1), some (21, true), 0⟩,
      ⟨some 23, .mov (.tmp 5), some (21, true), 0⟩,
      ⟨some 24, .bin .sub (.tmp 23) (.con (.int .i64 1)), some (21, true), 0⟩,
      ⟨some 25, .addrRow 1 (.tmp 22) (.tmp 24), some (21, true), 0⟩,
      ⟨some 26, .load 1 false (.tmp 25), some (21, true), 0⟩,
      ⟨some 27, .load 5 true (.tmp 2), some (21, true), 0⟩,
      ⟨some 28, .call (.fn 157) [(.tmp 27)], some (21, true), 0⟩,
      ⟨some 29, .addrRow 3 (.tmp 26) (.tmp 28), some (21, true), 0⟩,
      ⟨some 30, .load 3 true (.tmp 29), some (21, true), 0⟩,
      ⟨some 31, .mov (.tmp 1), some (21, true), 0⟩,
      ⟨some 32, .mov (.tmp 5), some (21, true), 0⟩,
      ⟨some 33, .addrRow 1 (.tmp 31) (.tmp 32), some (21, true), 0⟩,
      ⟨some 34, .load 1 false (.tmp 33), some (21, true), 0⟩,
      ⟨some 35, .load 5 true (.tmp 2), some (21, true), 0⟩,
      ⟨some 36, .call (.fn 157) [(.tmp 35)], some (21, true), 0⟩,
      ⟨some 37, .addrRow 3 (.tmp 34) (.tmp 36), some (21, true), 0⟩,
      ⟨some 38, .load 3 true (.tmp 37), some (21, true), 0⟩,
      ⟨some 39, .call (.fn 42) [(.tmp 30), (.tmp 38)], some (21, true), 0⟩,
      ⟨some 40, .bin .geq (.tmp 39) (.con (.int .i64 0)), some (21, true), 0⟩,
      ⟨some 41, .pick (.tmp 21) (.tmp 40) (.con (.bool false)), none, 0⟩]
     [[], [0], [0, 1], [0, 1, 2], [0, 1, 2], [0, 1, 2, 4], [0, 1, 2, 3, 4, 5], [0, 1, 2, 3, 4, 5, 6], [0, 1, 2], [0, 1, 2, 8], [0, 1, 2, 3, 4, 5, 6, 7, 8, 9], [0, 1, 2, 3, 4, 5, 6, 7, 8, 9, 10], [0, 1, 2], [0, 1, 2], [0, 1, 2, 12, 13], [0, 1, 2, 12, 13, 14], [0, 1, 2], [0, 1, 2, 8, 9, 16], [0, 1, 2, 8, 9, 12, 13, 14, 15, 16, 17], [0, 1, 2, 8, 9, 12, 13, 14, 15, 16, 17, 18], [0, 1, 2, 3, 4, 5, 6, 7, 8, 9, 10, 11, 12, 13, 14, 15, 16, 17, 18, 19], [0, 1, 2, 3, 4, 5, 6, 7, 8, 9, 10, 11, 12, 13, 14, 15, 16, 17, 18, 19, 20], [0, 1, 2, 3, 4, 5, 6, 7, 8, 9, 10, 11, 12, 13, 14, 15, 16, 17, 18, 19, 20, 21]])
   (.cond (.tmp 41)
    (.seq (.ops [⟨some 4, .mov (.con (.bool false)), none, 0⟩])
     .ret)
    .skip))))
 (.ops [⟨some 10, .mov (.tmp 5), none, 0⟩,
   ⟨some 11, .bin .add (.tmp 10) (.con (.int .i64 1)), none, 0⟩,
   ⟨some 5, .mov (.tmp 11), none, 0⟩])))
def f_haulageref15_rising_s0 (t1 t2 t5 : AV) : List AV := [.unk, t1, t2, .unk, .unk, t5, .unk, .unk, .unk, .unk, .unk, .unk, .unk, .unk, .unk, .unk, .unk, .unk, .unk, .unk, .unk, .unk, .unk, .unk, .unk, .unk, .unk, .unk, .unk, .unk, .unk, .unk, .unk, .unk, .unk, .unk, .unk, .unk, .unk, .unk, .unk, .unk, .unk, .unk, .unk]
def f_haulageref15_rising : XFunc := { ntmps := 45, res := [.tmp 4], pure := true, body :=
  (.seq (.ops [⟨some 2, .box (.tmp 0), none, 0⟩,
     ⟨some 4, .mov (.con (.bool false)), none, 0⟩])
  (.seq (.seq (.ops [⟨some 5, .mov (.con (.int .i64 0)), none, 0⟩])
   (.block 0
    (.loop f_haulageref15_rising_k0 f_haulageref15_rising_b0)))
  (.seq (.ops [⟨some 42, .mov (.tmp 1), none, 0⟩,
     ⟨some 43, .len (.tmp 42), none, 0⟩,
     ⟨some 44, .bin .leq (.tmp 43) (.con (.int .i64 200)), none, 0⟩,
     ⟨some 4, .mov (.tmp 44), none, 0⟩])
  .ret))) }
def f_haulageref15_Redo_k0 : List Bool := [false, false, true, true, true, false, true, true, false, true, true, false, false, false, false, false, false, false, false, false, false, false, false, false, false, false, false, false, false, false, false, false, false, false, false, false, false, false, false, false, false, false, false, false, false, false, false, false, false, false, false, false, false, false, false, false, false, false, false, false, false, false, false, false, false, false, false, false, false, false, false, false, false, false, false, false, false, false, false, false, false, false, false, false, false, false, false, false, false, false, false, false, false, false, false, false, false, false, false, false, false, false, false, false, false, false, false, false, false, false, false, false, false, false, false, false, false, false, false, false, false, false, false, false, false, false, false, false, false, false, false, false, false, false, false, false, false, false, false, false, false, false, false, false, false]
def f_haulageref15_Redo_b0 : XCode :=
  (.seq (.seq (.ops [⟨some 76, .mov (.tmp 10), none, 0⟩,
     ⟨some 77, .fieldAddr 6 (.tmp 3), none, 0⟩,
     ⟨some 78, .load 1 false (.tmp 77), none, 0⟩,
     ⟨some 79, .len (.tmp 78), none, 0⟩,
     ⟨some 80, .bin .lss (.tmp 76) (.tmp 79), none, 0⟩])
  (.cond (.tmp 80)
   .skip
   (.exit 0)))
 (.seq (.block 1
   (.seq (.seq (.draw [⟨some 83, .fieldAddr 6 (.tmp 3), none, 0⟩,
       ⟨some 84, .load 1 false (.tmp 83), none, 0⟩,
       ⟨some 85, .mov (.tmp 10), none, 0⟩,
       ⟨some 86, .addrRow 6 (.tmp 84) (.tmp 85), none, 0⟩,
       ⟨some 87, .fieldAddr 0 (.tmp 86), none, 0⟩,
       ⟨some 88, .load 1 false (.tmp 87), none, 0⟩,
       ⟨some 89, .fieldAddr 4 (.tmp 7), none, 0⟩,
       ⟨some 90, .load 1 false (.tmp 89), none, 0⟩,
       ⟨some 91, .mov (.tmp 10), none, 0⟩,
       ⟨some 92, .addrRow 8 (.tmp 90) (.tmp 91), none, 0⟩,
       ⟨some 93, .fieldAddr 1 (.tmp 92), none, 0⟩,
       ⟨some 94, .load 1 false (.tmp 93), none, 0⟩,
       ⟨some 95, .bin .neq (.tmp 88) (.tmp 94), none, 0⟩,
       ⟨some 96, .mov (.tmp 95), none, 0⟩,
       ⟨some 97, .fieldAddr 6 (.tmp 3), some (96, false), 0⟩,
       ⟨some 98, .load 1 false (.tmp 97), some (96, false), 0⟩,
       ⟨some 99, .mov (.tmp 10), some (96, false), 0⟩,
       ⟨some 100, .addrRow 6 (.tmp 98) (.tmp 99), some (96, false), 0⟩,
       ⟨some 101, .fieldAddr 1 (.tmp 100), some (96, false), 0⟩,
       ⟨some 102, .load 2 true (.tmp 101), some (96, false), 0⟩,
       ⟨some 103, .fieldAddr 4 (.tmp 7), some (96, false), 0⟩,
       ⟨some 104, .load 1 false (.tmp 103), some (96, false), 0⟩,
       ⟨some 105, .mov (.tmp 10), some (96, false), 0⟩,
       ⟨some 106, .addrRow 8 (.tmp 104) (.tmp 105), some (96, false), 0⟩,
       ⟨some 107, .fieldAddr 2 (.tmp 106), some (96, false), 0⟩,
       ⟨some 108, .load 2 true (.tmp 107), some (96, false), 0⟩,
       ⟨some 109, .eqA true (.struct [(0, 1, .int), (1, 1, .int)]) (.tmp 102) (.tmp 108), some (96, false), 0⟩,
       ⟨some 110, .pick (.tmp 96) (.con (.bool true)) (.tmp 109), none, 0⟩]
      [[], [0], [], [0, 1, 2], [0, 1, 2, 3], [0, 1, 2, 3, 4], [], [6], [], [6, 7, 8], [6, 7, 8, 9], [6, 7, 8, 9, 10], [0, 1, 2, 3, 4, 5, 6, 7, 8, 9, 10, 11], [0, 1, 2, 3, 4, 5, 6, 7, 8, 9, 10, 11, 12], [0, 1, 2, 3, 4, 5, 6, 7, 8, 9, 10, 11, 12, 13], [0, 1, 2, 3, 4, 5, 6, 7, 8, 9, 10, 11, 12, 13, 14], [0, 1, 2, 3, 4, 5, 6, 7, 8, 9, 10, 11, 12, 13], [0, 1, 2, 3, 4, 5, 6, 7, 8, 9, 10, 11, 12, 13, 14, 15, 16], [0, 1, 2, 3, 4, 5, 6, 7, 8, 9, 10, 11, 12, 13, 14, 15, 16, 17], [0, 1, 2, 3, 4, 5, 6, 7, 8, 9, 10, 11, 12, 13, 14, 15, 16, 17, 18], [0, 1, 2, 3, 4, 5, 6, 7, 8, 9, 10, 11, 12, 13], [0, 1, 2, 3, 4, 5, 6, 7, 8, 9, 10, 11, 12, 13, 20], [0, 1, 2, 3, 4, 5, 6, 7, 8, 9, 10, 11, 12, 13], [0, 1, 2, 3, 4, 5, 6, 7, 8, 9, 10, 11, 12, 13, 20, 21, 22], [0, 1, 2, 3, 4, 5, 6, 7, 8, 9, 10, 11, 12, 13, 20, 21, 22, 23], [0, 1, 2, 3, 4, 5, 6, 7, 8, 9, 10, 11, 12, 13, 20, 21, 22, 23, 24], [0, 1, 2, 3, 4, 5, 6, 7, 8, 9, 10, 11, 12, 13, 14, 15, 16, 17, 18, 19, 20, 21, 22, 23, 24, 25], [0, 1, 2, 3, 4, 5, 6, 7, 8, 9, 10, 11, 12, 13, 14, 15, 16, 17, 18, 19, 20, 21, 22, 23, 24, 25, 26]])
    (.cond (.tmp 110)
     (.seq (.ops [⟨some 111, .load 2 true (.tmp 2), none, 0⟩,
         ⟨none, .store 2 (.tmp 4) (.tmp 111), none, 0⟩,
         ⟨some 5, .mov (.con (.int .i64 5)), none, 0⟩])
      .ret)
     .skip))
   (.ops [⟨some 112, .mov (.tmp 9), none, 0⟩,
     ⟨some 113, .fieldAddr 6 (.tmp 3), none, 0⟩,
     ⟨some 114, .load 1 false (.tmp 113), none, 0⟩,
     ⟨some 115, .mov (.tmp 10), none, 0⟩,
     ⟨some 116, .addrRow 6 (.tmp 114) (.tmp 115), none, 0⟩,
     ⟨some 117, .fieldAddr 3 (.tmp 116), none, 0⟩,
     ⟨some 118, .load 3 true (.tmp 117), none, 0⟩,
     ⟨some 119, .rowVals 3 1 [.int .i64 0, .int .i64 0, .str []] [(0, 3, (.tmp 118))], none, 0⟩,
     ⟨some 120, .append false 3 32 (.tmp 112) (.tmp 119), none, 0⟩,
     ⟨some 9, .mov (.tmp 120), none, 0⟩])))
 (.ops [⟨some 81, .mov (.tmp 10), none, 0⟩,
   ⟨some 82, .bin .add (.tmp 81) (.con (.int .i64 1)), none, 0⟩,
   ⟨some 10, .mov (.tmp 82), none, 0⟩])))
def f_haulageref15_Redo_s0 (t2 t3 t4 t6 t7 t9 t10 : AV) : List AV := [.unk, .unk, t2, t3, t4, .unk, t6, t7, .unk, t9, t10, .unk, .unk, .unk, .unk, .unk, .unk, .unk, .unk, .unk, .unk, .unk, .unk, .unk, .unk, .unk, .unk, .unk, .unk, .unk, .unk, .unk, .unk, .unk, .unk, .unk, .unk, .unk, .unk, .unk, .unk, .unk, .unk, .unk, .unk, .unk, .unk, .unk, .unk, .unk, .unk, .unk, .unk, .unk, .unk, .unk, .unk, .unk, .unk, .unk, .unk, .unk, .unk, .unk, .unk, .unk, .unk, .unk, .unk, .unk, .unk, .unk, .unk, .unk, .unk, .unk, .unk, .unk, .unk, .unk, .unk, .unk, .unk, .unk, .unk, .unk, .unk, .unk, .unk, .unk, .unk, .unk, .unk, .unk, .unk, .unk, .unk, .unk, .unk, .unk, .unk, .unk, .unk, .unk, .unk, .unk, .unk, .unk, .unk, .unk, .unk, .unk, .unk, .unk, .unk, .unk, .unk, .unk, .unk, .unk, .unk, .unk, .unk, .unk, .unk, .unk, .unk, .unk, .unk, .unk, .unk, .unk, .unk, .unk, .unk, .unk, .unk, .unk, .unk, .unk, .unk, .unk, .unk, .unk, .unk]
def f_haulageref15_Redo : XFunc := { ntmps := 145, res := [.cell 4 2 true, .tmp 5], pure := true, body :=
  (.seq (.ops [⟨some 2, .box (.tmp 0), none, 0⟩,
     ⟨some 3, .box (.tmp 1), none, 0⟩,
     ⟨some 4, .alloc [.nils, .nils], none, 0⟩,
     ⟨some 5, .mov (.con (.int .i64 0)), none, 0⟩])
  (.seq (.seq (.ops [⟨some 12, .load 19 true (.tmp 3), none, 0⟩,
      ⟨some 13, .call (.fn 164) [(.tmp 12)], none, 0⟩,
      ⟨some 14, .un .not (.tmp 13), none, 0⟩])
   (.cond (.tmp 14)
    (.seq (.ops [⟨some 15, .load 2 true (.tmp 2), none, 0⟩,
        ⟨none, .store 2 (.tmp 4) (.tmp 15), none, 0⟩,
        ⟨some 5, .mov (.con (.int .i64 2)), none, 0⟩])
     .ret)
    .skip))
  (.seq (.seq (.ops [⟨some 16, .fieldAddr 0 (.tmp 3), none, 0⟩,
      ⟨some 17, .load 1 false (.tmp 16), none, 0⟩,
      ⟨some 18, .bin .eql (.tmp 17) (.con (.int .i64 4)), none, 0⟩])
   (.cond (.tmp 18)
    (.seq (.ops [⟨some 19, .load 2 true (.tmp 2), none, 0⟩,
        ⟨some 20, .fieldAddr 7 (.tmp 3), none, 0⟩,
        ⟨some 21, .load 12 true (.tmp 20), none, 0⟩,
        ⟨some 22, .fieldAddr 1 (.tmp 3), none, 0⟩,
        ⟨some 23, .load 1 false (.tmp 22), none, 0⟩,
        ⟨some 24, .call (.fn 153) [(.tmp 19), (.tmp 21), (.tmp 23)], none, 0⟩,
        ⟨some 25, .extract (.tmp 24) 0, none, 0⟩,
        ⟨some 26, .extract (.tmp 24) 1, none, 0⟩,
        ⟨none, .store 2 (.tmp 4) (.tmp 25), none, 0⟩,
        ⟨some 5, .mov (.tmp 26), none, 0⟩])
     .ret)
    .skip))
  (.seq (.ops [⟨some 27, .fieldAddr 0 (.tmp 2), none, 0⟩,
     ⟨some 28, .load 1 true (.tmp 27), none, 0⟩,
     ⟨some 29, .fieldAddr 2 (.tmp 3), none, 0⟩,
     ⟨some 30, .load 1 false (.tmp 29), none, 0⟩,
     ⟨some 31, .call (.fn 154) [(.tmp 28), (.tmp 30)], none, 0⟩,
     ⟨some 6, .mov (.tmp 31), none, 0⟩])
  (.seq (.seq (.ops [⟨some 32, .mov (.tmp 6), none, 0⟩,
      ⟨some 33, .bin .lss (.tmp 32) (.con (.int .i64 0)), none, 0⟩])
   (.cond (.tmp 33)
    (.seq (.ops [⟨some 34, .load 2 true (.tmp 2), none, 0⟩,
        ⟨none, .store 2 (.tmp 4) (.tmp 34), none, 0⟩,
        ⟨some 5, .mov (.con (.int .i64 12)), none, 0⟩])
     .ret)
    .skip))
  (.seq (.ops [⟨some 35, .fieldAddr 0 (.tmp 2), none, 0⟩,
     ⟨some 36, .fieldAddr 0 (.tmp 35), none, 0⟩,
     ⟨some 37, .load 1 false (.tmp 36), none, 0⟩,
     ⟨some 38, .mov (.tmp 6), none, 0⟩,
     ⟨some 39, .addrRow 5 (.tmp 37) (.tmp 38), none, 0⟩,
     ⟨some 40, .load 5 true (.tmp 39), none, 0⟩,
     ⟨some 7, .alloc [.int .i64 0, .str [], .int .i64 0, .int .i64 0, .nils], none, 0⟩,
     ⟨none, .store 5 (.tmp 7) (.tmp 40), none, 0⟩])
  (.seq (.seq (.ops [⟨some 41, .fieldAddr 0 (.tmp 3), none, 0⟩,
      ⟨some 42, .load 1 false (.tmp 41), none, 0⟩,
      ⟨some 43, .bin .eql (.tmp 42) (.con (.int .i64 3)), none, 0⟩])
   (.cond (.tmp 43)
    (.seq (.draw [⟨some 44, .load 5 true (.tmp 7), none, 0⟩,
        ⟨some 45, .fieldAddr 1 (.tmp 2), none, 0⟩,
        ⟨some 46, .load 1 false (.tmp 45), none, 0⟩,
        ⟨some 47, .mov (.tmp 6), none, 0⟩,
        ⟨some 48, .addrRow 2 (.tmp 46) (.tmp 47), none, 0⟩,
        ⟨some 49, .fieldAddr 1 (.tmp 48), none, 0⟩,
        ⟨some 50, .load 1 false (.tmp 49), none, 0⟩,
        ⟨some 51, .fieldAddr 3 (.tmp 3), none, 0⟩,
        ⟨some 52, .load 3 true (.tmp 51), none, 0⟩,
        ⟨some 53, .call (.fn 159) [(.tmp 44), (.tmp 50), (.tmp 52)], none, 0⟩,
        ⟨some 8, .mov (.tmp 53), none, 0⟩]
       [[], [], [1], [], [1, 2, 3], [1, 2, 3, 4], [1, 2, 3, 4, 5], [], [7], [0, 1, 2, 3, 4, 5, 6, 7, 8], [0, 1, 2, 3, 4, 5, 6, 7, 8, 9]])
     (.seq (.seq (.ops [⟨some 54, .mov (.tmp 8), none, 0⟩,
         ⟨some 55, .bin .lss (.tmp 54) (.con (.int .i64 0)), none, 0⟩])
      (.cond (.tmp 55)
       (.seq (.ops [⟨some 56, .load 2 true (.tmp 2), none, 0⟩,
           ⟨none, .store 2 (.tmp 4) (.tmp 56), none, 0⟩,
           ⟨some 5, .mov (.con (.int .i64 18)), none, 0⟩])
        .ret)
       .skip))
     (.seq (.draw [⟨some 57, .load 2 true (.tmp 2), none, 0⟩,
        ⟨some 58, .mov (.tmp 6), none, 0⟩,
        ⟨some 59, .fieldAddr 1 (.tmp 2), none, 0⟩,
        ⟨some 60, .load 1 false (.tmp 59), none, 0⟩,
        ⟨some 61, .mov (.tmp 6), none, 0⟩,
        ⟨some 62, .addrRow 2 (.tmp 60) (.tmp 61), none, 0⟩,
        ⟨some 63, .fieldAddr 1 (.tmp 62), none, 0⟩,
        ⟨some 64, .load 1 false (.tmp 63), none, 0⟩,
        ⟨some 65, .mov (.tmp 8), none, 0⟩,
        ⟨some 66, .call (.fn 160) [(.tmp 64), (.tmp 65)], none, 0⟩,
        ⟨some 67, .call (.fn 161) [(.tmp 57), (.tmp 58), (.tmp 66)], none, 0⟩,
        ⟨none, .store 2 (.tmp 4) (.tmp 67), none, 2⟩,
        ⟨some 5, .mov (.con (.int .i64 0)), none, 0⟩]
       [[], [], [], [2], [], [2, 3, 4], [2, 3, 4, 5], [2, 3, 4, 5, 6], [], [2, 3, 4, 5, 6, 7, 8], [0, 1, 2, 3, 4, 5, 6, 7, 8, 9], [0, 1, 2, 3, 4, 5, 6, 7, 8, 9, 10], [0, 1, 2, 3, 4, 5, 6, 7, 8, 9, 10, 11]])
     .ret)))
    .skip))
  (.seq (.seq (.ops [⟨some 68, .fieldAddr 6 (.tmp 3), none, 0⟩,
      ⟨some 69, .load 1 false (.tmp 68), none, 0⟩,
      ⟨some 70, .len (.tmp 69), none, 0⟩,
      ⟨some 71, .fieldAddr 4 (.tmp 7), none, 0⟩,
      ⟨some 72, .load 1 false (.tmp 71), none, 0⟩,
      ⟨some 73, .len (.tmp 72), none, 0⟩,
      ⟨some 74, .bin .neq (.tmp 70) (.tmp 73), none, 0⟩])
   (.cond (.tmp 74)
    (.seq (.ops [⟨some 75, .load 2 true (.tmp 2), none, 0⟩,
        ⟨none, .store 2 (.tmp 4) (.tmp 75), none, 0⟩,
        ⟨some 5, .mov (.con (.int .i64 5)), none, 0⟩])
     .ret)
    .skip))
  (.seq (.ops [⟨some 9, .mov (.con .nils), none, 0⟩])
  (.seq (.seq (.ops [⟨some 10, .mov (.con (.int .i64 0)), none, 0⟩])
   (.block 0
    (.loop f_haulageref15_Redo_k0 f_haulageref15_Redo_b0)))
  (.seq (.seq (.ops [⟨some 121, .load 5 true (.tmp 7), none, 0⟩,
      ⟨some 122, .mov (.tmp 9), none, 0⟩,
      ⟨some 123, .call (.fn 173) [(.tmp 121), (.tmp 122)], none, 0⟩,
      ⟨some 11, .mov (.tmp 123), none, 0⟩])
   (.seq (.ops [⟨some 124, .mov (.tmp 11), none, 0⟩,
      ⟨some 125, .bin .neq (.tmp 124) (.con (.int .i64 0)), none, 0⟩])
   (.cond (.tmp 125)
    (.seq (.ops [⟨some 126, .load 2 true (.tmp 2), none, 0⟩,
        ⟨some 127, .mov (.tmp 11), none, 0⟩,
        ⟨none, .store 2 (.tmp 4) (.tmp 126), none, 0⟩,
        ⟨some 5, .mov (.tmp 127), none, 0⟩])
     .ret)
    .skip)))
  (.seq (.seq (.draw [⟨some 128, .mov (.tmp 9), none, 0⟩,
      ⟨some 129, .load 5 true (.tmp 7), none, 0⟩,
      ⟨some 130, .call (.fn 157) [(.tmp 129)], none, 0⟩,
      ⟨some 131, .addrRow 3 (.tmp 128) (.tmp 130), none, 0⟩,
      ⟨some 132, .load 3 true (.tmp 131), none, 0⟩,
      ⟨some 133, .fieldAddr 3 (.tmp 3), none, 0⟩,
      ⟨some 134, .load 3 true (.tmp 133), none, 0⟩,
      ⟨some 135, .eqA true (.struct [(0, 1, .int), (1, 1, .int), (2, 1, .str)]) (.tmp 132) (.tmp 134), none, 0⟩]
     [[], [], [1], [0, 1, 2], [0, 1, 2, 3], [], [5], [0, 1, 2, 3, 4, 5, 6]])
   (.cond (.tmp 135)
    (.seq (.ops [⟨some 136, .load 2 true (.tmp 2), none, 0⟩,
        ⟨none, .store 2 (.tmp 4) (.tmp 136), none, 0⟩,
        ⟨some 5, .mov (.con (.int .i64 15)), none, 0⟩])
     .ret)
    .skip))
  (.seq (.ops [⟨some 137, .load 2 true (.tmp 2), none, 0⟩,
     ⟨some 138, .mov (.tmp 6), none, 0⟩,
     ⟨some 139, .fieldAddr 0 (.tmp 3), none, 0⟩,
     ⟨some 140, .load 1 false (.tmp 139), none, 0⟩,
     ⟨some 141, .mov (.tmp 9), none, 0⟩,
     ⟨some 142, .call (.fn 156) [(.tmp 137), (.tmp 138), (.tmp 140), (.tmp 141)], none, 0⟩,
     ⟨some 143, .extract (.tmp 142) 0, none, 0⟩,
     ⟨some 144, .extract (.tmp 142) 1, none, 0⟩,
     ⟨none, .store 2 (.tmp 4) (.tmp 143), none, 0⟩,
     ⟨some 5, .mov (.tmp 144), none, 0⟩])
  .ret))))))))))))) }
def f_haulageref08_Same_k0 : List Bool := [false, false, true, true, false, true, false, false, false, false, false, false, false, false, false, false, false, false, false, false, false, false, false, false, false, false, false, false, false, false, false, false]
def f_haulageref08_Same_b0 : XCode :=
  (.seq (.seq (.ops [⟨some 13, .mov (.tmp 5), none, 0⟩,
     ⟨some 14, .fieldAddr 0 (.tmp 2), none, 0⟩,
     ⟨some 15, .load 1 false (.tmp 14), none, 0⟩,
     ⟨some 16, .len (.tmp 15), none, 0⟩,
     ⟨some 17, .bin .lss (.tmp 13) (.tmp 16), none, 0⟩])
  (.cond (.tmp 17)
   .skip
   (.exit 0)))
 (.seq (.block 1
   (.seq (.draw [⟨some 20, .fieldAddr 0 (.tmp 2), none, 0⟩,
      ⟨some 21, .load 1 false (.tmp 20), none, 0⟩,
      ⟨some 22, .mov (.tmp 5), none, 0⟩,
      ⟨some 23, .addrRow 5 (.tmp 21) (.tmp 22), none, 0⟩,
      ⟨some 24, .load 5 true (.tmp 23), none, 0⟩,
      ⟨some 25, .fieldAddr 0 (.tmp 3), none, 0⟩,
      ⟨some 26, .load 1 false (.tmp 25), none, 0⟩,
      ⟨some 27, .mov (.tmp 5), none, 0⟩,
      ⟨some 28, .addrRow 5 (.tmp 26) (.tmp 27), none, 0⟩,
      ⟨some 29, .load 5 true (.tmp 28), none, 0⟩,
      ⟨some 30, .call (.fn 175) [(.tmp 24), (.tmp 29)], none, 0⟩,
      ⟨some 31, .un .not (.tmp 30), none, 0⟩]
     [[], [0], [], [0, 1, 2], [0, 1, 2, 3], [], [5], [], [5, 6, 7], [5, 6, 7, 8], [0, 1, 2, 3, 4, 5, 6, 7, 8, 9], [0, 1, 2, 3, 4, 5, 6, 7, 8, 9, 10]])
   (.cond (.tmp 31)
    (.seq (.ops [⟨some 4, .mov (.con (.bool false)), none, 0⟩])
     .ret)
    .skip)))
 (.ops [⟨some 18, .mov (.tmp 5), none, 0⟩,
   ⟨some 19, .bin .add (.tmp 18) (.con (.int .i64 1)), none, 0⟩,
   ⟨some 5, .mov (.tmp 19), none, 0⟩])))
def f_haulageref08_Same_s0 (t2 t3 t5 : AV) : List AV := [.unk, .unk, t2, t3, .unk, t5, .unk, .unk, .unk, .unk, .unk, .unk, .unk, .unk, .unk, .unk, .unk, .unk, .unk, .unk, .unk, .unk, .unk, .unk, .unk, .unk, .unk, .unk, .unk, .unk, .unk, .unk]
def f_haulageref08_Same : XFunc := { ntmps := 32, res := [.tmp 4], pure := true, body :=
  (.seq (.ops [⟨some 2, .box (.tmp 0), none, 0⟩,
     ⟨some 3, .box (.tmp 1), none, 0⟩,
     ⟨some 4, .mov (.con (.bool false)), none, 0⟩])
  (.seq (.seq (.ops [⟨some 6, .fieldAddr 0 (.tmp 2), none, 0⟩,
      ⟨some 7, .load 1 false (.tmp 6), none, 0⟩,
      ⟨some 8, .len (.tmp 7), none, 0⟩,
      ⟨some 9, .fieldAddr 0 (.tmp 3), none, 0⟩,
      ⟨some 10, .load 1 false (.tmp 9), none, 0⟩,
      ⟨some 11, .len (.tmp 10), none, 0⟩,
      ⟨some 12, .bin .neq (.tmp 8) (.tmp 11), none, 0⟩])
   (.cond (.tmp 12)
    (.seq (.ops [⟨some 4, .mov (.con (.bool false)), none, 0⟩])
     .ret)
    .skip))
  (.seq (.seq (.ops [⟨some 5, .mov (.con (.int .i64 0)), none, 0⟩])
   (.block 0
    (.loop f_haulageref08_Same_k0 f_haulageref08_Same_b0)))
  (.seq (.ops [⟨some 4, .mov (.con (.bool true)), none, 0⟩])
  .ret)))) }
def f_haulageref15_SameRows_k0 : List Bool := [true, true, false, false, false, true, false, false, false, false, false, false, false, false, false, false, false, false, false, false, false, false, false, false, false, false, false]
def f_haulageref15_SameRows_b0 : XCode :=
  (.seq (.seq (.ops [⟨some 11, .mov (.tmp 5), none, 0⟩,
     ⟨some 12, .mov (.tmp 0), none, 0⟩,
     ⟨some 13, .len (.tmp 12), none, 0⟩,
     ⟨some 14, .bin .lss (.tmp 11) (.tmp 13), none, 0⟩])
  (.cond (.tmp 14)
   .skip
   (.exit 0)))
 (.seq (.block 1
   (.seq (.draw [⟨some 17, .mov (.tmp 0), none, 0⟩,
      ⟨some 18, .mov (.tmp 5), none, 0⟩,
      ⟨some 19, .addrRow 1 (.tmp 17) (.tmp 18), none, 0⟩,
      ⟨some 20, .load 1 false (.tmp 19), none, 0⟩,
      ⟨some 21, .mov (.tmp 1), none, 0⟩,
      ⟨some 22, .mov (.tmp 5), none, 0⟩,
      ⟨some 23, .addrRow 1 (.tmp 21) (.tmp 22), none, 0⟩,
      ⟨some 24, .load 1 false (.tmp 23), none, 0⟩,
      ⟨some 25, .call (.fn 176) [(.tmp 20), (.tmp 24)], none, 0⟩,
      ⟨some 26, .un .not (.tmp 25), none, 0⟩]
     [[], [], [0, 1], [0, 1, 2], [], [], [4, 5], [4, 5, 6], [0, 1, 2, 3, 4, 5, 6, 7], [0, 1, 2, 3, 4, 5, 6, 7, 8]])
   (.cond (.tmp 26)
    (.seq (.ops [⟨some 4, .mov (.con (.bool false)), none, 0⟩])
     .ret)
    .skip)))
 (.ops [⟨some 15, .mov (.tmp 5), none, 0⟩,
   ⟨some 16, .bin .add (.tmp 15) (.con (.int .i64 1)), none, 0⟩,
   ⟨some 5, .mov (.tmp 16), none, 0⟩])))
def f_haulageref15_SameRows_s0 (t0 t1 t5 : AV) : List AV := [t0, t1, .unk, .unk, .unk, t5, .unk, .unk, .unk, .unk, .unk, .unk, .unk, .unk, .unk, .unk, .unk, .unk, .unk, .unk, .unk, .unk, .unk, .unk, .unk, .unk, .unk]
def f_haulageref15_SameRows : XFunc := { ntmps := 27, res := [.tmp 4], pure := true, body :=
  (.seq (.ops [⟨some 4, .mov (.con (.bool false)), none, 0⟩])
  (.seq (.seq (.ops [⟨some 6, .mov (.tmp 0), none, 0⟩,
      ⟨some 7, .len (.tmp 6), none, 0⟩,
      ⟨some 8, .mov (.tmp 1), none, 0⟩,
      ⟨some 9, .len (.tmp 8), none, 0⟩,
      ⟨some 10, .bin .neq (.tmp 7) (.tmp 9), none, 0⟩])
   (.cond (.tmp 10)
    (.seq (.ops [⟨some 4, .mov (.con (.bool false)), none, 0⟩])
     .ret)
    .skip))
  (.seq (.seq (.ops [⟨some 5, .mov (.con (.int .i64 0)), none, 0⟩])
   (.block 0
    (.loop f_haulageref15_SameRows_k0 f_haulageref15_SameRows_b0)))
  (.seq (.ops [⟨some 4, .mov (.con (.bool true)), none, 0⟩])
  .ret)))) }
def f_haulageref15_change_k0 : List Bool := [false, false, false, true, false, false, true, false, true, false, true, true, false, false, false, false, false, false, false, false, false, false, false, false, false, false, false, false, false, false, false, false, false, false, false, false, false, false, false, false, false, false, false, false, false, false, false, false, false, false, false, false, false, false, false, false, false, false, false, false, false, false, false, false, false, false, false, false, false, false, false, false, false]
def f_haulageref15_change_b0 : XCode :=
  (.seq (.seq (.ops [⟨some 29, .mov (.tmp 11), none, 0⟩,
     ⟨some 30, .fieldAddr 0 (.tmp 8), none, 0⟩,
     ⟨some 31, .load 1 false (.tmp 30), none, 0⟩,
     ⟨some 32, .len (.tmp 31), none, 0⟩,
     ⟨some 33, .bin .lss (.tmp 29) (.tmp 32), none, 0⟩])
  (.cond (.tmp 33)
   .skip
   (.exit 0)))
 (.seq (.block 1
   (.seq (.ops [⟨some 36, .fieldAddr 0 (.tmp 8), none, 0⟩,
      ⟨some 37, .load 1 false (.tmp 36), none, 0⟩,
      ⟨some 38, .mov (.tmp 11), none, 0⟩,
      ⟨some 39, .addrRow 5 (.tmp 37) (.tmp 38), none, 0⟩,
      ⟨some 40, .load 5 true (.tmp 39), none, 0⟩,
      ⟨some 12, .alloc [.int .i64 0, .str [], .int .i64 0, .int .i64 0, .nils], none, 0⟩,
      ⟨none, .store 5 (.tmp 12) (.tmp 40), none, 0⟩])
   (.seq (.ops [⟨some 41, .fieldAddr 0 (.tmp 12), none, 0⟩,
      ⟨some 42, .load 1 false (.tmp 41), none, 0⟩,
      ⟨some 43, .build [.int .i64 0, .nils] [(0, 1, (.tmp 42))], none, 0⟩,
      ⟨some 13, .alloc [.int .i64 0, .nils], none, 0⟩,
      ⟨none, .store 2 (.tmp 13) (.tmp 43), none, 0⟩])
   (.seq (.seq (.ops [⟨some 44, .fieldAddr 0 (.tmp 3), none, 0⟩,
       ⟨some 45, .load 1 true (.tmp 44), none, 0⟩,
       ⟨some 46, .fieldAddr 0 (.tmp 12), none, 0⟩,
       ⟨some 47, .load 1 false (.tmp 46), none, 0⟩,
       ⟨some 48, .call (.fn 180) [(.tmp 45), (.tmp 47)], none, 0⟩,
       ⟨some 14, .mov (.tmp 48), none, 0⟩])
    (.seq (.ops [⟨some 49, .mov (.tmp 14), none, 0⟩,
       ⟨some 50, .bin .geq (.tmp 49) (.con (.int .i64 0)), none, 0⟩])
    (.cond (.tmp 50)
     (.draw [⟨some 51, .fieldAddr 0 (.tmp 3), none, 0⟩,
        ⟨some 52, .fieldAddr 0 (.tmp 51), none, 0⟩,
        ⟨some 53, .load 1 false (.tmp 52), none, 0⟩,
        ⟨some 54, .mov (.tmp 14), none, 0⟩,
        ⟨some 55, .addrRow 5 (.tmp 53) (.tmp 54), none, 0⟩,
        ⟨some 56, .load 5 true (.tmp 55), none, 0⟩,
        ⟨some 57, .load 5 true (.tmp 12), none, 0⟩,
        ⟨some 58, .fieldAddr 1 (.tmp 3), none, 0⟩,
        ⟨some 59, .load 1 false (.tmp 58), none, 0⟩,
        ⟨some 60, .mov (.tmp 14), none, 0⟩,
        ⟨some 61, .addrRow 2 (.tmp 59) (.tmp 60), none, 0⟩,
        ⟨some 62, .fieldAddr 1 (.tmp 61), none, 0⟩,
        ⟨some 63, .load 1 false (.tmp 62), none, 0⟩,
        ⟨some 64, .call (.fn 181) [(.tmp 56), (.tmp 57), (.tmp 63)], none, 0⟩,
        ⟨some 65, .fieldAddr 1 (.tmp 13), none, 0⟩,
        ⟨none, .store 1 (.tmp 65) (.tmp 64), none, 2⟩]
       [[], [0], [0, 1], [], [0, 1, 2, 3], [0, 1, 2, 3, 4], [], [], [7], [], [7, 8, 9], [7, 8, 9, 10], [7, 8, 9, 10, 11], [0, 1, 2, 3, 4, 5, 6, 7, 8, 9, 10, 11, 12], [0, 1, 2, 3, 4, 5, 6, 7, 8, 9, 10, 11, 12, 13], [0, 1, 2, 3, 4, 5, 6, 7, 8, 9, 10, 11, 12, 13, 14]])
     .skip)))
   (.ops [⟨some 66, .fieldAddr 1 (.tmp 10), none, 0⟩,
     ⟨some 67, .load 1 false (.tmp 66), none, 0⟩,
     ⟨some 68, .load 2 true (.tmp 13), none, 0⟩,
     ⟨some 69, .rowVals 2 1 [.int .i64 0, .nils] [(0, 2, (.tmp 68))], none, 0⟩,
     ⟨some 70, .append false 2 32 (.tmp 67) (.tmp 69), none, 0⟩,
     ⟨some 71, .fieldAddr 1 (.tmp 10), none, 0⟩,
     ⟨none, .store 1 (.tmp 71) (.tmp 70), none, 0⟩])))))
 (.ops [⟨some 34, .mov (.tmp 11), none, 0⟩,
   ⟨some 35, .bin .add (.tmp 34) (.con (.int .i64 1)), none, 0⟩,
   ⟨some 11, .mov (.tmp 35), none, 0⟩])))
def f_haulageref15_change_s0 (t3 t6 t8 t10 t11 : AV) : List AV := [.unk, .unk, .unk, t3, .unk, .unk, t6, .unk, t8, .unk, t10, t11, .unk, .unk, .unk, .unk, .unk, .unk, .unk, .unk, .unk, .unk, .unk, .unk, .unk, .unk, .unk, .unk, .unk, .unk, .unk, .unk, .unk, .unk, .unk, .unk, .unk, .unk, .unk, .unk, .unk, .unk, .unk, .unk, .unk, .unk, .unk, .unk, .unk, .unk, .unk, .unk, .unk, .unk, .unk, .unk, .unk, .unk, .unk, .unk, .unk, .unk, .unk, .unk, .unk, .unk, .unk, .unk, .unk, .unk, .unk, .unk, .unk]
def f_haulageref15_change : XFunc := { ntmps := 73, res := [.cell 6 2 true, .tmp 7], pure := true, body :=
  (.seq (.ops [⟨some 3, .box (.tmp 0), none, 0⟩,
     ⟨some 4, .box (.tmp 1), none, 0⟩,
     ⟨some 6, .alloc [.nils, .nils], none, 0⟩,
     ⟨some 7, .mov (.con (.int .i64 0)), none, 0⟩])
  (.seq (.ops [⟨some 16, .fieldAddr 0 (.tmp 3), none, 0⟩,
     ⟨some 17, .load 1 true (.tmp 16), none, 0⟩,
     ⟨some 18, .load 12 true (.tmp 4), none, 0⟩,
     ⟨some 19, .mov (.tmp 2), none, 0⟩,
     ⟨some 20, .call (.fn 179) [(.tmp 17), (.tmp 18), (.tmp 19)], none, 0⟩,
     ⟨some 15, .mov (.tmp 20), none, 0⟩,
     ⟨some 21, .extract (.tmp 15) 0, none, 0⟩,
     ⟨some 22, .extract (.tmp 15) 1, none, 0⟩,
     ⟨some 8, .alloc [.nils], none, 0⟩,
     ⟨none, .store 1 (.tmp 8) (.tmp 21), none, 0⟩,
     ⟨some 9, .mov (.tmp 22), none, 0⟩])
  (.seq (.seq (.ops [⟨some 23, .mov (.tmp 9), none, 0⟩,
      ⟨some 24, .bin .neq (.tmp 23) (.con (.int .i64 0)), none, 0⟩])
   (.cond (.tmp 24)
    (.seq (.ops [⟨some 25, .load 2 true (.tmp 3), none, 0⟩,
        ⟨some 26, .mov (.tmp 9), none, 0⟩,
        ⟨none, .store 2 (.tmp 6) (.tmp 25), none, 0⟩,
        ⟨some 7, .mov (.tmp 26), none, 0⟩])
     .ret)
    .skip))
  (.seq (.ops [⟨some 27, .load 1 true (.tmp 8), none, 0⟩,
     ⟨some 28, .build [.nils, .nils] [(0, 1, (.tmp 27))], none, 0⟩,
     ⟨some 10, .alloc [.nils, .nils], none, 0⟩,
     ⟨none, .store 2 (.tmp 10) (.tmp 28), none, 0⟩])
  (.seq (.seq (.ops [⟨some 11, .mov (.con (.int .i64 0)), none, 0⟩])
   (.block 0
    (.loop f_haulageref15_change_k0 f_haulageref15_change_b0)))
  (.seq (.ops [⟨some 72, .load 2 true (.tmp 10), none, 0⟩,
     ⟨none, .store 2 (.tmp 6) (.tmp 72), none, 0⟩,
     ⟨some 7, .mov (.con (.int .i64 0)), none, 0⟩])
  .ret)))))) }
def f_haulageref08_Find_k0 : List Bool := [false, true, true, false, false, true, false, false, false, false, false, false, false, false, false, false, false, false, false, false, false, false]
def f_haulageref08_Find_b0 : XCode :=
  (.seq (.seq (.ops [⟨some 6, .mov (.tmp 5), none, 0⟩,
     ⟨some 7, .fieldAddr 0 (.tmp 2), none, 0⟩,
     ⟨some 8, .load 1 false (.tmp 7), none, 0⟩,
     ⟨some 9, .len (.tmp 8), none, 0⟩,
     ⟨some 10, .bin .lss (.tmp 6) (.tmp 9), none, 0⟩])
  (.cond (.tmp 10)
   .skip
   (.exit 0)))
 (.seq (.block 1
   (.seq (.ops [⟨some 13, .fieldAddr 0 (.tmp 2), none, 0⟩,
      ⟨some 14, .load 1 false (.tmp 13), none, 0⟩,
      ⟨some 15, .mov (.tmp 5), none, 0⟩,
      ⟨some 16, .addrRow 5 (.tmp 14) (.tmp 15), none, 0⟩,
      ⟨some 17, .fieldAddr 1 (.tmp 16), none, 0⟩,
      ⟨some 18, .load 1 false (.tmp 17), none, 0⟩,
      ⟨some 19, .mov (.tmp 1), none, 0⟩,
      ⟨some 20, .bin .eql (.tmp 18) (.tmp 19), none, 0⟩])
   (.cond (.tmp 20)
    (.seq (.ops [⟨some 21, .mov (.tmp 5), none, 0⟩,
        ⟨some 4, .mov (.tmp 21), none, 0⟩])
     .ret)
    .skip)))
 (.ops [⟨some 11, .mov (.tmp 5), none, 0⟩,
   ⟨some 12, .bin .add (.tmp 11) (.con (.int .i64 1)), none, 0⟩,
   ⟨some 5, .mov (.tmp 12), none, 0⟩])))
def f_haulageref08_Find_s0 (t1 t2 t5 : AV) : List AV := [.unk, t1, t2, .unk, .unk, t5, .unk, .unk, .unk, .unk, .unk, .unk, .unk, .unk, .unk, .unk, .unk, .unk, .unk, .unk, .unk, .unk]
def f_haulageref08_Find : XFunc := { ntmps := 22, res := [.tmp 4], pure := true, body :=
  (.seq (.ops [⟨some 2, .box (.tmp 0), none, 0⟩,
     ⟨some 4, .mov (.con (.int .i64 0)), none, 0⟩])
  (.seq (.seq (.ops [⟨some 5, .mov (.con (.int .i64 0)), none, 0⟩])
   (.block 0
    (.loop f_haulageref08_Find_k0 f_haulageref08_Find_b0)))
  (.seq (.ops [⟨some 4, .mov (.con (.int .i64 (-1))), none, 0⟩])
  .ret))) }
def f_haulageref15_row : XFunc := { ntmps := 65, res := [.cell 8 2 true, .tmp 9], pure := true, body :=
  (.seq (.ops [⟨some 4, .box (.tmp 0), none, 0⟩,
     ⟨some 8, .alloc [.nils, .nils], none, 0⟩,
     ⟨some 9, .mov (.con (.int .i64 0)), none, 0⟩])
  (.seq (.ops [⟨some 13, .fieldAddr 0 (.tmp 4), none, 0⟩,
     ⟨some 14, .fieldAddr 0 (.tmp 13), none, 0⟩,
     ⟨some 15, .load 1 false (.tmp 14), none, 0⟩,
     ⟨some 16, .mov (.tmp 1), none, 0⟩,
     ⟨some 17, .addrRow 5 (.tmp 15) (.tmp 16), none, 0⟩,
     ⟨some 18, .load 5 true (.tmp 17), none, 0⟩,
     ⟨some 10, .alloc [.int .i64 0, .str [], .int .i64 0, .int .i64 0, .nils], none, 0⟩,
     ⟨none, .store 5 (.tmp 10) (.tmp 18), none, 0⟩])
  (.seq (.ops [⟨some 19, .fieldAddr 1 (.tmp 4), none, 0⟩,
     ⟨some 20, .load 1 false (.tmp 19), none, 0⟩,
     ⟨some 21, .mov (.tmp 1), none, 0⟩,
     ⟨some 22, .addrRow 2 (.tmp 20) (.tmp 21), none, 0⟩,
     ⟨some 23, .fieldAddr 1 (.tmp 22), none, 0⟩,
     ⟨some 24, .load 1 false (.tmp 23), none, 0⟩,
     ⟨some 11, .mov (.tmp 24), none, 0⟩])
  (.seq (.draw [⟨some 25, .load 5 true (.tmp 10), none, 0⟩,
     ⟨some 26, .mov (.tmp 11), none, 0⟩,
     ⟨some 27, .mov (.tmp 3), none, 0⟩,
     ⟨some 28, .load 5 true (.tmp 10), none, 0⟩,
     ⟨some 29, .call (.fn 157) [(.tmp 28)], none, 0⟩,
     ⟨some 30, .addrRow 3 (.tmp 27) (.tmp 29), none, 0⟩,
     ⟨some 31, .load 3 true (.tmp 30), none, 0⟩,
     ⟨some 32, .call (.fn 159) [(.tmp 25), (.tmp 26), (.tmp 31)], none, 0⟩,
     ⟨some 33, .bin .geq (.tmp 32) (.con (.int .i64 0)), none, 0⟩,
     ⟨some 12, .mov (.tmp 33), none, 0⟩]
    [[], [], [], [], [3], [2, 3, 4], [2, 3, 4, 5], [0, 1, 2, 3, 4, 5, 6], [0, 1, 2, 3, 4, 5, 6, 7], [0, 1, 2, 3, 4, 5, 6, 7, 8]])
  (.seq (.block 0
    (.seq (.ops [⟨some 35, .mov (.tmp 2), none, 0⟩,
       ⟨some 36, .bin .eql (.tmp 35) (.con (.int .i64 1)), none, 0⟩,
       ⟨some 37, .mov (.tmp 36), none, 0⟩,
       ⟨some 38, .mov (.tmp 12), some (37, true), 0⟩,
       ⟨some 39, .pick (.tmp 37) (.tmp 38) (.con (.bool false)), none, 0⟩,
       ⟨some 34, .mov (.tmp 39), none, 0⟩])
    (.cond (.tmp 34)
     (.seq (.ops [⟨some 40, .load 2 true (.tmp 4), none, 0⟩,
         ⟨none, .store 2 (.tmp 8) (.tmp 40), none, 0⟩,
         ⟨some 9, .mov (.con (.int .i64 17)), none, 0⟩])
      .ret)
     (.seq (.ops [⟨some 42, .mov (.tmp 2), none, 0⟩,
         ⟨some 43, .bin .eql (.tmp 42) (.con (.int .i64 1)), none, 0⟩,
         ⟨some 44, .mov (.tmp 43), none, 0⟩,
         ⟨some 45, .mov (.tmp 11), some (44, true), 0⟩,
         ⟨some 46, .len (.tmp 45), some (44, true), 0⟩,
         ⟨some 47, .bin .geq (.tmp 46) (.con (.int .i64 200)), some (44, true), 0⟩,
         ⟨some 48, .pick (.tmp 44) (.tmp 47) (.con (.bool false)), none, 0⟩,
         ⟨some 41, .mov (.tmp 48), none, 0⟩])
      (.cond (.tmp 41)
       (.seq (.ops [⟨some 49, .load 2 true (.tmp 4), none, 0⟩,
           ⟨none, .store 2 (.tmp 8) (.tmp 49), none, 0⟩,
           ⟨some 9, .mov (.con (.int .i64 3)), none, 0⟩])
        .ret)
       (.seq (.ops [⟨some 51, .mov (.tmp 2), none, 0⟩,
           ⟨some 52, .bin .eql (.tmp 51) (.con (.int .i64 2)), none, 0⟩,
           ⟨some 53, .mov (.tmp 52), none, 0⟩,
           ⟨some 54, .mov (.tmp 12), some (53, true), 0⟩,
           ⟨some 55, .un .not (.tmp 54), some (53, true), 0⟩,
           ⟨some 56, .pick (.tmp 53) (.tmp 55) (.con (.bool false)), none, 0⟩,
           ⟨some 50, .mov (.tmp 56), none, 0⟩])
        (.cond (.tmp 50)
         (.seq (.ops [⟨some 57, .load 2 true (.tmp 4), none, 0⟩,
             ⟨none, .store 2 (.tmp 8) (.tmp 57), none, 0⟩,
             ⟨some 9, .mov (.con (.int .i64 18)), none, 0⟩])
          .ret)
         .skip)))))))
  (.seq (.draw [⟨some 58, .load 2 true (.tmp 4), none, 0⟩,
     ⟨some 59, .mov (.tmp 1), none, 0⟩,
     ⟨some 60, .load 5 true (.tmp 10), none, 0⟩,
     ⟨some 61, .mov (.tmp 11), none, 0⟩,
     ⟨some 62, .mov (.tmp 3), none, 0⟩,
     ⟨some 63, .call (.fn 163) [(.tmp 60), (.tmp 61), (.tmp 62)], none, 0⟩,
     ⟨some 64, .call (.fn 161) [(.tmp 58), (.tmp 59), (.tmp 63)], none, 0⟩,
     ⟨none, .store 2 (.tmp 8) (.tmp 64), none, 2⟩,
     ⟨some 9, .mov (.con (.int .i64 0)), none, 0⟩]
    [[], [], [], [], [], [2, 3, 4], [0, 1, 2, 3, 4, 5], [0, 1, 2, 3, 4, 5, 6], [0, 1, 2, 3, 4, 5, 6, 7]])
  .ret)))))) }
def f_haulageref08_Key_k0 : List Bool := [false, true, false, true, false, false, false, false, false, false, false, false, false, false, false, false, false, false, false, false, false]
def f_haulageref08_Key_b0 : XCode :=
  (.seq (.seq (.ops [⟨some 4, .mov (.tmp 3), none, 0⟩,
     ⟨some 5, .fieldAddr 4 (.tmp 1), none, 0⟩,
     ⟨some 6, .load 1 false (.tmp 5), none, 0⟩,
     ⟨some 7, .len (.tmp 6), none, 0⟩,
     ⟨some 8, .bin .lss (.tmp 4) (.tmp 7), none, 0⟩])
  (.cond (.tmp 8)
   .skip
   (.exit 0)))
 (.seq (.block 1
   (.seq (.draw [⟨some 11, .fieldAddr 4 (.tmp 1), none, 0⟩,
      ⟨some 12, .load 1 false (.tmp 11), none, 0⟩,
      ⟨some 13, .mov (.tmp 3), none, 0⟩,
      ⟨some 14, .addrRow 8 (.tmp 12) (.tmp 13), none, 0⟩,
      ⟨some 15, .fieldAddr 0 (.tmp 14), none, 0⟩,
      ⟨some 16, .load 1 false (.tmp 15), none, 0⟩,
      ⟨some 17, .fieldAddr 2 (.tmp 1), none, 0⟩,
      ⟨some 18, .load 1 false (.tmp 17), none, 0⟩,
      ⟨some 19, .bin .eql (.tmp 16) (.tmp 18), none, 0⟩]
     [[], [0], [], [0, 1, 2], [0, 1, 2, 3], [0, 1, 2, 3, 4], [], [6], [0, 1, 2, 3, 4, 5, 6, 7]])
   (.cond (.tmp 19)
    (.seq (.ops [⟨some 20, .mov (.tmp 3), none, 0⟩,
        ⟨some 2, .mov (.tmp 20), none, 0⟩])
     .ret)
    .skip)))
 (.ops [⟨some 9, .mov (.tmp 3), none, 0⟩,
   ⟨some 10, .bin .add (.tmp 9) (.con (.int .i64 1)), none, 0⟩,
   ⟨some 3, .mov (.tmp 10), none, 0⟩])))
def f_haulageref08_Key_s0 (t1 t3 : AV) : List AV := [.unk, t1, .unk, t3, .unk, .unk, .unk, .unk, .unk, .unk, .unk, .unk, .unk, .unk, .unk, .unk, .unk, .unk, .unk, .unk, .unk]
def f_haulageref08_Key : XFunc := { ntmps := 21, res := [.tmp 2], pure := true, body :=
  (.seq (.ops [⟨some 1, .box (.tmp 0), none, 0⟩,
     ⟨some 2, .mov (.con (.int .i64 0)), none, 0⟩])
  (.seq (.seq (.ops [⟨some 3, .mov (.con (.int .i64 0)), none, 0⟩])
   (.block 0
    (.loop f_haulageref08_Key_k0 f_haulageref08_Key_b0)))
  (.seq (.ops [⟨some 2, .mov (.con (.int .i64 (-1))), none, 0⟩])
  .ret))) }
def f_haulageref15_Find_k0 : List Bool := [false, true, false, true, false, true, false, true, false, false, false, false, false, false, false, false, false, false, false, false, false, false, false, false, false]
def f_haulageref15_Find_b0 : XCode :=
  (.seq (.seq (.ops [⟨some 8, .mov (.tmp 7), none, 0⟩,
     ⟨some 9, .mov (.tmp 1), none, 0⟩,
     ⟨some 10, .len (.tmp 9), none, 0⟩,
     ⟨some 11, .bin .lss (.tmp 8) (.tmp 10), none, 0⟩])
  (.cond (.tmp 11)
   .skip
   (.exit 0)))
 (.seq (.block 1
   (.seq (.draw [⟨some 14, .mov (.tmp 1), none, 0⟩,
      ⟨some 15, .mov (.tmp 7), none, 0⟩,
      ⟨some 16, .addrRow 1 (.tmp 14) (.tmp 15), none, 0⟩,
      ⟨some 17, .load 1 false (.tmp 16), none, 0⟩,
      ⟨some 18, .load 5 true (.tmp 3), none, 0⟩,
      ⟨some 19, .call (.fn 157) [(.tmp 18)], none, 0⟩,
      ⟨some 20, .addrRow 3 (.tmp 17) (.tmp 19), none, 0⟩,
      ⟨some 21, .load 3 true (.tmp 20), none, 0⟩,
      ⟨some 22, .load 3 true (.tmp 5), none, 0⟩,
      ⟨some 23, .eqA false (.struct [(0, 1, .int), (1, 1, .int), (2, 1, .str)]) (.tmp 21) (.tmp 22), none, 0⟩]
     [[], [], [0, 1], [0, 1, 2], [], [4], [0, 1, 2, 3, 4, 5], [0, 1, 2, 3, 4, 5, 6], [], [0, 1, 2, 3, 4, 5, 6, 7, 8]])
   (.cond (.tmp 23)
    (.seq (.ops [⟨some 24, .mov (.tmp 7), none, 0⟩,
        ⟨some 6, .mov (.tmp 24), none, 0⟩])
     .ret)
    .skip)))
 (.ops [⟨some 12, .mov (.tmp 7), none, 0⟩,
   ⟨some 13, .bin .add (.tmp 12) (.con (.int .i64 1)), none, 0⟩,
   ⟨some 7, .mov (.tmp 13), none, 0⟩])))
def f_haulageref15_Find_s0 (t1 t3 t5 t7 : AV) : List AV := [.unk, t1, .unk, t3, .unk, t5, .unk, t7, .unk, .unk, .unk, .unk, .unk, .unk, .unk, .unk, .unk, .unk, .unk, .unk, .unk, .unk, .unk, .unk, .unk]
def f_haulageref15_Find : XFunc := { ntmps := 25, res := [.tmp 6], pure := true, body :=
  (.seq (.ops [⟨some 3, .box (.tmp 0), none, 0⟩,
     ⟨some 5, .box (.tmp 2), none, 0⟩,
     ⟨some 6, .mov (.con (.int .i64 0)), none, 0⟩])
  (.seq (.seq (.ops [⟨some 7, .mov (.con (.int .i64 0)), none, 0⟩])
   (.block 0
    (.loop f_haulageref15_Find_k0 f_haulageref15_Find_b0)))
  (.seq (.ops [⟨some 6, .mov (.con (.int .i64 (-1))), none, 0⟩])
  .ret))) }
def f_haulageref15_with_k0 : List Bool := [false, true, true, true, false, false, true, true, true, false, false, false, false, false, false, false, false, false, false, false, false, false, false, false, false, false, false, false, false, false, false, false, false, false, false, false, false]
def f_haulageref15_with_b0 : XCode :=
  (.seq (.seq (.ops [⟨some 13, .mov (.tmp 8), none, 0⟩,
     ⟨some 14, .fieldAddr 1 (.tmp 3), none, 0⟩,
     ⟨some 15, .load 1 false (.tmp 14), none, 0⟩,
     ⟨some 16, .len (.tmp 15), none, 0⟩,
     ⟨some 17, .bin .lss (.tmp 13) (.tmp 16), none, 0⟩])
  (.cond (.tmp 17)
   .skip
   (.exit 0)))
 (.seq (.block 1
   (.seq (.ops [⟨some 20, .fieldAddr 1 (.tmp 3), none, 0⟩,
      ⟨some 21, .load 1 false (.tmp 20), none, 0⟩,
      ⟨some 22, .mov (.tmp 8), none, 0⟩,
      ⟨some 23, .addrRow 2 (.tmp 21) (.tmp 22), none, 0⟩,
      ⟨some 24, .load 2 true (.tmp 23), none, 0⟩,
      ⟨some 9, .alloc [.int .i64 0, .nils], none, 0⟩,
      ⟨none, .store 2 (.tmp 9) (.tmp 24), none, 0⟩])
   (.seq (.seq (.ops [⟨some 25, .mov (.tmp 8), none, 0⟩,
       ⟨some 26, .mov (.tmp 1), none, 0⟩,
       ⟨some 27, .bin .eql (.tmp 25) (.tmp 26), none, 0⟩])
    (.cond (.tmp 27)
     (.ops [⟨some 28, .mov (.tmp 2), none, 0⟩,
        ⟨some 29, .fieldAddr 1 (.tmp 9), none, 0⟩,
        ⟨none, .store 1 (.tmp 29) (.tmp 28), none, 0⟩])
     .skip))
   (.ops [⟨some 30, .fieldAddr 1 (.tmp 7), none, 0⟩,
     ⟨some 31, .load 1 false (.tmp 30), none, 0⟩,
     ⟨some 32, .load 2 true (.tmp 9), none, 0⟩,
     ⟨some 33, .rowVals 2 1 [.int .i64 0, .nils] [(0, 2, (.tmp 32))], none, 0⟩,
     ⟨some 34, .append false 2 32 (.tmp 31) (.tmp 33), none, 0⟩,
     ⟨some 35, .fieldAddr 1 (.tmp 7), none, 0⟩,
     ⟨none, .store 1 (.tmp 35) (.tmp 34), none, 0⟩]))))
 (.ops [⟨some 18, .mov (.tmp 8), none, 0⟩,
   ⟨some 19, .bin .add (.tmp 18) (.con (.int .i64 1)), none, 0⟩,
   ⟨some 8, .mov (.tmp 19), none, 0⟩])))
def f_haulageref15_with_s0 (t1 t2 t3 t6 t7 t8 : AV) : List AV := [.unk, t1, t2, t3, .unk, .unk, t6, t7, t8, .unk, .unk, .unk, .unk, .unk, .unk, .unk, .unk, .unk, .unk, .unk, .unk, .unk, .unk, .unk, .unk, .unk, .unk, .unk, .unk, .unk, .unk, .unk, .unk, .unk, .unk, .unk, .unk]
def f_haulageref15_with : XFunc := { ntmps := 37, res := [.cell 6 2 true], pure := true, body :=
  (.seq (.ops [⟨some 3, .box (.tmp 0), none, 0⟩,
     ⟨some 6, .alloc [.nils, .nils], none, 0⟩])
  (.seq (.ops [⟨some 10, .fieldAddr 0 (.tmp 3), none, 0⟩,
     ⟨some 11, .load 1 true (.tmp 10), none, 0⟩,
     ⟨some 12, .build [.nils, .nils] [(0, 1, (.tmp 11))], none, 0⟩,
     ⟨some 7, .alloc [.nils, .nils], none, 0⟩,
     ⟨none, .store 2 (.tmp 7) (.tmp 12), none, 0⟩])
  (.seq (.seq (.ops [⟨some 8, .mov (.con (.int .i64 0)), none, 0⟩])
   (.block 0
    (.loop f_haulageref15_with_k0 f_haulageref15_with_b0)))
  (.seq (.ops [⟨some 36, .load 2 true (.tmp 7), none, 0⟩,
     ⟨none, .store 2 (.tmp 6) (.tmp 36), none, 0⟩])
  .ret)))) }
def f_haulageref15_cut_k0 : List Bool := [true, true, false, false, false, true, true, false, false, false, false, false, false, false, false, false, false, false, false, false, false, false, false, false]
def f_haulageref15_cut_b0 : XCode :=
  (.seq (.seq (.ops [⟨some 7, .mov (.tmp 6), none, 0⟩,
     ⟨some 8, .mov (.tmp 0), none, 0⟩,
     ⟨some 9, .len (.tmp 8), none, 0⟩,
     ⟨some 10, .bin .lss (.tmp 7) (.tmp 9), none, 0⟩])
  (.cond (.tmp 10)
   .skip
   (.exit 0)))
 (.seq (.block 1
   (.seq (.ops [⟨some 13, .mov (.tmp 6), none, 0⟩,
      ⟨some 14, .mov (.tmp 1), none, 0⟩,
      ⟨some 15, .bin .neq (.tmp 13) (.tmp 14), none, 0⟩])
   (.cond (.tmp 15)
    (.ops [⟨some 16, .mov (.tmp 5), none, 0⟩,
       ⟨some 17, .mov (.tmp 0), none, 0⟩,
       ⟨some 18, .mov (.tmp 6), none, 0⟩,
       ⟨some 19, .addrRow 1 (.tmp 17) (.tmp 18), none, 0⟩,
       ⟨some 20, .load 1 false (.tmp 19), none, 0⟩,
       ⟨some 21, .rowVals 1 1 [.nils] [(0, 1, (.tmp 20))], none, 0⟩,
       ⟨some 22, .append false 1 24 (.tmp 16) (.tmp 21), none, 0⟩,
       ⟨some 5, .mov (.tmp 22), none, 0⟩])
    .skip)))
 (.ops [⟨some 11, .mov (.tmp 6), none, 0⟩,
   ⟨some 12, .bin .add (.tmp 11) (.con (.int .i64 1)), none, 0⟩,
   ⟨some 6, .mov (.tmp 12), none, 0⟩])))
def f_haulageref15_cut_s0 (t0 t1 t5 t6 : AV) : List AV := [t0, t1, .unk, .unk, .unk, t5, t6, .unk, .unk, .unk, .unk, .unk, .unk, .unk, .unk, .unk, .unk, .unk, .unk, .unk, .unk, .unk, .unk, .unk]
def f_haulageref15_cut : XFunc := { ntmps := 24, res := [.tmp 4], pure := true, body :=
  (.seq (.ops [⟨some 4, .mov (.con .nils), none, 0⟩])
  (.seq (.ops [⟨some 5, .mov (.con .nils), none, 0⟩])
  (.seq (.seq (.ops [⟨some 6, .mov (.con (.int .i64 0)), none, 0⟩])
   (.block 0
    (.loop f_haulageref15_cut_k0 f_haulageref15_cut_b0)))
  (.seq (.ops [⟨some 23, .mov (.tmp 5), none, 0⟩,
     ⟨some 4, .mov (.tmp 23), none, 0⟩])
  .ret)))) }
def f_haulageref15_put_k0 : List Bool := [false, true, true, false, false, false, false, true, true, true, true, false, false, false, false, false, false, false, false, false, false, false, false, false, false, false, false, false, false, false, false, false, false, false, false, false, false, false, false, false, false, false, false, false, false, false, false, false, false, false, false, false, false, false, false, false, false, false]
def f_haulageref15_put_b0 : XCode :=
  (.seq (.seq (.ops [⟨some 14, .mov (.tmp 10), none, 0⟩,
     ⟨some 15, .mov (.tmp 1), none, 0⟩,
     ⟨some 16, .len (.tmp 15), none, 0⟩,
     ⟨some 17, .bin .lss (.tmp 14) (.tmp 16), none, 0⟩])
  (.cond (.tmp 17)
   .skip
   (.exit 0)))
 (.seq (.block 1
   (.seq (.seq (.draw [⟨some 20, .mov (.tmp 1), none, 0⟩,
       ⟨some 21, .mov (.tmp 10), none, 0⟩,
       ⟨some 22, .addrRow 1 (.tmp 20) (.tmp 21), none, 0⟩,
       ⟨some 23, .load 1 false (.tmp 22), none, 0⟩,
       ⟨some 24, .mov (.tmp 7), none, 0⟩,
       ⟨some 25, .addrRow 3 (.tmp 23) (.tmp 24), none, 0⟩,
       ⟨some 26, .load 3 true (.tmp 25), none, 0⟩,
       ⟨some 27, .mov (.tmp 2), none, 0⟩,
       ⟨some 28, .mov (.tmp 7), none, 0⟩,
       ⟨some 29, .addrRow 3 (.tmp 27) (.tmp 28), none, 0⟩,
       ⟨some 30, .load 3 true (.tmp 29), none, 0⟩,
       ⟨some 31, .call (.fn 42) [(.tmp 26), (.tmp 30)], none, 0⟩,
       ⟨some 11, .mov (.tmp 31), none, 0⟩]
      [[], [], [0, 1], [0, 1, 2], [], [0, 1, 2, 3, 4], [0, 1, 2, 3, 4, 5], [], [], [7, 8], [7, 8, 9], [0, 1, 2, 3, 4, 5, 6, 7, 8, 9, 10], [0, 1, 2, 3, 4, 5, 6, 7, 8, 9, 10, 11]])
    (.seq (.ops [⟨some 32, .mov (.tmp 11), none, 0⟩,
       ⟨some 33, .bin .geq (.tmp 32) (.con (.int .i64 0)), none, 0⟩,
       ⟨some 34, .mov (.tmp 33), none, 0⟩,
       ⟨some 35, .mov (.tmp 9), some (34, true), 0⟩,
       ⟨some 36, .un .not (.tmp 35), some (34, true), 0⟩,
       ⟨some 37, .pick (.tmp 34) (.tmp 36) (.con (.bool false)), none, 0⟩])
    (.cond (.tmp 37)
     (.seq (.ops [⟨some 38, .mov (.tmp 8), none, 0⟩,
         ⟨some 39, .mov (.tmp 2), none, 0⟩,
         ⟨some 40, .rowVals 1 1 [.nils] [(0, 1, (.tmp 39))], none, 0⟩,
         ⟨some 41, .append false 1 24 (.tmp 38) (.tmp 40), none, 0⟩,
         ⟨some 8, .mov (.tmp 41), none, 0⟩])
      (.seq (.ops [⟨some 9, .mov (.con (.bool true)), none, 0⟩])
      (.seq (.ops [⟨some 42, .mov (.tmp 11), none, 0⟩,
         ⟨some 43, .bin .eql (.tmp 42) (.con (.int .i64 0)), none, 0⟩])
      (.cond (.tmp 43)
       (.exit 1)
       .skip))))
     .skip)))
   (.ops [⟨some 44, .mov (.tmp 8), none, 0⟩,
     ⟨some 45, .mov (.tmp 1), none, 0⟩,
     ⟨some 46, .mov (.tmp 10), none, 0⟩,
     ⟨some 47, .addrRow 1 (.tmp 45) (.tmp 46), none, 0⟩,
     ⟨some 48, .load 1 false (.tmp 47), none, 0⟩,
     ⟨some 49, .rowVals 1 1 [.nils] [(0, 1, (.tmp 48))], none, 0⟩,
     ⟨some 50, .append false 1 24 (.tmp 44) (.tmp 49), none, 0⟩,
     ⟨some 8, .mov (.tmp 50), none, 0⟩])))
 (.ops [⟨some 18, .mov (.tmp 10), none, 0⟩,
   ⟨some 19, .bin .add (.tmp 18) (.con (.int .i64 1)), none, 0⟩,
   ⟨some 10, .mov (.tmp 19), none, 0⟩])))
def f_haulageref15_put_s0 (t1 t2 t7 t8 t9 t10 : AV) : List AV := [.unk, t1, t2, .unk, .unk, .unk, .unk, t7, t8, t9, t10, .unk, .unk, .unk, .unk, .unk, .unk, .unk, .unk, .unk, .unk, .unk, .unk, .unk, .unk, .unk, .unk, .unk, .unk, .unk, .unk, .unk, .unk, .unk, .unk, .unk, .unk, .unk, .unk, .unk, .unk, .unk, .unk, .unk, .unk, .unk, .unk, .unk, .unk, .unk, .unk, .unk, .unk, .unk, .unk, .unk, .unk, .unk]
def f_haulageref15_put : XFunc := { ntmps := 58, res := [.tmp 6], pure := true, body :=
  (.seq (.ops [⟨some 3, .box (.tmp 0), none, 0⟩,
     ⟨some 6, .mov (.con .nils), none, 0⟩])
  (.seq (.ops [⟨some 12, .load 5 true (.tmp 3), none, 0⟩,
     ⟨some 13, .call (.fn 157) [(.tmp 12)], none, 0⟩,
     ⟨some 7, .mov (.tmp 13), none, 0⟩])
  (.seq (.ops [⟨some 8, .mov (.con .nils), none, 0⟩])
  (.seq (.ops [⟨some 9, .mov (.con (.bool false)), none, 0⟩])
  (.seq (.seq (.ops [⟨some 10, .mov (.con (.int .i64 0)), none, 0⟩])
   (.block 0
    (.loop f_haulageref15_put_k0 f_haulageref15_put_b0)))
  (.seq (.seq (.ops [⟨some 51, .mov (.tmp 9), none, 0⟩,
      ⟨some 52, .un .not (.tmp 51), none, 0⟩])
   (.cond (.tmp 52)
    (.ops [⟨some 53, .mov (.tmp 8), none, 0⟩,
       ⟨some 54, .mov (.tmp 2), none, 0⟩,
       ⟨some 55, .rowVals 1 1 [.nils] [(0, 1, (.tmp 54))], none, 0⟩,
       ⟨some 56, .append false 1 24 (.tmp 53) (.tmp 55), none, 0⟩,
       ⟨some 8, .mov (.tmp 56), none, 0⟩])
    .skip))
  (.seq (.ops [⟨some 57, .mov (.tmp 8), none, 0⟩,
     ⟨some 6, .mov (.tmp 57), none, 0⟩])
  .ret))))))) }
def f_haulageref08_Table_k0 : List Bool := [false, true, false, true, true, false, false, false, false, false, false, false, false, false, false, false, false, false, false, false, false, false, false, false, false, false, false, false, false, false, false, false, false, false, false, false, false, false, false, false, false, false, false, false, false, false, false, false, false, false, false, false, false, false, false, false, false, false, false, false, false, false, false, false, false, false, false, false, false, false, false, false, false, false, false, false, false, false, false, false, false, false, false, false, false, false, false, false, false, false, false, false]
def f_haulageref08_Table_b0 : XCode :=
  (.seq (.seq (.ops [⟨some 32, .mov (.tmp 4), none, 0⟩,
     ⟨some 33, .fieldAddr 4 (.tmp 1), none, 0⟩,
     ⟨some 34, .load 1 false (.tmp 33), none, 0⟩,
     ⟨some 35, .len (.tmp 34), none, 0⟩,
     ⟨some 36, .bin .lss (.tmp 32) (.tmp 35), none, 0⟩])
  (.cond (.tmp 36)
   .skip
   (.exit 0)))
 (.seq (.block 1
   (.seq (.ops [⟨some 39, .fieldAddr 4 (.tmp 1), none, 0⟩,
      ⟨some 40, .load 1 false (.tmp 39), none, 0⟩,
      ⟨some 41, .mov (.tmp 4), none, 0⟩,
      ⟨some 42, .addrRow 8 (.tmp 40) (.tmp 41), none, 0⟩,
      ⟨some 43, .load 8 true (.tmp 42), none, 0⟩,
      ⟨some 5, .alloc [.int .i64 0, .str [], .int .i64 0, .int .i64 0, .bool false, .int .i64 0, .int .i64 0, .str []], none, 0⟩,
      ⟨none, .store 8 (.tmp 5) (.tmp 43), none, 0⟩])
   (.seq (.seq (.draw [⟨some 44, .load 8 true (.tmp 5), none, 0⟩,
       ⟨some 45, .call (.fn 189) [(.tmp 44)], none, 0⟩,
       ⟨some 46, .un .not (.tmp 45), none, 0⟩,
       ⟨some 47, .mov (.tmp 46), none, 0⟩,
       ⟨some 48, .fieldAddr 0 (.tmp 5), some (47, false), 0⟩,
       ⟨some 49, .load 1 false (.tmp 48), some (47, false), 0⟩,
       ⟨some 50, .fieldAddr 3 (.tmp 1), some (47, false), 0⟩,
       ⟨some 51, .load 1 false (.tmp 50), some (47, false), 0⟩,
       ⟨some 52, .bin .geq (.tmp 49) (.tmp 51), some (47, false), 0⟩,
       ⟨some 53, .pick (.tmp 47) (.con (.bool true)) (.tmp 52), none, 0⟩,
       ⟨some 54, .mov (.tmp 53), none, 0⟩,
       ⟨some 55, .mov (.tmp 4), some (54, false), 0⟩,
       ⟨some 56, .bin .gtr (.tmp 55) (.con (.int .i64 0)), some (54, false), 0⟩,
       ⟨some 57, .mov (.tmp 56), some (54, false), 0⟩,
       ⟨some 58, .fieldAddr 0 (.tmp 5), some (57, true), 0⟩,
       ⟨some 59, .load 1 false (.tmp 58), some (57, true), 0⟩,
       ⟨some 60, .fieldAddr 4 (.tmp 1), some (57, true), 0⟩,
       ⟨some 61, .load 1 false (.tmp 60), some (57, true), 0⟩,
       ⟨some 62, .mov (.tmp 4), some (57, true), 0⟩,
       ⟨some 63, .bin .sub (.tmp 62) (.con (.int .i64 1)), some (57, true), 0⟩,
       ⟨some 64, .addrRow 8 (.tmp 61) (.tmp 63), some (57, true), 0⟩,
       ⟨some 65, .fieldAddr 0 (.tmp 64), some (57, true), 0⟩,
       ⟨some 66, .load 1 false (.tmp 65), some (57, true), 0⟩,
       ⟨some 67, .bin .leq (.tmp 59) (.tmp 66), some (57, true), 0⟩,
       ⟨some 68, .pick (.tmp 57) (.tmp 67) (.con (.bool false)), some (54, false), 0⟩,
       ⟨some 69, .pick (.tmp 54) (.con (.bool true)) (.tmp 68), none, 0⟩,
       ⟨some 70, .mov (.tmp 69), none, 0⟩,
       ⟨some 71, .load 5 true (.tmp 1), some (70, false), 0⟩,
       ⟨some 72, .fieldAddr 1 (.tmp 5), some (70, false), 0⟩,
       ⟨some 73, .load 1 false (.tmp 72), some (70, false), 0⟩,
       ⟨some 74, .call (.fn 190) [(.tmp 71), (.tmp 73)], some (70, false), 0⟩,
       ⟨some 75, .mov (.tmp 4), some (70, false), 0⟩,
       ⟨some 76, .bin .neq (.tmp 74) (.tmp 75), some (70, false), 0⟩,
       ⟨some 77, .pick (.tmp 70) (.con (.bool true)) (.tmp 76), none, 0⟩]
      [[], [0], [0, 1], [0, 1, 2], [0, 1, 2, 3], [0, 1, 2, 3, 4], [0, 1, 2, 3], [0, 1, 2, 3, 6], [0, 1, 2, 3, 4, 5, 6, 7], [0, 1, 2, 3, 4, 5, 6, 7, 8], [0, 1, 2, 3, 4, 5, 6, 7, 8, 9], [0, 1, 2, 3, 4, 5, 6, 7, 8, 9, 10], [0, 1, 2, 3, 4, 5, 6, 7, 8, 9, 10, 11], [0, 1, 2, 3, 4, 5, 6, 7, 8, 9, 10, 11, 12], [0, 1, 2, 3, 4, 5, 6, 7, 8, 9, 10, 11, 12, 13], [0, 1, 2, 3, 4, 5, 6, 7, 8, 9, 10, 11, 12, 13, 14], [0, 1, 2, 3, 4, 5, 6, 7, 8, 9, 10, 11, 12, 13], [0, 1, 2, 3, 4, 5, 6, 7, 8, 9, 10, 11, 12, 13, 16], [0, 1, 2, 3, 4, 5, 6, 7, 8, 9, 10, 11, 12, 13], [0, 1, 2, 3, 4, 5, 6, 7, 8, 9, 10, 11, 12, 13, 18], [0, 1, 2, 3, 4, 5, 6, 7, 8, 9, 10, 11, 12, 13, 16, 17, 18, 19], [0, 1, 2, 3, 4, 5, 6, 7, 8, 9, 10, 11, 12, 13, 16, 17, 18, 19, 20], [0, 1, 2, 3, 4, 5, 6, 7, 8, 9, 10, 11, 12, 13, 16, 17, 18, 19, 20, 21], [0, 1, 2, 3, 4, 5, 6, 7, 8, 9, 10, 11, 12, 13, 14, 15, 16, 17, 18, 19, 20, 21, 22], [0, 1, 2, 3, 4, 5, 6, 7, 8, 9, 10, 11, 12, 13, 14, 15, 16, 17, 18, 19, 20, 21, 22, 23], [0, 1, 2, 3, 4, 5, 6, 7, 8, 9, 10, 11, 12, 13, 14, 15, 16, 17, 18, 19, 20, 21, 22, 23, 24], [0, 1, 2, 3, 4, 5, 6, 7, 8, 9, 10, 11, 12, 13, 14, 15, 16, 17, 18, 19, 20, 21, 22, 23, 24, 25], [0, 1, 2, 3, 4, 5, 6, 7, 8, 9, 10, 11, 12, 13, 14, 15, 16, 17, 18, 19, 20, 21, 22, 23, 24, 25, 26], [0, 1, 2, 3, 4, 5, 6, 7, 8, 9, 10, 11, 12, 13, 14, 15, 16, 17, 18, 19, 20, 21, 22, 23, 24, 25, 26], [0, 1, 2, 3, 4, 5, 6, 7, 8, 9, 10, 11, 12, 13, 14, 15, 16, 17, 18, 19, 20, 21, 22, 23, 24, 25, 26, 28], [0, 1, 2, 3, 4, 5, 6, 7, 8, 9, 10, 11, 12, 13, 14, 15, 16, 17, 18, 19, 20, 21, 22, 23, 24, 25, 26, 27, 28, 29], [0, 1, 2, 3, 4, 5, 6, 7, 8, 9, 10, 11, 12, 13, 14, 15, 16, 17, 18, 19, 20, 21, 22, 23, 24, 25, 26], [0, 1, 2, 3, 4, 5, 6, 7, 8, 9, 10, 11, 12, 13, 14, 15, 16, 17, 18, 19, 20, 21, 22, 23, 24, 25, 26, 27, 28, 29, 30, 31], [0, 1, 2, 3, 4, 5, 6, 7, 8, 9, 10, 11, 12, 13, 14, 15, 16, 17, 18, 19, 20, 21, 22, 23, 24, 25, 26, 27, 28, 29, 30, 31, 32]])
    (.cond (.tmp 77)
     (.seq (.ops [⟨some 2, .mov (.con (.bool false)), none, 0⟩])
      .ret)
     .skip))
   (.ops [⟨some 78, .mov (.tmp 3), none, 0⟩,
     ⟨some 79, .mov (.tmp 78), none, 0⟩,
     ⟨some 80, .fieldAddr 0 (.tmp 5), some (79, false), 0⟩,
     ⟨some 81, .load 1 false (.tmp 80), some (79, false), 0⟩,
     ⟨some 82, .fieldAddr 2 (.tmp 1), some (79, false), 0⟩,
     ⟨some 83, .load 1 false (.tmp 82), some (79, false), 0⟩,
     ⟨some 84, .bin .eql (.tmp 81) (.tmp 83), some (79, false), 0⟩,
     ⟨some 85, .mov (.tmp 84), some (79, false), 0⟩,
     ⟨some 86, .fieldAddr 4 (.tmp 5), some (85, true), 0⟩,
     ⟨some 87, .load 1 false (.tmp 86), some (85, true), 0⟩,
     ⟨some 88, .un .not (.tmp 87), some (85, true), 0⟩,
     ⟨some 89, .pick (.tmp 85) (.tmp 88) (.con (.bool false)), some (79, false), 0⟩,
     ⟨some 90, .pick (.tmp 79) (.con (.bool true)) (.tmp 89), none, 0⟩,
     ⟨some 3, .mov (.tmp 90), none, 0⟩]))))
 (.ops [⟨some 37, .mov (.tmp 4), none, 0⟩,
   ⟨some 38, .bin .add (.tmp 37) (.con (.int .i64 1)), none, 0⟩,
   ⟨some 4, .mov (.tmp 38), none, 0⟩])))
def f_haulageref08_Table_s0 (t1 t3 t4 : AV) : List AV := [.unk, t1, .unk, t3, t4, .unk, .unk, .unk, .unk, .unk, .unk, .unk, .unk, .unk, .unk, .unk, .unk, .unk, .unk, .unk, .unk, .unk, .unk, .unk, .unk, .unk, .unk, .unk, .unk, .unk, .unk, .unk, .unk, .unk, .unk, .unk, .unk, .unk, .unk, .unk, .unk, .unk, .unk, .unk, .unk, .unk, .unk, .unk, .unk, .unk, .unk, .unk, .unk, .unk, .unk, .unk, .unk, .unk, .unk, .unk, .unk, .unk, .unk, .unk, .unk, .unk, .unk, .unk, .unk, .unk, .unk, .unk, .unk, .unk, .unk, .unk, .unk, .unk, .unk, .unk, .unk, .unk, .unk, .unk, .unk, .unk, .unk, .unk, .unk, .unk, .unk, .unk]
def f_haulageref08_Table : XFunc := { ntmps := 92, res := [.tmp 2], pure := true, body :=
  (.seq (.ops [⟨some 1, .box (.tmp 0), none, 0⟩,
     ⟨some 2, .mov (.con (.bool false)), none, 0⟩])
  (.seq (.seq (.ops [⟨some 6, .fieldAddr 0 (.tmp 1), none, 0⟩,
      ⟨some 7, .load 1 false (.tmp 6), none, 0⟩,
      ⟨some 8, .bin .lss (.tmp 7) (.con (.int .i64 0)), none, 0⟩,
      ⟨some 9, .mov (.tmp 8), none, 0⟩,
      ⟨some 10, .fieldAddr 1 (.tmp 1), some (9, false), 0⟩,
      ⟨some 11, .load 1 false (.tmp 10), some (9, false), 0⟩,
      ⟨some 12, .call (.fn 188) [(.tmp 11)], some (9, false), 0⟩,
      ⟨some 13, .un .not (.tmp 12), some (9, false), 0⟩,
      ⟨some 14, .pick (.tmp 9) (.con (.bool true)) (.tmp 13), none, 0⟩,
      ⟨some 15, .mov (.tmp 14), none, 0⟩,
      ⟨some 16, .fieldAddr 4 (.tmp 1), some (15, false), 0⟩,
      ⟨some 17, .load 1 false (.tmp 16), some (15, false), 0⟩,
      ⟨some 18, .len (.tmp 17), some (15, false), 0⟩,
      ⟨some 19, .bin .lss (.tmp 18) (.con (.int .i64 1)), some (15, false), 0⟩,
      ⟨some 20, .pick (.tmp 15) (.con (.bool true)) (.tmp 19), none, 0⟩,
      ⟨some 21, .mov (.tmp 20), none, 0⟩,
      ⟨some 22, .fieldAddr 4 (.tmp 1), some (21, false), 0⟩,
      ⟨some 23, .load 1 false (.tmp 22), some (21, false), 0⟩,
      ⟨some 24, .len (.tmp 23), some (21, false), 0⟩,
      ⟨some 25, .bin .gtr (.tmp 24) (.con (.int .i64 10)), some (21, false), 0⟩,
      ⟨some 26, .pick (.tmp 21) (.con (.bool true)) (.tmp 25), none, 0⟩,
      ⟨some 27, .mov (.tmp 26), none, 0⟩,
      ⟨some 28, .fieldAddr 3 (.tmp 1), some (27, false), 0⟩,
      ⟨some 29, .load 1 false (.tmp 28), some (27, false), 0⟩,
      ⟨some 30, .bin .gtr (.tmp 29) (.con (.int .i64 200)), some (27, false), 0⟩,
      ⟨some 31, .pick (.tmp 27) (.con (.bool true)) (.tmp 30), none, 0⟩])
   (.cond (.tmp 31)
    (.seq (.ops [⟨some 2, .mov (.con (.bool false)), none, 0⟩])
     .ret)
    .skip))
  (.seq (.ops [⟨some 3, .mov (.con (.bool false)), none, 0⟩])
  (.seq (.seq (.ops [⟨some 4, .mov (.con (.int .i64 0)), none, 0⟩])
   (.block 0
    (.loop f_haulageref08_Table_k0 f_haulageref08_Table_b0)))
  (.seq (.ops [⟨some 91, .mov (.tmp 3), none, 0⟩,
     ⟨some 2, .mov (.tmp 91), none, 0⟩])
  .ret))))) }
def f_haulageref08_Row_k0 : List Bool := [false, true, true, false, false, true, false, false, false, false, false, false, false, false, false, false, false, false, false, false, false, false, false, false, false, false, false, false, false, false, false, false, false, false, false, false, false, false, false, false, false, false, false, false, false, false]
def f_haulageref08_Row_b0 : XCode :=
  (.seq (.seq (.ops [⟨some 15, .mov (.tmp 5), none, 0⟩,
     ⟨some 16, .mov (.tmp 1), none, 0⟩,
     ⟨some 17, .len (.tmp 16), none, 0⟩,
     ⟨some 18, .bin .lss (.tmp 15) (.tmp 17), none, 0⟩])
  (.cond (.tmp 18)
   .skip
   (.exit 0)))
 (.seq (.block 1
   (.seq (.ops [⟨some 21, .mov (.tmp 1), none, 0⟩,
      ⟨some 22, .mov (.tmp 5), none, 0⟩,
      ⟨some 23, .addrRow 3 (.tmp 21) (.tmp 22), none, 0⟩,
      ⟨some 24, .load 3 true (.tmp 23), none, 0⟩,
      ⟨some 25, .build [.int .i64 0, .int .i64 0, .str []] [], none, 0⟩,
      ⟨some 26, .eqA false (.struct [(0, 1, .int), (1, 1, .int), (2, 1, .str)]) (.tmp 24) (.tmp 25), none, 0⟩])
   (.cond (.tmp 26)
    (.seq (.ops [⟨some 27, .fieldAddr 4 (.tmp 2), none, 0⟩,
        ⟨some 28, .load 1 false (.tmp 27), none, 0⟩,
        ⟨some 29, .mov (.tmp 5), none, 0⟩,
        ⟨some 30, .addrRow 8 (.tmp 28) (.tmp 29), none, 0⟩,
        ⟨some 31, .fieldAddr 4 (.tmp 30), none, 0⟩,
        ⟨some 32, .load 1 false (.tmp 31), none, 0⟩,
        ⟨some 33, .un .not (.tmp 32), none, 0⟩])
     (.cond (.tmp 33)
      (.seq (.ops [⟨some 4, .mov (.con (.int .i64 11)), none, 0⟩])
       .ret)
      .skip))
    (.seq (.draw [⟨some 34, .fieldAddr 4 (.tmp 2), none, 0⟩,
        ⟨some 35, .load 1 false (.tmp 34), none, 0⟩,
        ⟨some 36, .mov (.tmp 5), none, 0⟩,
        ⟨some 37, .addrRow 8 (.tmp 35) (.tmp 36), none, 0⟩,
        ⟨some 38, .fieldAddr 2 (.tmp 37), none, 0⟩,
        ⟨some 39, .load 2 true (.tmp 38), none, 0⟩,
        ⟨some 40, .mov (.tmp 1), none, 0⟩,
        ⟨some 41, .mov (.tmp 5), none, 0⟩,
        ⟨some 42, .addrRow 3 (.tmp 40) (.tmp 41), none, 0⟩,
        ⟨some 43, .load 3 true (.tmp 42), none, 0⟩,
        ⟨some 44, .call (.fn 87) [(.tmp 39), (.tmp 43)], none, 0⟩,
        ⟨some 45, .un .not (.tmp 44), none, 0⟩]
       [[], [0], [], [0, 1, 2], [0, 1, 2, 3], [0, 1, 2, 3, 4], [], [], [6, 7], [6, 7, 8], [0, 1, 2, 3, 4, 5, 6, 7, 8, 9], [0, 1, 2, 3, 4, 5, 6, 7, 8, 9, 10]])
     (.cond (.tmp 45)
      (.seq (.ops [⟨some 4, .mov (.con (.int .i64 10)), none, 0⟩])
       .ret)
      .skip)))))
 (.ops [⟨some 19, .mov (.tmp 5), none, 0⟩,
   ⟨some 20, .bin .add (.tmp 19) (.con (.int .i64 1)), none, 0⟩,
   ⟨some 5, .mov (.tmp 20), none, 0⟩])))
def f_haulageref08_Row_s0 (t1 t2 t5 : AV) : List AV := [.unk, t1, t2, .unk, .unk, t5, .unk, .unk, .unk, .unk, .unk, .unk, .unk, .unk, .unk, .unk, .unk, .unk, .unk, .unk, .unk, .unk, .unk, .unk, .unk, .unk, .unk, .unk, .unk, .unk, .unk, .unk, .unk, .unk, .unk, .unk, .unk, .unk, .unk, .unk, .unk, .unk, .unk, .unk, .unk, .unk]
def f_haulageref08_Row : XFunc := { ntmps := 46, res := [.tmp 4], pure := true, body :=
  (.seq (.ops [⟨some 2, .box (.tmp 0), none, 0⟩,
     ⟨some 4, .mov (.con (.int .i64 0)), none, 0⟩])
  (.seq (.seq (.ops [⟨some 6, .load 5 true (.tmp 2), none, 0⟩,
      ⟨some 7, .call (.fn 172) [(.tmp 6)], none, 0⟩,
      ⟨some 8, .un .not (.tmp 7), none, 0⟩])
   (.cond (.tmp 8)
    (.seq (.ops [⟨some 4, .mov (.con (.int .i64 2)), none, 0⟩])
     .ret)
    .skip))
  (.seq (.seq (.ops [⟨some 9, .mov (.tmp 1), none, 0⟩,
      ⟨some 10, .len (.tmp 9), none, 0⟩,
      ⟨some 11, .fieldAddr 4 (.tmp 2), none, 0⟩,
      ⟨some 12, .load 1 false (.tmp 11), none, 0⟩,
      ⟨some 13, .len (.tmp 12), none, 0⟩,
      ⟨some 14, .bin .neq (.tmp 10) (.tmp 13), none, 0⟩])
   (.cond (.tmp 14)
    (.seq (.ops [⟨some 4, .mov (.con (.int .i64 5)), none, 0⟩])
     .ret)
    .skip))
  (.seq (.seq (.ops [⟨some 5, .mov (.con (.int .i64 0)), none, 0⟩])
   (.block 0
    (.loop f_haulageref08_Row_k0 f_haulageref08_Row_b0)))
  (.seq (.ops [⟨some 4, .mov (.con (.int .i64 0)), none, 0⟩])
  .ret))))) }
def f_haulageref08_SameTable : XFunc := { ntmps := 38, res := [.tmp 4], pure := true, body :=
  (.seq (.ops [⟨some 2, .box (.tmp 0), none, 0⟩,
     ⟨some 3, .box (.tmp 1), none, 0⟩,
     ⟨some 4, .mov (.con (.bool false)), none, 0⟩])
  (.seq (.ops [⟨some 5, .fieldAddr 0 (.tmp 2), none, 0⟩,
     ⟨some 6, .load 1 false (.tmp 5), none, 0⟩,
     ⟨some 7, .fieldAddr 0 (.tmp 3), none, 0⟩,
     ⟨some 8, .load 1 false (.tmp 7), none, 0⟩,
     ⟨some 9, .bin .eql (.tmp 6) (.tmp 8), none, 0⟩,
     ⟨some 10, .mov (.tmp 9), none, 0⟩,
     ⟨some 11, .fieldAddr 1 (.tmp 2), some (10, true), 0⟩,
     ⟨some 12, .load 1 false (.tmp 11), some (10, true), 0⟩,
     ⟨some 13, .fieldAddr 1 (.tmp 3), some (10, true), 0⟩,
     ⟨some 14, .load 1 false (.tmp 13), some (10, true), 0⟩,
     ⟨some 15, .bin .eql (.tmp 12) (.tmp 14), some (10, true), 0⟩,
     ⟨some 16, .pick (.tmp 10) (.tmp 15) (.con (.bool false)), none, 0⟩,
     ⟨some 17, .mov (.tmp 16), none, 0⟩,
     ⟨some 18, .fieldAddr 2 (.tmp 2), some (17, true), 0⟩,
     ⟨some 19, .load 1 false (.tmp 18), some (17, true), 0⟩,
     ⟨some 20, .fieldAddr 2 (.tmp 3), some (17, true), 0⟩,
     ⟨some 21, .load 1 false (.tmp 20), some (17, true), 0⟩,
     ⟨some 22, .bin .eql (.tmp 19) (.tmp 21), some (17, true), 0⟩,
     ⟨some 23, .pick (.tmp 17) (.tmp 22) (.con (.bool false)), none, 0⟩,
     ⟨some 24, .mov (.tmp 23), none, 0⟩,
     ⟨some 25, .fieldAddr 3 (.tmp 2), some (24, true), 0⟩,
     ⟨some 26, .load 1 false (.tmp 25), some (24, true), 0⟩,
     ⟨some 27, .fieldAddr 3 (.tmp 3), some (24, true), 0⟩,
     ⟨some 28, .load 1 false (.tmp 27), some (24, true), 0⟩,
     ⟨some 29, .bin .eql (.tmp 26) (.tmp 28), some (24, true), 0⟩,
     ⟨some 30, .pick (.tmp 24) (.tmp 29) (.con (.bool false)), none, 0⟩,
     ⟨some 31, .mov (.tmp 30), none, 0⟩,
     ⟨some 32, .fieldAddr 4 (.tmp 2), some (31, true), 0⟩,
     ⟨some 33, .load 1 false (.tmp 32), some (31, true), 0⟩,
     ⟨some 34, .fieldAddr 4 (.tmp 3), some (31, true), 0⟩,
     ⟨some 35, .load 1 false (.tmp 34), some (31, true), 0⟩,
     ⟨some 36, .call (.fn 193) [(.tmp 33), (.tmp 35)], some (31, true), 0⟩,
     ⟨some 37, .pick (.tmp 31) (.tmp 36) (.con (.bool false)), none, 0⟩,
     ⟨some 4, .mov (.tmp 37), none, 0⟩])
  .ret)) }
def f_haulageref08_SameRow_k0 : List Bool := [true, true, false, false, false, true, false, false, false, false, false, false, false, false, false, false, false, false, false, false, false, false, false, false, false, false]
def f_haulageref08_SameRow_b0 : XCode :=
  (.seq (.seq (.ops [⟨some 11, .mov (.tmp 5), none, 0⟩,
     ⟨some 12, .mov (.tmp 0), none, 0⟩,
     ⟨some 13, .len (.tmp 12), none, 0⟩,
     ⟨some 14, .bin .lss (.tmp 11) (.tmp 13), none, 0⟩])
  (.cond (.tmp 14)
   .skip
   (.exit 0)))
 (.seq (.block 1
   (.seq (.draw [⟨some 17, .mov (.tmp 0), none, 0⟩,
      ⟨some 18, .mov (.tmp 5), none, 0⟩,
      ⟨some 19, .addrRow 3 (.tmp 17) (.tmp 18), none, 0⟩,
      ⟨some 20, .load 3 true (.tmp 19), none, 0⟩,
      ⟨some 21, .mov (.tmp 1), none, 0⟩,
      ⟨some 22, .mov (.tmp 5), none, 0⟩,
      ⟨some 23, .addrRow 3 (.tmp 21) (.tmp 22), none, 0⟩,
      ⟨some 24, .load 3 true (.tmp 23), none, 0⟩,
      ⟨some 25, .eqA true (.struct [(0, 1, .int), (1, 1, .int), (2, 1, .str)]) (.tmp 20) (.tmp 24), none, 0⟩]
     [[], [], [0, 1], [0, 1, 2], [], [], [4, 5], [4, 5, 6], [0, 1, 2, 3, 4, 5, 6, 7]])
   (.cond (.tmp 25)
    (.seq (.ops [⟨some 4, .mov (.con (.bool false)), none, 0⟩])
     .ret)
    .skip)))
 (.ops [⟨some 15, .mov (.tmp 5), none, 0⟩,
   ⟨some 16, .bin .add (.tmp 15) (.con (.int .i64 1)), none, 0⟩,
   ⟨some 5, .mov (.tmp 16), none, 0⟩])))
def f_haulageref08_SameRow_s0 (t0 t1 t5 : AV) : List AV := [t0, t1, .unk, .unk, .unk, t5, .unk, .unk, .unk, .unk, .unk, .unk, .unk, .unk, .unk, .unk, .unk, .unk, .unk, .unk, .unk, .unk, .unk, .unk, .unk, .unk]
def f_haulageref08_SameRow : XFunc := { ntmps := 26, res := [.tmp 4], pure := true, body :=
  (.seq (.ops [⟨some 4, .mov (.con (.bool false)), none, 0⟩])
  (.seq (.seq (.ops [⟨some 6, .mov (.tmp 0), none, 0⟩,
      ⟨some 7, .len (.tmp 6), none, 0⟩,
      ⟨some 8, .mov (.tmp 1), none, 0⟩,
      ⟨some 9, .len (.tmp 8), none, 0⟩,
      ⟨some 10, .bin .neq (.tmp 7) (.tmp 9), none, 0⟩])
   (.cond (.tmp 10)
    (.seq (.ops [⟨some 4, .mov (.con (.bool false)), none, 0⟩])
     .ret)
    .skip))
  (.seq (.seq (.ops [⟨some 5, .mov (.con (.int .i64 0)), none, 0⟩])
   (.block 0
    (.loop f_haulageref08_SameRow_k0 f_haulageref08_SameRow_b0)))
  (.seq (.ops [⟨some 4, .mov (.con (.bool true)), none, 0⟩])
  .ret)))) }
def f_haulageref09_Apply_k0 : List Bool := [false, false, true, true, true, false, true, false, true, false, true, false, false, false, false, false, false, false, false, false, false, false, false, false, false, false, false, false, false, false, false, false, false, false, false, false, false, false, false, false, false, false, false, false, false, false, false, false, false, false, false, false, false, false, false, false, false, false, false, false, false, false, false, false, false, false, false, false, false, false, false, false, false, false, false, false, false, false, false, false, false, false, false, false, false, false, false, false, false, false, false, false, false, false, false, false, false, false, false, false, false, false, false, false, false, false, false, false, false, false, false, false, false, false, false, false, false, false, false, false, false, false, false, false, false, false, false, false, false, false, false, false, false, false, false, false, false, false, false, false, false, false, false, false, false, false, false, false, false, false, false, false, false, false, false]
def f_haulageref09_Apply_b0 : XCode :=
  (.seq (.seq (.ops [⟨some 39, .mov (.tmp 10), none, 0⟩,
     ⟨some 40, .fieldAddr 0 (.tmp 3), none, 0⟩,
     ⟨some 41, .load 1 false (.tmp 40), none, 0⟩,
     ⟨some 42, .len (.tmp 41), none, 0⟩,
     ⟨some 43, .bin .leq (.tmp 39) (.tmp 42), none, 0⟩])
  (.cond (.tmp 43)
   .skip
   (.exit 0)))
 (.seq (.block 1
   (.seq (.seq (.ops [⟨some 46, .mov (.tmp 10), none, 0⟩,
       ⟨some 47, .fieldAddr 0 (.tmp 3), none, 0⟩,
       ⟨some 48, .load 1 false (.tmp 47), none, 0⟩,
       ⟨some 49, .len (.tmp 48), none, 0⟩,
       ⟨some 50, .bin .eql (.tmp 46) (.tmp 49), none, 0⟩,
       ⟨some 51, .mov (.tmp 50), none, 0⟩,
       ⟨some 52, .fieldAddr 0 (.tmp 3), some (51, false), 0⟩,
       ⟨some 53, .load 1 false (.tmp 52), some (51, false), 0⟩,
       ⟨some 54, .mov (.tmp 10), some (51, false), 0⟩,
       ⟨some 55, .addrRow 5 (.tmp 53) (.tmp 54), some (51, false), 0⟩,
       ⟨some 56, .fieldAddr 0 (.tmp 55), some (51, false), 0⟩,
       ⟨some 57, .load 1 false (.tmp 56), some (51, false), 0⟩,
       ⟨some 58, .mov (.tmp 2), some (51, false), 0⟩,
       ⟨some 59, .bin .gtr (.tmp 57) (.tmp 58), some (51, false), 0⟩,
       ⟨some 60, .pick (.tmp 51) (.con (.bool true)) (.tmp 59), none, 0⟩,
       ⟨some 61, .mov (.tmp 60), none, 0⟩,
       ⟨some 62, .mov (.tmp 10), some (61, true), 0⟩,
       ⟨some 63, .bin .eql (.tmp 62) (.con (.int .i64 0)), some (61, true), 0⟩,
       ⟨some 64, .mov (.tmp 63), some (61, true), 0⟩,
       ⟨some 65, .fieldAddr 0 (.tmp 3), some (64, false), 0⟩,
       ⟨some 66, .load 1 false (.tmp 65), some (64, false), 0⟩,
       ⟨some 67, .mov (.tmp 10), some (64, false), 0⟩,
       ⟨some 68, .bin .sub (.tmp 67) (.con (.int .i64 1)), some (64, false), 0⟩,
       ⟨some 69, .addrRow 5 (.tmp 66) (.tmp 68), some (64, false), 0⟩,
       ⟨some 70, .fieldAddr 0 (.tmp 69), some (64, false), 0⟩,
       ⟨some 71, .load 1 false (.tmp 70), some (64, false), 0⟩,
       ⟨some 72, .mov (.tmp 2), some (64, false), 0⟩,
       ⟨some 73, .bin .lss (.tmp 71) (.tmp 72), some (64, false), 0⟩,
       ⟨some 74, .pick (.tmp 64) (.con (.bool true)) (.tmp 73), some (61, true), 0⟩,
       ⟨some 75, .pick (.tmp 61) (.tmp 74) (.con (.bool false)), none, 0⟩])
    (.cond (.tmp 75)
     (.draw [⟨some 76, .fieldAddr 0 (.tmp 8), none, 0⟩,
        ⟨some 77, .load 1 false (.tmp 76), none, 0⟩,
        ⟨some 78, .load 12 true (.tmp 4), none, 0⟩,
        ⟨some 79, .mov (.tmp 2), none, 0⟩,
        ⟨some 80, .call (.fn 196) [(.tmp 78), (.tmp 79)], none, 0⟩,
        ⟨some 81, .rowVals 5 1 [.int .i64 0, .str [], .int .i64 0, .int .i64 0, .nils] [(0, 5, (.tmp 80))], none, 0⟩,
        ⟨some 82, .append false 5 64 (.tmp 77) (.tmp 81), none, 1⟩,
        ⟨some 83, .fieldAddr 0 (.tmp 8), none, 0⟩,
        ⟨none, .store 1 (.tmp 83) (.tmp 82), none, 2⟩]
       [[], [0], [], [], [2, 3], [2, 3, 4], [0, 1, 2, 3, 4, 5], [0, 1, 2, 3, 4, 5, 6], [0, 1, 2, 3, 4, 5, 6, 7]])
     .skip))
   (.seq (.ops [⟨some 84, .mov (.tmp 10), none, 0⟩,
      ⟨some 85, .fieldAddr 0 (.tmp 3), none, 0⟩,
      ⟨some 86, .load 1 false (.tmp 85), none, 0⟩,
      ⟨some 87, .len (.tmp 86), none, 0⟩,
      ⟨some 88, .bin .lss (.tmp 84) (.tmp 87), none, 0⟩])
   (.cond (.tmp 88)
    (.draw [⟨some 89, .fieldAddr 0 (.tmp 8), none, 0⟩,
       ⟨some 90, .load 1 false (.tmp 89), none, 0⟩,
       ⟨some 91, .fieldAddr 0 (.tmp 3), none, 0⟩,
       ⟨some 92, .load 1 false (.tmp 91), none, 0⟩,
       ⟨some 93, .mov (.tmp 10), none, 0⟩,
       ⟨some 94, .addrRow 5 (.tmp 92) (.tmp 93), none, 0⟩,
       ⟨some 95, .load 5 true (.tmp 94), none, 0⟩,
       ⟨some 96, .rowVals 5 1 [.int .i64 0, .str [], .int .i64 0, .int .i64 0, .nils] [(0, 5, (.tmp 95))], none, 0⟩,
       ⟨some 97, .append false 5 64 (.tmp 90) (.tmp 96), none, 1⟩,
       ⟨some 98, .fieldAddr 0 (.tmp 8), none, 0⟩,
       ⟨none, .store 1 (.tmp 98) (.tmp 97), none, 2⟩]
      [[], [0], [], [2], [], [2, 3, 4], [2, 3, 4, 5], [2, 3, 4, 5, 6], [0, 1, 2, 3, 4, 5, 6, 7], [0, 1, 2, 3, 4, 5, 6, 7, 8], [0, 1, 2, 3, 4, 5, 6, 7, 8, 9]])
    .skip))))
 (.ops [⟨some 44, .mov (.tmp 10), none, 0⟩,
   ⟨some 45, .bin .add (.tmp 44) (.con (.int .i64 1)), none, 0⟩,
   ⟨some 10, .mov (.tmp 45), none, 0⟩])))
def f_haulageref09_Apply_s0 (t2 t3 t4 t6 t8 t10 : AV) : List AV := [.unk, .unk, t2, t3, t4, .unk, t6, .unk, t8, .unk, t10, .unk, .unk, .unk, .unk, .unk, .unk, .unk, .unk, .unk, .unk, .unk, .unk, .unk, .unk, .unk, .unk, .unk, .unk, .unk, .unk, .unk, .unk, .unk, .unk, .unk, .unk, .unk, .unk, .unk, .unk, .unk, .unk, .unk, .unk, .unk, .unk, .unk, .unk, .unk, .unk, .unk, .unk, .unk, .unk, .unk, .unk, .unk, .unk, .unk, .unk, .unk, .unk, .unk, .unk, .unk, .unk, .unk, .unk, .unk, .unk, .unk, .unk, .unk, .unk, .unk, .unk, .unk, .unk, .unk, .unk, .unk, .unk, .unk, .unk, .unk, .unk, .unk, .unk, .unk, .unk, .unk, .unk, .unk, .unk, .unk, .unk, .unk, .unk, .unk, .unk, .unk, .unk, .unk, .unk, .unk, .unk, .unk, .unk, .unk, .unk, .unk, .unk, .unk, .unk, .unk, .unk, .unk, .unk, .unk, .unk, .unk, .unk, .unk, .unk, .unk, .unk, .unk, .unk, .unk, .unk, .unk, .unk, .unk, .unk, .unk, .unk, .unk, .unk, .unk, .unk, .unk, .unk, .unk, .unk, .unk, .unk, .unk, .unk, .unk, .unk, .unk, .unk, .unk, .unk]
def f_haulageref09_Apply_k1 : List Bool := [false, false, false, true, true, false, true, false, true, false, false, true, false, true, false, false, false, false, false, false, false, false, false, false, false, false, false, false, false, false, false, false, false, false, false, false, false, false, false, false, false, false, false, false, false, false, false, false, false, false, false, false, false, false, false, false, false, false, false, false, false, false, false, false, false, false, false, false, false, false, false, false, false, false, false, false, false, false, false, false, false, false, false, false, false, false, false, false, false, false, false, false, false, false, false, false, false, false, false, false, false, false, false, false, false, false, false, false, false, false, false, false, false, false, false, false, false, false, false, false, false, false, false, false, false, false, false, false, false, false, false, false, false, false, false, false, false, false, false, false, false, false, false, false, false, false, false, false, false, false, false, false, false, false, false]
def f_haulageref09_Apply_b1 : XCode :=
  (.seq (.seq (.ops [⟨some 119, .mov (.tmp 13), none, 0⟩,
     ⟨some 120, .fieldAddr 0 (.tmp 3), none, 0⟩,
     ⟨some 121, .load 1 false (.tmp 120), none, 0⟩,
     ⟨some 122, .len (.tmp 121), none, 0⟩,
     ⟨some 123, .bin .lss (.tmp 119) (.tmp 122), none, 0⟩])
  (.cond (.tmp 123)
   .skip
   (.exit 2)))
 (.seq (.block 3
   (.seq (.ops [⟨some 126, .mov (.tmp 13), none, 0⟩,
      ⟨some 127, .mov (.tmp 11), none, 0⟩,
      ⟨some 128, .bin .neq (.tmp 126) (.tmp 127), none, 0⟩])
   (.cond (.tmp 128)
    (.draw [⟨some 129, .fieldAddr 0 (.tmp 8), none, 0⟩,
       ⟨some 130, .load 1 false (.tmp 129), none, 0⟩,
       ⟨some 131, .fieldAddr 0 (.tmp 3), none, 0⟩,
       ⟨some 132, .load 1 false (.tmp 131), none, 0⟩,
       ⟨some 133, .mov (.tmp 13), none, 0⟩,
       ⟨some 134, .addrRow 5 (.tmp 132) (.tmp 133), none, 0⟩,
       ⟨some 135, .load 5 true (.tmp 134), none, 0⟩,
       ⟨some 136, .rowVals 5 1 [.int .i64 0, .str [], .int .i64 0, .int .i64 0, .nils] [(0, 5, (.tmp 135))], none, 0⟩,
       ⟨some 137, .append false 5 64 (.tmp 130) (.tmp 136), none, 1⟩,
       ⟨some 138, .fieldAddr 0 (.tmp 8), none, 0⟩,
       ⟨none, .store 1 (.tmp 138) (.tmp 137), none, 2⟩]
      [[], [0], [], [2], [], [2, 3, 4], [2, 3, 4, 5], [2, 3, 4, 5, 6], [0, 1, 2, 3, 4, 5, 6, 7], [0, 1, 2, 3, 4, 5, 6, 7, 8], [0, 1, 2, 3, 4, 5, 6, 7, 8, 9]])
    (.seq (.ops [⟨some 139, .fieldAddr 0 (.tmp 4), none, 0⟩,
        ⟨some 140, .load 1 false (.tmp 139), none, 0⟩,
        ⟨some 141, .bin .neq (.tmp 140) (.con (.int .i64 2)), none, 0⟩])
     (.cond (.tmp 141)
      (.draw [⟨some 142, .fieldAddr 0 (.tmp 8), none, 0⟩,
         ⟨some 143, .load 1 false (.tmp 142), none, 0⟩,
         ⟨some 144, .fieldAddr 0 (.tmp 3), none, 0⟩,
         ⟨some 145, .load 1 false (.tmp 144), none, 0⟩,
         ⟨some 146, .mov (.tmp 13), none, 0⟩,
         ⟨some 147, .addrRow 5 (.tmp 145) (.tmp 146), none, 0⟩,
         ⟨some 148, .load 5 true (.tmp 147), none, 0⟩,
         ⟨some 149, .load 12 true (.tmp 4), none, 0⟩,
         ⟨some 150, .call (.fn 198) [(.tmp 148), (.tmp 149)], none, 0⟩,
         ⟨some 151, .rowVals 5 1 [.int .i64 0, .str [], .int .i64 0, .int .i64 0, .nils] [(0, 5, (.tmp 150))], none, 0⟩,
         ⟨some 152, .append false 5 64 (.tmp 143) (.tmp 151), none, 1⟩,
         ⟨some 153, .fieldAddr 0 (.tmp 8), none, 0⟩,
         ⟨none, .store 1 (.tmp 153) (.tmp 152), none, 2⟩]
        [[], [0], [], [2], [], [2, 3, 4], [2, 3, 4, 5], [], [2, 3, 4, 5, 6, 7], [2, 3, 4, 5, 6, 7, 8], [0, 1, 2, 3, 4, 5, 6, 7, 8, 9], [0, 1, 2, 3, 4, 5, 6, 7, 8, 9, 10], [0, 1, 2, 3, 4, 5, 6, 7, 8, 9, 10, 11]])
      .skip)))))
 (.ops [⟨some 124, .mov (.tmp 13), none, 0⟩,
   ⟨some 125, .bin .add (.tmp 124) (.con (.int .i64 1)), none, 0⟩,
   ⟨some 13, .mov (.tmp 125), none, 0⟩])))
def f_haulageref09_Apply_s1 (t3 t4 t6 t8 t11 t13 : AV) : List AV := [.unk, .unk, .unk, t3, t4, .unk, t6, .unk, t8, .unk, .unk, t11, .unk, t13, .unk, .unk, .unk, .unk, .unk, .unk, .unk, .unk, .unk, .unk, .unk, .unk, .unk, .unk, .unk, .unk, .unk, .unk, .unk, .unk, .unk, .unk, .unk, .unk, .unk, .unk, .unk, .unk, .unk, .unk, .unk, .unk, .unk, .unk, .unk, .unk, .unk, .unk, .unk, .unk, .unk, .unk, .unk, .unk, .unk, .unk, .unk, .unk, .unk, .unk, .unk, .unk, .unk, .unk, .unk, .unk, .unk, .unk, .unk, .unk, .unk, .unk, .unk, .unk, .unk, .unk, .unk, .unk, .unk, .unk, .unk, .unk, .unk, .unk, .unk, .unk, .unk, .unk, .unk, .unk, .unk, .unk, .unk, .unk, .unk, .unk, .unk, .unk, .unk, .unk, .unk, .unk, .unk, .unk, .unk, .unk, .unk, .unk, .unk, .unk, .unk, .unk, .unk, .unk, .unk, .unk, .unk, .unk, .unk, .unk, .unk, .unk, .unk, .unk, .unk, .unk, .unk, .unk, .unk, .unk, .unk, .unk, .unk, .unk, .unk, .unk, .unk, .unk, .unk, .unk, .unk, .unk, .unk, .unk, .unk, .unk, .unk, .unk, .unk, .unk, .unk]
def f_haulageref09_Apply : XFunc := { ntmps := 155, res := [.cell 6 1 true, .tmp 7], pure := true, body :=
  (.seq (.ops [⟨some 3, .box (.tmp 0), none, 0⟩,
     ⟨some 4, .box (.tmp 1), none, 0⟩,
     ⟨some 6, .alloc [.nils], none, 0⟩,
     ⟨some 7, .mov (.con (.int .i64 0)), none, 0⟩])
  (.seq (.ops [⟨some 14, .build [.nils] [], none, 0⟩,
     ⟨some 8, .alloc [.nils], none, 0⟩,
     ⟨none, .store 1 (.tmp 8) (.tmp 14), none, 0⟩])
  (.seq (.seq (.ops [⟨some 15, .load 1 true (.tmp 3), none, 0⟩,
      ⟨some 16, .call (.fn 140) [(.tmp 15)], none, 0⟩,
      ⟨some 17, .un .not (.tmp 16), none, 0⟩,
      ⟨some 18, .mov (.tmp 17), none, 0⟩,
      ⟨some 19, .load 12 true (.tmp 4), some (18, false), 0⟩,
      ⟨some 20, .call (.fn 194) [(.tmp 19)], some (18, false), 0⟩,
      ⟨some 21, .un .not (.tmp 20), some (18, false), 0⟩,
      ⟨some 22, .pick (.tmp 18) (.con (.bool true)) (.tmp 21), none, 0⟩,
      ⟨some 23, .mov (.tmp 22), none, 0⟩,
      ⟨some 24, .mov (.tmp 2), some (23, false), 0⟩,
      ⟨some 25, .bin .lss (.tmp 24) (.con (.int .i64 0)), some (23, false), 0⟩,
      ⟨some 26, .pick (.tmp 23) (.con (.bool true)) (.tmp 25), none, 0⟩])
   (.cond (.tmp 26)
    (.seq (.ops [⟨some 27, .load 1 true (.tmp 8), none, 0⟩,
        ⟨none, .store 1 (.tmp 6) (.tmp 27), none, 0⟩,
        ⟨some 7, .mov (.con (.int .i64 2)), none, 0⟩])
     .ret)
    .skip))
  (.seq (.seq (.ops [⟨some 28, .fieldAddr 0 (.tmp 4), none, 0⟩,
      ⟨some 29, .load 1 false (.tmp 28), none, 0⟩,
      ⟨some 30, .bin .eql (.tmp 29) (.con (.int .i64 1)), none, 0⟩])
   (.cond (.tmp 30)
    (.seq (.seq (.ops [⟨some 31, .load 1 true (.tmp 3), none, 0⟩,
         ⟨some 32, .load 12 true (.tmp 4), none, 0⟩,
         ⟨some 33, .mov (.tmp 2), none, 0⟩,
         ⟨some 34, .call (.fn 195) [(.tmp 31), (.tmp 32), (.tmp 33)], none, 0⟩,
         ⟨some 9, .mov (.tmp 34), none, 0⟩])
      (.seq (.ops [⟨some 35, .mov (.tmp 9), none, 0⟩,
         ⟨some 36, .bin .neq (.tmp 35) (.con (.int .i64 0)), none, 0⟩])
      (.cond (.tmp 36)
       (.seq (.ops [⟨some 37, .load 1 true (.tmp 8), none, 0⟩,
           ⟨some 38, .mov (.tmp 9), none, 0⟩,
           ⟨none, .store 1 (.tmp 6) (.tmp 37), none, 0⟩,
           ⟨some 7, .mov (.tmp 38), none, 0⟩])
        .ret)
       .skip)))
     (.seq (.seq (.ops [⟨some 10, .mov (.con (.int .i64 0)), none, 0⟩])
      (.block 0
       (.loop f_haulageref09_Apply_k0 f_haulageref09_Apply_b0)))
     (.seq (.ops [⟨some 99, .load 1 true (.tmp 8), none, 0⟩,
        ⟨none, .store 1 (.tmp 6) (.tmp 99), none, 0⟩,
        ⟨some 7, .mov (.con (.int .i64 0)), none, 0⟩])
     .ret)))
    .skip))
  (.seq (.ops [⟨some 100, .load 1 true (.tmp 3), none, 0⟩,
     ⟨some 101, .fieldAddr 1 (.tmp 4), none, 0⟩,
     ⟨some 102, .load 1 false (.tmp 101), none, 0⟩,
     ⟨some 103, .call (.fn 154) [(.tmp 100), (.tmp 102)], none, 0⟩,
     ⟨some 11, .mov (.tmp 103), none, 0⟩])
  (.seq (.seq (.ops [⟨some 104, .mov (.tmp 11), none, 0⟩,
      ⟨some 105, .bin .lss (.tmp 104) (.con (.int .i64 0)), none, 0⟩])
   (.cond (.tmp 105)
    (.seq (.ops [⟨some 106, .load 1 true (.tmp 8), none, 0⟩,
        ⟨none, .store 1 (.tmp 6) (.tmp 106), none, 0⟩,
        ⟨some 7, .mov (.con (.int .i64 12)), none, 0⟩])
     .ret)
    .skip))
  (.seq (.seq (.draw [⟨some 107, .load 1 true (.tmp 3), none, 0⟩,
      ⟨some 108, .fieldAddr 0 (.tmp 3), none, 0⟩,
      ⟨some 109, .load 1 false (.tmp 108), none, 0⟩,
      ⟨some 110, .mov (.tmp 11), none, 0⟩,
      ⟨some 111, .addrRow 5 (.tmp 109) (.tmp 110), none, 0⟩,
      ⟨some 112, .load 5 true (.tmp 111), none, 0⟩,
      ⟨some 113, .load 12 true (.tmp 4), none, 0⟩,
      ⟨some 114, .call (.fn 197) [(.tmp 107), (.tmp 112), (.tmp 113)], none, 0⟩,
      ⟨some 12, .mov (.tmp 114), none, 0⟩]
     [[], [], [1], [], [1, 2, 3], [1, 2, 3, 4], [], [0, 1, 2, 3, 4, 5, 6], [0, 1, 2, 3, 4, 5, 6, 7]])
   (.seq (.ops [⟨some 115, .mov (.tmp 12), none, 0⟩,
      ⟨some 116, .bin .neq (.tmp 115) (.con (.int .i64 0)), none, 0⟩])
   (.cond (.tmp 116)
    (.seq (.ops [⟨some 117, .load 1 true (.tmp 8), none, 0⟩,
        ⟨some 118, .mov (.tmp 12), none, 0⟩,
        ⟨none, .store 1 (.tmp 6) (.tmp 117), none, 0⟩,
        ⟨some 7, .mov (.tmp 118), none, 0⟩])
     .ret)
    .skip)))
  (.seq (.seq (.ops [⟨some 13, .mov (.con (.int .i64 0)), none, 0⟩])
   (.block 2
    (.loop f_haulageref09_Apply_k1 f_haulageref09_Apply_b1)))
  (.seq (.ops [⟨some 154, .load 1 true (.tmp 8), none, 0⟩,
     ⟨none, .store 1 (.tmp 6) (.tmp 154), none, 0⟩,
     ⟨some 7, .mov (.con (.int .i64 0)), none, 0⟩])
  .ret))))))))) }
def f_haulageref08_ById_k0 : List Bool := [false, true, true, false, false, true, false, false, false, false, false, false, false, false, false, false, false, false, false, false, false, false]
def f_haulageref08_ById_b0 : XCode :=
  (.seq (.seq (.ops [⟨some 6, .mov (.tmp 5), none, 0⟩,
     ⟨some 7, .fieldAddr 0 (.tmp 2), none, 0⟩,
     ⟨some 8, .load 1 false (.tmp 7), none, 0⟩,
     ⟨some 9, .len (.tmp 8), none, 0⟩,
     ⟨some 10, .bin .lss (.tmp 6) (.tmp 9), none, 0⟩])
  (.cond (.tmp 10)
   .skip
   (.exit 0)))
 (.seq (.block 1
   (.seq (.ops [⟨some 13, .fieldAddr 0 (.tmp 2), none, 0⟩,
      ⟨some 14, .load 1 false (.tmp 13), none, 0⟩,
      ⟨some 15, .mov (.tmp 5), none, 0⟩,
      ⟨some 16, .addrRow 5 (.tmp 14) (.tmp 15), none, 0⟩,
      ⟨some 17, .fieldAddr 0 (.tmp 16), none, 0⟩,
      ⟨some 18, .load 1 false (.tmp 17), none, 0⟩,
      ⟨some 19, .mov (.tmp 1), none, 0⟩,
      ⟨some 20, .bin .eql (.tmp 18) (.tmp 19), none, 0⟩])
   (.cond (.tmp 20)
    (.seq (.ops [⟨some 21, .mov (.tmp 5), none, 0⟩,
        ⟨some 4, .mov (.tmp 21), none, 0⟩])
     .ret)
    .skip)))
 (.ops [⟨some 11, .mov (.tmp 5), none, 0⟩,
   ⟨some 12, .bin .add (.tmp 11) (.con (.int .i64 1)), none, 0⟩,
   ⟨some 5, .mov (.tmp 12), none, 0⟩])))
def f_haulageref08_ById_s0 (t1 t2 t5 : AV) : List AV := [.unk, t1, t2, .unk, .unk, t5, .unk, .unk, .unk, .unk, .unk, .unk, .unk, .unk, .unk, .unk, .unk, .unk, .unk, .unk, .unk, .unk]
def f_haulageref08_ById : XFunc := { ntmps := 22, res := [.tmp 4], pure := true, body :=
  (.seq (.ops [⟨some 2, .box (.tmp 0), none, 0⟩,
     ⟨some 4, .mov (.con (.int .i64 0)), none, 0⟩])
  (.seq (.seq (.ops [⟨some 5, .mov (.con (.int .i64 0)), none, 0⟩])
   (.block 0
    (.loop f_haulageref08_ById_k0 f_haulageref08_ById_b0)))
  (.seq (.ops [⟨some 4, .mov (.con (.int .i64 (-1))), none, 0⟩])
  .ret))) }
def f_haulageref15_moved_k0 : List Bool := [false, false, true, true, true, false, false, true, true, false, false, false, false, false, false, false, false, false, false, false, false, false, false, false, false, false, false, false, false, false, false, false]
def f_haulageref15_moved_b0 : XCode :=
  (.seq (.seq (.ops [⟨some 11, .mov (.tmp 8), none, 0⟩,
     ⟨some 12, .mov (.tmp 2), none, 0⟩,
     ⟨some 13, .len (.tmp 12), none, 0⟩,
     ⟨some 14, .bin .lss (.tmp 11) (.tmp 13), none, 0⟩])
  (.cond (.tmp 14)
   .skip
   (.exit 0)))
 (.seq (.block 1
   (.seq (.draw [⟨some 18, .load 5 true (.tmp 3), none, 0⟩,
      ⟨some 19, .load 5 true (.tmp 4), none, 0⟩,
      ⟨some 20, .mov (.tmp 2), none, 0⟩,
      ⟨some 21, .mov (.tmp 8), none, 0⟩,
      ⟨some 22, .addrRow 1 (.tmp 20) (.tmp 21), none, 0⟩,
      ⟨some 23, .load 1 false (.tmp 22), none, 0⟩,
      ⟨some 24, .call (.fn 199) [(.tmp 18), (.tmp 19), (.tmp 23)], none, 0⟩,
      ⟨some 17, .mov (.tmp 24), none, 0⟩,
      ⟨some 25, .extract (.tmp 17) 0, none, 0⟩,
      ⟨some 26, .extract (.tmp 17) 1, none, 0⟩,
      ⟨some 9, .mov (.tmp 25), none, 0⟩,
      ⟨some 10, .mov (.tmp 26), none, 0⟩]
     [[], [], [], [], [2, 3], [2, 3, 4], [0, 1, 2, 3, 4, 5], [0, 1, 2, 3, 4, 5, 6], [0, 1, 2, 3, 4, 5, 6, 7], [0, 1, 2, 3, 4, 5, 6, 7], [0, 1, 2, 3, 4, 5, 6, 7, 8], [0, 1, 2, 3, 4, 5, 6, 7, 8, 9, 10]])
   (.ops [⟨some 27, .load 5 true (.tmp 4), none, 0⟩,
     ⟨some 28, .mov (.tmp 7), none, 0⟩,
     ⟨some 29, .mov (.tmp 9), none, 0⟩,
     ⟨some 30, .call (.fn 163) [(.tmp 27), (.tmp 28), (.tmp 29)], none, 0⟩,
     ⟨some 7, .mov (.tmp 30), none, 0⟩])))
 (.ops [⟨some 15, .mov (.tmp 8), none, 0⟩,
   ⟨some 16, .bin .add (.tmp 15) (.con (.int .i64 1)), none, 0⟩,
   ⟨some 8, .mov (.tmp 16), none, 0⟩])))
def f_haulageref15_moved_s0 (t2 t3 t4 t7 t8 : AV) : List AV := [.unk, .unk, t2, t3, t4, .unk, .unk, t7, t8, .unk, .unk, .unk, .unk, .unk, .unk, .unk, .unk, .unk, .unk, .unk, .unk, .unk, .unk, .unk, .unk, .unk, .unk, .unk, .unk, .unk, .unk, .unk]
def f_haulageref15_moved : XFunc := { ntmps := 32, res := [.tmp 6], pure := true, body :=
  (.seq (.ops [⟨some 3, .box (.tmp 0), none, 0⟩,
     ⟨some 4, .box (.tmp 1), none, 0⟩,
     ⟨some 6, .mov (.con .nils), none, 0⟩])
  (.seq (.ops [⟨some 7, .mov (.con .nils), none, 0⟩])
  (.seq (.seq (.ops [⟨some 8, .mov (.con (.int .i64 0)), none, 0⟩])
   (.block 0
    (.loop f_haulageref15_moved_k0 f_haulageref15_moved_b0)))
  (.seq (.ops [⟨some 31, .mov (.tmp 7), none, 0⟩,
     ⟨some 6, .mov (.tmp 31), none, 0⟩])
  .ret)))) }
def f_haulageref08_Column : XFunc := { ntmps := 34, res := [.tmp 2], pure := true, body :=
  (.seq (.ops [⟨some 1, .box (.tmp 0), none, 0⟩,
     ⟨some 2, .mov (.con (.bool false)), none, 0⟩])
  (.seq (.ops [⟨some 3, .fieldAddr 0 (.tmp 1), none, 0⟩,
     ⟨some 4, .load 1 false (.tmp 3), none, 0⟩,
     ⟨some 5, .bin .geq (.tmp 4) (.con (.int .i64 0)), none, 0⟩,
     ⟨some 6, .mov (.tmp 5), none, 0⟩,
     ⟨some 7, .fieldAddr 0 (.tmp 1), some (6, true), 0⟩,
     ⟨some 8, .load 1 false (.tmp 7), some (6, true), 0⟩,
     ⟨some 9, .bin .lss (.tmp 8) (.con (.int .i64 200)), some (6, true), 0⟩,
     ⟨some 10, .pick (.tmp 6) (.tmp 9) (.con (.bool false)), none, 0⟩,
     ⟨some 11, .mov (.tmp 10), none, 0⟩,
     ⟨some 12, .fieldAddr 1 (.tmp 1), some (11, true), 0⟩,
     ⟨some 13, .load 1 false (.tmp 12), some (11, true), 0⟩,
     ⟨some 14, .call (.fn 188) [(.tmp 13)], some (11, true), 0⟩,
     ⟨some 15, .pick (.tmp 11) (.tmp 14) (.con (.bool false)), none, 0⟩,
     ⟨some 16, .mov (.tmp 15), none, 0⟩,
     ⟨some 17, .fieldAddr 2 (.tmp 1), some (16, true), 0⟩,
     ⟨some 18, .load 2 true (.tmp 17), some (16, true), 0⟩,
     ⟨some 19, .call (.fn 85) [(.tmp 18)], some (16, true), 0⟩,
     ⟨some 20, .pick (.tmp 16) (.tmp 19) (.con (.bool false)), none, 0⟩,
     ⟨some 21, .mov (.tmp 20), none, 0⟩,
     ⟨some 22, .fieldAddr 5 (.tmp 1), some (21, true), 0⟩,
     ⟨some 23, .load 3 true (.tmp 22), some (21, true), 0⟩,
     ⟨some 24, .build [.int .i64 0, .int .i64 0, .str []] [], some (21, true), 0⟩,
     ⟨some 25, .eqA false (.struct [(0, 1, .int), (1, 1, .int), (2, 1, .str)]) (.tmp 23) (.tmp 24), some (21, true), 0⟩,
     ⟨some 26, .mov (.tmp 25), some (21, true), 0⟩,
     ⟨some 27, .fieldAddr 2 (.tmp 1), some (26, false), 0⟩,
     ⟨some 28, .load 2 true (.tmp 27), some (26, false), 0⟩,
     ⟨some 29, .fieldAddr 5 (.tmp 1), some (26, false), 0⟩,
     ⟨some 30, .load 3 true (.tmp 29), some (26, false), 0⟩,
     ⟨some 31, .call (.fn 87) [(.tmp 28), (.tmp 30)], some (26, false), 0⟩,
     ⟨some 32, .pick (.tmp 26) (.con (.bool true)) (.tmp 31), some (21, true), 0⟩,
     ⟨some 33, .pick (.tmp 21) (.tmp 32) (.con (.bool false)), none, 0⟩,
     ⟨some 2, .mov (.tmp 33), none, 0⟩])
  .ret)) }
def f_haulageref08_Col_k0 : List Bool := [false, true, true, false, false, true, false, false, false, false, false, false, false, false, false, false, false, false, false, false, false, false]
def f_haulageref08_Col_b0 : XCode :=
  (.seq (.seq (.ops [⟨some 6, .mov (.tmp 5), none, 0⟩,
     ⟨some 7, .fieldAddr 4 (.tmp 2), none, 0⟩,
     ⟨some 8, .load 1 false (.tmp 7), none, 0⟩,
     ⟨some 9, .len (.tmp 8), none, 0⟩,
     ⟨some 10, .bin .lss (.tmp 6) (.tmp 9), none, 0⟩])
  (.cond (.tmp 10)
   .skip
   (.exit 0)))
 (.seq (.block 1
   (.seq (.ops [⟨some 13, .fieldAddr 4 (.tmp 2), none, 0⟩,
      ⟨some 14, .load 1 false (.tmp 13), none, 0⟩,
      ⟨some 15, .mov (.tmp 5), none, 0⟩,
      ⟨some 16, .addrRow 8 (.tmp 14) (.tmp 15), none, 0⟩,
      ⟨some 17, .fieldAddr 1 (.tmp 16), none, 0⟩,
      ⟨some 18, .load 1 false (.tmp 17), none, 0⟩,
      ⟨some 19, .mov (.tmp 1), none, 0⟩,
      ⟨some 20, .bin .eql (.tmp 18) (.tmp 19), none, 0⟩])
   (.cond (.tmp 20)
    (.seq (.ops [⟨some 21, .mov (.tmp 5), none, 0⟩,
        ⟨some 4, .mov (.tmp 21), none, 0⟩])
     .ret)
    .skip)))
 (.ops [⟨some 11, .mov (.tmp 5), none, 0⟩,
   ⟨some 12, .bin .add (.tmp 11) (.con (.int .i64 1)), none, 0⟩,
   ⟨some 5, .mov (.tmp 12), none, 0⟩])))
def f_haulageref08_Col_s0 (t1 t2 t5 : AV) : List AV := [.unk, t1, t2, .unk, .unk, t5, .unk, .unk, .unk, .unk, .unk, .unk, .unk, .unk, .unk, .unk, .unk, .unk, .unk, .unk, .unk, .unk]
def f_haulageref08_Col : XFunc := { ntmps := 22, res := [.tmp 4], pure := true, body :=
  (.seq (.ops [⟨some 2, .box (.tmp 0), none, 0⟩,
     ⟨some 4, .mov (.con (.int .i64 0)), none, 0⟩])
  (.seq (.seq (.ops [⟨some 5, .mov (.con (.int .i64 0)), none, 0⟩])
   (.block 0
    (.loop f_haulageref08_Col_k0 f_haulageref08_Col_b0)))
  (.seq (.ops [⟨some 4, .mov (.con (.int .i64 (-1))), none, 0⟩])
  .ret))) }
def f_haulageref09_create_k1 : List Bool := [false, false, false, false, true, false, false, true, true, true, false, false, false, false, false, false, false, false, false, false, false, false, false, false, false, false, false, false, false, false, false, false, false, false, false, false, false, false, false, false, false, false, false, false, false, false, false, false, false, false, false, false, false, false, false, false, false, false, false, false, false, false, false, false, false, false, false, false, false, false, false, false, false, false, false, false, false, false, false, false, false, false, false, false, false, false, false, false, false, false, false, false, false, false, false, false]
def f_haulageref09_create_b1 : XCode :=
  (.seq (.seq (.ops [⟨some 58, .mov (.tmp 9), none, 0⟩,
     ⟨some 59, .mov (.tmp 7), none, 0⟩,
     ⟨some 60, .bin .lss (.tmp 58) (.tmp 59), none, 0⟩])
  (.cond (.tmp 60)
   .skip
   (.exit 3)))
 (.seq (.block 4
   (.seq (.draw [⟨some 63, .fieldAddr 11 (.tmp 4), none, 0⟩,
      ⟨some 64, .load 1 false (.tmp 63), none, 0⟩,
      ⟨some 65, .mov (.tmp 9), none, 0⟩,
      ⟨some 66, .addrRow 8 (.tmp 64) (.tmp 65), none, 0⟩,
      ⟨some 67, .fieldAddr 1 (.tmp 66), none, 0⟩,
      ⟨some 68, .load 1 false (.tmp 67), none, 0⟩,
      ⟨some 69, .fieldAddr 1 (.tmp 8), none, 0⟩,
      ⟨some 70, .load 1 false (.tmp 69), none, 0⟩,
      ⟨some 71, .bin .eql (.tmp 68) (.tmp 70), none, 0⟩]
     [[], [0], [], [0, 1, 2], [0, 1, 2, 3], [0, 1, 2, 3, 4], [], [6], [0, 1, 2, 3, 4, 5, 6, 7]])
   (.cond (.tmp 71)
    (.seq (.ops [⟨some 6, .mov (.con (.int .i64 14)), none, 0⟩])
     .ret)
    .skip)))
 (.ops [⟨some 61, .mov (.tmp 9), none, 0⟩,
   ⟨some 62, .bin .add (.tmp 61) (.con (.int .i64 1)), none, 0⟩,
   ⟨some 9, .mov (.tmp 62), none, 0⟩])))
def f_haulageref09_create_s1 (t4 t7 t8 t9 : AV) : List AV := [.unk, .unk, .unk, .unk, t4, .unk, .unk, t7, t8, t9, .unk, .unk, .unk, .unk, .unk, .unk, .unk, .unk, .unk, .unk, .unk, .unk, .unk, .unk, .unk, .unk, .unk, .unk, .unk, .unk, .unk, .unk, .unk, .unk, .unk, .unk, .unk, .unk, .unk, .unk, .unk, .unk, .unk, .unk, .unk, .unk, .unk, .unk, .unk, .unk, .unk, .unk, .unk, .unk, .unk, .unk, .unk, .unk, .unk, .unk, .unk, .unk, .unk, .unk, .unk, .unk, .unk, .unk, .unk, .unk, .unk, .unk, .unk, .unk, .unk, .unk, .unk, .unk, .unk, .unk, .unk, .unk, .unk, .unk, .unk, .unk, .unk, .unk, .unk, .unk, .unk, .unk, .unk, .unk, .unk, .unk]
def f_haulageref09_create_k0 : List Bool := [false, false, false, false, true, false, false, true, false, false, false, false, false, false, false, false, false, false, false, false, false, false, false, false, false, false, false, false, false, false, false, false, false, false, false, false, false, false, false, false, false, false, false, false, false, false, false, false, false, false, false, false, false, false, false, false, false, false, false, false, false, false, false, false, false, false, false, false, false, false, false, false, false, false, false, false, false, false, false, false, false, false, false, false, false, false, false, false, false, false, false, false, false, false, false, false]
def f_haulageref09_create_b0 : XCode :=
  (.seq (.seq (.ops [⟨some 42, .mov (.tmp 7), none, 0⟩,
     ⟨some 43, .fieldAddr 11 (.tmp 4), none, 0⟩,
     ⟨some 44, .load 1 false (.tmp 43), none, 0⟩,
     ⟨some 45, .len (.tmp 44), none, 0⟩,
     ⟨some 46, .bin .lss (.tmp 42) (.tmp 45), none, 0⟩])
  (.cond (.tmp 46)
   .skip
   (.exit 1)))
 (.seq (.block 2
   (.seq (.ops [⟨some 49, .fieldAddr 11 (.tmp 4), none, 0⟩,
      ⟨some 50, .load 1 false (.tmp 49), none, 0⟩,
      ⟨some 51, .mov (.tmp 7), none, 0⟩,
      ⟨some 52, .addrRow 8 (.tmp 50) (.tmp 51), none, 0⟩,
      ⟨some 53, .load 8 true (.tmp 52), none, 0⟩,
      ⟨some 8, .alloc [.int .i64 0, .str [], .int .i64 0, .int .i64 0, .bool false, .int .i64 0, .int .i64 0, .str []], none, 0⟩,
      ⟨none, .store 8 (.tmp 8) (.tmp 53), none, 0⟩])
   (.seq (.seq (.ops [⟨some 54, .fieldAddr 1 (.tmp 8), none, 0⟩,
       ⟨some 55, .load 1 false (.tmp 54), none, 0⟩,
       ⟨some 56, .call (.fn 188) [(.tmp 55)], none, 0⟩,
       ⟨some 57, .un .not (.tmp 56), none, 0⟩])
    (.cond (.tmp 57)
     (.seq (.ops [⟨some 6, .mov (.con (.int .i64 8)), none, 0⟩])
      .ret)
     .skip))
   (.seq (.seq (.ops [⟨some 9, .mov (.con (.int .i64 0)), none, 0⟩])
    (.block 3
     (.loop f_haulageref09_create_k1 f_haulageref09_create_b1)))
   (.seq (.seq (.ops [⟨some 72, .fieldAddr 2 (.tmp 8), none, 0⟩,
       ⟨some 73, .load 2 true (.tmp 72), none, 0⟩,
       ⟨some 74, .call (.fn 85) [(.tmp 73)], none, 0⟩,
       ⟨some 75, .un .not (.tmp 74), none, 0⟩])
    (.cond (.tmp 75)
     (.seq (.ops [⟨some 6, .mov (.con (.int .i64 9)), none, 0⟩])
      .ret)
     .skip))
   (.seq (.ops [⟨some 76, .fieldAddr 2 (.tmp 8), none, 0⟩,
      ⟨some 77, .load 2 true (.tmp 76), none, 0⟩,
      ⟨some 78, .fieldAddr 5 (.tmp 8), none, 0⟩,
      ⟨some 79, .load 3 true (.tmp 78), none, 0⟩,
      ⟨some 80, .call (.fn 200) [(.tmp 77), (.tmp 79)], none, 0⟩,
      ⟨some 81, .un .not (.tmp 80), none, 0⟩])
   (.cond (.tmp 81)
    (.seq (.ops [⟨some 6, .mov (.con (.int .i64 10)), none, 0⟩])
     .ret)
    .skip)))))))
 (.ops [⟨some 47, .mov (.tmp 7), none, 0⟩,
   ⟨some 48, .bin .add (.tmp 47) (.con (.int .i64 1)), none, 0⟩,
   ⟨some 7, .mov (.tmp 48), none, 0⟩])))
def f_haulageref09_create_s0 (t4 t7 : AV) : List AV := [.unk, .unk, .unk, .unk, t4, .unk, .unk, t7, .unk, .unk, .unk, .unk, .unk, .unk, .unk, .unk, .unk, .unk, .unk, .unk, .unk, .unk, .unk, .unk, .unk, .unk, .unk, .unk, .unk, .unk, .unk, .unk, .unk, .unk, .unk, .unk, .unk, .unk, .unk, .unk, .unk, .unk, .unk, .unk, .unk, .unk, .unk, .unk, .unk, .unk, .unk, .unk, .unk, .unk, .unk, .unk, .unk, .unk, .unk, .unk, .unk, .unk, .unk, .unk, .unk, .unk, .unk, .unk, .unk, .unk, .unk, .unk, .unk, .unk, .unk, .unk, .unk, .unk, .unk, .unk, .unk, .unk, .unk, .unk, .unk, .unk, .unk, .unk, .unk, .unk, .unk, .unk, .unk, .unk, .unk, .unk]
def f_haulageref09_create : XFunc := { ntmps := 96, res := [.tmp 6], pure := true, body :=
  (.seq (.ops [⟨some 3, .box (.tmp 0), none, 0⟩,
     ⟨some 4, .box (.tmp 1), none, 0⟩,
     ⟨some 6, .mov (.con (.int .i64 0)), none, 0⟩])
  (.seq (.block 0
    (.seq (.ops [⟨some 12, .fieldAddr 1 (.tmp 4), none, 0⟩,
       ⟨some 13, .load 1 false (.tmp 12), none, 0⟩,
       ⟨some 14, .call (.fn 188) [(.tmp 13)], none, 0⟩,
       ⟨some 15, .un .not (.tmp 14), none, 0⟩,
       ⟨some 11, .mov (.tmp 15), none, 0⟩])
    (.cond (.tmp 11)
     (.seq (.ops [⟨some 6, .mov (.con (.int .i64 8)), none, 0⟩])
      .ret)
     (.seq (.ops [⟨some 17, .load 1 true (.tmp 3), none, 0⟩,
         ⟨some 18, .fieldAddr 1 (.tmp 4), none, 0⟩,
         ⟨some 19, .load 1 false (.tmp 18), none, 0⟩,
         ⟨some 20, .call (.fn 154) [(.tmp 17), (.tmp 19)], none, 0⟩,
         ⟨some 21, .bin .geq (.tmp 20) (.con (.int .i64 0)), none, 0⟩,
         ⟨some 16, .mov (.tmp 21), none, 0⟩])
      (.cond (.tmp 16)
       (.seq (.ops [⟨some 6, .mov (.con (.int .i64 14)), none, 0⟩])
        .ret)
       (.seq (.ops [⟨some 23, .fieldAddr 0 (.tmp 3), none, 0⟩,
           ⟨some 24, .load 1 false (.tmp 23), none, 0⟩,
           ⟨some 25, .len (.tmp 24), none, 0⟩,
           ⟨some 26, .bin .geq (.tmp 25) (.con (.int .i64 6)), none, 0⟩,
           ⟨some 22, .mov (.tmp 26), none, 0⟩])
        (.cond (.tmp 22)
         (.seq (.ops [⟨some 6, .mov (.con (.int .i64 3)), none, 0⟩])
          .ret)
         (.seq (.ops [⟨some 28, .load 1 true (.tmp 3), none, 0⟩,
             ⟨some 29, .mov (.tmp 2), none, 0⟩,
             ⟨some 30, .call (.fn 180) [(.tmp 28), (.tmp 29)], none, 0⟩,
             ⟨some 31, .bin .geq (.tmp 30) (.con (.int .i64 0)), none, 0⟩,
             ⟨some 27, .mov (.tmp 31), none, 0⟩])
          (.cond (.tmp 27)
           (.seq (.ops [⟨some 6, .mov (.con (.int .i64 24)), none, 0⟩])
            .ret)
           (.seq (.ops [⟨some 33, .fieldAddr 11 (.tmp 4), none, 0⟩,
               ⟨some 34, .load 1 false (.tmp 33), none, 0⟩,
               ⟨some 35, .len (.tmp 34), none, 0⟩,
               ⟨some 36, .bin .eql (.tmp 35) (.con (.int .i64 0)), none, 0⟩,
               ⟨some 32, .mov (.tmp 36), none, 0⟩])
            (.cond (.tmp 32)
             (.seq (.ops [⟨some 6, .mov (.con (.int .i64 5)), none, 0⟩])
              .ret)
             (.seq (.ops [⟨some 38, .fieldAddr 11 (.tmp 4), none, 0⟩,
                 ⟨some 39, .load 1 false (.tmp 38), none, 0⟩,
                 ⟨some 40, .len (.tmp 39), none, 0⟩,
                 ⟨some 41, .bin .gtr (.tmp 40) (.con (.int .i64 10)), none, 0⟩,
                 ⟨some 37, .mov (.tmp 41), none, 0⟩])
              (.cond (.tmp 37)
               (.seq (.ops [⟨some 6, .mov (.con (.int .i64 3)), none, 0⟩])
                .ret)
               .skip)))))))))))))
  (.seq (.seq (.ops [⟨some 7, .mov (.con (.int .i64 0)), none, 0⟩])
   (.block 1
    (.loop f_haulageref09_create_k0 f_haulageref09_create_b0)))
  (.seq (.ops [⟨some 82, .fieldAddr 11 (.tmp 4), none, 0⟩,
     ⟨some 83, .load 1 false (.tmp 82), none, 0⟩,
     ⟨some 84, .build [.int .i64 0, .str [], .int .i64 0, .int .i64 0, .nils] [(4, 1, (.tmp 83))], none, 0⟩,
     ⟨some 85, .fieldAddr 4 (.tmp 4), none, 0⟩,
     ⟨some 86, .load 1 false (.tmp 85), none, 0⟩,
     ⟨some 87, .call (.fn 190) [(.tmp 84), (.tmp 86)], none, 0⟩,
     ⟨some 10, .mov (.tmp 87), none, 0⟩])
  (.seq (.seq (.ops [⟨some 88, .mov (.tmp 10), none, 0⟩,
      ⟨some 89, .bin .lss (.tmp 88) (.con (.int .i64 0)), none, 0⟩])
   (.cond (.tmp 89)
    (.seq (.ops [⟨some 6, .mov (.con (.int .i64 15)), none, 0⟩])
     .ret)
    .skip))
  (.seq (.seq (.ops [⟨some 90, .fieldAddr 11 (.tmp 4), none, 0⟩,
      ⟨some 91, .load 1 false (.tmp 90), none, 0⟩,
      ⟨some 92, .mov (.tmp 10), none, 0⟩,
      ⟨some 93, .addrRow 8 (.tmp 91) (.tmp 92), none, 0⟩,
      ⟨some 94, .fieldAddr 4 (.tmp 93), none, 0⟩,
      ⟨some 95, .load 1 false (.tmp 94), none, 0⟩])
   (.cond (.tmp 95)
    (.seq (.ops [⟨some 6, .mov (.con (.int .i64 11)), none, 0⟩])
     .ret)
    .skip))
  (.seq (.ops [⟨some 6, .mov (.con (.int .i64 0)), none, 0⟩])
  .ret))))))) }
def f_haulageref09_made_k0 : List Bool := [false, false, true, false, true, true, true, false, false, false, false, false, false, false, false, false, false, false, false, false, false, false, false, false, false, false, false, false, false, false, false, false, false, false, false, false, false, false, false, false, false, false, false]
def f_haulageref09_made_b0 : XCode :=
  (.seq (.seq (.ops [⟨some 15, .mov (.tmp 6), none, 0⟩,
     ⟨some 16, .fieldAddr 11 (.tmp 2), none, 0⟩,
     ⟨some 17, .load 1 false (.tmp 16), none, 0⟩,
     ⟨some 18, .len (.tmp 17), none, 0⟩,
     ⟨some 19, .bin .lss (.tmp 15) (.tmp 18), none, 0⟩])
  (.cond (.tmp 19)
   .skip
   (.exit 0)))
 (.seq (.block 1
   (.seq (.ops [⟨some 22, .fieldAddr 11 (.tmp 2), none, 0⟩,
      ⟨some 23, .load 1 false (.tmp 22), none, 0⟩,
      ⟨some 24, .mov (.tmp 6), none, 0⟩,
      ⟨some 25, .addrRow 8 (.tmp 23) (.tmp 24), none, 0⟩,
      ⟨some 26, .load 8 true (.tmp 25), none, 0⟩,
      ⟨some 7, .alloc [.int .i64 0, .str [], .int .i64 0, .int .i64 0, .bool false, .int .i64 0, .int .i64 0, .str []], none, 0⟩,
      ⟨none, .store 8 (.tmp 7) (.tmp 26), none, 0⟩])
   (.seq (.ops [⟨some 27, .mov (.tmp 6), none, 0⟩,
      ⟨some 28, .fieldAddr 0 (.tmp 7), none, 0⟩,
      ⟨none, .store 1 (.tmp 28) (.tmp 27), none, 0⟩])
   (.seq (.seq (.ops [⟨some 29, .fieldAddr 1 (.tmp 7), none, 0⟩,
       ⟨some 30, .load 1 false (.tmp 29), none, 0⟩,
       ⟨some 31, .fieldAddr 4 (.tmp 2), none, 0⟩,
       ⟨some 32, .load 1 false (.tmp 31), none, 0⟩,
       ⟨some 33, .bin .eql (.tmp 30) (.tmp 32), none, 0⟩])
    (.cond (.tmp 33)
     (.ops [⟨some 34, .mov (.tmp 6), none, 0⟩,
        ⟨some 35, .fieldAddr 2 (.tmp 5), none, 0⟩,
        ⟨none, .store 1 (.tmp 35) (.tmp 34), none, 0⟩])
     .skip))
   (.ops [⟨some 36, .fieldAddr 4 (.tmp 5), none, 0⟩,
     ⟨some 37, .load 1 false (.tmp 36), none, 0⟩,
     ⟨some 38, .load 8 true (.tmp 7), none, 0⟩,
     ⟨some 39, .rowVals 8 1 [.int .i64 0, .str [], .int .i64 0, .int .i64 0, .bool false, .int .i64 0, .int .i64 0, .str []] [(0, 8, (.tmp 38))], none, 0⟩,
     ⟨some 40, .append false 8 80 (.tmp 37) (.tmp 39), none, 0⟩,
     ⟨some 41, .fieldAddr 4 (.tmp 5), none, 0⟩,
     ⟨none, .store 1 (.tmp 41) (.tmp 40), none, 0⟩])))))
 (.ops [⟨some 20, .mov (.tmp 6), none, 0⟩,
   ⟨some 21, .bin .add (.tmp 20) (.con (.int .i64 1)), none, 0⟩,
   ⟨some 6, .mov (.tmp 21), none, 0⟩])))
def f_haulageref09_made_s0 (t2 t4 t5 t6 : AV) : List AV := [.unk, .unk, t2, .unk, t4, t5, t6, .unk, .unk, .unk, .unk, .unk, .unk, .unk, .unk, .unk, .unk, .unk, .unk, .unk, .unk, .unk, .unk, .unk, .unk, .unk, .unk, .unk, .unk, .unk, .unk, .unk, .unk, .unk, .unk, .unk, .unk, .unk, .unk, .unk, .unk, .unk, .unk]
def f_haulageref09_made : XFunc := { ntmps := 43, res := [.cell 4 5 true], pure := true, body :=
  (.seq (.ops [⟨some 2, .box (.tmp 0), none, 0⟩,
     ⟨some 4, .alloc [.int .i64 0, .str [], .int .i64 0, .int .i64 0, .nils], none, 0⟩])
  (.seq (.ops [⟨some 8, .mov (.tmp 1), none, 0⟩,
     ⟨some 9, .fieldAddr 1 (.tmp 2), none, 0⟩,
     ⟨some 10, .load 1 false (.tmp 9), none, 0⟩,
     ⟨some 11, .fieldAddr 11 (.tmp 2), none, 0⟩,
     ⟨some 12, .load 1 false (.tmp 11), none, 0⟩,
     ⟨some 13, .len (.tmp 12), none, 0⟩,
     ⟨some 14, .build [.int .i64 0, .str [], .int .i64 0, .int .i64 0, .nils] [(0, 1, (.tmp 8)), (1, 1, (.tmp 10)), (3, 1, (.tmp 13))], none, 0⟩,
     ⟨some 5, .alloc [.int .i64 0, .str [], .int .i64 0, .int .i64 0, .nils], none, 0⟩,
     ⟨none, .store 5 (.tmp 5) (.tmp 14), none, 0⟩])
  (.seq (.seq (.ops [⟨some 6, .mov (.con (.int .i64 0)), none, 0⟩])
   (.block 0
    (.loop f_haulageref09_made_k0 f_haulageref09_made_b0)))
  (.seq (.ops [⟨some 42, .load 5 true (.tmp 5), none, 0⟩,
     ⟨none, .store 5 (.tmp 4) (.tmp 42), none, 0⟩])
  .ret)))) }
def f_haulageref09_wrong : XFunc := { ntmps := 107, res := [.tmp 6], pure := true, body :=
  (.seq (.ops [⟨some 3, .box (.tmp 0), none, 0⟩,
     ⟨some 4, .box (.tmp 1), none, 0⟩,
     ⟨some 5, .box (.tmp 2), none, 0⟩,
     ⟨some 6, .mov (.con (.int .i64 0)), none, 0⟩])
  (.seq (.seq (.ops [⟨some 9, .fieldAddr 0 (.tmp 5), none, 0⟩,
      ⟨some 10, .load 1 false (.tmp 9), none, 0⟩,
      ⟨some 11, .bin .eql (.tmp 10) (.con (.int .i64 2)), none, 0⟩])
   (.cond (.tmp 11)
    (.seq (.ops [⟨some 6, .mov (.con (.int .i64 0)), none, 0⟩])
     .ret)
    .skip))
  (.seq (.seq (.ops [⟨some 12, .fieldAddr 0 (.tmp 5), none, 0⟩,
      ⟨some 13, .load 1 false (.tmp 12), none, 0⟩,
      ⟨some 14, .bin .eql (.tmp 13) (.con (.int .i64 3)), none, 0⟩])
   (.cond (.tmp 14)
    (.seq (.seq (.ops [⟨some 15, .fieldAddr 3 (.tmp 5), none, 0⟩,
         ⟨some 16, .load 1 false (.tmp 15), none, 0⟩,
         ⟨some 17, .call (.fn 188) [(.tmp 16)], none, 0⟩,
         ⟨some 18, .un .not (.tmp 17), none, 0⟩])
      (.cond (.tmp 18)
       (.seq (.ops [⟨some 6, .mov (.con (.int .i64 8)), none, 0⟩])
        .ret)
       .skip))
     (.seq (.seq (.ops [⟨some 19, .load 1 true (.tmp 3), none, 0⟩,
         ⟨some 20, .fieldAddr 3 (.tmp 5), none, 0⟩,
         ⟨some 21, .load 1 false (.tmp 20), none, 0⟩,
         ⟨some 22, .call (.fn 154) [(.tmp 19), (.tmp 21)], none, 0⟩,
         ⟨some 23, .bin .geq (.tmp 22) (.con (.int .i64 0)), none, 0⟩])
      (.cond (.tmp 23)
       (.seq (.ops [⟨some 6, .mov (.con (.int .i64 14)), none, 0⟩])
        .ret)
       .skip))
     (.seq (.ops [⟨some 6, .mov (.con (.int .i64 0)), none, 0⟩])
     .ret)))
    .skip))
  (.seq (.seq (.ops [⟨some 24, .fieldAddr 0 (.tmp 5), none, 0⟩,
      ⟨some 25, .load 1 false (.tmp 24), none, 0⟩,
      ⟨some 26, .bin .eql (.tmp 25) (.con (.int .i64 4)), none, 0⟩])
   (.cond (.tmp 26)
    (.seq (.ops [⟨some 27, .load 5 true (.tmp 4), none, 0⟩,
        ⟨some 28, .load 12 true (.tmp 5), none, 0⟩,
        ⟨some 29, .call (.fn 201) [(.tmp 27), (.tmp 28)], none, 0⟩,
        ⟨some 6, .mov (.tmp 29), none, 0⟩])
     .ret)
    .skip))
  (.seq (.ops [⟨some 30, .load 5 true (.tmp 4), none, 0⟩,
     ⟨some 31, .fieldAddr 2 (.tmp 5), none, 0⟩,
     ⟨some 32, .load 1 false (.tmp 31), none, 0⟩,
     ⟨some 33, .call (.fn 190) [(.tmp 30), (.tmp 32)], none, 0⟩,
     ⟨some 7, .mov (.tmp 33), none, 0⟩])
  (.seq (.seq (.ops [⟨some 34, .mov (.tmp 7), none, 0⟩,
      ⟨some 35, .bin .lss (.tmp 34) (.con (.int .i64 0)), none, 0⟩])
   (.cond (.tmp 35)
    (.seq (.ops [⟨some 6, .mov (.con (.int .i64 13)), none, 0⟩])
     .ret)
    .skip))
  (.seq (.ops [⟨some 36, .fieldAddr 4 (.tmp 4), none, 0⟩,
     ⟨some 37, .load 1 false (.tmp 36), none, 0⟩,
     ⟨some 38, .mov (.tmp 7), none, 0⟩,
     ⟨some 39, .addrRow 8 (.tmp 37) (.tmp 38), none, 0⟩,
     ⟨some 40, .load 8 true (.tmp 39), none, 0⟩,
     ⟨some 8, .alloc [.int .i64 0, .str [], .int .i64 0, .int .i64 0, .bool false, .int .i64 0, .int .i64 0, .str []], none, 0⟩,
     ⟨none, .store 8 (.tmp 8) (.tmp 40), none, 0⟩])
  (.seq (.block 0
    (.seq (.ops [⟨some 42, .fieldAddr 0 (.tmp 5), none, 0⟩,
       ⟨some 43, .load 1 false (.tmp 42), none, 0⟩,
       ⟨some 44, .bin .eql (.tmp 43) (.con (.int .i64 5)), none, 0⟩,
       ⟨some 45, .mov (.tmp 44), none, 0⟩,
       ⟨some 46, .fieldAddr 0 (.tmp 8), some (45, true), 0⟩,
       ⟨some 47, .load 1 false (.tmp 46), some (45, true), 0⟩,
       ⟨some 48, .fieldAddr 2 (.tmp 4), some (45, true), 0⟩,
       ⟨some 49, .load 1 false (.tmp 48), some (45, true), 0⟩,
       ⟨some 50, .bin .eql (.tmp 47) (.tmp 49), some (45, true), 0⟩,
       ⟨some 51, .pick (.tmp 45) (.tmp 50) (.con (.bool false)), none, 0⟩,
       ⟨some 41, .mov (.tmp 51), none, 0⟩])
    (.cond (.tmp 41)
     (.seq (.ops [⟨some 6, .mov (.con (.int .i64 15)), none, 0⟩])
      .ret)
     (.seq (.ops [⟨some 53, .fieldAddr 0 (.tmp 5), none, 0⟩,
         ⟨some 54, .load 1 false (.tmp 53), none, 0⟩,
         ⟨some 55, .bin .eql (.tmp 54) (.con (.int .i64 6)), none, 0⟩,
         ⟨some 56, .mov (.tmp 55), none, 0⟩,
         ⟨some 57, .fieldAddr 3 (.tmp 5), some (56, true), 0⟩,
         ⟨some 58, .load 1 false (.tmp 57), some (56, true), 0⟩,
         ⟨some 59, .call (.fn 188) [(.tmp 58)], some (56, true), 0⟩,
         ⟨some 60, .un .not (.tmp 59), some (56, true), 0⟩,
         ⟨some 61, .pick (.tmp 56) (.tmp 60) (.con (.bool false)), none, 0⟩,
         ⟨some 52, .mov (.tmp 61), none, 0⟩])
      (.cond (.tmp 52)
       (.seq (.ops [⟨some 6, .mov (.con (.int .i64 8)), none, 0⟩])
        .ret)
       (.seq (.ops [⟨some 63, .fieldAddr 0 (.tmp 5), none, 0⟩,
           ⟨some 64, .load 1 false (.tmp 63), none, 0⟩,
           ⟨some 65, .bin .eql (.tmp 64) (.con (.int .i64 6)), none, 0⟩,
           ⟨some 66, .mov (.tmp 65), none, 0⟩,
           ⟨some 67, .load 5 true (.tmp 4), some (66, true), 0⟩,
           ⟨some 68, .fieldAddr 3 (.tmp 5), some (66, true), 0⟩,
           ⟨some 69, .load 1 false (.tmp 68), some (66, true), 0⟩,
           ⟨some 70, .call (.fn 190) [(.tmp 67), (.tmp 69)], some (66, true), 0⟩,
           ⟨some 71, .bin .geq (.tmp 70) (.con (.int .i64 0)), some (66, true), 0⟩,
           ⟨some 72, .pick (.tmp 66) (.tmp 71) (.con (.bool false)), none, 0⟩,
           ⟨some 62, .mov (.tmp 72), none, 0⟩])
        (.cond (.tmp 62)
         (.seq (.ops [⟨some 6, .mov (.con (.int .i64 14)), none, 0⟩])
          .ret)
         (.seq (.ops [⟨some 74, .fieldAddr 0 (.tmp 5), none, 0⟩,
             ⟨some 75, .load 1 false (.tmp 74), none, 0⟩,
             ⟨some 76, .bin .eql (.tmp 75) (.con (.int .i64 7)), none, 0⟩,
             ⟨some 77, .mov (.tmp 76), none, 0⟩,
             ⟨some 78, .fieldAddr 5 (.tmp 5), some (77, true), 0⟩,
             ⟨some 79, .load 2 true (.tmp 78), some (77, true), 0⟩,
             ⟨some 80, .call (.fn 85) [(.tmp 79)], some (77, true), 0⟩,
             ⟨some 81, .un .not (.tmp 80), some (77, true), 0⟩,
             ⟨some 82, .pick (.tmp 77) (.tmp 81) (.con (.bool false)), none, 0⟩,
             ⟨some 73, .mov (.tmp 82), none, 0⟩])
          (.cond (.tmp 73)
           (.seq (.ops [⟨some 6, .mov (.con (.int .i64 9)), none, 0⟩])
            .ret)
           (.seq (.ops [⟨some 84, .fieldAddr 0 (.tmp 5), none, 0⟩,
               ⟨some 85, .load 1 false (.tmp 84), none, 0⟩,
               ⟨some 86, .bin .eql (.tmp 85) (.con (.int .i64 7)), none, 0⟩,
               ⟨some 87, .mov (.tmp 86), none, 0⟩,
               ⟨some 88, .fieldAddr 5 (.tmp 5), some (87, true), 0⟩,
               ⟨some 89, .load 2 true (.tmp 88), some (87, true), 0⟩,
               ⟨some 90, .fieldAddr 2 (.tmp 8), some (87, true), 0⟩,
               ⟨some 91, .load 2 true (.tmp 90), some (87, true), 0⟩,
               ⟨some 92, .call (.fn 88) [(.tmp 89), (.tmp 91)], some (87, true), 0⟩,
               ⟨some 93, .un .not (.tmp 92), some (87, true), 0⟩,
               ⟨some 94, .pick (.tmp 87) (.tmp 93) (.con (.bool false)), none, 0⟩,
               ⟨some 83, .mov (.tmp 94), none, 0⟩])
            (.cond (.tmp 83)
             (.seq (.ops [⟨some 6, .mov (.con (.int .i64 16)), none, 0⟩])
              .ret)
             (.seq (.ops [⟨some 96, .fieldAddr 0 (.tmp 5), none, 0⟩,
                 ⟨some 97, .load 1 false (.tmp 96), none, 0⟩,
                 ⟨some 98, .bin .eql (.tmp 97) (.con (.int .i64 8)), none, 0⟩,
                 ⟨some 99, .mov (.tmp 98), none, 0⟩,
                 ⟨some 100, .fieldAddr 2 (.tmp 8), some (99, true), 0⟩,
                 ⟨some 101, .load 2 true (.tmp 100), some (99, true), 0⟩,
                 ⟨some 102, .fieldAddr 8 (.tmp 5), some (99, true), 0⟩,
                 ⟨some 103, .load 3 true (.tmp 102), some (99, true), 0⟩,
                 ⟨some 104, .call (.fn 200) [(.tmp 101), (.tmp 103)], some (99, true), 0⟩,
                 ⟨some 105, .un .not (.tmp 104), some (99, true), 0⟩,
                 ⟨some 106, .pick (.tmp 99) (.tmp 105) (.con (.bool false)), none, 0⟩,
                 ⟨some 95, .mov (.tmp 106), none, 0⟩])
              (.cond (.tmp 95)
               (.seq (.ops [⟨some 6, .mov (.con (.int .i64 10)), none, 0⟩])
                .ret)
               .skip)))))))))))))
  (.seq (.ops [⟨some 6, .mov (.con (.int .i64 0)), none, 0⟩])
  .ret))))))))) }
def f_haulageref09_Table_k0 : List Bool := [false, false, true, true, true, true, true, false, false, false, false, false, false, false, false, false, false, false, false, false, false, false, false, false, false, false, false, false, false, false, false, false, false, false, false, false, false, false, false, false, false, false, false, false, false, false, false, false, false, false, false, false, false, false, false, false, false, false, false, false, false, false, false, false, false, false, false, false, false, false, false, false, false, false, false, false, false, false, false, false, false, false, false, false, false, false, false, false, false, false, false, false, false, false, false, false, false, false, false, false, false, false, false, false, false, false, false, false, false, false, false, false, false, false, false, false, false, false, false, false, false, false, false]
def f_haulageref09_Table_b0 : XCode :=
  (.seq (.seq (.ops [⟨some 23, .mov (.tmp 6), none, 0⟩,
     ⟨some 24, .fieldAddr 4 (.tmp 2), none, 0⟩,
     ⟨some 25, .load 1 false (.tmp 24), none, 0⟩,
     ⟨some 26, .len (.tmp 25), none, 0⟩,
     ⟨some 27, .bin .lss (.tmp 23) (.tmp 26), none, 0⟩])
  (.cond (.tmp 27)
   .skip
   (.exit 0)))
 (.seq (.block 1
   (.seq (.ops [⟨some 30, .fieldAddr 4 (.tmp 2), none, 0⟩,
      ⟨some 31, .load 1 false (.tmp 30), none, 0⟩,
      ⟨some 32, .mov (.tmp 6), none, 0⟩,
      ⟨some 33, .addrRow 8 (.tmp 31) (.tmp 32), none, 0⟩,
      ⟨some 34, .load 8 true (.tmp 33), none, 0⟩,
      ⟨some 7, .alloc [.int .i64 0, .str [], .int .i64 0, .int .i64 0, .bool false, .int .i64 0, .int .i64 0, .str []], none, 0⟩,
      ⟨none, .store 8 (.tmp 7) (.tmp 34), none, 0⟩])
   (.seq (.seq (.ops [⟨some 35, .fieldAddr 1 (.tmp 7), none, 0⟩,
       ⟨some 36, .load 1 false (.tmp 35), none, 0⟩,
       ⟨some 37, .fieldAddr 2 (.tmp 3), none, 0⟩,
       ⟨some 38, .load 1 false (.tmp 37), none, 0⟩,
       ⟨some 39, .bin .eql (.tmp 36) (.tmp 38), none, 0⟩,
       ⟨some 40, .mov (.tmp 39), none, 0⟩,
       ⟨some 41, .fieldAddr 0 (.tmp 3), some (40, true), 0⟩,
       ⟨some 42, .load 1 false (.tmp 41), some (40, true), 0⟩,
       ⟨some 43, .bin .eql (.tmp 42) (.con (.int .i64 5)), some (40, true), 0⟩,
       ⟨some 44, .pick (.tmp 40) (.tmp 43) (.con (.bool false)), none, 0⟩])
    (.cond (.tmp 44)
     (.exit 1)
     .skip))
   (.seq (.seq (.ops [⟨some 45, .fieldAddr 1 (.tmp 7), none, 0⟩,
       ⟨some 46, .load 1 false (.tmp 45), none, 0⟩,
       ⟨some 47, .fieldAddr 2 (.tmp 3), none, 0⟩,
       ⟨some 48, .load 1 false (.tmp 47), none, 0⟩,
       ⟨some 49, .bin .eql (.tmp 46) (.tmp 48), none, 0⟩,
       ⟨some 50, .mov (.tmp 49), none, 0⟩,
       ⟨some 51, .fieldAddr 0 (.tmp 3), some (50, true), 0⟩,
       ⟨some 52, .load 1 false (.tmp 51), some (50, true), 0⟩,
       ⟨some 53, .bin .eql (.tmp 52) (.con (.int .i64 6)), some (50, true), 0⟩,
       ⟨some 54, .pick (.tmp 50) (.tmp 53) (.con (.bool false)), none, 0⟩])
    (.cond (.tmp 54)
     (.ops [⟨some 55, .fieldAddr 3 (.tmp 3), none, 0⟩,
        ⟨some 56, .load 1 false (.tmp 55), none, 0⟩,
        ⟨some 57, .fieldAddr 1 (.tmp 7), none, 0⟩,
        ⟨none, .store 1 (.tmp 57) (.tmp 56), none, 0⟩])
     .skip))
   (.seq (.seq (.ops [⟨some 58, .fieldAddr 1 (.tmp 7), none, 0⟩,
       ⟨some 59, .load 1 false (.tmp 58), none, 0⟩,
       ⟨some 60, .fieldAddr 2 (.tmp 3), none, 0⟩,
       ⟨some 61, .load 1 false (.tmp 60), none, 0⟩,
       ⟨some 62, .bin .eql (.tmp 59) (.tmp 61), none, 0⟩,
       ⟨some 63, .mov (.tmp 62), none, 0⟩,
       ⟨some 64, .fieldAddr 0 (.tmp 3), some (63, true), 0⟩,
       ⟨some 65, .load 1 false (.tmp 64), some (63, true), 0⟩,
       ⟨some 66, .bin .eql (.tmp 65) (.con (.int .i64 7)), some (63, true), 0⟩,
       ⟨some 67, .pick (.tmp 63) (.tmp 66) (.con (.bool false)), none, 0⟩])
    (.cond (.tmp 67)
     (.seq (.ops [⟨some 69, .fieldAddr 5 (.tmp 7), none, 0⟩,
         ⟨some 70, .load 3 true (.tmp 69), none, 0⟩,
         ⟨some 71, .fieldAddr 5 (.tmp 3), none, 0⟩,
         ⟨some 72, .load 2 true (.tmp 71), none, 0⟩,
         ⟨some 73, .call (.fn 82) [(.tmp 70), (.tmp 72)], none, 0⟩,
         ⟨some 68, .mov (.tmp 73), none, 0⟩,
         ⟨some 74, .extract (.tmp 68) 0, none, 0⟩,
         ⟨some 75, .extract (.tmp 68) 1, none, 0⟩,
         ⟨some 76, .fieldAddr 5 (.tmp 7), none, 0⟩,
         ⟨none, .store 3 (.tmp 76) (.tmp 74), none, 0⟩])
      (.ops [⟨some 77, .fieldAddr 5 (.tmp 3), none, 0⟩,
        ⟨some 78, .load 2 true (.tmp 77), none, 0⟩,
        ⟨some 79, .fieldAddr 2 (.tmp 7), none, 0⟩,
        ⟨none, .store 2 (.tmp 79) (.tmp 78), none, 0⟩]))
     .skip))
   (.seq (.seq (.ops [⟨some 80, .fieldAddr 1 (.tmp 7), none, 0⟩,
       ⟨some 81, .load 1 false (.tmp 80), none, 0⟩,
       ⟨some 82, .fieldAddr 2 (.tmp 3), none, 0⟩,
       ⟨some 83, .load 1 false (.tmp 82), none, 0⟩,
       ⟨some 84, .bin .eql (.tmp 81) (.tmp 83), none, 0⟩,
       ⟨some 85, .mov (.tmp 84), none, 0⟩,
       ⟨some 86, .fieldAddr 0 (.tmp 3), some (85, true), 0⟩,
       ⟨some 87, .load 1 false (.tmp 86), some (85, true), 0⟩,
       ⟨some 88, .bin .eql (.tmp 87) (.con (.int .i64 8)), some (85, true), 0⟩,
       ⟨some 89, .pick (.tmp 85) (.tmp 88) (.con (.bool false)), none, 0⟩])
    (.cond (.tmp 89)
     (.ops [⟨some 90, .fieldAddr 8 (.tmp 3), none, 0⟩,
        ⟨some 91, .load 3 true (.tmp 90), none, 0⟩,
        ⟨some 92, .fieldAddr 5 (.tmp 7), none, 0⟩,
        ⟨none, .store 3 (.tmp 92) (.tmp 91), none, 0⟩])
     .skip))
   (.ops [⟨some 93, .fieldAddr 4 (.tmp 5), none, 0⟩,
     ⟨some 94, .load 1 false (.tmp 93), none, 0⟩,
     ⟨some 95, .load 8 true (.tmp 7), none, 0⟩,
     ⟨some 96, .rowVals 8 1 [.int .i64 0, .str [], .int .i64 0, .int .i64 0, .bool false, .int .i64 0, .int .i64 0, .str []] [(0, 8, (.tmp 95))], none, 0⟩,
     ⟨some 97, .append false 8 80 (.tmp 94) (.tmp 96), none, 0⟩,
     ⟨some 98, .fieldAddr 4 (.tmp 5), none, 0⟩,
     ⟨none, .store 1 (.tmp 98) (.tmp 97), none, 0⟩])))))))
 (.ops [⟨some 28, .mov (.tmp 6), none, 0⟩,
   ⟨some 29, .bin .add (.tmp 28) (.con (.int .i64 1)), none, 0⟩,
   ⟨some 6, .mov (.tmp 29), none, 0⟩])))
def f_haulageref09_Table_s0 (t2 t3 t4 t5 t6 : AV) : List AV := [.unk, .unk, t2, t3, t4, t5, t6, .unk, .unk, .unk, .unk, .unk, .unk, .unk, .unk, .unk, .unk, .unk, .unk, .unk, .unk, .unk, .unk, .unk, .unk, .unk, .unk, .unk, .unk, .unk, .unk, .unk, .unk, .unk, .unk, .unk, .unk, .unk, .unk, .unk, .unk, .unk, .unk, .unk, .unk, .unk, .unk, .unk, .unk, .unk, .unk, .unk, .unk, .unk, .unk, .unk, .unk, .unk, .unk, .unk, .unk, .unk, .unk, .unk, .unk, .unk, .unk, .unk, .unk, .unk, .unk, .unk, .unk, .unk, .unk, .unk, .unk, .unk, .unk, .unk, .unk, .unk, .unk, .unk, .unk, .unk, .unk, .unk, .unk, .unk, .unk, .unk, .unk, .unk, .unk, .unk, .unk, .unk, .unk, .unk, .unk, .unk, .unk, .unk, .unk, .unk, .unk, .unk, .unk, .unk, .unk, .unk, .unk, .unk, .unk, .unk, .unk, .unk, .unk, .unk, .unk, .unk, .unk]
def f_haulageref09_Table : XFunc := { ntmps := 123, res := [.cell 4 5 true], pure := true, body :=
  (.seq (.ops [⟨some 2, .box (.tmp 0), none, 0⟩,
     ⟨some 3, .box (.tmp 1), none, 0⟩,
     ⟨some 4, .alloc [.int .i64 0, .str [], .int .i64 0, .int .i64 0, .nils], none, 0⟩])
  (.seq (.ops [⟨some 8, .fieldAddr 0 (.tmp 2), none, 0⟩,
     ⟨some 9, .load 1 false (.tmp 8), none, 0⟩,
     ⟨some 10, .fieldAddr 1 (.tmp 2), none, 0⟩,
     ⟨some 11, .load 1 false (.tmp 10), none, 0⟩,
     ⟨some 12, .fieldAddr 2 (.tmp 2), none, 0⟩,
     ⟨some 13, .load 1 false (.tmp 12), none, 0⟩,
     ⟨some 14, .fieldAddr 3 (.tmp 2), none, 0⟩,
     ⟨some 15, .load 1 false (.tmp 14), none, 0⟩,
     ⟨some 16, .build [.int .i64 0, .str [], .int .i64 0, .int .i64 0, .nils] [(0, 1, (.tmp 9)), (1, 1, (.tmp 11)), (2, 1, (.tmp 13)), (3, 1, (.tmp 15))], none, 0⟩,
     ⟨some 5, .alloc [.int .i64 0, .str [], .int .i64 0, .int .i64 0, .nils], none, 0⟩,
     ⟨none, .store 5 (.tmp 5) (.tmp 16), none, 0⟩])
  (.seq (.seq (.ops [⟨some 17, .fieldAddr 0 (.tmp 3), none, 0⟩,
      ⟨some 18, .load 1 false (.tmp 17), none, 0⟩,
      ⟨some 19, .bin .eql (.tmp 18) (.con (.int .i64 3)), none, 0⟩])
   (.cond (.tmp 19)
    (.ops [⟨some 20, .fieldAddr 3 (.tmp 3), none, 0⟩,
       ⟨some 21, .load 1 false (.tmp 20), none, 0⟩,
       ⟨some 22, .fieldAddr 1 (.tmp 5), none, 0⟩,
       ⟨none, .store 1 (.tmp 22) (.tmp 21), none, 0⟩])
    .skip))
  (.seq (.seq (.ops [⟨some 6, .mov (.con (.int .i64 0)), none, 0⟩])
   (.block 0
    (.loop f_haulageref09_Table_k0 f_haulageref09_Table_b0)))
  (.seq (.seq (.ops [⟨some 99, .fieldAddr 0 (.tmp 3), none, 0⟩,
      ⟨some 100, .load 1 false (.tmp 99), none, 0⟩,
      ⟨some 101, .bin .eql (.tmp 100) (.con (.int .i64 4)), none, 0⟩])
   (.cond (.tmp 101)
    (.seq (.ops [⟨some 102, .fieldAddr 4 (.tmp 5), none, 0⟩,
        ⟨some 103, .load 1 false (.tmp 102), none, 0⟩,
        ⟨some 104, .fieldAddr 3 (.tmp 2), none, 0⟩,
        ⟨some 105, .load 1 false (.tmp 104), none, 0⟩,
        ⟨some 106, .fieldAddr 2 (.tmp 3), none, 0⟩,
        ⟨some 107, .load 1 false (.tmp 106), none, 0⟩,
        ⟨some 108, .fieldAddr 5 (.tmp 3), none, 0⟩,
        ⟨some 109, .load 2 true (.tmp 108), none, 0⟩,
        ⟨some 110, .fieldAddr 7 (.tmp 3), none, 0⟩,
        ⟨some 111, .load 1 false (.tmp 110), none, 0⟩,
        ⟨some 112, .fieldAddr 8 (.tmp 3), none, 0⟩,
        ⟨some 113, .load 3 true (.tmp 112), none, 0⟩,
        ⟨some 114, .build [.int .i64 0, .str [], .int .i64 0, .int .i64 0, .bool false, .int .i64 0, .int .i64 0, .str []] [(0, 1, (.tmp 105)), (1, 1, (.tmp 107)), (2, 2, (.tmp 109)), (4, 1, (.tmp 111)), (5, 3, (.tmp 113))], none, 0⟩,
        ⟨some 115, .rowVals 8 1 [.int .i64 0, .str [], .int .i64 0, .int .i64 0, .bool false, .int .i64 0, .int .i64 0, .str []] [(0, 8, (.tmp 114))], none, 0⟩,
        ⟨some 116, .append false 8 80 (.tmp 103) (.tmp 115), none, 0⟩,
        ⟨some 117, .fieldAddr 4 (.tmp 5), none, 0⟩,
        ⟨none, .store 1 (.tmp 117) (.tmp 116), none, 0⟩])
     (.ops [⟨some 118, .fieldAddr 3 (.tmp 2), none, 0⟩,
       ⟨some 119, .load 1 false (.tmp 118), none, 0⟩,
       ⟨some 120, .bin .add (.tmp 119) (.con (.int .i64 1)), none, 0⟩,
       ⟨some 121, .fieldAddr 3 (.tmp 5), none, 0⟩,
       ⟨none, .store 1 (.tmp 121) (.tmp 120), none, 0⟩]))
    .skip))
  (.seq (.ops [⟨some 122, .load 5 true (.tmp 5), none, 0⟩,
     ⟨none, .store 5 (.tmp 4) (.tmp 122), none, 0⟩])
  .ret)))))) }
def f_haulageref13_Move_k0 : List Bool := [false, false, true, true, true, false, false, false, true, true, false, false, false, false, false, false, false, false, false, false, false, false, false, false, false, false, false, false, false, false, false, false, false, false, false, false, false, false, false, false, false, false, false, false, false, false, false, false, false, false, false, false]
def f_haulageref13_Move_b0 : XCode :=
  (.seq (.seq (.ops [⟨some 14, .mov (.tmp 9), none, 0⟩,
     ⟨some 15, .fieldAddr 4 (.tmp 4), none, 0⟩,
     ⟨some 16, .load 1 false (.tmp 15), none, 0⟩,
     ⟨some 17, .len (.tmp 16), none, 0⟩,
     ⟨some 18, .bin .lss (.tmp 14) (.tmp 17), none, 0⟩])
  (.cond (.tmp 18)
   .skip
   (.exit 0)))
 (.seq (.block 1
   (.seq (.ops [⟨some 21, .fieldAddr 4 (.tmp 4), none, 0⟩,
      ⟨some 22, .load 1 false (.tmp 21), none, 0⟩,
      ⟨some 23, .mov (.tmp 9), none, 0⟩,
      ⟨some 24, .addrRow 8 (.tmp 22) (.tmp 23), none, 0⟩,
      ⟨some 25, .load 8 true (.tmp 24), none, 0⟩,
      ⟨some 10, .alloc [.int .i64 0, .str [], .int .i64 0, .int .i64 0, .bool false, .int .i64 0, .int .i64 0, .str []], none, 0⟩,
      ⟨none, .store 8 (.tmp 10) (.tmp 25), none, 0⟩])
   (.seq (.ops [⟨some 26, .fieldAddr 5 (.tmp 10), none, 0⟩,
      ⟨some 27, .load 3 true (.tmp 26), none, 0⟩,
      ⟨some 11, .alloc [.int .i64 0, .int .i64 0, .str []], none, 0⟩,
      ⟨none, .store 3 (.tmp 11) (.tmp 27), none, 0⟩])
   (.seq (.seq (.ops [⟨some 28, .load 5 true (.tmp 3), none, 0⟩,
       ⟨some 29, .fieldAddr 0 (.tmp 10), none, 0⟩,
       ⟨some 30, .load 1 false (.tmp 29), none, 0⟩,
       ⟨some 31, .call (.fn 202) [(.tmp 28), (.tmp 30)], none, 0⟩,
       ⟨some 12, .mov (.tmp 31), none, 0⟩])
    (.seq (.ops [⟨some 32, .mov (.tmp 12), none, 0⟩,
       ⟨some 33, .bin .geq (.tmp 32) (.con (.int .i64 0)), none, 0⟩])
    (.cond (.tmp 33)
     (.seq (.ops [⟨some 13, .mov (.con (.int .i64 0)), none, 0⟩])
      (.seq (.draw [⟨some 35, .mov (.tmp 2), none, 0⟩,
         ⟨some 36, .mov (.tmp 12), none, 0⟩,
         ⟨some 37, .addrRow 3 (.tmp 35) (.tmp 36), none, 0⟩,
         ⟨some 38, .load 3 true (.tmp 37), none, 0⟩,
         ⟨some 39, .fieldAddr 2 (.tmp 10), none, 0⟩,
         ⟨some 40, .load 2 true (.tmp 39), none, 0⟩,
         ⟨some 41, .call (.fn 82) [(.tmp 38), (.tmp 40)], none, 0⟩,
         ⟨some 34, .mov (.tmp 41), none, 0⟩,
         ⟨some 42, .extract (.tmp 34) 0, none, 0⟩,
         ⟨some 43, .extract (.tmp 34) 1, none, 0⟩,
         ⟨none, .store 3 (.tmp 11) (.tmp 42), none, 2⟩,
         ⟨some 13, .mov (.tmp 43), none, 0⟩]
        [[], [], [0, 1], [0, 1, 2], [], [4], [0, 1, 2, 3, 4, 5], [0, 1, 2, 3, 4, 5, 6], [0, 1, 2, 3, 4, 5, 6, 7], [0, 1, 2, 3, 4, 5, 6, 7], [0, 1, 2, 3, 4, 5, 6, 7, 8], [0, 1, 2, 3, 4, 5, 6, 7, 8, 9, 10]])
      (.seq (.ops [⟨some 44, .mov (.tmp 13), none, 0⟩,
         ⟨some 45, .bin .neq (.tmp 44) (.con (.int .i64 0)), none, 0⟩])
      (.cond (.tmp 45)
       (.seq (.ops [⟨some 46, .mov (.tmp 13), none, 0⟩,
           ⟨some 6, .mov (.con .nils), none, 0⟩,
           ⟨some 7, .mov (.tmp 46), none, 0⟩])
        .ret)
       .skip))))
     .skip)))
   (.ops [⟨some 47, .mov (.tmp 8), none, 0⟩,
     ⟨some 48, .load 3 true (.tmp 11), none, 0⟩,
     ⟨some 49, .rowVals 3 1 [.int .i64 0, .int .i64 0, .str []] [(0, 3, (.tmp 48))], none, 0⟩,
     ⟨some 50, .append false 3 32 (.tmp 47) (.tmp 49), none, 0⟩,
     ⟨some 8, .mov (.tmp 50), none, 0⟩])))))
 (.ops [⟨some 19, .mov (.tmp 9), none, 0⟩,
   ⟨some 20, .bin .add (.tmp 19) (.con (.int .i64 1)), none, 0⟩,
   ⟨some 9, .mov (.tmp 20), none, 0⟩])))
def f_haulageref13_Move_s0 (t2 t3 t4 t8 t9 : AV) : List AV := [.unk, .unk, t2, t3, t4, .unk, .unk, .unk, t8, t9, .unk, .unk, .unk, .unk, .unk, .unk, .unk, .unk, .unk, .unk, .unk, .unk, .unk, .unk, .unk, .unk, .unk, .unk, .unk, .unk, .unk, .unk, .unk, .unk, .unk, .unk, .unk, .unk, .unk, .unk, .unk, .unk, .unk, .unk, .unk, .unk, .unk, .unk, .unk, .unk, .unk, .unk]
def f_haulageref13_Move : XFunc := { ntmps := 52, res := [.tmp 6, .tmp 7], pure := true, body :=
  (.seq (.ops [⟨some 3, .box (.tmp 0), none, 0⟩,
     ⟨some 4, .box (.tmp 1), none, 0⟩,
     ⟨some 6, .mov (.con .nils), none, 0⟩,
     ⟨some 7, .mov (.con (.int .i64 0)), none, 0⟩])
  (.seq (.ops [⟨some 8, .mov (.con .nils), none, 0⟩])
  (.seq (.seq (.ops [⟨some 9, .mov (.con (.int .i64 0)), none, 0⟩])
   (.block 0
    (.loop f_haulageref13_Move_k0 f_haulageref13_Move_b0)))
  (.seq (.ops [⟨some 51, .mov (.tmp 8), none, 0⟩,
     ⟨some 6, .mov (.tmp 51), none, 0⟩,
     ⟨some 7, .mov (.con (.int .i64 0)), none, 0⟩])
  .ret)))) }
def f_haulageref09_preset : XFunc := { ntmps := 13, res := [.tmp 4], pure := true, body :=
  (.seq (.ops [⟨some 2, .box (.tmp 0), none, 0⟩,
     ⟨some 3, .box (.tmp 1), none, 0⟩,
     ⟨some 4, .mov (.con (.bool false)), none, 0⟩])
  (.seq (.ops [⟨some 5, .load 3 true (.tmp 3), none, 0⟩,
     ⟨some 6, .build [.int .i64 0, .int .i64 0, .str []] [], none, 0⟩,
     ⟨some 7, .eqA false (.struct [(0, 1, .int), (1, 1, .int), (2, 1, .str)]) (.tmp 5) (.tmp 6), none, 0⟩,
     ⟨some 8, .mov (.tmp 7), none, 0⟩,
     ⟨some 9, .load 2 true (.tmp 2), some (8, false), 0⟩,
     ⟨some 10, .load 3 true (.tmp 3), some (8, false), 0⟩,
     ⟨some 11, .call (.fn 87) [(.tmp 9), (.tmp 10)], some (8, false), 0⟩,
     ⟨some 12, .pick (.tmp 8) (.con (.bool true)) (.tmp 11), none, 0⟩,
     ⟨some 4, .mov (.tmp 12), none, 0⟩])
  .ret)) }
def f_haulageref09_add : XFunc := { ntmps := 48, res := [.tmp 4], pure := true, body :=
  (.seq (.ops [⟨some 2, .box (.tmp 0), none, 0⟩,
     ⟨some 3, .box (.tmp 1), none, 0⟩,
     ⟨some 4, .mov (.con (.int .i64 0)), none, 0⟩])
  (.seq (.block 0
    (.seq (.ops [⟨some 6, .fieldAddr 4 (.tmp 2), none, 0⟩,
       ⟨some 7, .load 1 false (.tmp 6), none, 0⟩,
       ⟨some 8, .len (.tmp 7), none, 0⟩,
       ⟨some 9, .bin .geq (.tmp 8) (.con (.int .i64 10)), none, 0⟩,
       ⟨some 10, .mov (.tmp 9), none, 0⟩,
       ⟨some 11, .fieldAddr 3 (.tmp 2), some (10, false), 0⟩,
       ⟨some 12, .load 1 false (.tmp 11), some (10, false), 0⟩,
       ⟨some 13, .bin .geq (.tmp 12) (.con (.int .i64 200)), some (10, false), 0⟩,
       ⟨some 14, .pick (.tmp 10) (.con (.bool true)) (.tmp 13), none, 0⟩,
       ⟨some 5, .mov (.tmp 14), none, 0⟩])
    (.cond (.tmp 5)
     (.seq (.ops [⟨some 4, .mov (.con (.int .i64 3)), none, 0⟩])
      .ret)
     (.seq (.ops [⟨some 16, .fieldAddr 2 (.tmp 3), none, 0⟩,
         ⟨some 17, .load 1 false (.tmp 16), none, 0⟩,
         ⟨some 18, .call (.fn 188) [(.tmp 17)], none, 0⟩,
         ⟨some 19, .un .not (.tmp 18), none, 0⟩,
         ⟨some 15, .mov (.tmp 19), none, 0⟩])
      (.cond (.tmp 15)
       (.seq (.ops [⟨some 4, .mov (.con (.int .i64 8)), none, 0⟩])
        .ret)
       (.seq (.ops [⟨some 21, .load 5 true (.tmp 2), none, 0⟩,
           ⟨some 22, .fieldAddr 2 (.tmp 3), none, 0⟩,
           ⟨some 23, .load 1 false (.tmp 22), none, 0⟩,
           ⟨some 24, .call (.fn 190) [(.tmp 21), (.tmp 23)], none, 0⟩,
           ⟨some 25, .bin .geq (.tmp 24) (.con (.int .i64 0)), none, 0⟩,
           ⟨some 20, .mov (.tmp 25), none, 0⟩])
        (.cond (.tmp 20)
         (.seq (.ops [⟨some 4, .mov (.con (.int .i64 14)), none, 0⟩])
          .ret)
         (.seq (.ops [⟨some 27, .fieldAddr 5 (.tmp 3), none, 0⟩,
             ⟨some 28, .load 2 true (.tmp 27), none, 0⟩,
             ⟨some 29, .call (.fn 85) [(.tmp 28)], none, 0⟩,
             ⟨some 30, .un .not (.tmp 29), none, 0⟩,
             ⟨some 26, .mov (.tmp 30), none, 0⟩])
          (.cond (.tmp 26)
           (.seq (.ops [⟨some 4, .mov (.con (.int .i64 9)), none, 0⟩])
            .ret)
           (.seq (.ops [⟨some 32, .fieldAddr 5 (.tmp 3), none, 0⟩,
               ⟨some 33, .load 2 true (.tmp 32), none, 0⟩,
               ⟨some 34, .fieldAddr 8 (.tmp 3), none, 0⟩,
               ⟨some 35, .load 3 true (.tmp 34), none, 0⟩,
               ⟨some 36, .call (.fn 200) [(.tmp 33), (.tmp 35)], none, 0⟩,
               ⟨some 37, .un .not (.tmp 36), none, 0⟩,
               ⟨some 31, .mov (.tmp 37), none, 0⟩])
            (.cond (.tmp 31)
             (.seq (.ops [⟨some 4, .mov (.con (.int .i64 10)), none, 0⟩])
              .ret)
             (.seq (.ops [⟨some 39, .fieldAddr 7 (.tmp 3), none, 0⟩,
                 ⟨some 40, .load 1 false (.tmp 39), none, 0⟩,
                 ⟨some 41, .un .not (.tmp 40), none, 0⟩,
                 ⟨some 42, .mov (.tmp 41), none, 0⟩,
                 ⟨some 43, .fieldAddr 8 (.tmp 3), some (42, true), 0⟩,
                 ⟨some 44, .load 3 true (.tmp 43), some (42, true), 0⟩,
                 ⟨some 45, .build [.int .i64 0, .int .i64 0, .str []] [], some (42, true), 0⟩,
                 ⟨some 46, .eqA false (.struct [(0, 1, .int), (1, 1, .int), (2, 1, .str)]) (.tmp 44) (.tmp 45), some (42, true), 0⟩,
                 ⟨some 47, .pick (.tmp 42) (.tmp 46) (.con (.bool false)), none, 0⟩,
                 ⟨some 38, .mov (.tmp 47), none, 0⟩])
              (.cond (.tmp 38)
               (.seq (.ops [⟨some 4, .mov (.con (.int .i64 11)), none, 0⟩])
                .ret)
               .skip)))))))))))))
  (.seq (.ops [⟨some 4, .mov (.con (.int .i64 0)), none, 0⟩])
  .ret))) }
def f_haulageref13_place_k0 : List Bool := [false, true, true, false, false, true, false, false, false, false, false, false, false, false, false, false, false, false, false, false, false, false]
def f_haulageref13_place_b0 : XCode :=
  (.seq (.seq (.ops [⟨some 6, .mov (.tmp 5), none, 0⟩,
     ⟨some 7, .fieldAddr 4 (.tmp 2), none, 0⟩,
     ⟨some 8, .load 1 false (.tmp 7), none, 0⟩,
     ⟨some 9, .len (.tmp 8), none, 0⟩,
     ⟨some 10, .bin .lss (.tmp 6) (.tmp 9), none, 0⟩])
  (.cond (.tmp 10)
   .skip
   (.exit 0)))
 (.seq (.block 1
   (.seq (.ops [⟨some 13, .fieldAddr 4 (.tmp 2), none, 0⟩,
      ⟨some 14, .load 1 false (.tmp 13), none, 0⟩,
      ⟨some 15, .mov (.tmp 5), none, 0⟩,
      ⟨some 16, .addrRow 8 (.tmp 14) (.tmp 15), none, 0⟩,
      ⟨some 17, .fieldAddr 0 (.tmp 16), none, 0⟩,
      ⟨some 18, .load 1 false (.tmp 17), none, 0⟩,
      ⟨some 19, .mov (.tmp 1), none, 0⟩,
      ⟨some 20, .bin .eql (.tmp 18) (.tmp 19), none, 0⟩])
   (.cond (.tmp 20)
    (.seq (.ops [⟨some 21, .mov (.tmp 5), none, 0⟩,
        ⟨some 4, .mov (.tmp 21), none, 0⟩])
     .ret)
    .skip)))
 (.ops [⟨some 11, .mov (.tmp 5), none, 0⟩,
   ⟨some 12, .bin .add (.tmp 11) (.con (.int .i64 1)), none, 0⟩,
   ⟨some 5, .mov (.tmp 12), none, 0⟩])))
def f_haulageref13_place_s0 (t1 t2 t5 : AV) : List AV := [.unk, t1, t2, .unk, .unk, t5, .unk, .unk, .unk, .unk, .unk, .unk, .unk, .unk, .unk, .unk, .unk, .unk, .unk, .unk, .unk, .unk]
def f_haulageref13_place : XFunc := { ntmps := 22, res := [.tmp 4], pure := true, body :=
  (.seq (.ops [⟨some 2, .box (.tmp 0), none, 0⟩,
     ⟨some 4, .mov (.con (.int .i64 0)), none, 0⟩])
  (.seq (.seq (.ops [⟨some 5, .mov (.con (.int .i64 0)), none, 0⟩])
   (.block 0
    (.loop f_haulageref13_place_k0 f_haulageref13_place_b0)))
  (.seq (.ops [⟨some 4, .mov (.con (.int .i64 (-1))), none, 0⟩])
  .ret))) }
end Hx.Fn
