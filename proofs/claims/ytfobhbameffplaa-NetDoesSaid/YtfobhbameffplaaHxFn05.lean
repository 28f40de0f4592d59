/- HxFn05: written by gen.py -/
import Derived.Test.YtfobhbameffplaaHxDefs
namespace Hx.Fn
open Go
def f_haulageref03_Is : XFunc := { ntmps := 17, res := [.tmp 2], pure := true, body :=
  (.seq (.ops [⟨some 2, .mov (.con (.bool false)), none, 0⟩])
  (.seq (.ops [⟨some 3, .mov (.tmp 0), none, 0⟩,
     ⟨some 4, .bin .geq (.tmp 3) (.con (.int .i64 0)), none, 0⟩,
     ⟨some 5, .mov (.tmp 4), none, 0⟩,
     ⟨some 6, .mov (.tmp 0), some (5, true), 0⟩,
     ⟨some 7, .bin .leq (.tmp 6) (.con (.int .i64 1114111)), some (5, true), 0⟩,
     ⟨some 8, .pick (.tmp 5) (.tmp 7) (.con (.bool false)), none, 0⟩,
     ⟨some 9, .mov (.tmp 8), none, 0⟩,
     ⟨some 10, .mov (.tmp 0), some (9, true), 0⟩,
     ⟨some 11, .bin .lss (.tmp 10) (.con (.int .i64 55296)), some (9, true), 0⟩,
     ⟨some 12, .mov (.tmp 11), some (9, true), 0⟩,
     ⟨some 13, .mov (.tmp 0), some (12, false), 0⟩,
     ⟨some 14, .bin .gtr (.tmp 13) (.con (.int .i64 57343)), some (12, false), 0⟩,
     ⟨some 15, .pick (.tmp 12) (.con (.bool true)) (.tmp 14), some (9, true), 0⟩,
     ⟨some 16, .pick (.tmp 9) (.tmp 15) (.con (.bool false)), none, 0⟩,
     ⟨some 2, .mov (.tmp 16), none, 0⟩])
  .ret)) }
def f_haulageref03_Put : XFunc := { ntmps := 59, res := [.tmp 2], pure := true, body :=
  (.seq (.ops [⟨some 2, .mov (.con (.str [])), none, 0⟩])
  (.seq (.block 0
    (.seq (.ops [⟨some 4, .mov (.tmp 0), none, 0⟩,
       ⟨some 5, .bin .lss (.tmp 4) (.con (.int .i64 128)), none, 0⟩,
       ⟨some 3, .mov (.tmp 5), none, 0⟩])
    (.cond (.tmp 3)
     (.seq (.ops [⟨some 6, .mov (.tmp 0), none, 0⟩,
         ⟨some 7, .call (.fn 17) [(.tmp 6)], none, 0⟩,
         ⟨some 2, .mov (.tmp 7), none, 0⟩])
      .ret)
     (.seq (.ops [⟨some 9, .mov (.tmp 0), none, 0⟩,
         ⟨some 10, .bin .lss (.tmp 9) (.con (.int .i64 2048)), none, 0⟩,
         ⟨some 8, .mov (.tmp 10), none, 0⟩])
      (.cond (.tmp 8)
       (.seq (.ops [⟨some 11, .mov (.tmp 0), none, 0⟩,
           ⟨some 12, .bin .quo (.tmp 11) (.con (.int .i64 64)), none, 0⟩,
           ⟨some 13, .bin .add (.con (.int .i64 192)) (.tmp 12), none, 0⟩,
           ⟨some 14, .call (.fn 17) [(.tmp 13)], none, 0⟩,
           ⟨some 15, .mov (.tmp 0), none, 0⟩,
           ⟨some 16, .bin .rem (.tmp 15) (.con (.int .i64 64)), none, 0⟩,
           ⟨some 17, .bin .add (.con (.int .i64 128)) (.tmp 16), none, 0⟩,
           ⟨some 18, .call (.fn 17) [(.tmp 17)], none, 0⟩,
           ⟨some 19, .bin .add (.tmp 14) (.tmp 18), none, 0⟩,
           ⟨some 2, .mov (.tmp 19), none, 0⟩])
        .ret)
       (.seq (.ops [⟨some 21, .mov (.tmp 0), none, 0⟩,
           ⟨some 22, .bin .lss (.tmp 21) (.con (.int .i64 65536)), none, 0⟩,
           ⟨some 20, .mov (.tmp 22), none, 0⟩])
        (.cond (.tmp 20)
         (.seq (.ops [⟨some 23, .mov (.tmp 0), none, 0⟩,
             ⟨some 24, .bin .quo (.tmp 23) (.con (.int .i64 4096)), none, 0⟩,
             ⟨some 25, .bin .add (.con (.int .i64 224)) (.tmp 24), none, 0⟩,
             ⟨some 26, .call (.fn 17) [(.tmp 25)], none, 0⟩,
             ⟨some 27, .mov (.tmp 0), none, 0⟩,
             ⟨some 28, .bin .quo (.tmp 27) (.con (.int .i64 64)), none, 0⟩,
             ⟨some 29, .bin .rem (.tmp 28) (.con (.int .i64 64)), none, 0⟩,
             ⟨some 30, .bin .add (.con (.int .i64 128)) (.tmp 29), none, 0⟩,
             ⟨some 31, .call (.fn 17) [(.tmp 30)], none, 0⟩,
             ⟨some 32, .bin .add (.tmp 26) (.tmp 31), none, 0⟩,
             ⟨some 33, .mov (.tmp 0), none, 0⟩,
             ⟨some 34, .bin .rem (.tmp 33) (.con (.int .i64 64)), none, 0⟩,
             ⟨some 35, .bin .add (.con (.int .i64 128)) (.tmp 34), none, 0⟩,
             ⟨some 36, .call (.fn 17) [(.tmp 35)], none, 0⟩,
             ⟨some 37, .bin .add (.tmp 32) (.tmp 36), none, 0⟩,
             ⟨some 2, .mov (.tmp 37), none, 0⟩])
          .ret)
         .skip)))))))
  (.seq (.ops [⟨some 38, .mov (.tmp 0), none, 0⟩,
     ⟨some 39, .bin .quo (.tmp 38) (.con (.int .i64 262144)), none, 0⟩,
     ⟨some 40, .bin .add (.con (.int .i64 240)) (.tmp 39), none, 0⟩,
     ⟨some 41, .call (.fn 17) [(.tmp 40)], none, 0⟩,
     ⟨some 42, .mov (.tmp 0), none, 0⟩,
     ⟨some 43, .bin .quo (.tmp 42) (.con (.int .i64 4096)), none, 0⟩,
     ⟨some 44, .bin .rem (.tmp 43) (.con (.int .i64 64)), none, 0⟩,
     ⟨some 45, .bin .add (.con (.int .i64 128)) (.tmp 44), none, 0⟩,
     ⟨some 46, .call (.fn 17) [(.tmp 45)], none, 0⟩,
     ⟨some 47, .bin .add (.tmp 41) (.tmp 46), none, 0⟩,
     ⟨some 48, .mov (.tmp 0), none, 0⟩,
     ⟨some 49, .bin .quo (.tmp 48) (.con (.int .i64 64)), none, 0⟩,
     ⟨some 50, .bin .rem (.tmp 49) (.con (.int .i64 64)), none, 0⟩,
     ⟨some 51, .bin .add (.con (.int .i64 128)) (.tmp 50), none, 0⟩,
     ⟨some 52, .call (.fn 17) [(.tmp 51)], none, 0⟩,
     ⟨some 53, .bin .add (.tmp 47) (.tmp 52), none, 0⟩,
     ⟨some 54, .mov (.tmp 0), none, 0⟩,
     ⟨some 55, .bin .rem (.tmp 54) (.con (.int .i64 64)), none, 0⟩,
     ⟨some 56, .bin .add (.con (.int .i64 128)) (.tmp 55), none, 0⟩,
     ⟨some 57, .call (.fn 17) [(.tmp 56)], none, 0⟩,
     ⟨some 58, .bin .add (.tmp 53) (.tmp 57), none, 0⟩,
     ⟨some 2, .mov (.tmp 58), none, 0⟩])
  .ret))) }
def f_haulageref03_Read_k1 : List Bool := [true, false, false, false, false, true, true, true, false, false, false, false, false, false, false, false, false, false, false, false, false, false, false, false, false, false, false, false, false, false, false, false, false, false, false, false, false, false, false, false, false, false, false, false, false, false, false, false, false, false, false, false, false, false, false, false, false, false]
def f_haulageref03_Read_b1 : XCode :=
  (.seq (.seq (.ops [⟨some 33, .mov (.tmp 7), none, 0⟩,
     ⟨some 34, .mov (.tmp 5), none, 0⟩,
     ⟨some 35, .bin .lss (.tmp 33) (.tmp 34), none, 0⟩])
  (.cond (.tmp 35)
   .skip
   (.exit 2)))
 (.seq (.block 3
   (.ops [⟨some 38, .mov (.tmp 6), none, 0⟩,
     ⟨some 39, .bin .mul (.tmp 38) (.con (.int .i64 64)), none, 0⟩,
     ⟨some 40, .mov (.tmp 0), none, 0⟩,
     ⟨some 41, .mov (.tmp 7), none, 0⟩,
     ⟨some 42, .indexStr (.tmp 40) (.tmp 41), none, 0⟩,
     ⟨some 43, .toInt .i64 (.tmp 42), none, 0⟩,
     ⟨some 44, .bin .add (.tmp 39) (.tmp 43), none, 0⟩,
     ⟨some 45, .bin .sub (.tmp 44) (.con (.int .i64 128)), none, 0⟩,
     ⟨some 6, .mov (.tmp 45), none, 0⟩]))
 (.ops [⟨some 36, .mov (.tmp 7), none, 0⟩,
   ⟨some 37, .bin .add (.tmp 36) (.con (.int .i64 1)), none, 0⟩,
   ⟨some 7, .mov (.tmp 37), none, 0⟩])))
def f_haulageref03_Read_k0 : List Bool := [true, false, false, false, false, true, false, false, false, false, false, false, false, false, false, false, false, false, false, false, false, false, false, false, false, false, false, false, false, false, false, false, false, false, false, false, false, false, false, false, false, false, false, false, false, false, false, false, false, false, false, false, false, false, false, false, false, false]
def f_haulageref03_Read_b0 : XCode :=
  (.seq (.seq (.ops [⟨some 8, .mov (.tmp 5), none, 0⟩,
     ⟨some 9, .bin .leq (.tmp 8) (.con (.int .i64 4)), none, 0⟩,
     ⟨some 10, .mov (.tmp 9), none, 0⟩,
     ⟨some 11, .mov (.tmp 5), some (10, true), 0⟩,
     ⟨some 12, .mov (.tmp 0), some (10, true), 0⟩,
     ⟨some 13, .lenS (.tmp 12), some (10, true), 0⟩,
     ⟨some 14, .bin .leq (.tmp 11) (.tmp 13), some (10, true), 0⟩,
     ⟨some 15, .pick (.tmp 10) (.tmp 14) (.con (.bool false)), none, 0⟩])
  (.cond (.tmp 15)
   .skip
   (.exit 0)))
 (.seq (.block 1
   (.seq (.ops [⟨some 18, .mov (.tmp 0), none, 0⟩,
      ⟨some 19, .indexStr (.tmp 18) (.con (.int .i64 0)), none, 0⟩,
      ⟨some 20, .toInt .i64 (.tmp 19), none, 0⟩,
      ⟨some 6, .mov (.tmp 20), none, 0⟩])
   (.seq (.seq (.ops [⟨some 21, .mov (.tmp 5), none, 0⟩,
       ⟨some 22, .bin .eql (.tmp 21) (.con (.int .i64 2)), none, 0⟩])
    (.cond (.tmp 22)
     (.ops [⟨some 23, .mov (.tmp 6), none, 0⟩,
        ⟨some 24, .bin .sub (.tmp 23) (.con (.int .i64 192)), none, 0⟩,
        ⟨some 6, .mov (.tmp 24), none, 0⟩])
     .skip))
   (.seq (.seq (.ops [⟨some 25, .mov (.tmp 5), none, 0⟩,
       ⟨some 26, .bin .eql (.tmp 25) (.con (.int .i64 3)), none, 0⟩])
    (.cond (.tmp 26)
     (.ops [⟨some 27, .mov (.tmp 6), none, 0⟩,
        ⟨some 28, .bin .sub (.tmp 27) (.con (.int .i64 224)), none, 0⟩,
        ⟨some 6, .mov (.tmp 28), none, 0⟩])
     .skip))
   (.seq (.seq (.ops [⟨some 29, .mov (.tmp 5), none, 0⟩,
       ⟨some 30, .bin .eql (.tmp 29) (.con (.int .i64 4)), none, 0⟩])
    (.cond (.tmp 30)
     (.ops [⟨some 31, .mov (.tmp 6), none, 0⟩,
        ⟨some 32, .bin .sub (.tmp 31) (.con (.int .i64 240)), none, 0⟩,
        ⟨some 6, .mov (.tmp 32), none, 0⟩])
     .skip))
   (.seq (.seq (.ops [⟨some 7, .mov (.con (.int .i64 1)), none, 0⟩])
    (.block 2
     (.loop f_haulageref03_Read_k1 f_haulageref03_Read_b1)))
   (.seq (.draw [⟨some 46, .mov (.tmp 6), none, 0⟩,
      ⟨some 47, .call (.fn 2) [(.tmp 46)], none, 1⟩,
      ⟨some 48, .mov (.tmp 47), none, 0⟩,
      ⟨some 49, .mov (.tmp 6), some (48, true), 0⟩,
      ⟨some 50, .call (.fn 3) [(.tmp 49)], some (48, true), 1⟩,
      ⟨some 51, .mov (.tmp 0), some (48, true), 0⟩,
      ⟨some 52, .mov (.tmp 5), some (48, true), 0⟩,
      ⟨some 53, .cutStr (.tmp 51) none (some (.tmp 52)), some (48, true), 0⟩,
      ⟨some 54, .bin .eql (.tmp 50) (.tmp 53), some (48, true), 0⟩,
      ⟨some 55, .pick (.tmp 48) (.tmp 54) (.con (.bool false)), none, 0⟩]
     [[], [0], [0, 1], [0, 1, 2], [0, 1, 2, 3], [0, 1, 2], [0, 1, 2], [0, 1, 2, 5, 6], [0, 1, 2, 3, 4, 5, 6, 7], [0, 1, 2, 3, 4, 5, 6, 7, 8]])
   (.cond (.tmp 55)
    (.seq (.ops [⟨some 56, .mov (.tmp 6), none, 0⟩,
        ⟨some 57, .mov (.tmp 5), none, 0⟩,
        ⟨some 2, .mov (.tmp 56), none, 0⟩,
        ⟨some 3, .mov (.tmp 57), none, 0⟩,
        ⟨some 4, .mov (.con (.bool true)), none, 0⟩])
     .ret)
    .skip))))))))
 (.ops [⟨some 16, .mov (.tmp 5), none, 0⟩,
   ⟨some 17, .bin .add (.tmp 16) (.con (.int .i64 1)), none, 0⟩,
   ⟨some 5, .mov (.tmp 17), none, 0⟩])))
def f_haulageref03_Read_s0 (t0 t5 : AV) : List AV := [t0, .unk, .unk, .unk, .unk, t5, .unk, .unk, .unk, .unk, .unk, .unk, .unk, .unk, .unk, .unk, .unk, .unk, .unk, .unk, .unk, .unk, .unk, .unk, .unk, .unk, .unk, .unk, .unk, .unk, .unk, .unk, .unk, .unk, .unk, .unk, .unk, .unk, .unk, .unk, .unk, .unk, .unk, .unk, .unk, .unk, .unk, .unk, .unk, .unk, .unk, .unk, .unk, .unk, .unk, .unk, .unk, .unk]
def f_haulageref03_Read : XFunc := { ntmps := 58, res := [.tmp 2, .tmp 3, .tmp 4], pure := true, body :=
  (.seq (.ops [⟨some 2, .mov (.con (.int .i64 0)), none, 0⟩,
     ⟨some 3, .mov (.con (.int .i64 0)), none, 0⟩,
     ⟨some 4, .mov (.con (.bool false)), none, 0⟩])
  (.seq (.seq (.ops [⟨some 5, .mov (.con (.int .i64 1)), none, 0⟩])
   (.block 0
    (.loop f_haulageref03_Read_k0 f_haulageref03_Read_b0)))
  (.seq (.ops [⟨some 2, .mov (.con (.int .i64 0)), none, 0⟩,
     ⟨some 3, .mov (.con (.int .i64 0)), none, 0⟩,
     ⟨some 4, .mov (.con (.bool false)), none, 0⟩])
  .ret))) }
def f_haulageref03_Signs_k0 : List Bool := [true, false, false, false, true, false, false, false, false, false, false, false, false, false, false, false, false, false, false, false, false, false, false, false, false, false]
def f_haulageref03_Signs_b0 : XCode :=
  (.seq (.seq (.ops [⟨some 8, .mov (.tmp 0), none, 0⟩,
     ⟨some 9, .bin .neq (.tmp 8) (.con (.str [])), none, 0⟩])
  (.cond (.tmp 9)
   .skip
   (.exit 0)))
 (.block 1
  (.seq (.ops [⟨some 11, .mov (.tmp 0), none, 0⟩,
     ⟨some 12, .call (.fn 5) [(.tmp 11)], none, 0⟩,
     ⟨some 10, .mov (.tmp 12), none, 0⟩,
     ⟨some 13, .extract (.tmp 10) 0, none, 0⟩,
     ⟨some 14, .extract (.tmp 10) 1, none, 0⟩,
     ⟨some 15, .extract (.tmp 10) 2, none, 0⟩,
     ⟨some 5, .mov (.tmp 13), none, 0⟩,
     ⟨some 6, .mov (.tmp 14), none, 0⟩,
     ⟨some 7, .mov (.tmp 15), none, 0⟩])
  (.seq (.seq (.ops [⟨some 16, .mov (.tmp 7), none, 0⟩,
      ⟨some 17, .un .not (.tmp 16), none, 0⟩])
   (.cond (.tmp 17)
    (.seq (.ops [⟨some 2, .mov (.con .nils), none, 0⟩,
        ⟨some 3, .mov (.con (.bool false)), none, 0⟩])
     .ret)
    .skip))
  (.seq (.ops [⟨some 18, .mov (.tmp 4), none, 0⟩,
     ⟨some 19, .mov (.tmp 5), none, 0⟩,
     ⟨some 20, .rowLit false 1 1 [.int .i64 0] [(0, 1, (.tmp 19))], none, 0⟩,
     ⟨some 21, .append false 1 8 (.tmp 18) (.tmp 20), none, 0⟩,
     ⟨some 4, .mov (.tmp 21), none, 0⟩])
  (.ops [⟨some 22, .mov (.tmp 0), none, 0⟩,
    ⟨some 23, .mov (.tmp 6), none, 0⟩,
    ⟨some 24, .cutStr (.tmp 22) (some (.tmp 23)) none, none, 0⟩,
    ⟨some 0, .mov (.tmp 24), none, 0⟩]))))))
def f_haulageref03_Signs_s0 (t0 t4 : AV) : List AV := [t0, .unk, .unk, .unk, t4, .unk, .unk, .unk, .unk, .unk, .unk, .unk, .unk, .unk, .unk, .unk, .unk, .unk, .unk, .unk, .unk, .unk, .unk, .unk, .unk, .unk]
def f_haulageref03_Signs : XFunc := { ntmps := 26, res := [.tmp 2, .tmp 3], pure := true, body :=
  (.seq (.ops [⟨some 2, .mov (.con .nils), none, 0⟩,
     ⟨some 3, .mov (.con (.bool false)), none, 0⟩])
  (.seq (.ops [⟨some 4, .mov (.con .nils), none, 0⟩])
  (.seq (.block 0
    (.loop f_haulageref03_Signs_k0 f_haulageref03_Signs_b0))
  (.seq (.ops [⟨some 25, .mov (.tmp 4), none, 0⟩,
     ⟨some 2, .mov (.tmp 25), none, 0⟩,
     ⟨some 3, .mov (.con (.bool true)), none, 0⟩])
  .ret)))) }
def f_haulageref03_one : XFunc := { ntmps := 7, res := [.tmp 2], pure := true, body :=
  (.seq (.ops [⟨some 2, .mov (.con (.str [])), none, 0⟩])
  (.seq (.ops [⟨some 3, .mov (.tmp 0), none, 0⟩,
     ⟨some 4, .toInt .u8 (.tmp 3), none, 0⟩,
     ⟨some 5, .rowLit false 1 1 [.int .u8 0] [(0, 1, (.tmp 4))], none, 0⟩,
     ⟨some 6, .toStr (.tmp 5), none, 0⟩,
     ⟨some 2, .mov (.tmp 6), none, 0⟩])
  .ret)) }
def f_haulageref03_Right : XFunc := { ntmps := 11, res := [.tmp 2], pure := true, body :=
  (.seq (.ops [⟨some 2, .mov (.con (.bool false)), none, 0⟩])
  (.seq (.ops [⟨some 6, .mov (.tmp 0), none, 0⟩,
     ⟨some 7, .call (.fn 8) [(.tmp 6)], none, 0⟩,
     ⟨some 5, .mov (.tmp 7), none, 0⟩,
     ⟨some 8, .extract (.tmp 5) 0, none, 0⟩,
     ⟨some 9, .extract (.tmp 5) 1, none, 0⟩,
     ⟨some 3, .mov (.tmp 8), none, 0⟩,
     ⟨some 4, .mov (.tmp 9), none, 0⟩])
  (.seq (.ops [⟨some 10, .mov (.tmp 4), none, 0⟩,
     ⟨some 2, .mov (.tmp 10), none, 0⟩])
  .ret))) }
end Hx.Fn

namespace Hx.Fn
open Go
end Hx.Fn
