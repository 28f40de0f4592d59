/- HxFn06: written by gen.py -/
import Derived.Test.YtifcegbomagcpaaDoorHxDefs
namespace Hx.Fn
open Go
def f_typ_Right : XFunc := { ntmps := 22, res := [.tmp 2], pure := true, body :=
  (.seq (.ops [⟨some 1, .box (.tmp 0), none, 0⟩,
     ⟨some 2, .mov (.con (.bool false)), none, 0⟩])
  (.seq (.seq (.ops [⟨some 3, .fieldAddr 0 (.tmp 1), none, 0⟩,
      ⟨some 4, .load 1 false (.tmp 3), none, 0⟩])
   (.block 0
    (.seq (.seq (.ops [⟨some 6, .bin .eql (.tmp 4) (.con (.int .i64 1)), none, 0⟩,
        ⟨some 5, .mov (.tmp 6), none, 0⟩])
     (.cond (.tmp 5)
      .skip
      (.ops [⟨some 7, .bin .eql (.tmp 4) (.con (.int .i64 2)), none, 0⟩,
         ⟨some 5, .mov (.tmp 7), none, 0⟩])))
    (.cond (.tmp 5)
     (.seq (.ops [⟨some 8, .fieldAddr 1 (.tmp 1), none, 0⟩,
         ⟨some 9, .load 1 false (.tmp 8), none, 0⟩,
         ⟨some 10, .bin .eql (.tmp 9) (.con (.int .i64 0)), none, 0⟩,
         ⟨some 2, .mov (.tmp 10), none, 0⟩])
      .ret)
     (.seq (.seq (.ops [⟨some 12, .bin .eql (.tmp 4) (.con (.int .i64 3)), none, 0⟩,
          ⟨some 11, .mov (.tmp 12), none, 0⟩])
       (.cond (.tmp 11)
        .skip
        (.ops [⟨some 13, .bin .eql (.tmp 4) (.con (.int .i64 4)), none, 0⟩,
           ⟨some 11, .mov (.tmp 13), none, 0⟩])))
      (.cond (.tmp 11)
       (.seq (.ops [⟨some 14, .fieldAddr 1 (.tmp 1), none, 0⟩,
           ⟨some 15, .load 1 false (.tmp 14), none, 0⟩,
           ⟨some 16, .bin .geq (.tmp 15) (.con (.int .i64 1)), none, 0⟩,
           ⟨some 17, .mov (.tmp 16), none, 0⟩,
           ⟨some 18, .fieldAddr 1 (.tmp 1), some (17, true), 0⟩,
           ⟨some 19, .load 1 false (.tmp 18), some (17, true), 0⟩,
           ⟨some 20, .bin .leq (.tmp 19) (.con (.int .i64 120)), some (17, true), 0⟩,
           ⟨some 21, .pick (.tmp 17) (.tmp 20) (.con (.bool false)), none, 0⟩,
           ⟨some 2, .mov (.tmp 21), none, 0⟩])
        .ret)
       .skip))))))
  (.seq (.ops [⟨some 2, .mov (.con (.bool false)), none, 0⟩])
  .ret))) }
def f_typ_Read : XFunc := { ntmps := 70, res := [.cell 2 2 true, .tmp 3, .tmp 4], pure := true, body :=
  (.seq (.ops [⟨some 2, .alloc [.int .i64 0, .int .i64 0], none, 0⟩,
     ⟨some 3, .mov (.con (.int .i64 0)), none, 0⟩,
     ⟨some 4, .mov (.con (.int .i64 0)), none, 0⟩])
  (.seq (.ops [⟨some 7, .mov (.tmp 0), none, 0⟩,
     ⟨some 8, .call (.fn 50) [(.tmp 7)], none, 0⟩,
     ⟨some 3, .mov (.tmp 8), none, 0⟩])
  (.seq (.ops [⟨some 9, .mov (.tmp 0), none, 0⟩,
     ⟨some 10, .mov (.tmp 3), none, 0⟩,
     ⟨some 11, .cutStr (.tmp 9) none (some (.tmp 10)), none, 0⟩,
     ⟨some 12, .call (.fn 98) [(.tmp 11)], none, 0⟩,
     ⟨some 13, .fieldAddr 0 (.tmp 2), none, 0⟩,
     ⟨none, .store 1 (.tmp 13) (.tmp 12), none, 0⟩])
  (.seq (.seq (.ops [⟨some 14, .fieldAddr 0 (.tmp 2), none, 0⟩,
      ⟨some 15, .load 1 false (.tmp 14), none, 0⟩,
      ⟨some 16, .bin .eql (.tmp 15) (.con (.int .i64 1)), none, 0⟩,
      ⟨some 17, .mov (.tmp 16), none, 0⟩,
      ⟨some 18, .fieldAddr 0 (.tmp 2), some (17, false), 0⟩,
      ⟨some 19, .load 1 false (.tmp 18), some (17, false), 0⟩,
      ⟨some 20, .bin .eql (.tmp 19) (.con (.int .i64 2)), some (17, false), 0⟩,
      ⟨some 21, .pick (.tmp 17) (.con (.bool true)) (.tmp 20), none, 0⟩])
   (.cond (.tmp 21)
    (.seq (.ops [⟨some 22, .load 2 true (.tmp 2), none, 0⟩,
        ⟨some 23, .mov (.tmp 3), none, 0⟩,
        ⟨none, .store 2 (.tmp 2) (.tmp 22), none, 0⟩,
        ⟨some 3, .mov (.tmp 23), none, 0⟩,
        ⟨some 4, .mov (.con (.int .i64 0)), none, 0⟩])
     .ret)
    .skip))
  (.seq (.seq (.ops [⟨some 24, .fieldAddr 0 (.tmp 2), none, 0⟩,
      ⟨some 25, .load 1 false (.tmp 24), none, 0⟩,
      ⟨some 26, .bin .eql (.tmp 25) (.con (.int .i64 0)), none, 0⟩,
      ⟨some 27, .mov (.tmp 26), none, 0⟩,
      ⟨some 28, .mov (.tmp 0), some (27, false), 0⟩,
      ⟨some 29, .mov (.tmp 3), some (27, false), 0⟩,
      ⟨some 30, .cutStr (.tmp 28) (some (.tmp 29)) none, some (27, false), 0⟩,
      ⟨some 31, .call (.fn 48) [(.tmp 30), (.con (.str [40]))], some (27, false), 0⟩,
      ⟨some 32, .un .not (.tmp 31), some (27, false), 0⟩,
      ⟨some 33, .pick (.tmp 27) (.con (.bool true)) (.tmp 32), none, 0⟩])
   (.cond (.tmp 33)
    (.seq (.ops [⟨some 34, .build [.int .i64 0, .int .i64 0] [], none, 0⟩,
        ⟨none, .store 2 (.tmp 2) (.tmp 34), none, 0⟩,
        ⟨some 3, .mov (.con (.int .i64 0)), none, 0⟩,
        ⟨some 4, .mov (.con (.int .i64 5)), none, 0⟩])
     .ret)
    .skip))
  (.seq (.ops [⟨some 35, .mov (.tmp 3), none, 0⟩,
     ⟨some 36, .bin .add (.tmp 35) (.con (.int .i64 1)), none, 0⟩,
     ⟨some 3, .mov (.tmp 36), none, 0⟩])
  (.seq (.ops [⟨some 38, .mov (.tmp 0), none, 0⟩,
     ⟨some 39, .mov (.tmp 3), none, 0⟩,
     ⟨some 40, .cutStr (.tmp 38) (some (.tmp 39)) none, none, 0⟩,
     ⟨some 41, .call (.fn 37) [(.tmp 40)], none, 0⟩,
     ⟨some 37, .mov (.tmp 41), none, 0⟩,
     ⟨some 42, .extract (.tmp 37) 0, none, 0⟩,
     ⟨some 43, .extract (.tmp 37) 1, none, 0⟩,
     ⟨some 44, .extract (.tmp 37) 2, none, 0⟩,
     ⟨some 5, .mov (.tmp 42), none, 0⟩,
     ⟨some 6, .mov (.tmp 43), none, 0⟩,
     ⟨some 4, .mov (.tmp 44), none, 0⟩])
  (.seq (.seq (.ops [⟨some 45, .mov (.tmp 4), none, 0⟩,
      ⟨some 46, .bin .neq (.tmp 45) (.con (.int .i64 0)), none, 0⟩])
   (.cond (.tmp 46)
    (.seq (.ops [⟨some 47, .build [.int .i64 0, .int .i64 0] [], none, 0⟩,
        ⟨some 48, .mov (.tmp 4), none, 0⟩,
        ⟨none, .store 2 (.tmp 2) (.tmp 47), none, 0⟩,
        ⟨some 3, .mov (.con (.int .i64 0)), none, 0⟩,
        ⟨some 4, .mov (.tmp 48), none, 0⟩])
     .ret)
    .skip))
  (.seq (.ops [⟨some 49, .mov (.tmp 3), none, 0⟩,
     ⟨some 50, .mov (.tmp 6), none, 0⟩,
     ⟨some 51, .bin .add (.tmp 49) (.tmp 50), none, 0⟩,
     ⟨some 3, .mov (.tmp 51), none, 0⟩])
  (.seq (.seq (.ops [⟨some 52, .mov (.tmp 0), none, 0⟩,
      ⟨some 53, .mov (.tmp 3), none, 0⟩,
      ⟨some 54, .cutStr (.tmp 52) (some (.tmp 53)) none, none, 0⟩,
      ⟨some 55, .call (.fn 48) [(.tmp 54), (.con (.str [41]))], none, 0⟩,
      ⟨some 56, .un .not (.tmp 55), none, 0⟩])
   (.cond (.tmp 56)
    (.seq (.ops [⟨some 57, .build [.int .i64 0, .int .i64 0] [], none, 0⟩,
        ⟨none, .store 2 (.tmp 2) (.tmp 57), none, 0⟩,
        ⟨some 3, .mov (.con (.int .i64 0)), none, 0⟩,
        ⟨some 4, .mov (.con (.int .i64 5)), none, 0⟩])
     .ret)
    .skip))
  (.seq (.seq (.ops [⟨some 58, .mov (.tmp 5), none, 0⟩,
      ⟨some 59, .bin .lss (.tmp 58) (.con (.int .i64 1)), none, 0⟩,
      ⟨some 60, .mov (.tmp 59), none, 0⟩,
      ⟨some 61, .mov (.tmp 5), some (60, false), 0⟩,
      ⟨some 62, .bin .gtr (.tmp 61) (.con (.int .i64 120)), some (60, false), 0⟩,
      ⟨some 63, .pick (.tmp 60) (.con (.bool true)) (.tmp 62), none, 0⟩])
   (.cond (.tmp 63)
    (.seq (.ops [⟨some 64, .build [.int .i64 0, .int .i64 0] [], none, 0⟩,
        ⟨none, .store 2 (.tmp 2) (.tmp 64), none, 0⟩,
        ⟨some 3, .mov (.con (.int .i64 0)), none, 0⟩,
        ⟨some 4, .mov (.con (.int .i64 10)), none, 0⟩])
     .ret)
    .skip))
  (.seq (.ops [⟨some 65, .mov (.tmp 5), none, 0⟩,
     ⟨some 66, .fieldAddr 1 (.tmp 2), none, 0⟩,
     ⟨none, .store 1 (.tmp 66) (.tmp 65), none, 0⟩])
  (.seq (.ops [⟨some 67, .load 2 true (.tmp 2), none, 0⟩,
     ⟨some 68, .mov (.tmp 3), none, 0⟩,
     ⟨some 69, .bin .add (.tmp 68) (.con (.int .i64 1)), none, 0⟩,
     ⟨none, .store 2 (.tmp 2) (.tmp 67), none, 0⟩,
     ⟨some 3, .mov (.tmp 69), none, 0⟩,
     ⟨some 4, .mov (.con (.int .i64 0)), none, 0⟩])
  .ret))))))))))))) }
def f_typ_Print : XFunc := { ntmps := 23, res := [.tmp 2, .tmp 3], pure := true, body :=
  (.seq (.ops [⟨some 1, .box (.tmp 0), none, 0⟩,
     ⟨some 2, .mov (.con (.str [])), none, 0⟩,
     ⟨some 3, .mov (.con (.int .i64 0)), none, 0⟩])
  (.seq (.seq (.ops [⟨some 5, .load 2 true (.tmp 1), none, 0⟩,
      ⟨some 6, .call (.fn 84) [(.tmp 5)], none, 0⟩,
      ⟨some 7, .un .not (.tmp 6), none, 0⟩])
   (.cond (.tmp 7)
    (.seq (.ops [⟨some 2, .mov (.con (.str [])), none, 0⟩,
        ⟨some 3, .mov (.con (.int .i64 2)), none, 0⟩])
     .ret)
    .skip))
  (.seq (.ops [⟨some 8, .fieldAddr 0 (.tmp 1), none, 0⟩,
     ⟨some 9, .load 1 false (.tmp 8), none, 0⟩,
     ⟨some 10, .addrArr 5 1 (.glob 2) (.tmp 9), none, 0⟩,
     ⟨some 11, .load 1 false (.tmp 10), none, 0⟩,
     ⟨some 4, .mov (.tmp 11), none, 0⟩])
  (.seq (.seq (.ops [⟨some 12, .fieldAddr 0 (.tmp 1), none, 0⟩,
      ⟨some 13, .load 1 false (.tmp 12), none, 0⟩,
      ⟨some 14, .call (.fn 95) [(.tmp 13)], none, 0⟩])
   (.cond (.tmp 14)
    (.ops [⟨some 15, .mov (.tmp 4), none, 0⟩,
       ⟨some 16, .fieldAddr 1 (.tmp 1), none, 0⟩,
       ⟨some 17, .load 1 false (.tmp 16), none, 0⟩,
       ⟨some 18, .call (.fn 39) [(.tmp 17)], none, 0⟩,
       ⟨some 19, .bin .add (.con (.str [40])) (.tmp 18), none, 0⟩,
       ⟨some 20, .bin .add (.tmp 19) (.con (.str [41])), none, 0⟩,
       ⟨some 21, .bin .add (.tmp 15) (.tmp 20), none, 0⟩,
       ⟨some 4, .mov (.tmp 21), none, 0⟩])
    .skip))
  (.seq (.ops [⟨some 22, .mov (.tmp 4), none, 0⟩,
     ⟨some 2, .mov (.tmp 22), none, 0⟩,
     ⟨some 3, .mov (.con (.int .i64 0)), none, 0⟩])
  .ret))))) }
def f_typ_long : XFunc := { ntmps := 9, res := [.tmp 2], pure := true, body :=
  (.seq (.ops [⟨some 2, .mov (.con (.bool false)), none, 0⟩])
  (.seq (.ops [⟨some 3, .mov (.tmp 0), none, 0⟩,
     ⟨some 4, .bin .eql (.tmp 3) (.con (.int .i64 3)), none, 0⟩,
     ⟨some 5, .mov (.tmp 4), none, 0⟩,
     ⟨some 6, .mov (.tmp 0), some (5, false), 0⟩,
     ⟨some 7, .bin .eql (.tmp 6) (.con (.int .i64 4)), some (5, false), 0⟩,
     ⟨some 8, .pick (.tmp 5) (.con (.bool true)) (.tmp 7), none, 0⟩,
     ⟨some 2, .mov (.tmp 8), none, 0⟩])
  .ret)) }
def f_value_Right : XFunc := { ntmps := 45, res := [.tmp 2], pure := true, body :=
  (.seq (.ops [⟨some 1, .box (.tmp 0), none, 0⟩,
     ⟨some 2, .mov (.con (.bool false)), none, 0⟩])
  (.seq (.ops [⟨some 3, .mov (.con (.bool false)), none, 0⟩,
     ⟨some 4, .mov (.con (.bool false)), none, 0⟩])
  (.seq (.seq (.ops [⟨some 5, .fieldAddr 0 (.tmp 1), none, 0⟩,
      ⟨some 6, .load 1 false (.tmp 5), none, 0⟩])
   (.block 0
    (.seq (.ops [⟨some 8, .bin .eql (.tmp 6) (.con (.int .i64 0)), none, 0⟩,
       ⟨some 7, .mov (.tmp 8), none, 0⟩])
    (.cond (.tmp 7)
     .skip
     (.seq (.ops [⟨some 10, .bin .eql (.tmp 6) (.con (.int .i64 1)), none, 0⟩,
         ⟨some 9, .mov (.tmp 10), none, 0⟩])
      (.cond (.tmp 9)
       (.ops [⟨some 11, .fieldAddr 1 (.tmp 1), none, 0⟩,
          ⟨some 12, .load 1 false (.tmp 11), none, 0⟩,
          ⟨some 13, .call (.fn 55) [(.tmp 12), (.con (.int .i64 32))], none, 0⟩,
          ⟨some 3, .mov (.tmp 13), none, 0⟩])
       (.seq (.ops [⟨some 15, .bin .eql (.tmp 6) (.con (.int .i64 2)), none, 0⟩,
           ⟨some 14, .mov (.tmp 15), none, 0⟩])
        (.cond (.tmp 14)
         (.ops [⟨some 3, .mov (.con (.bool true)), none, 0⟩])
         (.seq (.ops [⟨some 17, .bin .eql (.tmp 6) (.con (.int .i64 3)), none, 0⟩,
             ⟨some 16, .mov (.tmp 17), none, 0⟩])
          (.cond (.tmp 16)
           (.ops [⟨some 18, .fieldAddr 2 (.tmp 1), none, 0⟩,
              ⟨some 19, .load 1 false (.tmp 18), none, 0⟩,
              ⟨some 20, .call (.fn 11) [(.tmp 19)], none, 0⟩,
              ⟨some 4, .mov (.tmp 20), none, 0⟩])
           (.seq (.ops [⟨some 22, .bin .eql (.tmp 6) (.con (.int .i64 4)), none, 0⟩,
               ⟨some 21, .mov (.tmp 22), none, 0⟩])
            (.cond (.tmp 21)
             (.ops [⟨some 4, .mov (.con (.bool true)), none, 0⟩])
             (.seq (.ops [⟨some 2, .mov (.con (.bool false)), none, 0⟩])
              .ret)))))))))))))
  (.seq (.seq (.ops [⟨some 23, .fieldAddr 1 (.tmp 1), none, 0⟩,
      ⟨some 24, .load 1 false (.tmp 23), none, 0⟩,
      ⟨some 25, .bin .neq (.tmp 24) (.con (.int .i64 0)), none, 0⟩,
      ⟨some 26, .mov (.tmp 25), none, 0⟩,
      ⟨some 27, .mov (.tmp 3), some (26, true), 0⟩,
      ⟨some 28, .un .not (.tmp 27), some (26, true), 0⟩,
      ⟨some 29, .pick (.tmp 26) (.tmp 28) (.con (.bool false)), none, 0⟩,
      ⟨some 30, .mov (.tmp 29), none, 0⟩,
      ⟨some 31, .fieldAddr 2 (.tmp 1), some (30, false), 0⟩,
      ⟨some 32, .load 1 false (.tmp 31), some (30, false), 0⟩,
      ⟨some 33, .bin .neq (.tmp 32) (.con (.str [])), some (30, false), 0⟩,
      ⟨some 34, .mov (.tmp 33), some (30, false), 0⟩,
      ⟨some 35, .mov (.tmp 4), some (34, true), 0⟩,
      ⟨some 36, .un .not (.tmp 35), some (34, true), 0⟩,
      ⟨some 37, .pick (.tmp 34) (.tmp 36) (.con (.bool false)), some (30, false), 0⟩,
      ⟨some 38, .pick (.tmp 30) (.con (.bool true)) (.tmp 37), none, 0⟩,
      ⟨some 39, .mov (.tmp 38), none, 0⟩,
      ⟨some 40, .fieldAddr 2 (.tmp 1), some (39, false), 0⟩,
      ⟨some 41, .load 1 false (.tmp 40), some (39, false), 0⟩,
      ⟨some 42, .lenS (.tmp 41), some (39, false), 0⟩,
      ⟨some 43, .bin .gtr (.tmp 42) (.con (.int .i64 120)), some (39, false), 0⟩,
      ⟨some 44, .pick (.tmp 39) (.con (.bool true)) (.tmp 43), none, 0⟩])
   (.cond (.tmp 44)
    (.seq (.ops [⟨some 2, .mov (.con (.bool false)), none, 0⟩])
     .ret)
    .skip))
  (.seq (.ops [⟨some 2, .mov (.con (.bool true)), none, 0⟩])
  .ret))))) }
def f_value_Digits_k0 : List Bool := [true, false, false, true, true, true, false, false, false, false, false, false, false, false, false, false, false, false, false, false, false, false, false, false, false, false, false, false, false, false, false, false, false]
def f_value_Digits_b0 : XCode :=
  (.block 1
  (.seq (.ops [⟨some 12, .mov (.tmp 4), none, 0⟩,
     ⟨some 13, .bin .sub (.tmp 12) (.con (.int .i64 1)), none, 0⟩,
     ⟨some 4, .mov (.tmp 13), none, 0⟩])
  (.seq (.ops [⟨some 14, .mov (.tmp 4), none, 0⟩,
     ⟨some 15, .mov (.tmp 5), none, 0⟩,
     ⟨some 16, .bin .rem (.tmp 15) (.con (.int .u64 10)), none, 0⟩,
     ⟨some 17, .toInt .u8 (.tmp 16), none, 0⟩,
     ⟨some 18, .bin .add (.con (.int .u8 48)) (.tmp 17), none, 0⟩,
     ⟨some 19, .addrArr 20 1 (.tmp 3) (.tmp 14), none, 0⟩,
     ⟨none, .store 1 (.tmp 19) (.tmp 18), none, 0⟩])
  (.seq (.ops [⟨some 20, .mov (.tmp 5), none, 0⟩,
     ⟨some 21, .bin .quo (.tmp 20) (.con (.int .u64 10)), none, 0⟩,
     ⟨some 5, .mov (.tmp 21), none, 0⟩])
  (.seq (.ops [⟨some 22, .mov (.tmp 5), none, 0⟩,
     ⟨some 23, .bin .eql (.tmp 22) (.con (.int .u64 0)), none, 0⟩])
  (.cond (.tmp 23)
   (.exit 0)
   .skip))))))
def f_value_Digits_s0 (t0 t3 t4 t5 : AV) : List AV := [t0, .unk, .unk, t3, t4, t5, .unk, .unk, .unk, .unk, .unk, .unk, .unk, .unk, .unk, .unk, .unk, .unk, .unk, .unk, .unk, .unk, .unk, .unk, .unk, .unk, .unk, .unk, .unk, .unk, .unk, .unk, .unk]
def f_value_Digits : XFunc := { ntmps := 33, res := [.tmp 2], pure := true, body :=
  (.seq (.ops [⟨some 2, .mov (.con (.str [])), none, 0⟩])
  (.seq (.ops [⟨some 3, .alloc [.int .u8 0, .int .u8 0, .int .u8 0, .int .u8 0, .int .u8 0, .int .u8 0, .int .u8 0, .int .u8 0, .int .u8 0, .int .u8 0, .int .u8 0, .int .u8 0, .int .u8 0, .int .u8 0, .int .u8 0, .int .u8 0, .int .u8 0, .int .u8 0, .int .u8 0, .int .u8 0], none, 0⟩])
  (.seq (.ops [⟨some 6, .mov (.tmp 0), none, 0⟩,
     ⟨some 7, .toInt .u64 (.tmp 6), none, 0⟩,
     ⟨some 4, .mov (.con (.int .i64 20)), none, 0⟩,
     ⟨some 5, .mov (.tmp 7), none, 0⟩])
  (.seq (.seq (.ops [⟨some 8, .mov (.tmp 0), none, 0⟩,
      ⟨some 9, .bin .lss (.tmp 8) (.con (.int .i64 0)), none, 0⟩])
   (.cond (.tmp 9)
    (.ops [⟨some 10, .mov (.tmp 5), none, 0⟩,
       ⟨some 11, .un .neg (.tmp 10), none, 0⟩,
       ⟨some 5, .mov (.tmp 11), none, 0⟩])
    .skip))
  (.seq (.block 0
    (.loop f_value_Digits_k0 f_value_Digits_b0))
  (.seq (.seq (.ops [⟨some 24, .mov (.tmp 0), none, 0⟩,
      ⟨some 25, .bin .lss (.tmp 24) (.con (.int .i64 0)), none, 0⟩])
   (.cond (.tmp 25)
    (.seq (.ops [⟨some 26, .mov (.tmp 4), none, 0⟩,
        ⟨some 27, .bin .sub (.tmp 26) (.con (.int .i64 1)), none, 0⟩,
        ⟨some 4, .mov (.tmp 27), none, 0⟩])
     (.ops [⟨some 28, .mov (.tmp 4), none, 0⟩,
       ⟨some 29, .addrArr 20 1 (.tmp 3) (.tmp 28), none, 0⟩,
       ⟨none, .store 1 (.tmp 29) (.con (.int .u8 45)), none, 0⟩]))
    .skip))
  (.seq (.ops [⟨some 30, .mov (.tmp 4), none, 0⟩,
     ⟨some 31, .cutArr 20 1 (.tmp 3) (some (.tmp 30)) none, none, 0⟩,
     ⟨some 32, .toStr (.tmp 31), none, 0⟩,
     ⟨some 2, .mov (.tmp 32), none, 0⟩])
  .ret))))))) }
def f_haulageref05_Digits : XFunc := { ntmps := 36, res := [.tmp 2], pure := true, body :=
  (.seq (.ops [⟨some 2, .mov (.con (.str [])), none, 0⟩])
  (.seq (.seq (.ops [⟨some 4, .mov (.tmp 0), none, 0⟩,
      ⟨some 5, .bin .gtr (.tmp 4) (.con (.int .i64 (-10))), none, 0⟩,
      ⟨some 6, .mov (.tmp 5), none, 0⟩,
      ⟨some 7, .mov (.tmp 0), some (6, true), 0⟩,
      ⟨some 8, .bin .lss (.tmp 7) (.con (.int .i64 0)), some (6, true), 0⟩,
      ⟨some 9, .pick (.tmp 6) (.tmp 8) (.con (.bool false)), none, 0⟩])
   (.cond (.tmp 9)
    (.seq (.ops [⟨some 10, .mov (.tmp 0), none, 0⟩,
        ⟨some 11, .un .neg (.tmp 10), none, 0⟩,
        ⟨some 12, .call (.fn 40) [(.tmp 11)], none, 0⟩,
        ⟨some 13, .bin .add (.con (.str [45])) (.tmp 12), none, 0⟩,
        ⟨some 2, .mov (.tmp 13), none, 0⟩])
     .ret)
    .skip))
  (.seq (.seq (.ops [⟨some 14, .mov (.tmp 0), none, 0⟩,
      ⟨some 15, .bin .geq (.tmp 14) (.con (.int .i64 0)), none, 0⟩,
      ⟨some 16, .mov (.tmp 15), none, 0⟩,
      ⟨some 17, .mov (.tmp 0), some (16, true), 0⟩,
      ⟨some 18, .bin .lss (.tmp 17) (.con (.int .i64 10)), some (16, true), 0⟩,
      ⟨some 19, .pick (.tmp 16) (.tmp 18) (.con (.bool false)), none, 0⟩])
   (.cond (.tmp 19)
    (.seq (.ops [⟨some 20, .mov (.tmp 0), none, 0⟩,
        ⟨some 21, .mov (.tmp 0), none, 0⟩,
        ⟨some 22, .bin .add (.tmp 21) (.con (.int .i64 1)), none, 0⟩,
        ⟨some 23, .cutStr (.con (.str [48, 49, 50, 51, 52, 53, 54, 55, 56, 57])) (some (.tmp 20)) (some (.tmp 22)), none, 0⟩,
        ⟨some 2, .mov (.tmp 23), none, 0⟩])
     .ret)
    .skip))
  (.seq (.ops [⟨some 24, .mov (.tmp 0), none, 0⟩,
     ⟨some 25, .bin .rem (.tmp 24) (.con (.int .i64 10)), none, 0⟩,
     ⟨some 3, .mov (.tmp 25), none, 0⟩])
  (.seq (.seq (.ops [⟨some 26, .mov (.tmp 3), none, 0⟩,
      ⟨some 27, .bin .lss (.tmp 26) (.con (.int .i64 0)), none, 0⟩])
   (.cond (.tmp 27)
    (.ops [⟨some 28, .mov (.tmp 3), none, 0⟩,
       ⟨some 29, .un .neg (.tmp 28), none, 0⟩,
       ⟨some 3, .mov (.tmp 29), none, 0⟩])
    .skip))
  (.seq (.ops [⟨some 30, .mov (.tmp 0), none, 0⟩,
     ⟨some 31, .bin .quo (.tmp 30) (.con (.int .i64 10)), none, 0⟩,
     ⟨some 32, .call (.fn 40) [(.tmp 31)], none, 0⟩,
     ⟨some 33, .mov (.tmp 3), none, 0⟩,
     ⟨some 34, .call (.fn 40) [(.tmp 33)], none, 0⟩,
     ⟨some 35, .bin .add (.tmp 32) (.tmp 34), none, 0⟩,
     ⟨some 2, .mov (.tmp 35), none, 0⟩])
  .ret)))))) }
def f_name_Read_k0 : List Bool := [true, false, false, false, false, true, true, false, false, false, false, false, false, false, false, false, false, false, false]
def f_name_Read_b0 : XCode :=
  (.seq (.ops [⟨some 7, .bin .lss (.tmp 6) (.tmp 5), none, 0⟩])
 (.seq (.cond (.tmp 7)
   .skip
   (.exit 0))
 (.seq (.block 1
   (.seq (.ops [⟨some 8, .mov (.tmp 6), none, 0⟩,
      ⟨some 3, .mov (.tmp 8), none, 0⟩])
   (.seq (.ops [⟨some 9, .mov (.tmp 0), none, 0⟩,
      ⟨some 10, .mov (.tmp 3), none, 0⟩,
      ⟨some 11, .indexStr (.tmp 9) (.tmp 10), none, 0⟩,
      ⟨some 12, .mov (.tmp 3), none, 0⟩,
      ⟨some 13, .call (.fn 65) [(.tmp 11), (.tmp 12)], none, 0⟩,
      ⟨some 14, .un .not (.tmp 13), none, 0⟩])
   (.cond (.tmp 14)
    (.seq (.ops [⟨some 15, .mov (.tmp 3), none, 0⟩,
        ⟨some 2, .mov (.tmp 15), none, 0⟩])
     .ret)
    .skip))))
 (.ops [⟨some 16, .bin .add (.tmp 6) (.con (.int .i64 1)), none, 0⟩,
   ⟨some 6, .mov (.tmp 16), none, 0⟩]))))
def f_name_Read_s0 (t0 t5 t6 : AV) : List AV := [t0, .unk, .unk, .unk, .unk, t5, t6, .unk, .unk, .unk, .unk, .unk, .unk, .unk, .unk, .unk, .unk, .unk, .unk]
def f_name_Read : XFunc := { ntmps := 19, res := [.tmp 2], pure := true, body :=
  (.seq (.ops [⟨some 2, .mov (.con (.int .i64 0)), none, 0⟩])
  (.seq (.seq (.ops [⟨some 4, .mov (.tmp 0), none, 0⟩,
      ⟨some 5, .lenS (.tmp 4), none, 0⟩,
      ⟨some 6, .mov (.con (.int .i64 0)), none, 0⟩])
   (.block 0
    (.loop f_name_Read_k0 f_name_Read_b0)))
  (.seq (.ops [⟨some 17, .mov (.tmp 0), none, 0⟩,
     ⟨some 18, .lenS (.tmp 17), none, 0⟩,
     ⟨some 2, .mov (.tmp 18), none, 0⟩])
  .ret))) }
def f_typ_kindOf_k0 : List Bool := [true, false, false, true, false, false, false, false, false, false, false, false, false, false]
def f_typ_kindOf_b0 : XCode :=
  (.seq (.seq (.ops [⟨some 4, .mov (.tmp 3), none, 0⟩,
     ⟨some 5, .bin .leq (.tmp 4) (.con (.int .i64 4)), none, 0⟩])
  (.cond (.tmp 5)
   .skip
   (.exit 0)))
 (.seq (.block 1
   (.seq (.ops [⟨some 8, .mov (.tmp 3), none, 0⟩,
      ⟨some 9, .addrArr 5 1 (.glob 2) (.tmp 8), none, 0⟩,
      ⟨some 10, .load 1 false (.tmp 9), none, 0⟩,
      ⟨some 11, .mov (.tmp 0), none, 0⟩,
      ⟨some 12, .bin .eql (.tmp 10) (.tmp 11), none, 0⟩])
   (.cond (.tmp 12)
    (.seq (.ops [⟨some 13, .mov (.tmp 3), none, 0⟩,
        ⟨some 2, .mov (.tmp 13), none, 0⟩])
     .ret)
    .skip)))
 (.ops [⟨some 6, .mov (.tmp 3), none, 0⟩,
   ⟨some 7, .bin .add (.tmp 6) (.con (.int .i64 1)), none, 0⟩,
   ⟨some 3, .mov (.tmp 7), none, 0⟩])))
def f_typ_kindOf_s0 (t0 t3 : AV) : List AV := [t0, .unk, .unk, t3, .unk, .unk, .unk, .unk, .unk, .unk, .unk, .unk, .unk, .unk]
def f_typ_kindOf : XFunc := { ntmps := 14, res := [.tmp 2], pure := true, body :=
  (.seq (.ops [⟨some 2, .mov (.con (.int .i64 0)), none, 0⟩])
  (.seq (.seq (.ops [⟨some 3, .mov (.con (.int .i64 1)), none, 0⟩])
   (.block 0
    (.loop f_typ_kindOf_k0 f_typ_kindOf_b0)))
  (.seq (.ops [⟨some 2, .mov (.con (.int .i64 0)), none, 0⟩])
  .ret))) }
def f_strings_HasPrefix : XFunc := { ntmps := 8, res := [.tmp 4], pure := true, body :=
  (.seq (.ops [⟨some 4, .mov (.con (.bool false)), none, 0⟩])
  (.seq (.ops [⟨some 5, .mov (.tmp 0), none, 0⟩,
     ⟨some 6, .mov (.tmp 1), none, 0⟩,
     ⟨some 7, .call (.fn 63) [(.tmp 5), (.tmp 6)], none, 0⟩,
     ⟨some 4, .mov (.tmp 7), none, 0⟩])
  .ret)) }
def f_value_Number_k0 : List Bool := [true, false, false, false, false, true, true, true, false, false, false, false, false, false, false, false, false, false, false, false, false, false, false, false, false, false, false, false, false, false, false, false, false, false, false, false, false, false, false, false, false, false, false, false, false, false, false, false, false, false, false, false, false, false, false, false, false, false, false, false, false, false, false, false, false, false, false, false, false, false, false, false, false, false, false, false, false, false, false, false]
def f_value_Number_b0 : XCode :=
  (.seq (.seq (.ops [⟨some 17, .mov (.tmp 7), none, 0⟩,
     ⟨some 18, .mov (.tmp 0), none, 0⟩,
     ⟨some 19, .lenS (.tmp 18), none, 0⟩,
     ⟨some 20, .bin .lss (.tmp 17) (.tmp 19), none, 0⟩,
     ⟨some 21, .mov (.tmp 20), none, 0⟩,
     ⟨some 22, .mov (.tmp 0), some (21, true), 0⟩,
     ⟨some 23, .mov (.tmp 7), some (21, true), 0⟩,
     ⟨some 24, .indexStr (.tmp 22) (.tmp 23), some (21, true), 0⟩,
     ⟨some 25, .call (.fn 45) [(.tmp 24)], some (21, true), 0⟩,
     ⟨some 26, .pick (.tmp 21) (.tmp 25) (.con (.bool false)), none, 0⟩])
  (.cond (.tmp 26)
   .skip
   (.exit 0)))
 (.block 1
  (.ops [⟨some 27, .mov (.tmp 7), none, 0⟩,
    ⟨some 28, .bin .add (.tmp 27) (.con (.int .i64 1)), none, 0⟩,
    ⟨some 7, .mov (.tmp 28), none, 0⟩])))
def f_value_Number_s0 (t0 t5 t6 t7 : AV) : List AV := [t0, .unk, .unk, .unk, .unk, t5, t6, t7, .unk, .unk, .unk, .unk, .unk, .unk, .unk, .unk, .unk, .unk, .unk, .unk, .unk, .unk, .unk, .unk, .unk, .unk, .unk, .unk, .unk, .unk, .unk, .unk, .unk, .unk, .unk, .unk, .unk, .unk, .unk, .unk, .unk, .unk, .unk, .unk, .unk, .unk, .unk, .unk, .unk, .unk, .unk, .unk, .unk, .unk, .unk, .unk, .unk, .unk, .unk, .unk, .unk, .unk, .unk, .unk, .unk, .unk, .unk, .unk, .unk, .unk, .unk, .unk, .unk, .unk, .unk, .unk, .unk, .unk, .unk, .unk]
def f_value_Number_k1 : List Bool := [false, false, false, false, false, true, false, true, true, true, false, false, false, false, false, false, false, false, false, false, false, false, false, false, false, false, false, false, false, false, false, false, false, false, false, false, false, false, false, false, false, false, false, false, false, false, false, false, false, false, false, false, false, false, true, true, true, false, false, false, false, false, false, false, false, false, false, false, false, false, false, false, false, false, false, false, false, false, false, false]
def f_value_Number_b1 : XCode :=
  (.seq (.ops [⟨some 57, .bin .lss (.tmp 56) (.tmp 55), none, 0⟩])
 (.seq (.cond (.tmp 57)
   .skip
   (.exit 2))
 (.seq (.block 3
   (.seq (.ops [⟨some 58, .addrRow 1 (.tmp 54) (.tmp 56), none, 0⟩,
      ⟨some 59, .load 1 false (.tmp 58), none, 0⟩,
      ⟨some 11, .mov (.tmp 59), none, 0⟩])
   (.seq (.ops [⟨some 60, .mov (.tmp 11), none, 0⟩,
      ⟨some 61, .bin .sub (.tmp 60) (.con (.int .u8 48)), none, 0⟩,
      ⟨some 62, .toInt .u64 (.tmp 61), none, 0⟩,
      ⟨some 12, .mov (.tmp 62), none, 0⟩])
   (.seq (.seq (.ops [⟨some 63, .mov (.tmp 9), none, 0⟩,
       ⟨some 64, .mov (.tmp 8), none, 0⟩,
       ⟨some 65, .mov (.tmp 12), none, 0⟩,
       ⟨some 66, .bin .sub (.tmp 64) (.tmp 65), none, 0⟩,
       ⟨some 67, .bin .quo (.tmp 66) (.con (.int .u64 10)), none, 0⟩,
       ⟨some 68, .bin .gtr (.tmp 63) (.tmp 67), none, 0⟩])
    (.cond (.tmp 68)
     (.seq (.ops [⟨some 2, .mov (.con (.int .i64 0)), none, 0⟩,
         ⟨some 3, .mov (.con (.int .i64 0)), none, 0⟩,
         ⟨some 4, .mov (.con (.int .i64 10)), none, 0⟩])
      .ret)
     .skip))
   (.ops [⟨some 69, .mov (.tmp 9), none, 0⟩,
     ⟨some 70, .bin .mul (.tmp 69) (.con (.int .u64 10)), none, 0⟩,
     ⟨some 71, .mov (.tmp 12), none, 0⟩,
     ⟨some 72, .bin .add (.tmp 70) (.tmp 71), none, 0⟩,
     ⟨some 9, .mov (.tmp 72), none, 0⟩])))))
 (.ops [⟨some 73, .bin .add (.tmp 56) (.con (.int .i64 1)), none, 0⟩,
   ⟨some 56, .mov (.tmp 73), none, 0⟩]))))
def f_value_Number_s1 (t5 t7 t8 t9 t54 t55 t56 : AV) : List AV := [.unk, .unk, .unk, .unk, .unk, t5, .unk, t7, t8, t9, .unk, .unk, .unk, .unk, .unk, .unk, .unk, .unk, .unk, .unk, .unk, .unk, .unk, .unk, .unk, .unk, .unk, .unk, .unk, .unk, .unk, .unk, .unk, .unk, .unk, .unk, .unk, .unk, .unk, .unk, .unk, .unk, .unk, .unk, .unk, .unk, .unk, .unk, .unk, .unk, .unk, .unk, .unk, .unk, t54, t55, t56, .unk, .unk, .unk, .unk, .unk, .unk, .unk, .unk, .unk, .unk, .unk, .unk, .unk, .unk, .unk, .unk, .unk, .unk, .unk, .unk, .unk, .unk, .unk]
def f_value_Number : XFunc := { ntmps := 80, res := [.tmp 2, .tmp 3, .tmp 4], pure := true, body :=
  (.seq (.ops [⟨some 2, .mov (.con (.int .i64 0)), none, 0⟩,
     ⟨some 3, .mov (.con (.int .i64 0)), none, 0⟩,
     ⟨some 4, .mov (.con (.int .i64 0)), none, 0⟩])
  (.seq (.ops [⟨some 13, .mov (.tmp 0), none, 0⟩,
     ⟨some 14, .call (.fn 48) [(.tmp 13), (.con (.str [45]))], none, 0⟩,
     ⟨some 5, .mov (.tmp 14), none, 0⟩])
  (.seq (.ops [⟨some 6, .mov (.con (.int .i64 0)), none, 0⟩])
  (.seq (.seq (.ops [⟨some 15, .mov (.tmp 5), none, 0⟩])
   (.cond (.tmp 15)
    (.ops [⟨some 6, .mov (.con (.int .i64 1)), none, 0⟩])
    .skip))
  (.seq (.ops [⟨some 16, .mov (.tmp 6), none, 0⟩,
     ⟨some 7, .mov (.tmp 16), none, 0⟩])
  (.seq (.block 0
    (.loop f_value_Number_k0 f_value_Number_b0))
  (.seq (.seq (.ops [⟨some 29, .mov (.tmp 7), none, 0⟩,
      ⟨some 30, .mov (.tmp 6), none, 0⟩,
      ⟨some 31, .bin .eql (.tmp 29) (.tmp 30), none, 0⟩,
      ⟨some 32, .mov (.tmp 31), none, 0⟩,
      ⟨some 33, .mov (.tmp 0), some (32, false), 0⟩,
      ⟨some 34, .mov (.tmp 6), some (32, false), 0⟩,
      ⟨some 35, .indexStr (.tmp 33) (.tmp 34), some (32, false), 0⟩,
      ⟨some 36, .bin .eql (.tmp 35) (.con (.int .u8 48)), some (32, false), 0⟩,
      ⟨some 37, .mov (.tmp 36), some (32, false), 0⟩,
      ⟨some 38, .mov (.tmp 5), some (37, true), 0⟩,
      ⟨some 39, .mov (.tmp 38), some (37, true), 0⟩,
      ⟨some 40, .mov (.tmp 7), some (39, false), 0⟩,
      ⟨some 41, .mov (.tmp 6), some (39, false), 0⟩,
      ⟨some 42, .bin .sub (.tmp 40) (.tmp 41), some (39, false), 0⟩,
      ⟨some 43, .bin .gtr (.tmp 42) (.con (.int .i64 1)), some (39, false), 0⟩,
      ⟨some 44, .pick (.tmp 39) (.con (.bool true)) (.tmp 43), some (37, true), 0⟩,
      ⟨some 45, .pick (.tmp 37) (.tmp 44) (.con (.bool false)), some (32, false), 0⟩,
      ⟨some 46, .pick (.tmp 32) (.con (.bool true)) (.tmp 45), none, 0⟩])
   (.cond (.tmp 46)
    (.seq (.ops [⟨some 2, .mov (.con (.int .i64 0)), none, 0⟩,
        ⟨some 3, .mov (.con (.int .i64 0)), none, 0⟩,
        ⟨some 4, .mov (.con (.int .i64 5)), none, 0⟩])
     .ret)
    .skip))
  (.seq (.ops [⟨some 8, .mov (.con (.int .u64 9223372036854775807)), none, 0⟩])
  (.seq (.seq (.ops [⟨some 47, .mov (.tmp 5), none, 0⟩])
   (.cond (.tmp 47)
    (.ops [⟨some 48, .mov (.tmp 8), none, 0⟩,
       ⟨some 49, .bin .add (.tmp 48) (.con (.int .u64 1)), none, 0⟩,
       ⟨some 8, .mov (.tmp 49), none, 0⟩])
    .skip))
  (.seq (.ops [⟨some 9, .mov (.con (.int .u64 0)), none, 0⟩])
  (.seq (.seq (.ops [⟨some 50, .mov (.tmp 0), none, 0⟩,
      ⟨some 51, .mov (.tmp 6), none, 0⟩,
      ⟨some 52, .mov (.tmp 7), none, 0⟩,
      ⟨some 53, .cutStr (.tmp 50) (some (.tmp 51)) (some (.tmp 52)), none, 0⟩,
      ⟨some 54, .toBytes false (.tmp 53), none, 0⟩,
      ⟨some 55, .len (.tmp 54), none, 0⟩,
      ⟨some 56, .mov (.con (.int .i64 0)), none, 0⟩])
   (.block 2
    (.loop f_value_Number_k1 f_value_Number_b1)))
  (.seq (.seq (.ops [⟨some 74, .mov (.tmp 5), none, 0⟩])
   (.cond (.tmp 74)
    (.ops [⟨some 75, .mov (.tmp 9), none, 0⟩,
       ⟨some 76, .un .neg (.tmp 75), none, 0⟩,
       ⟨some 9, .mov (.tmp 76), none, 0⟩])
    .skip))
  (.seq (.ops [⟨some 77, .mov (.tmp 9), none, 0⟩,
     ⟨some 78, .toInt .i64 (.tmp 77), none, 0⟩,
     ⟨some 79, .mov (.tmp 7), none, 0⟩,
     ⟨some 2, .mov (.tmp 78), none, 0⟩,
     ⟨some 3, .mov (.tmp 79), none, 0⟩,
     ⟨some 4, .mov (.con (.int .i64 0)), none, 0⟩])
  .ret))))))))))))) }
def f_haulageref04_Read_k0 : List Bool := [true, false, false, true, false, false, false, false, false, false, false, false, false, false, false, false, false, false, false, false, false, false, false, false, false, false]
def f_haulageref04_Read_b0 : XCode :=
  (.seq (.seq (.ops [⟨some 4, .mov (.tmp 3), none, 0⟩,
     ⟨some 5, .mov (.tmp 0), none, 0⟩,
     ⟨some 6, .lenS (.tmp 5), none, 0⟩,
     ⟨some 7, .bin .lss (.tmp 4) (.tmp 6), none, 0⟩,
     ⟨some 8, .mov (.tmp 7), none, 0⟩,
     ⟨some 9, .mov (.tmp 0), some (8, true), 0⟩,
     ⟨some 10, .mov (.tmp 3), some (8, true), 0⟩,
     ⟨some 11, .indexStr (.tmp 9) (.tmp 10), some (8, true), 0⟩,
     ⟨some 12, .call (.fn 66) [(.tmp 11)], some (8, true), 0⟩,
     ⟨some 13, .pick (.tmp 8) (.tmp 12) (.con (.bool false)), none, 0⟩,
     ⟨some 14, .mov (.tmp 13), none, 0⟩,
     ⟨some 15, .mov (.tmp 3), some (14, true), 0⟩,
     ⟨some 16, .bin .gtr (.tmp 15) (.con (.int .i64 0)), some (14, true), 0⟩,
     ⟨some 17, .mov (.tmp 16), some (14, true), 0⟩,
     ⟨some 18, .mov (.tmp 0), some (17, false), 0⟩,
     ⟨some 19, .indexStr (.tmp 18) (.con (.int .i64 0)), some (17, false), 0⟩,
     ⟨some 20, .call (.fn 67) [(.tmp 19)], some (17, false), 0⟩,
     ⟨some 21, .pick (.tmp 17) (.con (.bool true)) (.tmp 20), some (14, true), 0⟩,
     ⟨some 22, .pick (.tmp 14) (.tmp 21) (.con (.bool false)), none, 0⟩])
  (.cond (.tmp 22)
   .skip
   (.exit 0)))
 (.block 1
  (.ops [⟨some 23, .mov (.tmp 3), none, 0⟩,
    ⟨some 24, .bin .add (.tmp 23) (.con (.int .i64 1)), none, 0⟩,
    ⟨some 3, .mov (.tmp 24), none, 0⟩])))
def f_haulageref04_Read : XFunc := { ntmps := 26, res := [.tmp 2], pure := true, body :=
  (.seq (.ops [⟨some 2, .mov (.con (.int .i64 0)), none, 0⟩])
  (.seq (.ops [⟨some 3, .mov (.con (.int .i64 0)), none, 0⟩])
  (.seq (.block 0
    (.loop f_haulageref04_Read_k0 f_haulageref04_Read_b0))
  (.seq (.ops [⟨some 25, .mov (.tmp 3), none, 0⟩,
     ⟨some 2, .mov (.tmp 25), none, 0⟩])
  .ret)))) }
def f_word_Fits : XFunc := { ntmps := 16, res := [.tmp 4], pure := true, body :=
  (.seq (.ops [⟨some 4, .mov (.con (.bool false)), none, 0⟩])
  (.seq (.seq (.ops [⟨some 5, .mov (.tmp 1), none, 0⟩,
      ⟨some 6, .bin .lss (.tmp 5) (.con (.int .i64 1)), none, 0⟩,
      ⟨some 7, .mov (.tmp 6), none, 0⟩,
      ⟨some 8, .mov (.tmp 1), some (7, false), 0⟩,
      ⟨some 9, .bin .gtr (.tmp 8) (.con (.int .i64 64)), some (7, false), 0⟩,
      ⟨some 10, .pick (.tmp 7) (.con (.bool true)) (.tmp 9), none, 0⟩])
   (.cond (.tmp 10)
    (.seq (.ops [⟨some 4, .mov (.con (.bool false)), none, 0⟩])
     .ret)
    .skip))
  (.seq (.ops [⟨some 11, .mov (.tmp 0), none, 0⟩,
     ⟨some 12, .mov (.tmp 1), none, 0⟩,
     ⟨some 13, .call (.fn 70) [(.tmp 11), (.tmp 12)], none, 0⟩,
     ⟨some 14, .mov (.tmp 0), none, 0⟩,
     ⟨some 15, .bin .eql (.tmp 13) (.tmp 14), none, 0⟩,
     ⟨some 4, .mov (.tmp 15), none, 0⟩])
  .ret))) }
def f_haulageref01_Fits : XFunc := { ntmps := 26, res := [.tmp 4], pure := true, body :=
  (.seq (.ops [⟨some 4, .mov (.con (.bool false)), none, 0⟩])
  (.seq (.seq (.ops [⟨some 5, .mov (.tmp 1), none, 0⟩,
      ⟨some 6, .bin .lss (.tmp 5) (.con (.int .i64 1)), none, 0⟩,
      ⟨some 7, .mov (.tmp 6), none, 0⟩,
      ⟨some 8, .mov (.tmp 1), some (7, false), 0⟩,
      ⟨some 9, .bin .gtr (.tmp 8) (.con (.int .i64 64)), some (7, false), 0⟩,
      ⟨some 10, .pick (.tmp 7) (.con (.bool true)) (.tmp 9), none, 0⟩])
   (.cond (.tmp 10)
    (.seq (.ops [⟨some 4, .mov (.con (.bool false)), none, 0⟩])
     .ret)
    .skip))
  (.seq (.ops [⟨some 11, .mov (.tmp 1), none, 0⟩,
     ⟨some 12, .bin .eql (.tmp 11) (.con (.int .i64 64)), none, 0⟩,
     ⟨some 13, .mov (.tmp 12), none, 0⟩,
     ⟨some 14, .mov (.tmp 0), some (13, false), 0⟩,
     ⟨some 15, .mov (.tmp 1), some (13, false), 0⟩,
     ⟨some 16, .call (.fn 56) [(.tmp 15)], some (13, false), 0⟩,
     ⟨some 17, .un .neg (.tmp 16), some (13, false), 0⟩,
     ⟨some 18, .bin .geq (.tmp 14) (.tmp 17), some (13, false), 0⟩,
     ⟨some 19, .mov (.tmp 18), some (13, false), 0⟩,
     ⟨some 20, .mov (.tmp 0), some (19, true), 0⟩,
     ⟨some 21, .mov (.tmp 1), some (19, true), 0⟩,
     ⟨some 22, .call (.fn 56) [(.tmp 21)], some (19, true), 0⟩,
     ⟨some 23, .bin .lss (.tmp 20) (.tmp 22), some (19, true), 0⟩,
     ⟨some 24, .pick (.tmp 19) (.tmp 23) (.con (.bool false)), some (13, false), 0⟩,
     ⟨some 25, .pick (.tmp 13) (.con (.bool true)) (.tmp 24), none, 0⟩,
     ⟨some 4, .mov (.tmp 25), none, 0⟩])
  .ret))) }
def f_name_part : XFunc := { ntmps := 23, res := [.tmp 4], pure := true, body :=
  (.seq (.ops [⟨some 4, .mov (.con (.bool false)), none, 0⟩])
  (.seq (.block 0
    (.seq (.ops [⟨some 6, .mov (.tmp 0), none, 0⟩,
       ⟨some 7, .bin .geq (.tmp 6) (.con (.int .u8 97)), none, 0⟩,
       ⟨some 8, .mov (.tmp 7), none, 0⟩,
       ⟨some 9, .mov (.tmp 0), some (8, true), 0⟩,
       ⟨some 10, .bin .leq (.tmp 9) (.con (.int .u8 122)), some (8, true), 0⟩,
       ⟨some 11, .pick (.tmp 8) (.tmp 10) (.con (.bool false)), none, 0⟩,
       ⟨some 5, .mov (.tmp 11), none, 0⟩])
    (.cond (.tmp 5)
     (.seq (.ops [⟨some 4, .mov (.con (.bool true)), none, 0⟩])
      .ret)
     (.seq (.seq (.ops [⟨some 13, .mov (.tmp 0), none, 0⟩,
          ⟨some 14, .bin .geq (.tmp 13) (.con (.int .u8 48)), none, 0⟩,
          ⟨some 15, .mov (.tmp 14), none, 0⟩,
          ⟨some 16, .mov (.tmp 0), some (15, true), 0⟩,
          ⟨some 17, .bin .leq (.tmp 16) (.con (.int .u8 57)), some (15, true), 0⟩,
          ⟨some 18, .pick (.tmp 15) (.tmp 17) (.con (.bool false)), none, 0⟩,
          ⟨some 12, .mov (.tmp 18), none, 0⟩])
       (.cond (.tmp 12)
        .skip
        (.ops [⟨some 19, .mov (.tmp 0), none, 0⟩,
           ⟨some 20, .bin .eql (.tmp 19) (.con (.int .u8 95)), none, 0⟩,
           ⟨some 12, .mov (.tmp 20), none, 0⟩])))
      (.cond (.tmp 12)
       (.seq (.ops [⟨some 21, .mov (.tmp 1), none, 0⟩,
           ⟨some 22, .bin .gtr (.tmp 21) (.con (.int .i64 0)), none, 0⟩,
           ⟨some 4, .mov (.tmp 22), none, 0⟩])
        .ret)
       .skip)))))
  (.seq (.ops [⟨some 4, .mov (.con (.bool false)), none, 0⟩])
  .ret))) }
def f_internal_stringslite_HasPrefix : XFunc := { ntmps := 18, res := [.tmp 4], pure := true, body :=
  (.seq (.ops [⟨some 4, .mov (.con (.bool false)), none, 0⟩])
  (.seq (.ops [⟨some 5, .mov (.tmp 0), none, 0⟩,
     ⟨some 6, .lenS (.tmp 5), none, 0⟩,
     ⟨some 7, .mov (.tmp 1), none, 0⟩,
     ⟨some 8, .lenS (.tmp 7), none, 0⟩,
     ⟨some 9, .bin .geq (.tmp 6) (.tmp 8), none, 0⟩,
     ⟨some 10, .mov (.tmp 9), none, 0⟩,
     ⟨some 11, .mov (.tmp 0), some (10, true), 0⟩,
     ⟨some 12, .mov (.tmp 1), some (10, true), 0⟩,
     ⟨some 13, .lenS (.tmp 12), some (10, true), 0⟩,
     ⟨some 14, .cutStr (.tmp 11) none (some (.tmp 13)), some (10, true), 0⟩,
     ⟨some 15, .mov (.tmp 1), some (10, true), 0⟩,
     ⟨some 16, .bin .eql (.tmp 14) (.tmp 15), some (10, true), 0⟩,
     ⟨some 17, .pick (.tmp 10) (.tmp 16) (.con (.bool false)), none, 0⟩,
     ⟨some 4, .mov (.tmp 17), none, 0⟩])
  .ret)) }
def f_value_digit : XFunc := { ntmps := 9, res := [.tmp 2], pure := true, body :=
  (.seq (.ops [⟨some 2, .mov (.con (.bool false)), none, 0⟩])
  (.seq (.ops [⟨some 3, .mov (.tmp 0), none, 0⟩,
     ⟨some 4, .bin .geq (.tmp 3) (.con (.int .u8 48)), none, 0⟩,
     ⟨some 5, .mov (.tmp 4), none, 0⟩,
     ⟨some 6, .mov (.tmp 0), some (5, true), 0⟩,
     ⟨some 7, .bin .leq (.tmp 6) (.con (.int .u8 57)), some (5, true), 0⟩,
     ⟨some 8, .pick (.tmp 5) (.tmp 7) (.con (.bool false)), none, 0⟩,
     ⟨some 2, .mov (.tmp 8), none, 0⟩])
  .ret)) }
def f_haulageref04_Part : XFunc := { ntmps := 17, res := [.tmp 2], pure := true, body :=
  (.seq (.ops [⟨some 2, .mov (.con (.bool false)), none, 0⟩])
  (.seq (.ops [⟨some 3, .mov (.tmp 0), none, 0⟩,
     ⟨some 4, .call (.fn 67) [(.tmp 3)], none, 0⟩,
     ⟨some 5, .mov (.tmp 4), none, 0⟩,
     ⟨some 6, .mov (.tmp 0), some (5, false), 0⟩,
     ⟨some 7, .bin .geq (.tmp 6) (.con (.int .u8 48)), some (5, false), 0⟩,
     ⟨some 8, .mov (.tmp 7), some (5, false), 0⟩,
     ⟨some 9, .mov (.tmp 0), some (8, true), 0⟩,
     ⟨some 10, .bin .leq (.tmp 9) (.con (.int .u8 57)), some (8, true), 0⟩,
     ⟨some 11, .pick (.tmp 8) (.tmp 10) (.con (.bool false)), some (5, false), 0⟩,
     ⟨some 12, .pick (.tmp 5) (.con (.bool true)) (.tmp 11), none, 0⟩,
     ⟨some 13, .mov (.tmp 12), none, 0⟩,
     ⟨some 14, .mov (.tmp 0), some (13, false), 0⟩,
     ⟨some 15, .bin .eql (.tmp 14) (.con (.int .u8 95)), some (13, false), 0⟩,
     ⟨some 16, .pick (.tmp 13) (.con (.bool true)) (.tmp 15), none, 0⟩,
     ⟨some 2, .mov (.tmp 16), none, 0⟩])
  .ret)) }
def f_haulageref04_letter : XFunc := { ntmps := 9, res := [.tmp 2], pure := true, body :=
  (.seq (.ops [⟨some 2, .mov (.con (.bool false)), none, 0⟩])
  (.seq (.ops [⟨some 3, .mov (.tmp 0), none, 0⟩,
     ⟨some 4, .bin .geq (.tmp 3) (.con (.int .u8 97)), none, 0⟩,
     ⟨some 5, .mov (.tmp 4), none, 0⟩,
     ⟨some 6, .mov (.tmp 0), some (5, true), 0⟩,
     ⟨some 7, .bin .leq (.tmp 6) (.con (.int .u8 122)), some (5, true), 0⟩,
     ⟨some 8, .pick (.tmp 5) (.tmp 7) (.con (.bool false)), none, 0⟩,
     ⟨some 2, .mov (.tmp 8), none, 0⟩])
  .ret)) }
def f_word_Low : XFunc := { ntmps := 19, res := [.tmp 4], pure := true, body :=
  (.seq (.ops [⟨some 4, .mov (.con (.int .i64 0)), none, 0⟩])
  (.seq (.seq (.ops [⟨some 6, .mov (.tmp 1), none, 0⟩,
      ⟨some 7, .bin .lss (.tmp 6) (.con (.int .i64 1)), none, 0⟩,
      ⟨some 8, .mov (.tmp 7), none, 0⟩,
      ⟨some 9, .mov (.tmp 1), some (8, false), 0⟩,
      ⟨some 10, .bin .gtr (.tmp 9) (.con (.int .i64 64)), some (8, false), 0⟩,
      ⟨some 11, .pick (.tmp 8) (.con (.bool true)) (.tmp 10), none, 0⟩])
   (.cond (.tmp 11)
    (.seq (.ops [⟨some 4, .mov (.con (.int .i64 0)), none, 0⟩])
     .ret)
    .skip))
  (.seq (.ops [⟨some 12, .mov (.tmp 1), none, 0⟩,
     ⟨some 13, .bin .sub (.con (.int .i64 64)) (.tmp 12), none, 0⟩,
     ⟨some 5, .mov (.tmp 13), none, 0⟩])
  (.seq (.ops [⟨some 14, .mov (.tmp 0), none, 0⟩,
     ⟨some 15, .mov (.tmp 5), none, 0⟩,
     ⟨some 16, .bin .shl (.tmp 14) (.tmp 15), none, 0⟩,
     ⟨some 17, .mov (.tmp 5), none, 0⟩,
     ⟨some 18, .bin .shr (.tmp 16) (.tmp 17), none, 0⟩,
     ⟨some 4, .mov (.tmp 18), none, 0⟩])
  .ret)))) }
def f_haulageref01_Half_k0 : List Bool := [true, false, false, true, true, false, false, false, false, false, false, false, false]
def f_haulageref01_Half_b0 : XCode :=
  (.seq (.seq (.ops [⟨some 5, .mov (.tmp 4), none, 0⟩,
     ⟨some 6, .mov (.tmp 0), none, 0⟩,
     ⟨some 7, .bin .lss (.tmp 5) (.tmp 6), none, 0⟩])
  (.cond (.tmp 7)
   .skip
   (.exit 0)))
 (.seq (.block 1
   (.ops [⟨some 10, .mov (.tmp 3), none, 0⟩,
     ⟨some 11, .bin .mul (.con (.int .i64 2)) (.tmp 10), none, 0⟩,
     ⟨some 3, .mov (.tmp 11), none, 0⟩]))
 (.ops [⟨some 8, .mov (.tmp 4), none, 0⟩,
   ⟨some 9, .bin .add (.tmp 8) (.con (.int .i64 1)), none, 0⟩,
   ⟨some 4, .mov (.tmp 9), none, 0⟩])))
def f_haulageref01_Half : XFunc := { ntmps := 13, res := [.tmp 2], pure := true, body :=
  (.seq (.ops [⟨some 2, .mov (.con (.int .i64 0)), none, 0⟩])
  (.seq (.ops [⟨some 3, .mov (.con (.int .i64 1)), none, 0⟩])
  (.seq (.seq (.ops [⟨some 4, .mov (.con (.int .i64 1)), none, 0⟩])
   (.block 0
    (.loop f_haulageref01_Half_k0 f_haulageref01_Half_b0)))
  (.seq (.ops [⟨some 12, .mov (.tmp 3), none, 0⟩,
     ⟨some 2, .mov (.tmp 12), none, 0⟩])
  .ret)))) }
end Hx.Fn
