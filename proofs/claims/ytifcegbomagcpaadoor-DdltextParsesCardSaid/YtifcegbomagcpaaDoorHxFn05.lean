/- HxFn05: written by gen.py -/
import Derived.Test.YtifcegbomagcpaaDoorHxDefs
namespace Hx.Fn
open Go
def f_value_Read : XFunc := { ntmps := 55, res := [.cell 2 3 true, .tmp 3, .tmp 4], pure := true, body :=
  (.seq (.ops [⟨some 2, .alloc [.int .i64 0, .int .i64 0, .str []], none, 0⟩,
     ⟨some 3, .mov (.con (.int .i64 0)), none, 0⟩,
     ⟨some 4, .mov (.con (.int .i64 0)), none, 0⟩])
  (.seq (.block 0
    (.seq (.ops [⟨some 6, .mov (.tmp 0), none, 0⟩,
       ⟨some 7, .bin .eql (.tmp 6) (.con (.str [])), none, 0⟩,
       ⟨some 5, .mov (.tmp 7), none, 0⟩])
    (.cond (.tmp 5)
     (.seq (.ops [⟨some 8, .build [.int .i64 0, .int .i64 0, .str []] [], none, 0⟩,
         ⟨none, .store 3 (.tmp 2) (.tmp 8), none, 0⟩,
         ⟨some 3, .mov (.con (.int .i64 0)), none, 0⟩,
         ⟨some 4, .mov (.con (.int .i64 5)), none, 0⟩])
      .ret)
     (.seq (.ops [⟨some 10, .mov (.tmp 0), none, 0⟩,
         ⟨some 11, .indexStr (.tmp 10) (.con (.int .i64 0)), none, 0⟩,
         ⟨some 12, .bin .eql (.tmp 11) (.con (.int .u8 45)), none, 0⟩,
         ⟨some 13, .mov (.tmp 12), none, 0⟩,
         ⟨some 14, .mov (.tmp 0), some (13, false), 0⟩,
         ⟨some 15, .indexStr (.tmp 14) (.con (.int .i64 0)), some (13, false), 0⟩,
         ⟨some 16, .call (.fn 45) [(.tmp 15)], some (13, false), 0⟩,
         ⟨some 17, .pick (.tmp 13) (.con (.bool true)) (.tmp 16), none, 0⟩,
         ⟨some 9, .mov (.tmp 17), none, 0⟩])
      (.cond (.tmp 9)
       (.ops [⟨some 19, .mov (.tmp 0), none, 0⟩,
          ⟨some 20, .call (.fn 46) [(.tmp 19)], none, 0⟩,
          ⟨some 18, .mov (.tmp 20), none, 0⟩,
          ⟨some 21, .extract (.tmp 18) 0, none, 0⟩,
          ⟨some 22, .extract (.tmp 18) 1, none, 0⟩,
          ⟨some 23, .extract (.tmp 18) 2, none, 0⟩,
          ⟨none, .store 3 (.tmp 2) (.tmp 21), none, 0⟩,
          ⟨some 3, .mov (.tmp 22), none, 0⟩,
          ⟨some 4, .mov (.tmp 23), none, 0⟩])
       (.seq (.ops [⟨some 25, .mov (.tmp 0), none, 0⟩,
           ⟨some 26, .indexStr (.tmp 25) (.con (.int .i64 0)), none, 0⟩,
           ⟨some 27, .bin .eql (.tmp 26) (.con (.int .u8 34)), none, 0⟩,
           ⟨some 24, .mov (.tmp 27), none, 0⟩])
        (.cond (.tmp 24)
         (.ops [⟨some 29, .mov (.tmp 0), none, 0⟩,
            ⟨some 30, .call (.fn 47) [(.tmp 29)], none, 0⟩,
            ⟨some 28, .mov (.tmp 30), none, 0⟩,
            ⟨some 31, .extract (.tmp 28) 0, none, 0⟩,
            ⟨some 32, .extract (.tmp 28) 1, none, 0⟩,
            ⟨some 33, .extract (.tmp 28) 2, none, 0⟩,
            ⟨none, .store 3 (.tmp 2) (.tmp 31), none, 0⟩,
            ⟨some 3, .mov (.tmp 32), none, 0⟩,
            ⟨some 4, .mov (.tmp 33), none, 0⟩])
         (.seq (.ops [⟨some 35, .mov (.tmp 0), none, 0⟩,
             ⟨some 36, .call (.fn 48) [(.tmp 35), (.con (.str [120, 34]))], none, 0⟩,
             ⟨some 34, .mov (.tmp 36), none, 0⟩])
          (.cond (.tmp 34)
           (.ops [⟨some 38, .mov (.tmp 0), none, 0⟩,
              ⟨some 39, .call (.fn 49) [(.tmp 38)], none, 0⟩,
              ⟨some 37, .mov (.tmp 39), none, 0⟩,
              ⟨some 40, .extract (.tmp 37) 0, none, 0⟩,
              ⟨some 41, .extract (.tmp 37) 1, none, 0⟩,
              ⟨some 42, .extract (.tmp 37) 2, none, 0⟩,
              ⟨none, .store 3 (.tmp 2) (.tmp 40), none, 0⟩,
              ⟨some 3, .mov (.tmp 41), none, 0⟩,
              ⟨some 4, .mov (.tmp 42), none, 0⟩])
           (.seq (.ops [⟨some 44, .mov (.tmp 0), none, 0⟩,
               ⟨some 45, .mov (.tmp 0), none, 0⟩,
               ⟨some 46, .call (.fn 50) [(.tmp 45)], none, 0⟩,
               ⟨some 47, .cutStr (.tmp 44) none (some (.tmp 46)), none, 0⟩,
               ⟨some 48, .bin .eql (.tmp 47) (.con (.str [110, 117, 108, 108])), none, 0⟩,
               ⟨some 43, .mov (.tmp 48), none, 0⟩])
            (.cond (.tmp 43)
             (.ops [⟨some 3, .mov (.con (.int .i64 4)), none, 0⟩])
             (.ops [⟨some 4, .mov (.con (.int .i64 5)), none, 0⟩]))))))))))))
  (.seq (.seq (.ops [⟨some 49, .mov (.tmp 4), none, 0⟩,
      ⟨some 50, .bin .neq (.tmp 49) (.con (.int .i64 0)), none, 0⟩])
   (.cond (.tmp 50)
    (.seq (.ops [⟨some 51, .build [.int .i64 0, .int .i64 0, .str []] [], none, 0⟩,
        ⟨some 52, .mov (.tmp 4), none, 0⟩,
        ⟨none, .store 3 (.tmp 2) (.tmp 51), none, 0⟩,
        ⟨some 3, .mov (.con (.int .i64 0)), none, 0⟩,
        ⟨some 4, .mov (.tmp 52), none, 0⟩])
     .ret)
    .skip))
  (.seq (.ops [⟨some 53, .load 3 true (.tmp 2), none, 0⟩,
     ⟨some 54, .mov (.tmp 3), none, 0⟩,
     ⟨none, .store 3 (.tmp 2) (.tmp 53), none, 0⟩,
     ⟨some 3, .mov (.tmp 54), none, 0⟩,
     ⟨some 4, .mov (.con (.int .i64 0)), none, 0⟩])
  .ret)))) }
def f_haulageref05_Read : XFunc := { ntmps := 119, res := [.cell 2 3 true, .tmp 3, .tmp 4], pure := true, body :=
  (.seq (.ops [⟨some 2, .alloc [.int .i64 0, .int .i64 0, .str []], none, 0⟩,
     ⟨some 3, .mov (.con (.int .i64 0)), none, 0⟩,
     ⟨some 4, .mov (.con (.int .i64 0)), none, 0⟩])
  (.seq (.seq (.ops [⟨some 14, .mov (.tmp 0), none, 0⟩,
      ⟨some 15, .call (.fn 51) [(.tmp 14)], none, 0⟩,
      ⟨some 16, .bin .eql (.tmp 15) (.con (.int .i64 4)), none, 0⟩,
      ⟨some 17, .mov (.tmp 16), none, 0⟩,
      ⟨some 18, .mov (.tmp 0), some (17, true), 0⟩,
      ⟨some 19, .cutStr (.tmp 18) none (some (.con (.int .i64 4))), some (17, true), 0⟩,
      ⟨some 20, .bin .eql (.tmp 19) (.con (.str [110, 117, 108, 108])), some (17, true), 0⟩,
      ⟨some 21, .pick (.tmp 17) (.tmp 20) (.con (.bool false)), none, 0⟩])
   (.cond (.tmp 21)
    (.seq (.ops [⟨some 22, .build [.int .i64 0, .int .i64 0, .str []] [], none, 0⟩,
        ⟨none, .store 3 (.tmp 2) (.tmp 22), none, 0⟩,
        ⟨some 3, .mov (.con (.int .i64 4)), none, 0⟩,
        ⟨some 4, .mov (.con (.int .i64 0)), none, 0⟩])
     .ret)
    .skip))
  (.seq (.seq (.ops [⟨some 23, .mov (.tmp 0), none, 0⟩,
      ⟨some 24, .bin .neq (.tmp 23) (.con (.str [])), none, 0⟩,
      ⟨some 25, .mov (.tmp 24), none, 0⟩,
      ⟨some 26, .mov (.tmp 0), some (25, true), 0⟩,
      ⟨some 27, .indexStr (.tmp 26) (.con (.int .i64 0)), some (25, true), 0⟩,
      ⟨some 28, .bin .eql (.tmp 27) (.con (.int .u8 45)), some (25, true), 0⟩,
      ⟨some 29, .mov (.tmp 28), some (25, true), 0⟩,
      ⟨some 30, .mov (.tmp 0), some (29, false), 0⟩,
      ⟨some 31, .indexStr (.tmp 30) (.con (.int .i64 0)), some (29, false), 0⟩,
      ⟨some 32, .bin .geq (.tmp 31) (.con (.int .u8 48)), some (29, false), 0⟩,
      ⟨some 33, .mov (.tmp 32), some (29, false), 0⟩,
      ⟨some 34, .mov (.tmp 0), some (33, true), 0⟩,
      ⟨some 35, .indexStr (.tmp 34) (.con (.int .i64 0)), some (33, true), 0⟩,
      ⟨some 36, .bin .leq (.tmp 35) (.con (.int .u8 57)), some (33, true), 0⟩,
      ⟨some 37, .pick (.tmp 33) (.tmp 36) (.con (.bool false)), some (29, false), 0⟩,
      ⟨some 38, .pick (.tmp 29) (.con (.bool true)) (.tmp 37), some (25, true), 0⟩,
      ⟨some 39, .pick (.tmp 25) (.tmp 38) (.con (.bool false)), none, 0⟩])
   (.cond (.tmp 39)
    (.seq (.ops [⟨some 41, .mov (.tmp 0), none, 0⟩,
        ⟨some 42, .call (.fn 38) [(.tmp 41)], none, 0⟩,
        ⟨some 40, .mov (.tmp 42), none, 0⟩,
        ⟨some 43, .extract (.tmp 40) 0, none, 0⟩,
        ⟨some 44, .extract (.tmp 40) 1, none, 0⟩,
        ⟨some 45, .extract (.tmp 40) 2, none, 0⟩,
        ⟨some 5, .mov (.tmp 43), none, 0⟩,
        ⟨some 6, .mov (.tmp 44), none, 0⟩,
        ⟨some 7, .mov (.tmp 45), none, 0⟩])
     (.seq (.seq (.ops [⟨some 46, .mov (.tmp 7), none, 0⟩,
         ⟨some 47, .bin .neq (.tmp 46) (.con (.int .i64 0)), none, 0⟩])
      (.cond (.tmp 47)
       (.seq (.ops [⟨some 48, .build [.int .i64 0, .int .i64 0, .str []] [], none, 0⟩,
           ⟨some 49, .mov (.tmp 7), none, 0⟩,
           ⟨none, .store 3 (.tmp 2) (.tmp 48), none, 0⟩,
           ⟨some 3, .mov (.con (.int .i64 0)), none, 0⟩,
           ⟨some 4, .mov (.tmp 49), none, 0⟩])
        .ret)
       .skip))
     (.seq (.seq (.ops [⟨some 50, .mov (.tmp 6), none, 0⟩,
         ⟨some 51, .mov (.tmp 0), none, 0⟩,
         ⟨some 52, .lenS (.tmp 51), none, 0⟩,
         ⟨some 53, .bin .lss (.tmp 50) (.tmp 52), none, 0⟩,
         ⟨some 54, .mov (.tmp 53), none, 0⟩,
         ⟨some 55, .mov (.tmp 0), some (54, true), 0⟩,
         ⟨some 56, .mov (.tmp 6), some (54, true), 0⟩,
         ⟨some 57, .indexStr (.tmp 55) (.tmp 56), some (54, true), 0⟩,
         ⟨some 58, .bin .eql (.tmp 57) (.con (.int .u8 108)), some (54, true), 0⟩,
         ⟨some 59, .pick (.tmp 54) (.tmp 58) (.con (.bool false)), none, 0⟩])
      (.cond (.tmp 59)
       (.seq (.ops [⟨some 60, .mov (.tmp 5), none, 0⟩,
           ⟨some 61, .build [.int .i64 0, .int .i64 0, .str []] [(0, 1, (.con (.int .i64 2))), (1, 1, (.tmp 60))], none, 0⟩,
           ⟨some 62, .mov (.tmp 6), none, 0⟩,
           ⟨some 63, .bin .add (.tmp 62) (.con (.int .i64 1)), none, 0⟩,
           ⟨none, .store 3 (.tmp 2) (.tmp 61), none, 0⟩,
           ⟨some 3, .mov (.tmp 63), none, 0⟩,
           ⟨some 4, .mov (.con (.int .i64 0)), none, 0⟩])
        .ret)
       .skip))
     (.seq (.seq (.ops [⟨some 64, .mov (.tmp 5), none, 0⟩,
         ⟨some 65, .call (.fn 36) [(.tmp 64), (.con (.int .i64 32))], none, 0⟩,
         ⟨some 66, .un .not (.tmp 65), none, 0⟩])
      (.cond (.tmp 66)
       (.seq (.ops [⟨some 67, .build [.int .i64 0, .int .i64 0, .str []] [], none, 0⟩,
           ⟨none, .store 3 (.tmp 2) (.tmp 67), none, 0⟩,
           ⟨some 3, .mov (.con (.int .i64 0)), none, 0⟩,
           ⟨some 4, .mov (.con (.int .i64 10)), none, 0⟩])
        .ret)
       .skip))
     (.seq (.ops [⟨some 68, .mov (.tmp 5), none, 0⟩,
        ⟨some 69, .build [.int .i64 0, .int .i64 0, .str []] [(0, 1, (.con (.int .i64 1))), (1, 1, (.tmp 68))], none, 0⟩,
        ⟨some 70, .mov (.tmp 6), none, 0⟩,
        ⟨none, .store 3 (.tmp 2) (.tmp 69), none, 0⟩,
        ⟨some 3, .mov (.tmp 70), none, 0⟩,
        ⟨some 4, .mov (.con (.int .i64 0)), none, 0⟩])
     .ret)))))
    .skip))
  (.seq (.seq (.ops [⟨some 71, .mov (.tmp 0), none, 0⟩,
      ⟨some 72, .bin .neq (.tmp 71) (.con (.str [])), none, 0⟩,
      ⟨some 73, .mov (.tmp 72), none, 0⟩,
      ⟨some 74, .mov (.tmp 0), some (73, true), 0⟩,
      ⟨some 75, .indexStr (.tmp 74) (.con (.int .i64 0)), some (73, true), 0⟩,
      ⟨some 76, .bin .eql (.tmp 75) (.con (.int .u8 34)), some (73, true), 0⟩,
      ⟨some 77, .pick (.tmp 73) (.tmp 76) (.con (.bool false)), none, 0⟩])
   (.cond (.tmp 77)
    (.seq (.ops [⟨some 79, .mov (.tmp 0), none, 0⟩,
        ⟨some 80, .call (.fn 52) [(.tmp 79)], none, 0⟩,
        ⟨some 78, .mov (.tmp 80), none, 0⟩,
        ⟨some 81, .extract (.tmp 78) 0, none, 0⟩,
        ⟨some 82, .extract (.tmp 78) 1, none, 0⟩,
        ⟨some 83, .extract (.tmp 78) 2, none, 0⟩,
        ⟨some 8, .mov (.tmp 81), none, 0⟩,
        ⟨some 9, .mov (.tmp 82), none, 0⟩,
        ⟨some 10, .mov (.tmp 83), none, 0⟩])
     (.seq (.seq (.ops [⟨some 84, .mov (.tmp 10), none, 0⟩,
         ⟨some 85, .un .not (.tmp 84), none, 0⟩])
      (.cond (.tmp 85)
       (.seq (.ops [⟨some 86, .build [.int .i64 0, .int .i64 0, .str []] [], none, 0⟩,
           ⟨none, .store 3 (.tmp 2) (.tmp 86), none, 0⟩,
           ⟨some 3, .mov (.con (.int .i64 0)), none, 0⟩,
           ⟨some 4, .mov (.con (.int .i64 5)), none, 0⟩])
        .ret)
       .skip))
     (.seq (.ops [⟨some 87, .mov (.tmp 8), none, 0⟩,
        ⟨some 88, .mov (.tmp 9), none, 0⟩,
        ⟨some 89, .call (.fn 53) [(.con (.int .i64 3)), (.tmp 87), (.tmp 88)], none, 0⟩,
        ⟨some 90, .extract (.tmp 89) 0, none, 0⟩,
        ⟨some 91, .extract (.tmp 89) 1, none, 0⟩,
        ⟨some 92, .extract (.tmp 89) 2, none, 0⟩,
        ⟨none, .store 3 (.tmp 2) (.tmp 90), none, 0⟩,
        ⟨some 3, .mov (.tmp 91), none, 0⟩,
        ⟨some 4, .mov (.tmp 92), none, 0⟩])
     .ret)))
    .skip))
  (.seq (.seq (.ops [⟨some 93, .mov (.tmp 0), none, 0⟩,
      ⟨some 94, .lenS (.tmp 93), none, 0⟩,
      ⟨some 95, .bin .gtr (.tmp 94) (.con (.int .i64 1)), none, 0⟩,
      ⟨some 96, .mov (.tmp 95), none, 0⟩,
      ⟨some 97, .mov (.tmp 0), some (96, true), 0⟩,
      ⟨some 98, .cutStr (.tmp 97) none (some (.con (.int .i64 2))), some (96, true), 0⟩,
      ⟨some 99, .bin .eql (.tmp 98) (.con (.str [120, 34])), some (96, true), 0⟩,
      ⟨some 100, .pick (.tmp 96) (.tmp 99) (.con (.bool false)), none, 0⟩])
   (.cond (.tmp 100)
    (.seq (.ops [⟨some 102, .mov (.tmp 0), none, 0⟩,
        ⟨some 103, .cutStr (.tmp 102) (some (.con (.int .i64 2))) none, none, 0⟩,
        ⟨some 104, .call (.fn 54) [(.tmp 103)], none, 0⟩,
        ⟨some 101, .mov (.tmp 104), none, 0⟩,
        ⟨some 105, .extract (.tmp 101) 0, none, 0⟩,
        ⟨some 106, .extract (.tmp 101) 1, none, 0⟩,
        ⟨some 107, .extract (.tmp 101) 2, none, 0⟩,
        ⟨some 11, .mov (.tmp 105), none, 0⟩,
        ⟨some 12, .mov (.tmp 106), none, 0⟩,
        ⟨some 13, .mov (.tmp 107), none, 0⟩])
     (.seq (.seq (.ops [⟨some 108, .mov (.tmp 13), none, 0⟩,
         ⟨some 109, .un .not (.tmp 108), none, 0⟩])
      (.cond (.tmp 109)
       (.seq (.ops [⟨some 110, .build [.int .i64 0, .int .i64 0, .str []] [], none, 0⟩,
           ⟨none, .store 3 (.tmp 2) (.tmp 110), none, 0⟩,
           ⟨some 3, .mov (.con (.int .i64 0)), none, 0⟩,
           ⟨some 4, .mov (.con (.int .i64 5)), none, 0⟩])
        .ret)
       .skip))
     (.seq (.ops [⟨some 111, .mov (.tmp 11), none, 0⟩,
        ⟨some 112, .mov (.tmp 12), none, 0⟩,
        ⟨some 113, .bin .add (.tmp 112) (.con (.int .i64 3)), none, 0⟩,
        ⟨some 114, .call (.fn 53) [(.con (.int .i64 4)), (.tmp 111), (.tmp 113)], none, 0⟩,
        ⟨some 115, .extract (.tmp 114) 0, none, 0⟩,
        ⟨some 116, .extract (.tmp 114) 1, none, 0⟩,
        ⟨some 117, .extract (.tmp 114) 2, none, 0⟩,
        ⟨none, .store 3 (.tmp 2) (.tmp 115), none, 0⟩,
        ⟨some 3, .mov (.tmp 116), none, 0⟩,
        ⟨some 4, .mov (.tmp 117), none, 0⟩])
     .ret)))
    .skip))
  (.seq (.ops [⟨some 118, .build [.int .i64 0, .int .i64 0, .str []] [], none, 0⟩,
     ⟨none, .store 3 (.tmp 2) (.tmp 118), none, 0⟩,
     ⟨some 3, .mov (.con (.int .i64 0)), none, 0⟩,
     ⟨some 4, .mov (.con (.int .i64 5)), none, 0⟩])
  .ret)))))) }
def f_value_Int : XFunc := { ntmps := 10, res := [.cell 2 3 true, .tmp 3], pure := true, body :=
  (.seq (.ops [⟨some 2, .alloc [.int .i64 0, .int .i64 0, .str []], none, 0⟩,
     ⟨some 3, .mov (.con (.int .i64 0)), none, 0⟩])
  (.seq (.seq (.ops [⟨some 4, .mov (.tmp 0), none, 0⟩,
      ⟨some 5, .call (.fn 55) [(.tmp 4), (.con (.int .i64 32))], none, 0⟩,
      ⟨some 6, .un .not (.tmp 5), none, 0⟩])
   (.cond (.tmp 6)
    (.seq (.ops [⟨some 7, .build [.int .i64 0, .int .i64 0, .str []] [], none, 0⟩,
        ⟨none, .store 3 (.tmp 2) (.tmp 7), none, 0⟩,
        ⟨some 3, .mov (.con (.int .i64 10)), none, 0⟩])
     .ret)
    .skip))
  (.seq (.ops [⟨some 8, .mov (.tmp 0), none, 0⟩,
     ⟨some 9, .build [.int .i64 0, .int .i64 0, .str []] [(0, 1, (.con (.int .i64 1))), (1, 1, (.tmp 8))], none, 0⟩,
     ⟨none, .store 3 (.tmp 2) (.tmp 9), none, 0⟩,
     ⟨some 3, .mov (.con (.int .i64 0)), none, 0⟩])
  .ret))) }
def f_value_Text : XFunc := { ntmps := 16, res := [.cell 2 3 true, .tmp 3], pure := true, body :=
  (.seq (.ops [⟨some 2, .alloc [.int .i64 0, .int .i64 0, .str []], none, 0⟩,
     ⟨some 3, .mov (.con (.int .i64 0)), none, 0⟩])
  (.seq (.block 0
    (.seq (.ops [⟨some 5, .mov (.tmp 0), none, 0⟩,
       ⟨some 6, .lenS (.tmp 5), none, 0⟩,
       ⟨some 7, .bin .gtr (.tmp 6) (.con (.int .i64 120)), none, 0⟩,
       ⟨some 4, .mov (.tmp 7), none, 0⟩])
    (.cond (.tmp 4)
     (.seq (.ops [⟨some 8, .build [.int .i64 0, .int .i64 0, .str []] [], none, 0⟩,
         ⟨none, .store 3 (.tmp 2) (.tmp 8), none, 0⟩,
         ⟨some 3, .mov (.con (.int .i64 3)), none, 0⟩])
      .ret)
     (.seq (.ops [⟨some 10, .mov (.tmp 0), none, 0⟩,
         ⟨some 11, .call (.fn 11) [(.tmp 10)], none, 0⟩,
         ⟨some 12, .un .not (.tmp 11), none, 0⟩,
         ⟨some 9, .mov (.tmp 12), none, 0⟩])
      (.cond (.tmp 9)
       (.seq (.ops [⟨some 13, .build [.int .i64 0, .int .i64 0, .str []] [], none, 0⟩,
           ⟨none, .store 3 (.tmp 2) (.tmp 13), none, 0⟩,
           ⟨some 3, .mov (.con (.int .i64 5)), none, 0⟩])
        .ret)
       .skip)))))
  (.seq (.ops [⟨some 14, .mov (.tmp 0), none, 0⟩,
     ⟨some 15, .build [.int .i64 0, .int .i64 0, .str []] [(0, 1, (.con (.int .i64 3))), (2, 1, (.tmp 14))], none, 0⟩,
     ⟨none, .store 3 (.tmp 2) (.tmp 15), none, 0⟩,
     ⟨some 3, .mov (.con (.int .i64 0)), none, 0⟩])
  .ret))) }
def f_value_Bytes : XFunc := { ntmps := 10, res := [.cell 2 3 true, .tmp 3], pure := true, body :=
  (.seq (.ops [⟨some 2, .alloc [.int .i64 0, .int .i64 0, .str []], none, 0⟩,
     ⟨some 3, .mov (.con (.int .i64 0)), none, 0⟩])
  (.seq (.seq (.ops [⟨some 4, .mov (.tmp 0), none, 0⟩,
      ⟨some 5, .lenS (.tmp 4), none, 0⟩,
      ⟨some 6, .bin .gtr (.tmp 5) (.con (.int .i64 120)), none, 0⟩])
   (.cond (.tmp 6)
    (.seq (.ops [⟨some 7, .build [.int .i64 0, .int .i64 0, .str []] [], none, 0⟩,
        ⟨none, .store 3 (.tmp 2) (.tmp 7), none, 0⟩,
        ⟨some 3, .mov (.con (.int .i64 3)), none, 0⟩])
     .ret)
    .skip))
  (.seq (.ops [⟨some 8, .mov (.tmp 0), none, 0⟩,
     ⟨some 9, .build [.int .i64 0, .int .i64 0, .str []] [(0, 1, (.con (.int .i64 4))), (2, 1, (.tmp 8))], none, 0⟩,
     ⟨none, .store 3 (.tmp 2) (.tmp 9), none, 0⟩,
     ⟨some 3, .mov (.con (.int .i64 0)), none, 0⟩])
  .ret))) }
def f_value_Long : XFunc := { ntmps := 5, res := [.cell 2 3 true], pure := true, body :=
  (.seq (.ops [⟨some 2, .alloc [.int .i64 0, .int .i64 0, .str []], none, 0⟩])
  (.seq (.ops [⟨some 3, .mov (.tmp 0), none, 0⟩,
     ⟨some 4, .build [.int .i64 0, .int .i64 0, .str []] [(0, 1, (.con (.int .i64 2))), (1, 1, (.tmp 3))], none, 0⟩,
     ⟨none, .store 3 (.tmp 2) (.tmp 4), none, 0⟩])
  .ret)) }
def f_value_Print_k0 : List Bool := [false, true, false, false, true, false, false, false, false, false, false, false, false, false, false, false, false, false, false, false, false, false, false, false, false, false, false, false, false, false, false, false, false, true, true, false, false, false, false, false, false, false, false, false, false, false, false, false, false, false, false, false, false, false, false, false, false]
def f_value_Print_b0 : XCode :=
  (.seq (.ops [⟨some 35, .bin .lss (.tmp 34) (.tmp 33), none, 0⟩])
 (.seq (.cond (.tmp 35)
   .skip
   (.exit 1))
 (.seq (.block 2
   (.seq (.ops [⟨some 36, .mov (.tmp 34), none, 0⟩,
      ⟨some 5, .mov (.tmp 36), none, 0⟩])
   (.draw [⟨some 37, .mov (.tmp 4), none, 0⟩,
     ⟨some 38, .fieldAddr 2 (.tmp 1), none, 0⟩,
     ⟨some 39, .load 1 false (.tmp 38), none, 0⟩,
     ⟨some 40, .mov (.tmp 5), none, 0⟩,
     ⟨some 41, .indexStr (.tmp 39) (.tmp 40), none, 0⟩,
     ⟨some 42, .bin .shr (.tmp 41) (.con (.int .u64 4)), none, 0⟩,
     ⟨some 43, .indexStr (.con (.str [48, 49, 50, 51, 52, 53, 54, 55, 56, 57, 97, 98, 99, 100, 101, 102])) (.tmp 42), none, 0⟩,
     ⟨some 44, .fieldAddr 2 (.tmp 1), none, 0⟩,
     ⟨some 45, .load 1 false (.tmp 44), none, 0⟩,
     ⟨some 46, .mov (.tmp 5), none, 0⟩,
     ⟨some 47, .indexStr (.tmp 45) (.tmp 46), none, 0⟩,
     ⟨some 48, .bin .and (.tmp 47) (.con (.int .u8 15)), none, 0⟩,
     ⟨some 49, .indexStr (.con (.str [48, 49, 50, 51, 52, 53, 54, 55, 56, 57, 97, 98, 99, 100, 101, 102])) (.tmp 48), none, 0⟩,
     ⟨some 50, .rowLit false 1 2 [.int .u8 0] [(0, 1, (.tmp 43)), (1, 1, (.tmp 49))], none, 1⟩,
     ⟨some 51, .append false 1 1 (.tmp 37) (.tmp 50), none, 1⟩,
     ⟨some 4, .mov (.tmp 51), none, 0⟩]
    [[], [], [1], [], [1, 2, 3], [1, 2, 3, 4], [1, 2, 3, 4, 5], [], [7], [], [7, 8, 9], [7, 8, 9, 10], [7, 8, 9, 10, 11], [1, 2, 3, 4, 5, 6, 7, 8, 9, 10, 11, 12], [0, 1, 2, 3, 4, 5, 6, 7, 8, 9, 10, 11, 12, 13], [0, 1, 2, 3, 4, 5, 6, 7, 8, 9, 10, 11, 12, 13, 14]])))
 (.ops [⟨some 52, .bin .add (.tmp 34) (.con (.int .i64 1)), none, 0⟩,
   ⟨some 34, .mov (.tmp 52), none, 0⟩]))))
def f_value_Print_s0 (t1 t4 t33 t34 : AV) : List AV := [.unk, t1, .unk, .unk, t4, .unk, .unk, .unk, .unk, .unk, .unk, .unk, .unk, .unk, .unk, .unk, .unk, .unk, .unk, .unk, .unk, .unk, .unk, .unk, .unk, .unk, .unk, .unk, .unk, .unk, .unk, .unk, .unk, t33, t34, .unk, .unk, .unk, .unk, .unk, .unk, .unk, .unk, .unk, .unk, .unk, .unk, .unk, .unk, .unk, .unk, .unk, .unk, .unk, .unk, .unk, .unk]
def f_value_Print : XFunc := { ntmps := 57, res := [.tmp 2, .tmp 3], pure := true, body :=
  (.seq (.ops [⟨some 1, .box (.tmp 0), none, 0⟩,
     ⟨some 2, .mov (.con (.str [])), none, 0⟩,
     ⟨some 3, .mov (.con (.int .i64 0)), none, 0⟩])
  (.seq (.seq (.ops [⟨some 6, .load 3 true (.tmp 1), none, 0⟩,
      ⟨some 7, .call (.fn 33) [(.tmp 6)], none, 0⟩,
      ⟨some 8, .un .not (.tmp 7), none, 0⟩])
   (.cond (.tmp 8)
    (.seq (.ops [⟨some 2, .mov (.con (.str [])), none, 0⟩,
        ⟨some 3, .mov (.con (.int .i64 2)), none, 0⟩])
     .ret)
    .skip))
  (.seq (.seq (.ops [⟨some 9, .fieldAddr 0 (.tmp 1), none, 0⟩,
      ⟨some 10, .load 1 false (.tmp 9), none, 0⟩])
   (.block 0
    (.seq (.ops [⟨some 12, .bin .eql (.tmp 10) (.con (.int .i64 1)), none, 0⟩,
       ⟨some 11, .mov (.tmp 12), none, 0⟩])
    (.cond (.tmp 11)
     (.seq (.ops [⟨some 13, .fieldAddr 1 (.tmp 1), none, 0⟩,
         ⟨some 14, .load 1 false (.tmp 13), none, 0⟩,
         ⟨some 15, .call (.fn 39) [(.tmp 14)], none, 0⟩,
         ⟨some 2, .mov (.tmp 15), none, 0⟩,
         ⟨some 3, .mov (.con (.int .i64 0)), none, 0⟩])
      .ret)
     (.seq (.ops [⟨some 17, .bin .eql (.tmp 10) (.con (.int .i64 2)), none, 0⟩,
         ⟨some 16, .mov (.tmp 17), none, 0⟩])
      (.cond (.tmp 16)
       (.seq (.ops [⟨some 18, .fieldAddr 1 (.tmp 1), none, 0⟩,
           ⟨some 19, .load 1 false (.tmp 18), none, 0⟩,
           ⟨some 20, .call (.fn 39) [(.tmp 19)], none, 0⟩,
           ⟨some 21, .bin .add (.tmp 20) (.con (.str [108])), none, 0⟩,
           ⟨some 2, .mov (.tmp 21), none, 0⟩,
           ⟨some 3, .mov (.con (.int .i64 0)), none, 0⟩])
        .ret)
       (.seq (.ops [⟨some 23, .bin .eql (.tmp 10) (.con (.int .i64 3)), none, 0⟩,
           ⟨some 22, .mov (.tmp 23), none, 0⟩])
        (.cond (.tmp 22)
         (.seq (.ops [⟨some 24, .fieldAddr 2 (.tmp 1), none, 0⟩,
             ⟨some 25, .load 1 false (.tmp 24), none, 0⟩,
             ⟨some 26, .call (.fn 214) [(.tmp 25)], none, 0⟩,
             ⟨some 2, .mov (.tmp 26), none, 0⟩,
             ⟨some 3, .mov (.con (.int .i64 0)), none, 0⟩])
          .ret)
         (.seq (.ops [⟨some 28, .bin .eql (.tmp 10) (.con (.int .i64 4)), none, 0⟩,
             ⟨some 27, .mov (.tmp 28), none, 0⟩])
          (.cond (.tmp 27)
           (.seq (.ops [⟨some 29, .rowLit false 1 2 [.int .u8 0] [(0, 1, (.con (.int .u8 120))), (1, 1, (.con (.int .u8 34)))], none, 0⟩,
               ⟨some 30, .convS (.tmp 29), none, 0⟩,
               ⟨some 4, .mov (.tmp 30), none, 0⟩])
            (.seq (.seq (.ops [⟨some 31, .fieldAddr 2 (.tmp 1), none, 0⟩,
                ⟨some 32, .load 1 false (.tmp 31), none, 0⟩,
                ⟨some 33, .lenS (.tmp 32), none, 0⟩,
                ⟨some 34, .mov (.con (.int .i64 0)), none, 0⟩])
             (.block 1
              (.loop f_value_Print_k0 f_value_Print_b0)))
            (.seq (.ops [⟨some 53, .mov (.tmp 4), none, 0⟩,
               ⟨some 54, .rowLit false 1 1 [.int .u8 0] [(0, 1, (.con (.int .u8 34)))], none, 0⟩,
               ⟨some 55, .append false 1 1 (.tmp 53) (.tmp 54), none, 0⟩,
               ⟨some 56, .toStr (.tmp 55), none, 0⟩,
               ⟨some 2, .mov (.tmp 56), none, 0⟩,
               ⟨some 3, .mov (.con (.int .i64 0)), none, 0⟩])
            .ret)))
           .skip))))))))))
  (.seq (.ops [⟨some 2, .mov (.con (.str [110, 117, 108, 108])), none, 0⟩,
     ⟨some 3, .mov (.con (.int .i64 0)), none, 0⟩])
  .ret)))) }
def f_value_number : XFunc := { ntmps := 35, res := [.cell 2 3 true, .tmp 3, .tmp 4], pure := true, body :=
  (.seq (.ops [⟨some 2, .alloc [.int .i64 0, .int .i64 0, .str []], none, 0⟩,
     ⟨some 3, .mov (.con (.int .i64 0)), none, 0⟩,
     ⟨some 4, .mov (.con (.int .i64 0)), none, 0⟩])
  (.seq (.ops [⟨some 10, .mov (.tmp 0), none, 0⟩,
     ⟨some 11, .call (.fn 37) [(.tmp 10)], none, 0⟩,
     ⟨some 9, .mov (.tmp 11), none, 0⟩,
     ⟨some 12, .extract (.tmp 9) 0, none, 0⟩,
     ⟨some 13, .extract (.tmp 9) 1, none, 0⟩,
     ⟨some 14, .extract (.tmp 9) 2, none, 0⟩,
     ⟨some 5, .mov (.tmp 12), none, 0⟩,
     ⟨some 6, .mov (.tmp 13), none, 0⟩,
     ⟨some 7, .mov (.tmp 14), none, 0⟩])
  (.seq (.seq (.ops [⟨some 15, .mov (.tmp 7), none, 0⟩,
      ⟨some 16, .bin .neq (.tmp 15) (.con (.int .i64 0)), none, 0⟩])
   (.cond (.tmp 16)
    (.seq (.ops [⟨some 17, .build [.int .i64 0, .int .i64 0, .str []] [], none, 0⟩,
        ⟨some 18, .mov (.tmp 7), none, 0⟩,
        ⟨none, .store 3 (.tmp 2) (.tmp 17), none, 0⟩,
        ⟨some 3, .mov (.con (.int .i64 0)), none, 0⟩,
        ⟨some 4, .mov (.tmp 18), none, 0⟩])
     .ret)
    .skip))
  (.seq (.seq (.ops [⟨some 19, .mov (.tmp 0), none, 0⟩,
      ⟨some 20, .mov (.tmp 6), none, 0⟩,
      ⟨some 21, .cutStr (.tmp 19) (some (.tmp 20)) none, none, 0⟩,
      ⟨some 22, .call (.fn 48) [(.tmp 21), (.con (.str [108]))], none, 0⟩])
   (.cond (.tmp 22)
    (.seq (.ops [⟨some 23, .mov (.tmp 5), none, 0⟩,
        ⟨some 24, .call (.fn 35) [(.tmp 23)], none, 0⟩,
        ⟨some 25, .mov (.tmp 6), none, 0⟩,
        ⟨some 26, .bin .add (.tmp 25) (.con (.int .i64 1)), none, 0⟩,
        ⟨none, .store 3 (.tmp 2) (.tmp 24), none, 0⟩,
        ⟨some 3, .mov (.tmp 26), none, 0⟩,
        ⟨some 4, .mov (.con (.int .i64 0)), none, 0⟩])
     .ret)
    .skip))
  (.seq (.ops [⟨some 28, .mov (.tmp 5), none, 0⟩,
     ⟨some 29, .call (.fn 30) [(.tmp 28)], none, 0⟩,
     ⟨some 27, .mov (.tmp 29), none, 0⟩,
     ⟨some 30, .extract (.tmp 27) 0, none, 0⟩,
     ⟨some 31, .extract (.tmp 27) 1, none, 0⟩,
     ⟨some 8, .alloc [.int .i64 0, .int .i64 0, .str []], none, 0⟩,
     ⟨none, .store 3 (.tmp 8) (.tmp 30), none, 0⟩,
     ⟨some 7, .mov (.tmp 31), none, 0⟩])
  (.seq (.ops [⟨some 32, .load 3 true (.tmp 8), none, 0⟩,
     ⟨some 33, .mov (.tmp 6), none, 0⟩,
     ⟨some 34, .mov (.tmp 7), none, 0⟩,
     ⟨none, .store 3 (.tmp 2) (.tmp 32), none, 0⟩,
     ⟨some 3, .mov (.tmp 33), none, 0⟩,
     ⟨some 4, .mov (.tmp 34), none, 0⟩])
  .ret)))))) }
def f_value_text : XFunc := { ntmps := 27, res := [.cell 2 3 true, .tmp 3, .tmp 4], pure := true, body :=
  (.seq (.ops [⟨some 2, .alloc [.int .i64 0, .int .i64 0, .str []], none, 0⟩,
     ⟨some 3, .mov (.con (.int .i64 0)), none, 0⟩,
     ⟨some 4, .mov (.con (.int .i64 0)), none, 0⟩])
  (.seq (.ops [⟨some 11, .mov (.tmp 0), none, 0⟩,
     ⟨some 12, .call (.fn 62) [(.tmp 11)], none, 0⟩,
     ⟨some 10, .mov (.tmp 12), none, 0⟩,
     ⟨some 13, .extract (.tmp 10) 0, none, 0⟩,
     ⟨some 14, .extract (.tmp 10) 1, none, 0⟩,
     ⟨some 15, .extract (.tmp 10) 2, none, 0⟩,
     ⟨some 5, .mov (.tmp 13), none, 0⟩,
     ⟨some 6, .mov (.tmp 14), none, 0⟩,
     ⟨some 7, .mov (.tmp 15), none, 0⟩])
  (.seq (.seq (.ops [⟨some 16, .mov (.tmp 7), none, 0⟩,
      ⟨some 17, .un .not (.tmp 16), none, 0⟩])
   (.cond (.tmp 17)
    (.seq (.ops [⟨some 18, .build [.int .i64 0, .int .i64 0, .str []] [], none, 0⟩,
        ⟨none, .store 3 (.tmp 2) (.tmp 18), none, 0⟩,
        ⟨some 3, .mov (.con (.int .i64 0)), none, 0⟩,
        ⟨some 4, .mov (.con (.int .i64 5)), none, 0⟩])
     .ret)
    .skip))
  (.seq (.ops [⟨some 20, .mov (.tmp 5), none, 0⟩,
     ⟨some 21, .call (.fn 31) [(.tmp 20)], none, 0⟩,
     ⟨some 19, .mov (.tmp 21), none, 0⟩,
     ⟨some 22, .extract (.tmp 19) 0, none, 0⟩,
     ⟨some 23, .extract (.tmp 19) 1, none, 0⟩,
     ⟨some 8, .alloc [.int .i64 0, .int .i64 0, .str []], none, 0⟩,
     ⟨none, .store 3 (.tmp 8) (.tmp 22), none, 0⟩,
     ⟨some 9, .mov (.tmp 23), none, 0⟩])
  (.seq (.ops [⟨some 24, .load 3 true (.tmp 8), none, 0⟩,
     ⟨some 25, .mov (.tmp 6), none, 0⟩,
     ⟨some 26, .mov (.tmp 9), none, 0⟩,
     ⟨none, .store 3 (.tmp 2) (.tmp 24), none, 0⟩,
     ⟨some 3, .mov (.tmp 25), none, 0⟩,
     ⟨some 4, .mov (.tmp 26), none, 0⟩])
  .ret))))) }
def f_value_bytes_k0 : List Bool := [true, false, true, false, false, true, true, false, false, false, false, false, false, false, false, false, false, false, false, false, false, false, false, false, false, false, false, false, false, false, false, false, false, false, false, false, false, false, false, false, false, false, false, false, false, false, false, false, false, false, false, false, false, false, false, false, false, false, false, false, false]
def f_value_bytes_b0 : XCode :=
  (.seq (.seq (.ops [⟨some 11, .mov (.tmp 6), none, 0⟩,
     ⟨some 12, .mov (.tmp 0), none, 0⟩,
     ⟨some 13, .lenS (.tmp 12), none, 0⟩,
     ⟨some 14, .bin .lss (.tmp 11) (.tmp 13), none, 0⟩])
  (.cond (.tmp 14)
   .skip
   (.exit 0)))
 (.seq (.block 1
   (.seq (.seq (.ops [⟨some 17, .mov (.tmp 0), none, 0⟩,
       ⟨some 18, .mov (.tmp 6), none, 0⟩,
       ⟨some 19, .indexStr (.tmp 17) (.tmp 18), none, 0⟩,
       ⟨some 20, .bin .eql (.tmp 19) (.con (.int .u8 34)), none, 0⟩])
    (.cond (.tmp 20)
     (.seq (.ops [⟨some 22, .mov (.tmp 5), none, 0⟩,
         ⟨some 23, .toStr (.tmp 22), none, 0⟩,
         ⟨some 24, .call (.fn 32) [(.tmp 23)], none, 0⟩,
         ⟨some 21, .mov (.tmp 24), none, 0⟩,
         ⟨some 25, .extract (.tmp 21) 0, none, 0⟩,
         ⟨some 26, .extract (.tmp 21) 1, none, 0⟩,
         ⟨some 7, .alloc [.int .i64 0, .int .i64 0, .str []], none, 0⟩,
         ⟨none, .store 3 (.tmp 7) (.tmp 25), none, 0⟩,
         ⟨some 8, .mov (.tmp 26), none, 0⟩])
      (.seq (.ops [⟨some 27, .load 3 true (.tmp 7), none, 0⟩,
         ⟨some 28, .mov (.tmp 6), none, 0⟩,
         ⟨some 29, .bin .add (.tmp 28) (.con (.int .i64 1)), none, 0⟩,
         ⟨some 30, .mov (.tmp 8), none, 0⟩,
         ⟨none, .store 3 (.tmp 2) (.tmp 27), none, 0⟩,
         ⟨some 3, .mov (.tmp 29), none, 0⟩,
         ⟨some 4, .mov (.tmp 30), none, 0⟩])
      .ret))
     .skip))
   (.seq (.seq (.ops [⟨some 31, .mov (.tmp 6), none, 0⟩,
       ⟨some 32, .bin .add (.tmp 31) (.con (.int .i64 1)), none, 0⟩,
       ⟨some 33, .mov (.tmp 0), none, 0⟩,
       ⟨some 34, .lenS (.tmp 33), none, 0⟩,
       ⟨some 35, .bin .eql (.tmp 32) (.tmp 34), none, 0⟩])
    (.cond (.tmp 35)
     (.exit 0)
     .skip))
   (.seq (.draw [⟨some 36, .mov (.tmp 0), none, 0⟩,
      ⟨some 37, .mov (.tmp 6), none, 0⟩,
      ⟨some 38, .indexStr (.tmp 36) (.tmp 37), none, 0⟩,
      ⟨some 39, .call (.fn 64) [(.con (.str [48, 49, 50, 51, 52, 53, 54, 55, 56, 57, 97, 98, 99, 100, 101, 102])), (.tmp 38)], none, 1⟩,
      ⟨some 40, .mov (.tmp 0), none, 0⟩,
      ⟨some 41, .mov (.tmp 6), none, 0⟩,
      ⟨some 42, .bin .add (.tmp 41) (.con (.int .i64 1)), none, 0⟩,
      ⟨some 43, .indexStr (.tmp 40) (.tmp 42), none, 0⟩,
      ⟨some 44, .call (.fn 64) [(.con (.str [48, 49, 50, 51, 52, 53, 54, 55, 56, 57, 97, 98, 99, 100, 101, 102])), (.tmp 43)], none, 1⟩,
      ⟨some 9, .mov (.tmp 39), none, 0⟩,
      ⟨some 10, .mov (.tmp 44), none, 0⟩]
     [[], [], [0, 1], [0, 1, 2], [], [], [5], [4, 5, 6], [0, 1, 2, 3, 4, 5, 6, 7], [0, 1, 2, 3, 4, 5, 6, 7, 8], [0, 1, 2, 3, 4, 5, 6, 7, 8, 9]])
   (.seq (.seq (.ops [⟨some 45, .mov (.tmp 9), none, 0⟩,
       ⟨some 46, .bin .lss (.tmp 45) (.con (.int .i64 0)), none, 0⟩,
       ⟨some 47, .mov (.tmp 46), none, 0⟩,
       ⟨some 48, .mov (.tmp 10), some (47, false), 0⟩,
       ⟨some 49, .bin .lss (.tmp 48) (.con (.int .i64 0)), some (47, false), 0⟩,
       ⟨some 50, .pick (.tmp 47) (.con (.bool true)) (.tmp 49), none, 0⟩])
    (.cond (.tmp 50)
     (.exit 0)
     .skip))
   (.ops [⟨some 51, .mov (.tmp 5), none, 0⟩,
     ⟨some 52, .mov (.tmp 9), none, 0⟩,
     ⟨some 53, .toInt .u8 (.tmp 52), none, 0⟩,
     ⟨some 54, .bin .shl (.tmp 53) (.con (.int .u64 4)), none, 0⟩,
     ⟨some 55, .mov (.tmp 10), none, 0⟩,
     ⟨some 56, .toInt .u8 (.tmp 55), none, 0⟩,
     ⟨some 57, .bin .or (.tmp 54) (.tmp 56), none, 0⟩,
     ⟨some 58, .rowLit false 1 1 [.int .u8 0] [(0, 1, (.tmp 57))], none, 0⟩,
     ⟨some 59, .append false 1 1 (.tmp 51) (.tmp 58), none, 0⟩,
     ⟨some 5, .mov (.tmp 59), none, 0⟩]))))))
 (.ops [⟨some 15, .mov (.tmp 6), none, 0⟩,
   ⟨some 16, .bin .add (.tmp 15) (.con (.int .i64 2)), none, 0⟩,
   ⟨some 6, .mov (.tmp 16), none, 0⟩])))
def f_value_bytes_s0 (t0 t2 t5 t6 : AV) : List AV := [t0, .unk, t2, .unk, .unk, t5, t6, .unk, .unk, .unk, .unk, .unk, .unk, .unk, .unk, .unk, .unk, .unk, .unk, .unk, .unk, .unk, .unk, .unk, .unk, .unk, .unk, .unk, .unk, .unk, .unk, .unk, .unk, .unk, .unk, .unk, .unk, .unk, .unk, .unk, .unk, .unk, .unk, .unk, .unk, .unk, .unk, .unk, .unk, .unk, .unk, .unk, .unk, .unk, .unk, .unk, .unk, .unk, .unk, .unk, .unk]
def f_value_bytes : XFunc := { ntmps := 61, res := [.cell 2 3 true, .tmp 3, .tmp 4], pure := true, body :=
  (.seq (.ops [⟨some 2, .alloc [.int .i64 0, .int .i64 0, .str []], none, 0⟩,
     ⟨some 3, .mov (.con (.int .i64 0)), none, 0⟩,
     ⟨some 4, .mov (.con (.int .i64 0)), none, 0⟩])
  (.seq (.ops [⟨some 5, .mov (.con .nils), none, 0⟩])
  (.seq (.seq (.ops [⟨some 6, .mov (.con (.int .i64 2)), none, 0⟩])
   (.block 0
    (.loop f_value_bytes_k0 f_value_bytes_b0)))
  (.seq (.ops [⟨some 60, .build [.int .i64 0, .int .i64 0, .str []] [], none, 0⟩,
     ⟨none, .store 3 (.tmp 2) (.tmp 60), none, 0⟩,
     ⟨some 3, .mov (.con (.int .i64 0)), none, 0⟩,
     ⟨some 4, .mov (.con (.int .i64 5)), none, 0⟩])
  .ret)))) }
def f_haulageref04_Unquote_k1 : List Bool := [true, false, false, false, false, true, true, true, true, false, false, false, false, false, false, false, false, false, false, false, false, false, false, false, false, false, false, false, false, false, false, false, false, false, false, false, false, false, false, false, false, false, false, false, false, false, false, false, false, false, false, false, false, false, false, false, false, false, false, false, false, false]
def f_haulageref04_Unquote_b1 : XCode :=
  (.seq (.seq (.ops [⟨some 27, .mov (.tmp 8), none, 0⟩,
     ⟨some 28, .bin .lss (.tmp 27) (.con (.int .i64 256)), none, 0⟩,
     ⟨some 29, .mov (.tmp 28), none, 0⟩,
     ⟨some 30, .mov (.tmp 7), some (29, true), 0⟩,
     ⟨some 31, .un .not (.tmp 30), some (29, true), 0⟩,
     ⟨some 32, .pick (.tmp 29) (.tmp 31) (.con (.bool false)), none, 0⟩])
  (.cond (.tmp 32)
   .skip
   (.exit 2)))
 (.seq (.block 3
   (.seq (.ops [⟨some 35, .mov (.tmp 8), none, 0⟩,
      ⟨some 36, .toInt .u8 (.tmp 35), none, 0⟩,
      ⟨some 37, .call (.fn 68) [(.tmp 36)], none, 0⟩,
      ⟨some 9, .mov (.tmp 37), none, 0⟩])
   (.seq (.ops [⟨some 38, .mov (.tmp 0), none, 0⟩,
      ⟨some 39, .mov (.tmp 6), none, 0⟩,
      ⟨some 40, .cutStr (.tmp 38) (some (.tmp 39)) none, none, 0⟩,
      ⟨some 41, .mov (.tmp 9), none, 0⟩,
      ⟨some 42, .call (.fn 69) [(.tmp 40), (.tmp 41)], none, 0⟩])
   (.cond (.tmp 42)
    (.seq (.ops [⟨some 43, .mov (.tmp 5), none, 0⟩,
        ⟨some 44, .mov (.tmp 8), none, 0⟩,
        ⟨some 45, .toInt .u8 (.tmp 44), none, 0⟩,
        ⟨some 46, .rowLit false 1 1 [.int .u8 0] [(0, 1, (.tmp 45))], none, 0⟩,
        ⟨some 47, .toStr (.tmp 46), none, 0⟩,
        ⟨some 48, .bin .add (.tmp 43) (.tmp 47), none, 0⟩,
        ⟨some 5, .mov (.tmp 48), none, 0⟩])
     (.seq (.ops [⟨some 49, .mov (.tmp 6), none, 0⟩,
        ⟨some 50, .mov (.tmp 9), none, 0⟩,
        ⟨some 51, .lenS (.tmp 50), none, 0⟩,
        ⟨some 52, .bin .add (.tmp 49) (.tmp 51), none, 0⟩,
        ⟨some 6, .mov (.tmp 52), none, 0⟩])
     (.ops [⟨some 7, .mov (.con (.bool true)), none, 0⟩])))
    .skip))))
 (.ops [⟨some 33, .mov (.tmp 8), none, 0⟩,
   ⟨some 34, .bin .add (.tmp 33) (.con (.int .i64 1)), none, 0⟩,
   ⟨some 8, .mov (.tmp 34), none, 0⟩])))
def f_haulageref04_Unquote_s1 (t0 t5 t6 t7 t8 : AV) : List AV := [t0, .unk, .unk, .unk, .unk, t5, t6, t7, t8, .unk, .unk, .unk, .unk, .unk, .unk, .unk, .unk, .unk, .unk, .unk, .unk, .unk, .unk, .unk, .unk, .unk, .unk, .unk, .unk, .unk, .unk, .unk, .unk, .unk, .unk, .unk, .unk, .unk, .unk, .unk, .unk, .unk, .unk, .unk, .unk, .unk, .unk, .unk, .unk, .unk, .unk, .unk, .unk, .unk, .unk, .unk, .unk, .unk, .unk, .unk, .unk, .unk]
def f_haulageref04_Unquote_k0 : List Bool := [true, false, false, false, false, true, true, false, false, false, false, false, false, false, false, false, false, false, false, false, false, false, false, false, false, false, false, false, false, false, false, false, false, false, false, false, false, false, false, false, false, false, false, false, false, false, false, false, false, false, false, false, false, false, false, false, false, false, false, false, false, false]
def f_haulageref04_Unquote_b0 : XCode :=
  (.seq (.seq (.ops [⟨some 17, .mov (.tmp 6), none, 0⟩,
     ⟨some 18, .mov (.tmp 0), none, 0⟩,
     ⟨some 19, .lenS (.tmp 18), none, 0⟩,
     ⟨some 20, .bin .lss (.tmp 17) (.tmp 19), none, 0⟩,
     ⟨some 21, .mov (.tmp 20), none, 0⟩,
     ⟨some 22, .mov (.tmp 0), some (21, true), 0⟩,
     ⟨some 23, .mov (.tmp 6), some (21, true), 0⟩,
     ⟨some 24, .indexStr (.tmp 22) (.tmp 23), some (21, true), 0⟩,
     ⟨some 25, .bin .neq (.tmp 24) (.con (.int .u8 34)), some (21, true), 0⟩,
     ⟨some 26, .pick (.tmp 21) (.tmp 25) (.con (.bool false)), none, 0⟩])
  (.cond (.tmp 26)
   .skip
   (.exit 0)))
 (.block 1
  (.seq (.ops [⟨some 7, .mov (.con (.bool false)), none, 0⟩])
  (.seq (.seq (.ops [⟨some 8, .mov (.con (.int .i64 0)), none, 0⟩])
   (.block 2
    (.loop f_haulageref04_Unquote_k1 f_haulageref04_Unquote_b1)))
  (.seq (.ops [⟨some 53, .mov (.tmp 7), none, 0⟩,
     ⟨some 54, .un .not (.tmp 53), none, 0⟩])
  (.cond (.tmp 54)
   (.seq (.ops [⟨some 2, .mov (.con (.str [])), none, 0⟩,
       ⟨some 3, .mov (.con (.int .i64 0)), none, 0⟩,
       ⟨some 4, .mov (.con (.bool false)), none, 0⟩])
    .ret)
   .skip))))))
def f_haulageref04_Unquote_s0 (t0 t5 t6 : AV) : List AV := [t0, .unk, .unk, .unk, .unk, t5, t6, .unk, .unk, .unk, .unk, .unk, .unk, .unk, .unk, .unk, .unk, .unk, .unk, .unk, .unk, .unk, .unk, .unk, .unk, .unk, .unk, .unk, .unk, .unk, .unk, .unk, .unk, .unk, .unk, .unk, .unk, .unk, .unk, .unk, .unk, .unk, .unk, .unk, .unk, .unk, .unk, .unk, .unk, .unk, .unk, .unk, .unk, .unk, .unk, .unk, .unk, .unk, .unk, .unk, .unk, .unk]
def f_haulageref04_Unquote : XFunc := { ntmps := 62, res := [.tmp 2, .tmp 3, .tmp 4], pure := true, body :=
  (.seq (.ops [⟨some 2, .mov (.con (.str [])), none, 0⟩,
     ⟨some 3, .mov (.con (.int .i64 0)), none, 0⟩,
     ⟨some 4, .mov (.con (.bool false)), none, 0⟩])
  (.seq (.seq (.ops [⟨some 10, .mov (.tmp 0), none, 0⟩,
      ⟨some 11, .bin .eql (.tmp 10) (.con (.str [])), none, 0⟩,
      ⟨some 12, .mov (.tmp 11), none, 0⟩,
      ⟨some 13, .mov (.tmp 0), some (12, false), 0⟩,
      ⟨some 14, .indexStr (.tmp 13) (.con (.int .i64 0)), some (12, false), 0⟩,
      ⟨some 15, .bin .neq (.tmp 14) (.con (.int .u8 34)), some (12, false), 0⟩,
      ⟨some 16, .pick (.tmp 12) (.con (.bool true)) (.tmp 15), none, 0⟩])
   (.cond (.tmp 16)
    (.seq (.ops [⟨some 2, .mov (.con (.str [])), none, 0⟩,
        ⟨some 3, .mov (.con (.int .i64 0)), none, 0⟩,
        ⟨some 4, .mov (.con (.bool false)), none, 0⟩])
     .ret)
    .skip))
  (.seq (.ops [⟨some 5, .mov (.con (.str [])), none, 0⟩,
     ⟨some 6, .mov (.con (.int .i64 1)), none, 0⟩])
  (.seq (.block 0
    (.loop f_haulageref04_Unquote_k0 f_haulageref04_Unquote_b0))
  (.seq (.seq (.ops [⟨some 55, .mov (.tmp 6), none, 0⟩,
      ⟨some 56, .mov (.tmp 0), none, 0⟩,
      ⟨some 57, .lenS (.tmp 56), none, 0⟩,
      ⟨some 58, .bin .geq (.tmp 55) (.tmp 57), none, 0⟩])
   (.cond (.tmp 58)
    (.seq (.ops [⟨some 2, .mov (.con (.str [])), none, 0⟩,
        ⟨some 3, .mov (.con (.int .i64 0)), none, 0⟩,
        ⟨some 4, .mov (.con (.bool false)), none, 0⟩])
     .ret)
    .skip))
  (.seq (.ops [⟨some 59, .mov (.tmp 5), none, 0⟩,
     ⟨some 60, .mov (.tmp 6), none, 0⟩,
     ⟨some 61, .bin .add (.tmp 60) (.con (.int .i64 1)), none, 0⟩,
     ⟨some 2, .mov (.tmp 59), none, 0⟩,
     ⟨some 3, .mov (.tmp 61), none, 0⟩,
     ⟨some 4, .mov (.con (.bool true)), none, 0⟩])
  .ret)))))) }
def f_haulageref05_long : XFunc := { ntmps := 25, res := [.cell 6 3 true, .tmp 7, .tmp 8], pure := true, body :=
  (.seq (.ops [⟨some 6, .alloc [.int .i64 0, .int .i64 0, .str []], none, 0⟩,
     ⟨some 7, .mov (.con (.int .i64 0)), none, 0⟩,
     ⟨some 8, .mov (.con (.int .i64 0)), none, 0⟩])
  (.seq (.seq (.ops [⟨some 9, .mov (.tmp 1), none, 0⟩,
      ⟨some 10, .lenS (.tmp 9), none, 0⟩,
      ⟨some 11, .bin .gtr (.tmp 10) (.con (.int .i64 120)), none, 0⟩])
   (.cond (.tmp 11)
    (.seq (.ops [⟨some 12, .build [.int .i64 0, .int .i64 0, .str []] [], none, 0⟩,
        ⟨none, .store 3 (.tmp 6) (.tmp 12), none, 0⟩,
        ⟨some 7, .mov (.con (.int .i64 0)), none, 0⟩,
        ⟨some 8, .mov (.con (.int .i64 3)), none, 0⟩])
     .ret)
    .skip))
  (.seq (.seq (.ops [⟨some 13, .mov (.tmp 0), none, 0⟩,
      ⟨some 14, .bin .eql (.tmp 13) (.con (.int .i64 3)), none, 0⟩,
      ⟨some 15, .mov (.tmp 14), none, 0⟩,
      ⟨some 16, .mov (.tmp 1), some (15, true), 0⟩,
      ⟨some 17, .call (.fn 22) [(.tmp 16)], some (15, true), 0⟩,
      ⟨some 18, .un .not (.tmp 17), some (15, true), 0⟩,
      ⟨some 19, .pick (.tmp 15) (.tmp 18) (.con (.bool false)), none, 0⟩])
   (.cond (.tmp 19)
    (.seq (.ops [⟨some 20, .build [.int .i64 0, .int .i64 0, .str []] [], none, 0⟩,
        ⟨none, .store 3 (.tmp 6) (.tmp 20), none, 0⟩,
        ⟨some 7, .mov (.con (.int .i64 0)), none, 0⟩,
        ⟨some 8, .mov (.con (.int .i64 5)), none, 0⟩])
     .ret)
    .skip))
  (.seq (.ops [⟨some 21, .mov (.tmp 0), none, 0⟩,
     ⟨some 22, .mov (.tmp 1), none, 0⟩,
     ⟨some 23, .build [.int .i64 0, .int .i64 0, .str []] [(0, 1, (.tmp 21)), (2, 1, (.tmp 22))], none, 0⟩,
     ⟨some 24, .mov (.tmp 2), none, 0⟩,
     ⟨none, .store 3 (.tmp 6) (.tmp 23), none, 0⟩,
     ⟨some 7, .mov (.tmp 24), none, 0⟩,
     ⟨some 8, .mov (.con (.int .i64 0)), none, 0⟩])
  .ret)))) }
def f_haulageref05_unhex_k1 : List Bool := [true, false, false, false, false, true, true, true, true, false, false, false, false, false, false, false, false, false, false, false, false, false, false, false, false, false, false, false, false, false, false, false, false, false, false, false, false, false, false, false, false, false, false, false, false, false, false, false, false, false, false, false, false, false, false, false, false, false, false, false]
def f_haulageref05_unhex_b1 : XCode :=
  (.seq (.seq (.ops [⟨some 20, .mov (.tmp 8), none, 0⟩,
     ⟨some 21, .bin .lss (.tmp 20) (.con (.int .i64 256)), none, 0⟩,
     ⟨some 22, .mov (.tmp 21), none, 0⟩,
     ⟨some 23, .mov (.tmp 7), some (22, true), 0⟩,
     ⟨some 24, .un .not (.tmp 23), some (22, true), 0⟩,
     ⟨some 25, .pick (.tmp 22) (.tmp 24) (.con (.bool false)), none, 0⟩])
  (.cond (.tmp 25)
   .skip
   (.exit 2)))
 (.seq (.block 3
   (.seq (.ops [⟨some 28, .mov (.tmp 8), none, 0⟩,
      ⟨some 29, .toInt .u8 (.tmp 28), none, 0⟩,
      ⟨some 30, .rowLit false 1 1 [.int .u8 0] [(0, 1, (.tmp 29))], none, 0⟩,
      ⟨some 31, .toStr (.tmp 30), none, 0⟩,
      ⟨some 9, .mov (.tmp 31), none, 0⟩])
   (.seq (.draw [⟨some 32, .mov (.tmp 6), none, 0⟩,
      ⟨some 33, .bin .add (.tmp 32) (.con (.int .i64 2)), none, 0⟩,
      ⟨some 34, .mov (.tmp 0), none, 0⟩,
      ⟨some 35, .lenS (.tmp 34), none, 0⟩,
      ⟨some 36, .bin .leq (.tmp 33) (.tmp 35), none, 0⟩,
      ⟨some 37, .mov (.tmp 36), none, 0⟩,
      ⟨some 38, .mov (.tmp 0), some (37, true), 0⟩,
      ⟨some 39, .mov (.tmp 6), some (37, true), 0⟩,
      ⟨some 40, .mov (.tmp 6), some (37, true), 0⟩,
      ⟨some 41, .bin .add (.tmp 40) (.con (.int .i64 2)), some (37, true), 0⟩,
      ⟨some 42, .cutStr (.tmp 38) (some (.tmp 39)) (some (.tmp 41)), some (37, true), 0⟩,
      ⟨some 43, .mov (.tmp 9), some (37, true), 0⟩,
      ⟨some 44, .call (.fn 61) [(.tmp 43)], some (37, true), 1⟩,
      ⟨some 45, .bin .eql (.tmp 42) (.tmp 44), some (37, true), 0⟩,
      ⟨some 46, .pick (.tmp 37) (.tmp 45) (.con (.bool false)), none, 0⟩]
     [[], [0], [], [2], [0, 1, 2, 3], [0, 1, 2, 3, 4], [0, 1, 2, 3, 4, 5], [0, 1, 2, 3, 4, 5], [0, 1, 2, 3, 4, 5], [0, 1, 2, 3, 4, 5, 8], [0, 1, 2, 3, 4, 5, 6, 7, 8, 9], [0, 1, 2, 3, 4, 5], [0, 1, 2, 3, 4, 5, 11], [0, 1, 2, 3, 4, 5, 6, 7, 8, 9, 10, 11, 12], [0, 1, 2, 3, 4, 5, 6, 7, 8, 9, 10, 11, 12, 13]])
   (.cond (.tmp 46)
    (.ops [⟨some 47, .mov (.tmp 5), none, 0⟩,
       ⟨some 48, .mov (.tmp 9), none, 0⟩,
       ⟨some 49, .bin .add (.tmp 47) (.tmp 48), none, 0⟩,
       ⟨some 50, .mov (.tmp 6), none, 0⟩,
       ⟨some 51, .bin .add (.tmp 50) (.con (.int .i64 2)), none, 0⟩,
       ⟨some 5, .mov (.tmp 49), none, 0⟩,
       ⟨some 6, .mov (.tmp 51), none, 0⟩,
       ⟨some 7, .mov (.con (.bool true)), none, 0⟩])
    .skip))))
 (.ops [⟨some 26, .mov (.tmp 8), none, 0⟩,
   ⟨some 27, .bin .add (.tmp 26) (.con (.int .i64 1)), none, 0⟩,
   ⟨some 8, .mov (.tmp 27), none, 0⟩])))
def f_haulageref05_unhex_s1 (t0 t5 t6 t7 t8 : AV) : List AV := [t0, .unk, .unk, .unk, .unk, t5, t6, t7, t8, .unk, .unk, .unk, .unk, .unk, .unk, .unk, .unk, .unk, .unk, .unk, .unk, .unk, .unk, .unk, .unk, .unk, .unk, .unk, .unk, .unk, .unk, .unk, .unk, .unk, .unk, .unk, .unk, .unk, .unk, .unk, .unk, .unk, .unk, .unk, .unk, .unk, .unk, .unk, .unk, .unk, .unk, .unk, .unk, .unk, .unk, .unk, .unk, .unk, .unk, .unk]
def f_haulageref05_unhex_k0 : List Bool := [true, false, false, false, false, true, true, false, false, false, false, false, false, false, false, false, false, false, false, false, false, false, false, false, false, false, false, false, false, false, false, false, false, false, false, false, false, false, false, false, false, false, false, false, false, false, false, false, false, false, false, false, false, false, false, false, false, false, false, false]
def f_haulageref05_unhex_b0 : XCode :=
  (.seq (.seq (.ops [⟨some 10, .mov (.tmp 6), none, 0⟩,
     ⟨some 11, .mov (.tmp 0), none, 0⟩,
     ⟨some 12, .lenS (.tmp 11), none, 0⟩,
     ⟨some 13, .bin .lss (.tmp 10) (.tmp 12), none, 0⟩,
     ⟨some 14, .mov (.tmp 13), none, 0⟩,
     ⟨some 15, .mov (.tmp 0), some (14, true), 0⟩,
     ⟨some 16, .mov (.tmp 6), some (14, true), 0⟩,
     ⟨some 17, .indexStr (.tmp 15) (.tmp 16), some (14, true), 0⟩,
     ⟨some 18, .bin .neq (.tmp 17) (.con (.int .u8 34)), some (14, true), 0⟩,
     ⟨some 19, .pick (.tmp 14) (.tmp 18) (.con (.bool false)), none, 0⟩])
  (.cond (.tmp 19)
   .skip
   (.exit 0)))
 (.block 1
  (.seq (.ops [⟨some 7, .mov (.con (.bool false)), none, 0⟩])
  (.seq (.seq (.ops [⟨some 8, .mov (.con (.int .i64 0)), none, 0⟩])
   (.block 2
    (.loop f_haulageref05_unhex_k1 f_haulageref05_unhex_b1)))
  (.seq (.ops [⟨some 52, .mov (.tmp 7), none, 0⟩,
     ⟨some 53, .un .not (.tmp 52), none, 0⟩])
  (.cond (.tmp 53)
   (.seq (.ops [⟨some 2, .mov (.con (.str [])), none, 0⟩,
       ⟨some 3, .mov (.con (.int .i64 0)), none, 0⟩,
       ⟨some 4, .mov (.con (.bool false)), none, 0⟩])
    .ret)
   .skip))))))
def f_haulageref05_unhex_s0 (t0 t5 t6 : AV) : List AV := [t0, .unk, .unk, .unk, .unk, t5, t6, .unk, .unk, .unk, .unk, .unk, .unk, .unk, .unk, .unk, .unk, .unk, .unk, .unk, .unk, .unk, .unk, .unk, .unk, .unk, .unk, .unk, .unk, .unk, .unk, .unk, .unk, .unk, .unk, .unk, .unk, .unk, .unk, .unk, .unk, .unk, .unk, .unk, .unk, .unk, .unk, .unk, .unk, .unk, .unk, .unk, .unk, .unk, .unk, .unk, .unk, .unk, .unk, .unk]
def f_haulageref05_unhex : XFunc := { ntmps := 60, res := [.tmp 2, .tmp 3, .tmp 4], pure := true, body :=
  (.seq (.ops [⟨some 2, .mov (.con (.str [])), none, 0⟩,
     ⟨some 3, .mov (.con (.int .i64 0)), none, 0⟩,
     ⟨some 4, .mov (.con (.bool false)), none, 0⟩])
  (.seq (.ops [⟨some 5, .mov (.con (.str [])), none, 0⟩,
     ⟨some 6, .mov (.con (.int .i64 0)), none, 0⟩])
  (.seq (.block 0
    (.loop f_haulageref05_unhex_k0 f_haulageref05_unhex_b0))
  (.seq (.ops [⟨some 54, .mov (.tmp 5), none, 0⟩,
     ⟨some 55, .mov (.tmp 6), none, 0⟩,
     ⟨some 56, .mov (.tmp 6), none, 0⟩,
     ⟨some 57, .mov (.tmp 0), none, 0⟩,
     ⟨some 58, .lenS (.tmp 57), none, 0⟩,
     ⟨some 59, .bin .lss (.tmp 56) (.tmp 58), none, 0⟩,
     ⟨some 2, .mov (.tmp 54), none, 0⟩,
     ⟨some 3, .mov (.tmp 55), none, 0⟩,
     ⟨some 4, .mov (.tmp 59), none, 0⟩])
  .ret)))) }
def f_name_Quote_k0 : List Bool := [true, false, false, true, false, false, false, false, true, true, false, false, false, false, false, false, false, false, false, false, false, false, false, false, false, false, false, false, false, false, false, false, false, false, false, false, false, false, false, false, false, false, false, false, false, false]
def f_name_Quote_b0 : XCode :=
  (.seq (.ops [⟨some 10, .bin .lss (.tmp 9) (.tmp 8), none, 0⟩])
 (.seq (.cond (.tmp 10)
   .skip
   (.exit 0))
 (.seq (.block 1
   (.seq (.ops [⟨some 11, .mov (.tmp 9), none, 0⟩,
      ⟨some 4, .mov (.tmp 11), none, 0⟩])
   (.seq (.ops [⟨some 12, .mov (.tmp 0), none, 0⟩,
      ⟨some 13, .mov (.tmp 4), none, 0⟩,
      ⟨some 14, .indexStr (.tmp 12) (.tmp 13), none, 0⟩,
      ⟨some 5, .mov (.tmp 14), none, 0⟩])
   (.block 2
    (.seq (.ops [⟨some 25, .mov (.tmp 5), none, 0⟩,
       ⟨some 26, .call (.fn 72) [(.tmp 25)], none, 0⟩,
       ⟨some 24, .mov (.tmp 26), none, 0⟩])
    (.cond (.tmp 24)
     (.ops [⟨some 27, .mov (.tmp 5), none, 0⟩,
        ⟨some 28, .call (.fn 71) [(.tmp 3), (.tmp 27)], none, 0⟩])
     (.seq (.ops [⟨some 30, .mov (.tmp 5), none, 0⟩,
         ⟨some 31, .bin .eql (.tmp 30) (.con (.int .u8 10)), none, 0⟩,
         ⟨some 29, .mov (.tmp 31), none, 0⟩])
      (.cond (.tmp 29)
       (.ops [⟨some 32, .call (.fn 73) [(.tmp 3), (.con (.str [92, 110]))], none, 0⟩])
       (.seq (.ops [⟨some 34, .mov (.tmp 5), none, 0⟩,
           ⟨some 35, .bin .eql (.tmp 34) (.con (.int .u8 34)), none, 0⟩,
           ⟨some 36, .mov (.tmp 35), none, 0⟩,
           ⟨some 37, .mov (.tmp 5), some (36, false), 0⟩,
           ⟨some 38, .bin .eql (.tmp 37) (.con (.int .u8 92)), some (36, false), 0⟩,
           ⟨some 39, .pick (.tmp 36) (.con (.bool true)) (.tmp 38), none, 0⟩,
           ⟨some 33, .mov (.tmp 39), none, 0⟩])
        (.cond (.tmp 33)
         (.seq (.ops [⟨some 40, .call (.fn 71) [(.tmp 3), (.con (.int .u8 92))], none, 0⟩])
          (.ops [⟨some 41, .mov (.tmp 5), none, 0⟩,
            ⟨some 42, .call (.fn 71) [(.tmp 3), (.tmp 41)], none, 0⟩]))
         (.seq (.ops [⟨some 15, .call (.fn 73) [(.tmp 3), (.con (.str [92, 120]))], none, 0⟩])
          (.seq (.ops [⟨some 16, .mov (.tmp 5), none, 0⟩,
             ⟨some 17, .bin .shr (.tmp 16) (.con (.int .u64 4)), none, 0⟩,
             ⟨some 18, .indexStr (.con (.str [48, 49, 50, 51, 52, 53, 54, 55, 56, 57, 97, 98, 99, 100, 101, 102])) (.tmp 17), none, 0⟩,
             ⟨some 19, .call (.fn 71) [(.tmp 3), (.tmp 18)], none, 0⟩])
          (.ops [⟨some 20, .mov (.tmp 5), none, 0⟩,
            ⟨some 21, .bin .and (.tmp 20) (.con (.int .u8 15)), none, 0⟩,
            ⟨some 22, .indexStr (.con (.str [48, 49, 50, 51, 52, 53, 54, 55, 56, 57, 97, 98, 99, 100, 101, 102])) (.tmp 21), none, 0⟩,
            ⟨some 23, .call (.fn 71) [(.tmp 3), (.tmp 22)], none, 0⟩])))))))))))))
 (.ops [⟨some 43, .bin .add (.tmp 9) (.con (.int .i64 1)), none, 0⟩,
   ⟨some 9, .mov (.tmp 43), none, 0⟩]))))
def f_name_Quote_s0 (t0 t3 t8 t9 : AV) : List AV := [t0, .unk, .unk, t3, .unk, .unk, .unk, .unk, t8, t9, .unk, .unk, .unk, .unk, .unk, .unk, .unk, .unk, .unk, .unk, .unk, .unk, .unk, .unk, .unk, .unk, .unk, .unk, .unk, .unk, .unk, .unk, .unk, .unk, .unk, .unk, .unk, .unk, .unk, .unk, .unk, .unk, .unk, .unk, .unk, .unk]
def f_name_Quote : XFunc := { ntmps := 46, res := [.tmp 2], pure := true, body :=
  (.seq (.ops [⟨some 2, .mov (.con (.str [])), none, 0⟩])
  (.seq (.ops [⟨some 3, .allocT 0 [.nilp, .nils], none, 0⟩])
  (.seq (.ops [⟨some 6, .call (.fn 71) [(.tmp 3), (.con (.int .u8 34))], none, 0⟩])
  (.seq (.seq (.ops [⟨some 7, .mov (.tmp 0), none, 0⟩,
      ⟨some 8, .lenS (.tmp 7), none, 0⟩,
      ⟨some 9, .mov (.con (.int .i64 0)), none, 0⟩])
   (.block 0
    (.loop f_name_Quote_k0 f_name_Quote_b0)))
  (.seq (.ops [⟨some 44, .call (.fn 71) [(.tmp 3), (.con (.int .u8 34))], none, 0⟩])
  (.seq (.ops [⟨some 45, .call (.fn 74) [(.tmp 3)], none, 0⟩,
     ⟨some 2, .mov (.tmp 45), none, 0⟩])
  .ret)))))) }
def f_haulageref05_hex_k0 : List Bool := [true, false, false, true, true, false, false, false, false, false, false, false, false, false, false, false, false, false, false, false, false, false, false, false, false, false, false, false, false, false, false, false, false, false, false]
def f_haulageref05_hex_b0 : XCode :=
  (.seq (.seq (.ops [⟨some 5, .mov (.tmp 4), none, 0⟩,
     ⟨some 6, .mov (.tmp 0), none, 0⟩,
     ⟨some 7, .lenS (.tmp 6), none, 0⟩,
     ⟨some 8, .bin .lss (.tmp 5) (.tmp 7), none, 0⟩])
  (.cond (.tmp 8)
   .skip
   (.exit 0)))
 (.seq (.block 1
   (.draw [⟨some 11, .mov (.tmp 3), none, 0⟩,
     ⟨some 12, .mov (.tmp 0), none, 0⟩,
     ⟨some 13, .mov (.tmp 4), none, 0⟩,
     ⟨some 14, .indexStr (.tmp 12) (.tmp 13), none, 0⟩,
     ⟨some 15, .bin .quo (.tmp 14) (.con (.int .u8 16)), none, 0⟩,
     ⟨some 16, .mov (.tmp 0), none, 0⟩,
     ⟨some 17, .mov (.tmp 4), none, 0⟩,
     ⟨some 18, .indexStr (.tmp 16) (.tmp 17), none, 0⟩,
     ⟨some 19, .bin .quo (.tmp 18) (.con (.int .u8 16)), none, 0⟩,
     ⟨some 20, .bin .add (.tmp 19) (.con (.int .u8 1)), none, 0⟩,
     ⟨some 21, .cutStr (.con (.str [48, 49, 50, 51, 52, 53, 54, 55, 56, 57, 97, 98, 99, 100, 101, 102])) (some (.tmp 15)) (some (.tmp 20)), none, 0⟩,
     ⟨some 22, .bin .add (.tmp 11) (.tmp 21), none, 0⟩,
     ⟨some 23, .mov (.tmp 0), none, 0⟩,
     ⟨some 24, .mov (.tmp 4), none, 0⟩,
     ⟨some 25, .indexStr (.tmp 23) (.tmp 24), none, 0⟩,
     ⟨some 26, .bin .rem (.tmp 25) (.con (.int .u8 16)), none, 0⟩,
     ⟨some 27, .mov (.tmp 0), none, 0⟩,
     ⟨some 28, .mov (.tmp 4), none, 0⟩,
     ⟨some 29, .indexStr (.tmp 27) (.tmp 28), none, 0⟩,
     ⟨some 30, .bin .rem (.tmp 29) (.con (.int .u8 16)), none, 0⟩,
     ⟨some 31, .bin .add (.tmp 30) (.con (.int .u8 1)), none, 0⟩,
     ⟨some 32, .cutStr (.con (.str [48, 49, 50, 51, 52, 53, 54, 55, 56, 57, 97, 98, 99, 100, 101, 102])) (some (.tmp 26)) (some (.tmp 31)), none, 0⟩,
     ⟨some 33, .bin .add (.tmp 22) (.tmp 32), none, 0⟩,
     ⟨some 3, .mov (.tmp 33), none, 0⟩]
    [[], [], [], [1, 2], [1, 2, 3], [], [], [5, 6], [5, 6, 7], [5, 6, 7, 8], [1, 2, 3, 4, 5, 6, 7, 8, 9], [0, 1, 2, 3, 4, 5, 6, 7, 8, 9, 10], [], [], [12, 13], [12, 13, 14], [], [], [16, 17], [16, 17, 18], [16, 17, 18, 19], [12, 13, 14, 15, 16, 17, 18, 19, 20], [0, 1, 2, 3, 4, 5, 6, 7, 8, 9, 10, 11, 12, 13, 14, 15, 16, 17, 18, 19, 20, 21], [0, 1, 2, 3, 4, 5, 6, 7, 8, 9, 10, 11, 12, 13, 14, 15, 16, 17, 18, 19, 20, 21, 22]]))
 (.ops [⟨some 9, .mov (.tmp 4), none, 0⟩,
   ⟨some 10, .bin .add (.tmp 9) (.con (.int .i64 1)), none, 0⟩,
   ⟨some 4, .mov (.tmp 10), none, 0⟩])))
def f_haulageref05_hex_s0 (t0 t3 t4 : AV) : List AV := [t0, .unk, .unk, t3, t4, .unk, .unk, .unk, .unk, .unk, .unk, .unk, .unk, .unk, .unk, .unk, .unk, .unk, .unk, .unk, .unk, .unk, .unk, .unk, .unk, .unk, .unk, .unk, .unk, .unk, .unk, .unk, .unk, .unk, .unk]
def f_haulageref05_hex : XFunc := { ntmps := 35, res := [.tmp 2], pure := true, body :=
  (.seq (.ops [⟨some 2, .mov (.con (.str [])), none, 0⟩])
  (.seq (.ops [⟨some 3, .mov (.con (.str [])), none, 0⟩])
  (.seq (.seq (.ops [⟨some 4, .mov (.con (.int .i64 0)), none, 0⟩])
   (.block 0
    (.loop f_haulageref05_hex_k0 f_haulageref05_hex_b0)))
  (.seq (.ops [⟨some 34, .mov (.tmp 3), none, 0⟩,
     ⟨some 2, .mov (.tmp 34), none, 0⟩])
  .ret)))) }
def f_name_Unquote_k0 : List Bool := [true, false, false, false, false, true, true, false, false, false, false, false, false, false, false, false, false, false, false, false, false, false, false, false, false, false, false, false, false, false, false, false, false, false, false, false, false, false, false, false, false, false, false, false, false, false, false, false, false, false, false, false, false, false, false, false, false, false, false, false]
def f_name_Unquote_b0 : XCode :=
  (.seq (.seq (.ops [⟨some 17, .mov (.tmp 6), none, 0⟩,
     ⟨some 18, .mov (.tmp 0), none, 0⟩,
     ⟨some 19, .lenS (.tmp 18), none, 0⟩,
     ⟨some 20, .bin .lss (.tmp 17) (.tmp 19), none, 0⟩])
  (.cond (.tmp 20)
   .skip
   (.exit 0)))
 (.seq (.block 1
   (.seq (.ops [⟨some 23, .mov (.tmp 0), none, 0⟩,
      ⟨some 24, .mov (.tmp 6), none, 0⟩,
      ⟨some 25, .indexStr (.tmp 23) (.tmp 24), none, 0⟩,
      ⟨some 7, .mov (.tmp 25), none, 0⟩])
   (.block 2
    (.seq (.ops [⟨some 27, .mov (.tmp 7), none, 0⟩,
       ⟨some 28, .bin .eql (.tmp 27) (.con (.int .u8 34)), none, 0⟩,
       ⟨some 26, .mov (.tmp 28), none, 0⟩])
    (.cond (.tmp 26)
     (.seq (.ops [⟨some 29, .mov (.tmp 5), none, 0⟩,
         ⟨some 30, .toStr (.tmp 29), none, 0⟩,
         ⟨some 31, .mov (.tmp 6), none, 0⟩,
         ⟨some 32, .bin .add (.tmp 31) (.con (.int .i64 1)), none, 0⟩,
         ⟨some 2, .mov (.tmp 30), none, 0⟩,
         ⟨some 3, .mov (.tmp 32), none, 0⟩,
         ⟨some 4, .mov (.con (.bool true)), none, 0⟩])
      .ret)
     (.seq (.ops [⟨some 34, .mov (.tmp 7), none, 0⟩,
         ⟨some 35, .call (.fn 72) [(.tmp 34)], none, 0⟩,
         ⟨some 33, .mov (.tmp 35), none, 0⟩])
      (.cond (.tmp 33)
       (.ops [⟨some 36, .mov (.tmp 5), none, 0⟩,
          ⟨some 37, .mov (.tmp 7), none, 0⟩,
          ⟨some 38, .rowLit false 1 1 [.int .u8 0] [(0, 1, (.tmp 37))], none, 0⟩,
          ⟨some 39, .append false 1 1 (.tmp 36) (.tmp 38), none, 0⟩,
          ⟨some 5, .mov (.tmp 39), none, 0⟩])
       (.seq (.ops [⟨some 41, .mov (.tmp 7), none, 0⟩,
           ⟨some 42, .bin .eql (.tmp 41) (.con (.int .u8 92)), none, 0⟩,
           ⟨some 40, .mov (.tmp 42), none, 0⟩])
        (.cond (.tmp 40)
         (.seq (.ops [⟨some 44, .mov (.tmp 0), none, 0⟩,
             ⟨some 45, .mov (.tmp 6), none, 0⟩,
             ⟨some 46, .bin .add (.tmp 45) (.con (.int .i64 1)), none, 0⟩,
             ⟨some 47, .cutStr (.tmp 44) (some (.tmp 46)) none, none, 0⟩,
             ⟨some 48, .call (.fn 75) [(.tmp 47)], none, 0⟩,
             ⟨some 43, .mov (.tmp 48), none, 0⟩,
             ⟨some 49, .extract (.tmp 43) 0, none, 0⟩,
             ⟨some 50, .extract (.tmp 43) 1, none, 0⟩,
             ⟨some 8, .mov (.tmp 49), none, 0⟩,
             ⟨some 9, .mov (.tmp 50), none, 0⟩])
          (.seq (.seq (.ops [⟨some 51, .mov (.tmp 9), none, 0⟩,
              ⟨some 52, .bin .eql (.tmp 51) (.con (.int .i64 0)), none, 0⟩])
           (.cond (.tmp 52)
            (.seq (.ops [⟨some 2, .mov (.con (.str [])), none, 0⟩,
                ⟨some 3, .mov (.con (.int .i64 0)), none, 0⟩,
                ⟨some 4, .mov (.con (.bool false)), none, 0⟩])
             .ret)
            .skip))
          (.seq (.ops [⟨some 53, .mov (.tmp 5), none, 0⟩,
             ⟨some 54, .mov (.tmp 8), none, 0⟩,
             ⟨some 55, .rowLit false 1 1 [.int .u8 0] [(0, 1, (.tmp 54))], none, 0⟩,
             ⟨some 56, .append false 1 1 (.tmp 53) (.tmp 55), none, 0⟩,
             ⟨some 5, .mov (.tmp 56), none, 0⟩])
          (.ops [⟨some 57, .mov (.tmp 6), none, 0⟩,
            ⟨some 58, .mov (.tmp 9), none, 0⟩,
            ⟨some 59, .bin .add (.tmp 57) (.tmp 58), none, 0⟩,
            ⟨some 6, .mov (.tmp 59), none, 0⟩]))))
         (.seq (.ops [⟨some 2, .mov (.con (.str [])), none, 0⟩,
             ⟨some 3, .mov (.con (.int .i64 0)), none, 0⟩,
             ⟨some 4, .mov (.con (.bool false)), none, 0⟩])
          .ret))))))))))
 (.ops [⟨some 21, .mov (.tmp 6), none, 0⟩,
   ⟨some 22, .bin .add (.tmp 21) (.con (.int .i64 1)), none, 0⟩,
   ⟨some 6, .mov (.tmp 22), none, 0⟩])))
def f_name_Unquote_s0 (t0 t5 t6 : AV) : List AV := [t0, .unk, .unk, .unk, .unk, t5, t6, .unk, .unk, .unk, .unk, .unk, .unk, .unk, .unk, .unk, .unk, .unk, .unk, .unk, .unk, .unk, .unk, .unk, .unk, .unk, .unk, .unk, .unk, .unk, .unk, .unk, .unk, .unk, .unk, .unk, .unk, .unk, .unk, .unk, .unk, .unk, .unk, .unk, .unk, .unk, .unk, .unk, .unk, .unk, .unk, .unk, .unk, .unk, .unk, .unk, .unk, .unk, .unk, .unk]
def f_name_Unquote : XFunc := { ntmps := 60, res := [.tmp 2, .tmp 3, .tmp 4], pure := true, body :=
  (.seq (.ops [⟨some 2, .mov (.con (.str [])), none, 0⟩,
     ⟨some 3, .mov (.con (.int .i64 0)), none, 0⟩,
     ⟨some 4, .mov (.con (.bool false)), none, 0⟩])
  (.seq (.seq (.ops [⟨some 10, .mov (.tmp 0), none, 0⟩,
      ⟨some 11, .bin .eql (.tmp 10) (.con (.str [])), none, 0⟩,
      ⟨some 12, .mov (.tmp 11), none, 0⟩,
      ⟨some 13, .mov (.tmp 0), some (12, false), 0⟩,
      ⟨some 14, .indexStr (.tmp 13) (.con (.int .i64 0)), some (12, false), 0⟩,
      ⟨some 15, .bin .neq (.tmp 14) (.con (.int .u8 34)), some (12, false), 0⟩,
      ⟨some 16, .pick (.tmp 12) (.con (.bool true)) (.tmp 15), none, 0⟩])
   (.cond (.tmp 16)
    (.seq (.ops [⟨some 2, .mov (.con (.str [])), none, 0⟩,
        ⟨some 3, .mov (.con (.int .i64 0)), none, 0⟩,
        ⟨some 4, .mov (.con (.bool false)), none, 0⟩])
     .ret)
    .skip))
  (.seq (.ops [⟨some 5, .mov (.con .nils), none, 0⟩])
  (.seq (.seq (.ops [⟨some 6, .mov (.con (.int .i64 1)), none, 0⟩])
   (.block 0
    (.loop f_name_Unquote_k0 f_name_Unquote_b0)))
  (.seq (.ops [⟨some 2, .mov (.con (.str [])), none, 0⟩,
     ⟨some 3, .mov (.con (.int .i64 0)), none, 0⟩,
     ⟨some 4, .mov (.con (.bool false)), none, 0⟩])
  .ret))))) }
def f_strings_IndexByte : XFunc := { ntmps := 8, res := [.tmp 4], pure := true, body :=
  (.seq (.ops [⟨some 4, .mov (.con (.int .i64 0)), none, 0⟩])
  (.seq (.ops [⟨some 5, .mov (.tmp 0), none, 0⟩,
     ⟨some 6, .mov (.tmp 1), none, 0⟩,
     ⟨some 7, .call (.fn 76) [(.tmp 5), (.tmp 6)], none, 0⟩,
     ⟨some 4, .mov (.tmp 7), none, 0⟩])
  .ret)) }
def f_haulageref04_one : XFunc := { ntmps := 43, res := [.tmp 2], pure := true, body :=
  (.seq (.ops [⟨some 2, .mov (.con (.str [])), none, 0⟩])
  (.seq (.ops [⟨some 3, .mov (.con (.str [48, 49, 50, 51, 52, 53, 54, 55, 56, 57, 97, 98, 99, 100, 101, 102])), none, 0⟩])
  (.seq (.block 0
    (.seq (.ops [⟨some 5, .mov (.tmp 0), none, 0⟩,
       ⟨some 6, .bin .eql (.tmp 5) (.con (.int .u8 34)), none, 0⟩,
       ⟨some 7, .mov (.tmp 6), none, 0⟩,
       ⟨some 8, .mov (.tmp 0), some (7, false), 0⟩,
       ⟨some 9, .bin .eql (.tmp 8) (.con (.int .u8 92)), some (7, false), 0⟩,
       ⟨some 10, .pick (.tmp 7) (.con (.bool true)) (.tmp 9), none, 0⟩,
       ⟨some 4, .mov (.tmp 10), none, 0⟩])
    (.cond (.tmp 4)
     (.seq (.ops [⟨some 11, .mov (.tmp 0), none, 0⟩,
         ⟨some 12, .rowLit false 1 2 [.int .u8 0] [(0, 1, (.con (.int .u8 92))), (1, 1, (.tmp 11))], none, 0⟩,
         ⟨some 13, .toStr (.tmp 12), none, 0⟩,
         ⟨some 2, .mov (.tmp 13), none, 0⟩])
      .ret)
     (.seq (.ops [⟨some 15, .mov (.tmp 0), none, 0⟩,
         ⟨some 16, .bin .eql (.tmp 15) (.con (.int .u8 10)), none, 0⟩,
         ⟨some 14, .mov (.tmp 16), none, 0⟩])
      (.cond (.tmp 14)
       (.seq (.ops [⟨some 2, .mov (.con (.str [92, 110])), none, 0⟩])
        .ret)
       (.seq (.ops [⟨some 18, .mov (.tmp 0), none, 0⟩,
           ⟨some 19, .bin .lss (.tmp 18) (.con (.int .u8 32)), none, 0⟩,
           ⟨some 20, .mov (.tmp 19), none, 0⟩,
           ⟨some 21, .mov (.tmp 0), some (20, false), 0⟩,
           ⟨some 22, .bin .gtr (.tmp 21) (.con (.int .u8 126)), some (20, false), 0⟩,
           ⟨some 23, .pick (.tmp 20) (.con (.bool true)) (.tmp 22), none, 0⟩,
           ⟨some 17, .mov (.tmp 23), none, 0⟩])
        (.cond (.tmp 17)
         (.seq (.draw [⟨some 24, .mov (.tmp 3), none, 0⟩,
             ⟨some 25, .mov (.tmp 0), none, 0⟩,
             ⟨some 26, .bin .quo (.tmp 25) (.con (.int .u8 16)), none, 0⟩,
             ⟨some 27, .mov (.tmp 0), none, 0⟩,
             ⟨some 28, .bin .quo (.tmp 27) (.con (.int .u8 16)), none, 0⟩,
             ⟨some 29, .bin .add (.tmp 28) (.con (.int .u8 1)), none, 0⟩,
             ⟨some 30, .cutStr (.tmp 24) (some (.tmp 26)) (some (.tmp 29)), none, 0⟩,
             ⟨some 31, .bin .add (.con (.str [92, 120])) (.tmp 30), none, 0⟩,
             ⟨some 32, .mov (.tmp 3), none, 0⟩,
             ⟨some 33, .mov (.tmp 0), none, 0⟩,
             ⟨some 34, .bin .rem (.tmp 33) (.con (.int .u8 16)), none, 0⟩,
             ⟨some 35, .mov (.tmp 0), none, 0⟩,
             ⟨some 36, .bin .rem (.tmp 35) (.con (.int .u8 16)), none, 0⟩,
             ⟨some 37, .bin .add (.tmp 36) (.con (.int .u8 1)), none, 0⟩,
             ⟨some 38, .cutStr (.tmp 32) (some (.tmp 34)) (some (.tmp 37)), none, 0⟩,
             ⟨some 39, .bin .add (.tmp 31) (.tmp 38), none, 0⟩,
             ⟨some 2, .mov (.tmp 39), none, 0⟩]
            [[], [], [1], [], [3], [3, 4], [0, 1, 2, 3, 4, 5], [0, 1, 2, 3, 4, 5, 6], [], [], [9], [], [11], [11, 12], [8, 9, 10, 11, 12, 13], [0, 1, 2, 3, 4, 5, 6, 7, 8, 9, 10, 11, 12, 13, 14], [0, 1, 2, 3, 4, 5, 6, 7, 8, 9, 10, 11, 12, 13, 14, 15]])
          .ret)
         .skip)))))))
  (.seq (.ops [⟨some 40, .mov (.tmp 0), none, 0⟩,
     ⟨some 41, .rowLit false 1 1 [.int .u8 0] [(0, 1, (.tmp 40))], none, 0⟩,
     ⟨some 42, .toStr (.tmp 41), none, 0⟩,
     ⟨some 2, .mov (.tmp 42), none, 0⟩])
  .ret)))) }
def f_haulageref04_starts : XFunc := { ntmps := 18, res := [.tmp 4], pure := true, body :=
  (.seq (.ops [⟨some 4, .mov (.con (.bool false)), none, 0⟩])
  (.seq (.ops [⟨some 5, .mov (.tmp 0), none, 0⟩,
     ⟨some 6, .lenS (.tmp 5), none, 0⟩,
     ⟨some 7, .mov (.tmp 1), none, 0⟩,
     ⟨some 8, .lenS (.tmp 7), none, 0⟩,
     ⟨some 9, .bin .geq (.tmp 6) (.tmp 8), none, 0⟩,
     ⟨some 10, .mov (.tmp 9), none, 0⟩,
     ⟨some 11, .mov (.tmp 0), some (10, true), 0⟩,
     ⟨some 12, .mov (.tmp 1), some (10, true), 0⟩,
     ⟨some 13, .lenS (.tmp 12), some (10, true), 0⟩,
     ⟨some 14, .cutStr (.tmp 11) none (some (.tmp 13)), some (10, true), 0⟩,
     ⟨some 15, .mov (.tmp 1), some (10, true), 0⟩,
     ⟨some 16, .bin .eql (.tmp 14) (.tmp 15), some (10, true), 0⟩,
     ⟨some 17, .pick (.tmp 10) (.tmp 16) (.con (.bool false)), none, 0⟩,
     ⟨some 4, .mov (.tmp 17), none, 0⟩])
  .ret)) }
def f_strings_Builder_WriteByte : XFunc := { ntmps := 17, res := [.tmp 4], pure := false, body :=
  (.seq (.ops [⟨some 4, .mov (.con .nili), none, 0⟩])
  (.seq (.ops [⟨some 5, .mov (.tmp 0), none, 0⟩,
     ⟨some 6, .call (.fn 77) [(.tmp 5)], none, 0⟩])
  (.seq (.ops [⟨some 7, .mov (.tmp 0), none, 0⟩,
     ⟨some 8, .mov (.tmp 0), none, 0⟩,
     ⟨some 9, .nilCheck (.tmp 8), none, 0⟩,
     ⟨some 10, .fieldAddr 1 (.tmp 9), none, 0⟩,
     ⟨some 11, .load 1 false (.tmp 10), none, 0⟩,
     ⟨some 12, .mov (.tmp 1), none, 0⟩,
     ⟨some 13, .rowLit false 1 1 [.int .u8 0] [(0, 1, (.tmp 12))], none, 0⟩,
     ⟨some 14, .appendT 1 1 1 (.tmp 11) (.tmp 13), none, 0⟩,
     ⟨some 15, .nilCheck (.tmp 7), none, 0⟩,
     ⟨some 16, .fieldAddr 1 (.tmp 15), none, 0⟩,
     ⟨none, .store 1 (.tmp 16) (.tmp 14), none, 0⟩])
  (.seq (.ops [⟨some 4, .mov (.con .nili), none, 0⟩])
  .ret)))) }
def f_name_plain : XFunc := { ntmps := 17, res := [.tmp 2], pure := true, body :=
  (.seq (.ops [⟨some 2, .mov (.con (.bool false)), none, 0⟩])
  (.seq (.ops [⟨some 3, .mov (.tmp 0), none, 0⟩,
     ⟨some 4, .bin .geq (.tmp 3) (.con (.int .u8 32)), none, 0⟩,
     ⟨some 5, .mov (.tmp 4), none, 0⟩,
     ⟨some 6, .mov (.tmp 0), some (5, true), 0⟩,
     ⟨some 7, .bin .leq (.tmp 6) (.con (.int .u8 126)), some (5, true), 0⟩,
     ⟨some 8, .pick (.tmp 5) (.tmp 7) (.con (.bool false)), none, 0⟩,
     ⟨some 9, .mov (.tmp 8), none, 0⟩,
     ⟨some 10, .mov (.tmp 0), some (9, true), 0⟩,
     ⟨some 11, .bin .neq (.tmp 10) (.con (.int .u8 34)), some (9, true), 0⟩,
     ⟨some 12, .pick (.tmp 9) (.tmp 11) (.con (.bool false)), none, 0⟩,
     ⟨some 13, .mov (.tmp 12), none, 0⟩,
     ⟨some 14, .mov (.tmp 0), some (13, true), 0⟩,
     ⟨some 15, .bin .neq (.tmp 14) (.con (.int .u8 92)), some (13, true), 0⟩,
     ⟨some 16, .pick (.tmp 13) (.tmp 15) (.con (.bool false)), none, 0⟩,
     ⟨some 2, .mov (.tmp 16), none, 0⟩])
  .ret)) }
def f_strings_Builder_WriteString : XFunc := { ntmps := 19, res := [.tmp 4, .tmp 5], pure := false, body :=
  (.seq (.ops [⟨some 4, .mov (.con (.int .i64 0)), none, 0⟩,
     ⟨some 5, .mov (.con .nili), none, 0⟩])
  (.seq (.ops [⟨some 6, .mov (.tmp 0), none, 0⟩,
     ⟨some 7, .call (.fn 77) [(.tmp 6)], none, 0⟩])
  (.seq (.ops [⟨some 8, .mov (.tmp 0), none, 0⟩,
     ⟨some 9, .mov (.tmp 0), none, 0⟩,
     ⟨some 10, .nilCheck (.tmp 9), none, 0⟩,
     ⟨some 11, .fieldAddr 1 (.tmp 10), none, 0⟩,
     ⟨some 12, .load 1 false (.tmp 11), none, 0⟩,
     ⟨some 13, .mov (.tmp 1), none, 0⟩,
     ⟨some 14, .appendT 1 1 1 (.tmp 12) (.tmp 13), none, 0⟩,
     ⟨some 15, .nilCheck (.tmp 8), none, 0⟩,
     ⟨some 16, .fieldAddr 1 (.tmp 15), none, 0⟩,
     ⟨none, .store 1 (.tmp 16) (.tmp 14), none, 0⟩])
  (.seq (.ops [⟨some 17, .mov (.tmp 1), none, 0⟩,
     ⟨some 18, .lenS (.tmp 17), none, 0⟩,
     ⟨some 4, .mov (.tmp 18), none, 0⟩,
     ⟨some 5, .mov (.con .nili), none, 0⟩])
  .ret)))) }
def f_strings_Builder_String : XFunc := { ntmps := 14, res := [.tmp 2], pure := false, body :=
  (.seq (.ops [⟨some 2, .mov (.con (.str [])), none, 0⟩])
  (.seq (.draw [⟨some 3, .mov (.tmp 0), none, 0⟩,
     ⟨some 4, .nilCheck (.tmp 3), none, 0⟩,
     ⟨some 5, .fieldAddr 1 (.tmp 4), none, 0⟩,
     ⟨some 6, .load 1 false (.tmp 5), none, 0⟩,
     ⟨some 7, .sliceData (.tmp 6), none, 0⟩,
     ⟨some 8, .mov (.tmp 0), none, 0⟩,
     ⟨some 9, .nilCheck (.tmp 8), none, 0⟩,
     ⟨some 10, .fieldAddr 1 (.tmp 9), none, 0⟩,
     ⟨some 11, .load 1 false (.tmp 10), none, 0⟩,
     ⟨some 12, .len (.tmp 11), none, 0⟩,
     ⟨some 13, .strOf 1 (.tmp 7) (.tmp 12), none, 2⟩,
     ⟨some 2, .mov (.tmp 13), none, 0⟩]
    [[], [0], [0, 1], [0, 1, 2], [0, 1, 2, 3], [], [5], [5, 6], [5, 6, 7], [5, 6, 7, 8], [0, 1, 2, 3, 4, 5, 6, 7, 8, 9], [0, 1, 2, 3, 4, 5, 6, 7, 8, 9, 10]])
  .ret)) }
def f_name_escaped : XFunc := { ntmps := 53, res := [.tmp 2, .tmp 3], pure := true, body :=
  (.seq (.ops [⟨some 2, .mov (.con (.int .u8 0)), none, 0⟩,
     ⟨some 3, .mov (.con (.int .i64 0)), none, 0⟩])
  (.seq (.seq (.ops [⟨some 7, .mov (.tmp 0), none, 0⟩,
      ⟨some 8, .bin .eql (.tmp 7) (.con (.str [])), none, 0⟩])
   (.cond (.tmp 8)
    (.seq (.ops [⟨some 2, .mov (.con (.int .u8 0)), none, 0⟩,
        ⟨some 3, .mov (.con (.int .i64 0)), none, 0⟩])
     .ret)
    .skip))
  (.seq (.seq (.ops [⟨some 9, .mov (.tmp 0), none, 0⟩,
      ⟨some 10, .indexStr (.tmp 9) (.con (.int .i64 0)), none, 0⟩])
   (.block 0
    (.seq (.ops [⟨some 12, .bin .eql (.tmp 10) (.con (.int .u8 110)), none, 0⟩,
       ⟨some 11, .mov (.tmp 12), none, 0⟩])
    (.cond (.tmp 11)
     (.seq (.ops [⟨some 2, .mov (.con (.int .u8 10)), none, 0⟩,
         ⟨some 3, .mov (.con (.int .i64 1)), none, 0⟩])
      .ret)
     (.seq (.seq (.ops [⟨some 14, .bin .eql (.tmp 10) (.con (.int .u8 34)), none, 0⟩,
          ⟨some 13, .mov (.tmp 14), none, 0⟩])
       (.cond (.tmp 13)
        .skip
        (.ops [⟨some 15, .bin .eql (.tmp 10) (.con (.int .u8 92)), none, 0⟩,
           ⟨some 13, .mov (.tmp 15), none, 0⟩])))
      (.cond (.tmp 13)
       (.seq (.ops [⟨some 16, .mov (.tmp 0), none, 0⟩,
           ⟨some 17, .indexStr (.tmp 16) (.con (.int .i64 0)), none, 0⟩,
           ⟨some 2, .mov (.tmp 17), none, 0⟩,
           ⟨some 3, .mov (.con (.int .i64 1)), none, 0⟩])
        .ret)
       (.seq (.ops [⟨some 19, .bin .eql (.tmp 10) (.con (.int .u8 120)), none, 0⟩,
           ⟨some 18, .mov (.tmp 19), none, 0⟩])
        (.cond (.tmp 18)
         (.seq (.seq (.ops [⟨some 20, .mov (.tmp 0), none, 0⟩,
              ⟨some 21, .lenS (.tmp 20), none, 0⟩,
              ⟨some 22, .bin .lss (.tmp 21) (.con (.int .i64 3)), none, 0⟩])
           (.cond (.tmp 22)
            (.seq (.ops [⟨some 2, .mov (.con (.int .u8 0)), none, 0⟩,
                ⟨some 3, .mov (.con (.int .i64 0)), none, 0⟩])
             .ret)
            .skip))
          (.seq (.draw [⟨some 23, .mov (.tmp 0), none, 0⟩,
             ⟨some 24, .indexStr (.tmp 23) (.con (.int .i64 1)), none, 0⟩,
             ⟨some 25, .call (.fn 64) [(.con (.str [48, 49, 50, 51, 52, 53, 54, 55, 56, 57, 97, 98, 99, 100, 101, 102])), (.tmp 24)], none, 1⟩,
             ⟨some 26, .mov (.tmp 0), none, 0⟩,
             ⟨some 27, .indexStr (.tmp 26) (.con (.int .i64 2)), none, 0⟩,
             ⟨some 28, .call (.fn 64) [(.con (.str [48, 49, 50, 51, 52, 53, 54, 55, 56, 57, 97, 98, 99, 100, 101, 102])), (.tmp 27)], none, 1⟩,
             ⟨some 4, .mov (.tmp 25), none, 0⟩,
             ⟨some 5, .mov (.tmp 28), none, 0⟩]
            [[], [0], [0, 1], [], [3], [0, 1, 2, 3, 4], [0, 1, 2, 3, 4, 5], [0, 1, 2, 3, 4, 5, 6]])
          (.seq (.ops [⟨some 29, .mov (.tmp 4), none, 0⟩,
             ⟨some 30, .bin .shl (.tmp 29) (.con (.int .u64 4)), none, 0⟩,
             ⟨some 31, .mov (.tmp 5), none, 0⟩,
             ⟨some 32, .bin .or (.tmp 30) (.tmp 31), none, 0⟩,
             ⟨some 33, .toInt .u8 (.tmp 32), none, 0⟩,
             ⟨some 6, .mov (.tmp 33), none, 0⟩])
          (.seq (.seq (.ops [⟨some 34, .mov (.tmp 4), none, 0⟩,
              ⟨some 35, .bin .lss (.tmp 34) (.con (.int .i64 0)), none, 0⟩,
              ⟨some 36, .mov (.tmp 35), none, 0⟩,
              ⟨some 37, .mov (.tmp 5), some (36, false), 0⟩,
              ⟨some 38, .bin .lss (.tmp 37) (.con (.int .i64 0)), some (36, false), 0⟩,
              ⟨some 39, .pick (.tmp 36) (.con (.bool true)) (.tmp 38), none, 0⟩,
              ⟨some 40, .mov (.tmp 39), none, 0⟩,
              ⟨some 41, .mov (.tmp 6), some (40, false), 0⟩,
              ⟨some 42, .bin .geq (.tmp 41) (.con (.int .u8 32)), some (40, false), 0⟩,
              ⟨some 43, .mov (.tmp 42), some (40, false), 0⟩,
              ⟨some 44, .mov (.tmp 6), some (43, true), 0⟩,
              ⟨some 45, .bin .leq (.tmp 44) (.con (.int .u8 126)), some (43, true), 0⟩,
              ⟨some 46, .pick (.tmp 43) (.tmp 45) (.con (.bool false)), some (40, false), 0⟩,
              ⟨some 47, .pick (.tmp 40) (.con (.bool true)) (.tmp 46), none, 0⟩,
              ⟨some 48, .mov (.tmp 47), none, 0⟩,
              ⟨some 49, .mov (.tmp 6), some (48, false), 0⟩,
              ⟨some 50, .bin .eql (.tmp 49) (.con (.int .u8 10)), some (48, false), 0⟩,
              ⟨some 51, .pick (.tmp 48) (.con (.bool true)) (.tmp 50), none, 0⟩])
           (.cond (.tmp 51)
            (.seq (.ops [⟨some 2, .mov (.con (.int .u8 0)), none, 0⟩,
                ⟨some 3, .mov (.con (.int .i64 0)), none, 0⟩])
             .ret)
            .skip))
          (.seq (.ops [⟨some 52, .mov (.tmp 6), none, 0⟩,
             ⟨some 2, .mov (.tmp 52), none, 0⟩,
             ⟨some 3, .mov (.con (.int .i64 3)), none, 0⟩])
          .ret)))))
         .skip))))))))
  (.seq (.ops [⟨some 2, .mov (.con (.int .u8 0)), none, 0⟩,
     ⟨some 3, .mov (.con (.int .i64 0)), none, 0⟩])
  .ret)))) }
def f_internal_stringslite_IndexByte : XFunc := { ntmps := 8, res := [.tmp 4], pure := true, body :=
  (.seq (.ops [⟨some 4, .mov (.con (.int .i64 0)), none, 0⟩])
  (.seq (.ops [⟨some 5, .mov (.tmp 0), none, 0⟩,
     ⟨some 6, .mov (.tmp 1), none, 0⟩,
     ⟨some 7, .idxByte 226 (.fn 226) (.tmp 5) (.tmp 6), none, 0⟩,
     ⟨some 4, .mov (.tmp 7), none, 0⟩])
  .ret)) }
def f_strings_Builder_copyCheck : XFunc := { ntmps := 20, res := [], pure := false, body :=
  (.seq (.ops [⟨some 2, .mov (.tmp 0), none, 0⟩,
     ⟨some 3, .nilCheck (.tmp 2), none, 0⟩,
     ⟨some 4, .fieldAddr 0 (.tmp 3), none, 0⟩,
     ⟨some 5, .load 1 false (.tmp 4), none, 0⟩,
     ⟨some 6, .nilPtr false (.tmp 5), none, 0⟩])
  (.cond (.tmp 6)
   (.ops [⟨some 7, .mov (.tmp 0), none, 0⟩,
      ⟨some 8, .mov (.tmp 0), none, 0⟩,
      ⟨some 9, .cast false 0 2 (.tmp 8), none, 0⟩,
      ⟨some 10, .noEsc 227 (.fn 227) (.tmp 9), none, 0⟩,
      ⟨some 11, .cast true 0 2 (.tmp 10), none, 0⟩,
      ⟨some 12, .nilCheck (.tmp 7), none, 0⟩,
      ⟨some 13, .fieldAddr 0 (.tmp 12), none, 0⟩,
      ⟨none, .store 1 (.tmp 13) (.tmp 11), none, 0⟩])
   (.seq (.ops [⟨some 14, .mov (.tmp 0), none, 0⟩,
       ⟨some 15, .nilCheck (.tmp 14), none, 0⟩,
       ⟨some 16, .fieldAddr 0 (.tmp 15), none, 0⟩,
       ⟨some 17, .load 1 false (.tmp 16), none, 0⟩,
       ⟨some 18, .mov (.tmp 0), none, 0⟩,
       ⟨some 19, .eqPtr true (.tmp 17) (.tmp 18), none, 0⟩])
    (.cond (.tmp 19)
     .refuse
     .skip)))) }
end Hx.Fn
