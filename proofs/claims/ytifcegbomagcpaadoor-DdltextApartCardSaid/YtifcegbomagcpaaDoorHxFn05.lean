/- HxFn05: written by gen.py -/
import Derived.Test.YtifcegbomagcpaaDoorHxDefs
namespace Hx.Fn
open Go
def f_value_Read : XFunc := { ntmps := 55, res := [.cell 2 3 true, .tmp 3, .tmp 4], pure := true, body :=
  (.seq (.ops [⟨some 2, .alloc [.int .i64 0, .int .i64 0, .str []], none, 0⟩,
     ⟨some 3, .mov (.con (.int .i64 0)), none, 0⟩,
     ⟨some 4, .mov (.con (.int .i64 0)), none, 0⟩])
  (.seq (.block 0
    (.seq (.ops [⟨some 6, .mov (.tmp 0), none, 0⟩,
       ⟨some 7, .bin .eql (.tmp 6) (.con (.str [])), none, 0⟩,
       ⟨some 5, .mov (.tmp 7), none, 0⟩])
    (.cond (.tmp 5)
     (.seq (.ops [⟨some 8, .build [.int .i64 0, .int .i64 0, .str []] [], none, 0⟩,
         ⟨none, .store 3 (.tmp 2) (.tmp 8), none, 0⟩,
         ⟨some 3, .mov (.con (.int .i64 0)), none, 0⟩,
         ⟨some 4, .mov (.con (.int .i64 5)), none, 0⟩])
      .ret)
     (.seq (.ops [⟨some 10, .mov (.tmp 0), none, 0⟩,
         ⟨some 11, .indexStr (.tmp 10) (.con (.int .i64 0)), none, 0⟩,
         ⟨some 12, .bin .eql (.tmp 11) (.con (.int .u8 45)), none, 0⟩,
         ⟨some 13, .mov (.tmp 12), none, 0⟩,
         ⟨some 14, .mov (.tmp 0), some (13, false), 0⟩,
         ⟨some 15, .indexStr (.tmp 14) (.con (.int .i64 0)), some (13, false), 0⟩,
         ⟨some 16, .call (.fn 45) [(.tmp 15)], some (13, false), 0⟩,
         ⟨some 17, .pick (.tmp 13) (.con (.bool true)) (.tmp 16), none, 0⟩,
         ⟨some 9, .mov (.tmp 17), none, 0⟩])
      (.cond (.tmp 9)
       (.ops [⟨some 19, .mov (.tmp 0), none, 0⟩,
          ⟨some 20, .call (.fn 46) [(.tmp 19)], none, 0⟩,
          ⟨some 18, .mov (.tmp 20), none, 0⟩,
          ⟨some 21, .extract (.tmp 18) 0, none, 0⟩,
          ⟨some 22, .extract (.tmp 18) 1, none, 0⟩,
          ⟨some 23, .extract (.tmp 18) 2, none, 0⟩,
          ⟨none, .store 3 (.tmp 2) (.tmp 21), none, 0⟩,
          ⟨some 3, .mov (.tmp 22), none, 0⟩,
          ⟨some 4, .mov (.tmp 23), none, 0⟩])
       (.seq (.ops [⟨some 25, .mov (.tmp 0), none, 0⟩,
           ⟨some 26, .indexStr (.tmp 25) (.con (.int .i64 0)), none, 0⟩,
           ⟨some 27, .bin .eql (.tmp 26) (.con (.int .u8 34)), none, 0⟩,
           ⟨some 24, .mov (.tmp 27), none, 0⟩])
        (.cond (.tmp 24)
         (.ops [⟨some 29, .mov (.tmp 0), none, 0⟩,
            ⟨some 30, .call (.fn 47) [(.tmp 29)], none, 0⟩,
            ⟨some 28, .mov (.tmp 30), none, 0⟩,
            ⟨some 31, .extract (.tmp 28) 0, none, 0⟩,
            ⟨some 32, .extract (.tmp 28) 1, none, 0⟩,
            ⟨some 33, .extract (.tmp 28) 2, none, 0⟩,
            ⟨none, .store 3 (.tmp 2) (.tmp 31), none, 0⟩,
            ⟨some 3, .mov (.tmp 32), none, 0⟩,
            ⟨some 4, .mov (.tmp 33), none, 0⟩])
         (.seq (.ops [⟨some 35, .mov (.tmp 0), none, 0⟩,
             ⟨some 36, .call (.fn 48) [(.tmp 35), (.con (.str [120, 34]))], none, 0⟩,
             ⟨some 34, .mov (.tmp 36), none, 0⟩])
          (.cond (.tmp 34)
           (.ops [⟨some 38, .mov (.tmp 0), none, 0⟩,
              ⟨some 39, .call (.fn 49) [(.tmp 38)], none, 0⟩,
              ⟨some 37, .mov (.tmp 39), none, 0⟩,
              ⟨some 40, .extract (.tmp 37) 0, none, 0⟩,
              ⟨some 41, .extract (.tmp 37) 1, none, 0⟩,
              ⟨some 42, .extract (.tmp 37) 2, none, 0⟩,
              ⟨none, .store 3 (.tmp 2) (.tmp 40), none, 0⟩,
              ⟨some 3, .mov (.tmp 41), none, 0⟩,
              ⟨some 4, .mov (.tmp 42), none, 0⟩])
           (.seq (.ops [⟨some 44, .mov (.tmp 0), none, 0⟩,
               ⟨some 45, .mov (.tmp 0), none, 0⟩,
               ⟨some 46, .call (.fn 50) [(.tmp 45)], none, 0⟩,
               ⟨some 47, .cutStr (.tmp 44) none (some (.tmp 46)), none, 0⟩,
               ⟨some 48, .bin .eql (.tmp 47) (.con (.str [110, 117, 108, 108])), none, 0⟩,
               ⟨some 43, .mov (.tmp 48), none, 0⟩])
            (.cond (.tmp 43)
             (.ops [⟨some 3, .mov (.con (.int .i64 4)), none, 0⟩])
             (.ops [⟨some 4, .mov (.con (.int .i64 5)), none, 0⟩]))))))))))))
  (.seq (.seq (.ops [⟨some 49, .mov (.tmp 4), none, 0⟩,
      ⟨some 50, .bin .neq (.tmp 49) (.con (.int .i64 0)), none, 0⟩])
   (.cond (.tmp 50)
    (.seq (.ops [⟨some 51, .build [.int .i64 0, .int .i64 0, .str []] [], none, 0⟩,
        ⟨some 52, .mov (.tmp 4), none, 0⟩,
        ⟨none, .store 3 (.tmp 2) (.tmp 51), none, 0⟩,
        ⟨some 3, .mov (.con (.int .i64 0)), none, 0⟩,
        ⟨some 4, .mov (.tmp 52), none, 0⟩])
     .ret)
    .skip))
  (.seq (.ops [⟨some 53, .load 3 true (.tmp 2), none, 0⟩,
     ⟨some 54, .mov (.tmp 3), none, 0⟩,
     ⟨none, .store 3 (.tmp 2) (.tmp 53), none, 0⟩,
     ⟨some 3, .mov (.tmp 54), none, 0⟩,
     ⟨some 4, .mov (.con (.int .i64 0)), none, 0⟩])
  .ret)))) }
def f_value_Int : XFunc := { ntmps := 10, res := [.cell 2 3 true, .tmp 3], pure := true, body :=
  (.seq (.ops [⟨some 2, .alloc [.int .i64 0, .int .i64 0, .str []], none, 0⟩,
     ⟨some 3, .mov (.con (.int .i64 0)), none, 0⟩])
  (.seq (.seq (.ops [⟨some 4, .mov (.tmp 0), none, 0⟩,
      ⟨some 5, .call (.fn 55) [(.tmp 4), (.con (.int .i64 32))], none, 0⟩,
      ⟨some 6, .un .not (.tmp 5), none, 0⟩])
   (.cond (.tmp 6)
    (.seq (.ops [⟨some 7, .build [.int .i64 0, .int .i64 0, .str []] [], none, 0⟩,
        ⟨none, .store 3 (.tmp 2) (.tmp 7), none, 0⟩,
        ⟨some 3, .mov (.con (.int .i64 10)), none, 0⟩])
     .ret)
    .skip))
  (.seq (.ops [⟨some 8, .mov (.tmp 0), none, 0⟩,
     ⟨some 9, .build [.int .i64 0, .int .i64 0, .str []] [(0, 1, (.con (.int .i64 1))), (1, 1, (.tmp 8))], none, 0⟩,
     ⟨none, .store 3 (.tmp 2) (.tmp 9), none, 0⟩,
     ⟨some 3, .mov (.con (.int .i64 0)), none, 0⟩])
  .ret))) }
def f_value_Text : XFunc := { ntmps := 16, res := [.cell 2 3 true, .tmp 3], pure := true, body :=
  (.seq (.ops [⟨some 2, .alloc [.int .i64 0, .int .i64 0, .str []], none, 0⟩,
     ⟨some 3, .mov (.con (.int .i64 0)), none, 0⟩])
  (.seq (.block 0
    (.seq (.ops [⟨some 5, .mov (.tmp 0), none, 0⟩,
       ⟨some 6, .lenS (.tmp 5), none, 0⟩,
       ⟨some 7, .bin .gtr (.tmp 6) (.con (.int .i64 120)), none, 0⟩,
       ⟨some 4, .mov (.tmp 7), none, 0⟩])
    (.cond (.tmp 4)
     (.seq (.ops [⟨some 8, .build [.int .i64 0, .int .i64 0, .str []] [], none, 0⟩,
         ⟨none, .store 3 (.tmp 2) (.tmp 8), none, 0⟩,
         ⟨some 3, .mov (.con (.int .i64 3)), none, 0⟩])
      .ret)
     (.seq (.ops [⟨some 10, .mov (.tmp 0), none, 0⟩,
         ⟨some 11, .call (.fn 11) [(.tmp 10)], none, 0⟩,
         ⟨some 12, .un .not (.tmp 11), none, 0⟩,
         ⟨some 9, .mov (.tmp 12), none, 0⟩])
      (.cond (.tmp 9)
       (.seq (.ops [⟨some 13, .build [.int .i64 0, .int .i64 0, .str []] [], none, 0⟩,
           ⟨none, .store 3 (.tmp 2) (.tmp 13), none, 0⟩,
           ⟨some 3, .mov (.con (.int .i64 5)), none, 0⟩])
        .ret)
       .skip)))))
  (.seq (.ops [⟨some 14, .mov (.tmp 0), none, 0⟩,
     ⟨some 15, .build [.int .i64 0, .int .i64 0, .str []] [(0, 1, (.con (.int .i64 3))), (2, 1, (.tmp 14))], none, 0⟩,
     ⟨none, .store 3 (.tmp 2) (.tmp 15), none, 0⟩,
     ⟨some 3, .mov (.con (.int .i64 0)), none, 0⟩])
  .ret))) }
def f_value_Bytes : XFunc := { ntmps := 10, res := [.cell 2 3 true, .tmp 3], pure := true, body :=
  (.seq (.ops [⟨some 2, .alloc [.int .i64 0, .int .i64 0, .str []], none, 0⟩,
     ⟨some 3, .mov (.con (.int .i64 0)), none, 0⟩])
  (.seq (.seq (.ops [⟨some 4, .mov (.tmp 0), none, 0⟩,
      ⟨some 5, .lenS (.tmp 4), none, 0⟩,
      ⟨some 6, .bin .gtr (.tmp 5) (.con (.int .i64 120)), none, 0⟩])
   (.cond (.tmp 6)
    (.seq (.ops [⟨some 7, .build [.int .i64 0, .int .i64 0, .str []] [], none, 0⟩,
        ⟨none, .store 3 (.tmp 2) (.tmp 7), none, 0⟩,
        ⟨some 3, .mov (.con (.int .i64 3)), none, 0⟩])
     .ret)
    .skip))
  (.seq (.ops [⟨some 8, .mov (.tmp 0), none, 0⟩,
     ⟨some 9, .build [.int .i64 0, .int .i64 0, .str []] [(0, 1, (.con (.int .i64 4))), (2, 1, (.tmp 8))], none, 0⟩,
     ⟨none, .store 3 (.tmp 2) (.tmp 9), none, 0⟩,
     ⟨some 3, .mov (.con (.int .i64 0)), none, 0⟩])
  .ret))) }
def f_value_Long : XFunc := { ntmps := 5, res := [.cell 2 3 true], pure := true, body :=
  (.seq (.ops [⟨some 2, .alloc [.int .i64 0, .int .i64 0, .str []], none, 0⟩])
  (.seq (.ops [⟨some 3, .mov (.tmp 0), none, 0⟩,
     ⟨some 4, .build [.int .i64 0, .int .i64 0, .str []] [(0, 1, (.con (.int .i64 2))), (1, 1, (.tmp 3))], none, 0⟩,
     ⟨none, .store 3 (.tmp 2) (.tmp 4), none, 0⟩])
  .ret)) }
def f_value_Print_k0 : List Bool := [false, true, false, false, true, false, false, false, false, false, false, false, false, false, false, false, false, false, false, false, false, false, false, false, false, false, false, false, false, false, false, false, false, true, true, false, false, false, false, false, false, false, false, false, false, false, false, false, false, false, false, false, false, false, false, false, false]
def f_value_Print_b0 : XCode :=
  (.seq (.ops [⟨some 35, .bin .lss (.tmp 34) (.tmp 33), none, 0⟩])
 (.seq (.cond (.tmp 35)
   .skip
   (.exit 1))
 (.seq (.block 2
   (.seq (.ops [⟨some 36, .mov (.tmp 34), none, 0⟩,
      ⟨some 5, .mov (.tmp 36), none, 0⟩])
   (.draw [⟨some 37, .mov (.tmp 4), none, 0⟩,
     ⟨some 38, .fieldAddr 2 (.tmp 1), none, 0⟩,
     ⟨some 39, .load 1 false (.tmp 38), none, 0⟩,
     ⟨some 40, .mov (.tmp 5), none, 0⟩,
     ⟨some 41, .indexStr (.tmp 39) (.tmp 40), none, 0⟩,
     ⟨some 42, .bin .shr (.tmp 41) (.con (.int .u64 4)), none, 0⟩,
     ⟨some 43, .indexStr (.con (.str [48, 49, 50, 51, 52, 53, 54, 55, 56, 57, 97, 98, 99, 100, 101, 102])) (.tmp 42), none, 0⟩,
     ⟨some 44, .fieldAddr 2 (.tmp 1), none, 0⟩,
     ⟨some 45, .load 1 false (.tmp 44), none, 0⟩,
     ⟨some 46, .mov (.tmp 5), none, 0⟩,
     ⟨some 47, .indexStr (.tmp 45) (.tmp 46), none, 0⟩,
     ⟨some 48, .bin .and (.tmp 47) (.con (.int .u8 15)), none, 0⟩,
     ⟨some 49, .indexStr (.con (.str [48, 49, 50, 51, 52, 53, 54, 55, 56, 57, 97, 98, 99, 100, 101, 102])) (.tmp 48), none, 0⟩,
     ⟨some 50, .rowLit false 1 2 [.int .u8 0] [(0, 1, (.tmp 43)), (1, 1, (.tmp 49))], none, 1⟩,
     ⟨some 51, .append false 1 1 (.tmp 37) (.tmp 50), none, 1⟩,
     ⟨some 4, .mov (.tmp 51), none, 0⟩]
    [[], [], [1], [], [1, 2, 3], [1, 2, 3, 4], [1, 2, 3, 4, 5], [], [7], [], [7, 8, 9], [7, 8, 9, 10], [7, 8, 9, 10, 11], [1, 2, 3, 4, 5, 6, 7, 8, 9, 10, 11, 12], [0, 1, 2, 3, 4, 5, 6, 7, 8, 9, 10, 11, 12, 13], [0, 1, 2, 3, 4, 5, 6, 7, 8, 9, 10, 11, 12, 13, 14]])))
 (.ops [⟨some 52, .bin .add (.tmp 34) (.con (.int .i64 1)), none, 0⟩,
   ⟨some 34, .mov (.tmp 52), none, 0⟩]))))
def f_value_Print_s0 (t1 t4 t33 t34 : AV) : List AV := [.unk, t1, .unk, .unk, t4, .unk, .unk, .unk, .unk, .unk, .unk, .unk, .unk, .unk, .unk, .unk, .unk, .unk, .unk, .unk, .unk, .unk, .unk, .unk, .unk, .unk, .unk, .unk, .unk, .unk, .unk, .unk, .unk, t33, t34, .unk, .unk, .unk, .unk, .unk, .unk, .unk, .unk, .unk, .unk, .unk, .unk, .unk, .unk, .unk, .unk, .unk, .unk, .unk, .unk, .unk, .unk]
def f_value_Print : XFunc := { ntmps := 57, res := [.tmp 2, .tmp 3], pure := true, body :=
  (.seq (.ops [⟨some 1, .box (.tmp 0), none, 0⟩,
     ⟨some 2, .mov (.con (.str [])), none, 0⟩,
     ⟨some 3, .mov (.con (.int .i64 0)), none, 0⟩])
  (.seq (.seq (.ops [⟨some 6, .load 3 true (.tmp 1), none, 0⟩,
      ⟨some 7, .call (.fn 33) [(.tmp 6)], none, 0⟩,
      ⟨some 8, .un .not (.tmp 7), none, 0⟩])
   (.cond (.tmp 8)
    (.seq (.ops [⟨some 2, .mov (.con (.str [])), none, 0⟩,
        ⟨some 3, .mov (.con (.int .i64 2)), none, 0⟩])
     .ret)
    .skip))
  (.seq (.seq (.ops [⟨some 9, .fieldAddr 0 (.tmp 1), none, 0⟩,
      ⟨some 10, .load 1 false (.tmp 9), none, 0⟩])
   (.block 0
    (.seq (.ops [⟨some 12, .bin .eql (.tmp 10) (.con (.int .i64 1)), none, 0⟩,
       ⟨some 11, .mov (.tmp 12), none, 0⟩])
    (.cond (.tmp 11)
     (.seq (.ops [⟨some 13, .fieldAddr 1 (.tmp 1), none, 0⟩,
         ⟨some 14, .load 1 false (.tmp 13), none, 0⟩,
         ⟨some 15, .call (.fn 39) [(.tmp 14)], none, 0⟩,
         ⟨some 2, .mov (.tmp 15), none, 0⟩,
         ⟨some 3, .mov (.con (.int .i64 0)), none, 0⟩])
      .ret)
     (.seq (.ops [⟨some 17, .bin .eql (.tmp 10) (.con (.int .i64 2)), none, 0⟩,
         ⟨some 16, .mov (.tmp 17), none, 0⟩])
      (.cond (.tmp 16)
       (.seq (.ops [⟨some 18, .fieldAddr 1 (.tmp 1), none, 0⟩,
           ⟨some 19, .load 1 false (.tmp 18), none, 0⟩,
           ⟨some 20, .call (.fn 39) [(.tmp 19)], none, 0⟩,
           ⟨some 21, .bin .add (.tmp 20) (.con (.str [108])), none, 0⟩,
           ⟨some 2, .mov (.tmp 21), none, 0⟩,
           ⟨some 3, .mov (.con (.int .i64 0)), none, 0⟩])
        .ret)
       (.seq (.ops [⟨some 23, .bin .eql (.tmp 10) (.con (.int .i64 3)), none, 0⟩,
           ⟨some 22, .mov (.tmp 23), none, 0⟩])
        (.cond (.tmp 22)
         (.seq (.ops [⟨some 24, .fieldAddr 2 (.tmp 1), none, 0⟩,
             ⟨some 25, .load 1 false (.tmp 24), none, 0⟩,
             ⟨some 26, .call (.fn 214) [(.tmp 25)], none, 0⟩,
             ⟨some 2, .mov (.tmp 26), none, 0⟩,
             ⟨some 3, .mov (.con (.int .i64 0)), none, 0⟩])
          .ret)
         (.seq (.ops [⟨some 28, .bin .eql (.tmp 10) (.con (.int .i64 4)), none, 0⟩,
             ⟨some 27, .mov (.tmp 28), none, 0⟩])
          (.cond (.tmp 27)
           (.seq (.ops [⟨some 29, .rowLit false 1 2 [.int .u8 0] [(0, 1, (.con (.int .u8 120))), (1, 1, (.con (.int .u8 34)))], none, 0⟩,
               ⟨some 30, .convS (.tmp 29), none, 0⟩,
               ⟨some 4, .mov (.tmp 30), none, 0⟩])
            (.seq (.seq (.ops [⟨some 31, .fieldAddr 2 (.tmp 1), none, 0⟩,
                ⟨some 32, .load 1 false (.tmp 31), none, 0⟩,
                ⟨some 33, .lenS (.tmp 32), none, 0⟩,
                ⟨some 34, .mov (.con (.int .i64 0)), none, 0⟩])
             (.block 1
              (.loop f_value_Print_k0 f_value_Print_b0)))
            (.seq (.ops [⟨some 53, .mov (.tmp 4), none, 0⟩,
               ⟨some 54, .rowLit false 1 1 [.int .u8 0] [(0, 1, (.con (.int .u8 34)))], none, 0⟩,
               ⟨some 55, .append false 1 1 (.tmp 53) (.tmp 54), none, 0⟩,
               ⟨some 56, .toStr (.tmp 55), none, 0⟩,
               ⟨some 2, .mov (.tmp 56), none, 0⟩,
               ⟨some 3, .mov (.con (.int .i64 0)), none, 0⟩])
            .ret)))
           .skip))))))))))
  (.seq (.ops [⟨some 2, .mov (.con (.str [110, 117, 108, 108])), none, 0⟩,
     ⟨some 3, .mov (.con (.int .i64 0)), none, 0⟩])
  .ret)))) }
def f_value_number : XFunc := { ntmps := 35, res := [.cell 2 3 true, .tmp 3, .tmp 4], pure := true, body :=
  (.seq (.ops [⟨some 2, .alloc [.int .i64 0, .int .i64 0, .str []], none, 0⟩,
     ⟨some 3, .mov (.con (.int .i64 0)), none, 0⟩,
     ⟨some 4, .mov (.con (.int .i64 0)), none, 0⟩])
  (.seq (.ops [⟨some 10, .mov (.tmp 0), none, 0⟩,
     ⟨some 11, .call (.fn 37) [(.tmp 10)], none, 0⟩,
     ⟨some 9, .mov (.tmp 11), none, 0⟩,
     ⟨some 12, .extract (.tmp 9) 0, none, 0⟩,
     ⟨some 13, .extract (.tmp 9) 1, none, 0⟩,
     ⟨some 14, .extract (.tmp 9) 2, none, 0⟩,
     ⟨some 5, .mov (.tmp 12), none, 0⟩,
     ⟨some 6, .mov (.tmp 13), none, 0⟩,
     ⟨some 7, .mov (.tmp 14), none, 0⟩])
  (.seq (.seq (.ops [⟨some 15, .mov (.tmp 7), none, 0⟩,
      ⟨some 16, .bin .neq (.tmp 15) (.con (.int .i64 0)), none, 0⟩])
   (.cond (.tmp 16)
    (.seq (.ops [⟨some 17, .build [.int .i64 0, .int .i64 0, .str []] [], none, 0⟩,
        ⟨some 18, .mov (.tmp 7), none, 0⟩,
        ⟨none, .store 3 (.tmp 2) (.tmp 17), none, 0⟩,
        ⟨some 3, .mov (.con (.int .i64 0)), none, 0⟩,
        ⟨some 4, .mov (.tmp 18), none, 0⟩])
     .ret)
    .skip))
  (.seq (.seq (.ops [⟨some 19, .mov (.tmp 0), none, 0⟩,
      ⟨some 20, .mov (.tmp 6), none, 0⟩,
      ⟨some 21, .cutStr (.tmp 19) (some (.tmp 20)) none, none, 0⟩,
      ⟨some 22, .call (.fn 48) [(.tmp 21), (.con (.str [108]))], none, 0⟩])
   (.cond (.tmp 22)
    (.seq (.ops [⟨some 23, .mov (.tmp 5), none, 0⟩,
        ⟨some 24, .call (.fn 35) [(.tmp 23)], none, 0⟩,
        ⟨some 25, .mov (.tmp 6), none, 0⟩,
        ⟨some 26, .bin .add (.tmp 25) (.con (.int .i64 1)), none, 0⟩,
        ⟨none, .store 3 (.tmp 2) (.tmp 24), none, 0⟩,
        ⟨some 3, .mov (.tmp 26), none, 0⟩,
        ⟨some 4, .mov (.con (.int .i64 0)), none, 0⟩])
     .ret)
    .skip))
  (.seq (.ops [⟨some 28, .mov (.tmp 5), none, 0⟩,
     ⟨some 29, .call (.fn 30) [(.tmp 28)], none, 0⟩,
     ⟨some 27, .mov (.tmp 29), none, 0⟩,
     ⟨some 30, .extract (.tmp 27) 0, none, 0⟩,
     ⟨some 31, .extract (.tmp 27) 1, none, 0⟩,
     ⟨some 8, .alloc [.int .i64 0, .int .i64 0, .str []], none, 0⟩,
     ⟨none, .store 3 (.tmp 8) (.tmp 30), none, 0⟩,
     ⟨some 7, .mov (.tmp 31), none, 0⟩])
  (.seq (.ops [⟨some 32, .load 3 true (.tmp 8), none, 0⟩,
     ⟨some 33, .mov (.tmp 6), none, 0⟩,
     ⟨some 34, .mov (.tmp 7), none, 0⟩,
     ⟨none, .store 3 (.tmp 2) (.tmp 32), none, 0⟩,
     ⟨some 3, .mov (.tmp 33), none, 0⟩,
     ⟨some 4, .mov (.tmp 34), none, 0⟩])
  .ret)))))) }
def f_value_text : XFunc := { ntmps := 27, res := [.cell 2 3 true, .tmp 3, .tmp 4], pure := true, body :=
  (.seq (.ops [⟨some 2, .alloc [.int .i64 0, .int .i64 0, .str []], none, 0⟩,
     ⟨some 3, .mov (.con (.int .i64 0)), none, 0⟩,
     ⟨some 4, .mov (.con (.int .i64 0)), none, 0⟩])
  (.seq (.ops [⟨some 11, .mov (.tmp 0), none, 0⟩,
     ⟨some 12, .call (.fn 62) [(.tmp 11)], none, 0⟩,
     ⟨some 10, .mov (.tmp 12), none, 0⟩,
     ⟨some 13, .extract (.tmp 10) 0, none, 0⟩,
     ⟨some 14, .extract (.tmp 10) 1, none, 0⟩,
     ⟨some 15, .extract (.tmp 10) 2, none, 0⟩,
     ⟨some 5, .mov (.tmp 13), none, 0⟩,
     ⟨some 6, .mov (.tmp 14), none, 0⟩,
     ⟨some 7, .mov (.tmp 15), none, 0⟩])
  (.seq (.seq (.ops [⟨some 16, .mov (.tmp 7), none, 0⟩,
      ⟨some 17, .un .not (.tmp 16), none, 0⟩])
   (.cond (.tmp 17)
    (.seq (.ops [⟨some 18, .build [.int .i64 0, .int .i64 0, .str []] [], none, 0⟩,
        ⟨none, .store 3 (.tmp 2) (.tmp 18), none, 0⟩,
        ⟨some 3, .mov (.con (.int .i64 0)), none, 0⟩,
        ⟨some 4, .mov (.con (.int .i64 5)), none, 0⟩])
     .ret)
    .skip))
  (.seq (.ops [⟨some 20, .mov (.tmp 5), none, 0⟩,
     ⟨some 21, .call (.fn 31) [(.tmp 20)], none, 0⟩,
     ⟨some 19, .mov (.tmp 21), none, 0⟩,
     ⟨some 22, .extract (.tmp 19) 0, none, 0⟩,
     ⟨some 23, .extract (.tmp 19) 1, none, 0⟩,
     ⟨some 8, .alloc [.int .i64 0, .int .i64 0, .str []], none, 0⟩,
     ⟨none, .store 3 (.tmp 8) (.tmp 22), none, 0⟩,
     ⟨some 9, .mov (.tmp 23), none, 0⟩])
  (.seq (.ops [⟨some 24, .load 3 true (.tmp 8), none, 0⟩,
     ⟨some 25, .mov (.tmp 6), none, 0⟩,
     ⟨some 26, .mov (.tmp 9), none, 0⟩,
     ⟨none, .store 3 (.tmp 2) (.tmp 24), none, 0⟩,
     ⟨some 3, .mov (.tmp 25), none, 0⟩,
     ⟨some 4, .mov (.tmp 26), none, 0⟩])
  .ret))))) }
def f_value_bytes_k0 : List Bool := [true, false, true, false, false, true, true, false, false, false, false, false, false, false, false, false, false, false, false, false, false, false, false, false, false, false, false, false, false, false, false, false, false, false, false, false, false, false, false, false, false, false, false, false, false, false, false, false, false, false, false, false, false, false, false, false, false, false, false, false, false]
def f_value_bytes_b0 : XCode :=
  (.seq (.seq (.ops [⟨some 11, .mov (.tmp 6), none, 0⟩,
     ⟨some 12, .mov (.tmp 0), none, 0⟩,
     ⟨some 13, .lenS (.tmp 12), none, 0⟩,
     ⟨some 14, .bin .lss (.tmp 11) (.tmp 13), none, 0⟩])
  (.cond (.tmp 14)
   .skip
   (.exit 0)))
 (.seq (.block 1
   (.seq (.seq (.ops [⟨some 17, .mov (.tmp 0), none, 0⟩,
       ⟨some 18, .mov (.tmp 6), none, 0⟩,
       ⟨some 19, .indexStr (.tmp 17) (.tmp 18), none, 0⟩,
       ⟨some 20, .bin .eql (.tmp 19) (.con (.int .u8 34)), none, 0⟩])
    (.cond (.tmp 20)
     (.seq (.ops [⟨some 22, .mov (.tmp 5), none, 0⟩,
         ⟨some 23, .toStr (.tmp 22), none, 0⟩,
         ⟨some 24, .call (.fn 32) [(.tmp 23)], none, 0⟩,
         ⟨some 21, .mov (.tmp 24), none, 0⟩,
         ⟨some 25, .extract (.tmp 21) 0, none, 0⟩,
         ⟨some 26, .extract (.tmp 21) 1, none, 0⟩,
         ⟨some 7, .alloc [.int .i64 0, .int .i64 0, .str []], none, 0⟩,
         ⟨none, .store 3 (.tmp 7) (.tmp 25), none, 0⟩,
         ⟨some 8, .mov (.tmp 26), none, 0⟩])
      (.seq (.ops [⟨some 27, .load 3 true (.tmp 7), none, 0⟩,
         ⟨some 28, .mov (.tmp 6), none, 0⟩,
         ⟨some 29, .bin .add (.tmp 28) (.con (.int .i64 1)), none, 0⟩,
         ⟨some 30, .mov (.tmp 8), none, 0⟩,
         ⟨none, .store 3 (.tmp 2) (.tmp 27), none, 0⟩,
         ⟨some 3, .mov (.tmp 29), none, 0⟩,
         ⟨some 4, .mov (.tmp 30), none, 0⟩])
      .ret))
     .skip))
   (.seq (.seq (.ops [⟨some 31, .mov (.tmp 6), none, 0⟩,
       ⟨some 32, .bin .add (.tmp 31) (.con (.int .i64 1)), none, 0⟩,
       ⟨some 33, .mov (.tmp 0), none, 0⟩,
       ⟨some 34, .lenS (.tmp 33), none, 0⟩,
       ⟨some 35, .bin .eql (.tmp 32) (.tmp 34), none, 0⟩])
    (.cond (.tmp 35)
     (.exit 0)
     .skip))
   (.seq (.draw [⟨some 36, .mov (.tmp 0), none, 0⟩,
      ⟨some 37, .mov (.tmp 6), none, 0⟩,
      ⟨some 38, .indexStr (.tmp 36) (.tmp 37), none, 0⟩,
      ⟨some 39, .call (.fn 64) [(.con (.str [48, 49, 50, 51, 52, 53, 54, 55, 56, 57, 97, 98, 99, 100, 101, 102])), (.tmp 38)], none, 1⟩,
      ⟨some 40, .mov (.tmp 0), none, 0⟩,
      ⟨some 41, .mov (.tmp 6), none, 0⟩,
      ⟨some 42, .bin .add (.tmp 41) (.con (.int .i64 1)), none, 0⟩,
      ⟨some 43, .indexStr (.tmp 40) (.tmp 42), none, 0⟩,
      ⟨some 44, .call (.fn 64) [(.con (.str [48, 49, 50, 51, 52, 53, 54, 55, 56, 57, 97, 98, 99, 100, 101, 102])), (.tmp 43)], none, 1⟩,
      ⟨some 9, .mov (.tmp 39), none, 0⟩,
      ⟨some 10, .mov (.tmp 44), none, 0⟩]
     [[], [], [0, 1], [0, 1, 2], [], [], [5], [4, 5, 6], [0, 1, 2, 3, 4, 5, 6, 7], [0, 1, 2, 3, 4, 5, 6, 7, 8], [0, 1, 2, 3, 4, 5, 6, 7, 8, 9]])
   (.seq (.seq (.ops [⟨some 45, .mov (.tmp 9), none, 0⟩,
       ⟨some 46, .bin .lss (.tmp 45) (.con (.int .i64 0)), none, 0⟩,
       ⟨some 47, .mov (.tmp 46), none, 0⟩,
       ⟨some 48, .mov (.tmp 10), some (47, false), 0⟩,
       ⟨some 49, .bin .lss (.tmp 48) (.con (.int .i64 0)), some (47, false), 0⟩,
       ⟨some 50, .pick (.tmp 47) (.con (.bool true)) (.tmp 49), none, 0⟩])
    (.cond (.tmp 50)
     (.exit 0)
     .skip))
   (.ops [⟨some 51, .mov (.tmp 5), none, 0⟩,
     ⟨some 52, .mov (.tmp 9), none, 0⟩,
     ⟨some 53, .toInt .u8 (.tmp 52), none, 0⟩,
     ⟨some 54, .bin .shl (.tmp 53) (.con (.int .u64 4)), none, 0⟩,
     ⟨some 55, .mov (.tmp 10), none, 0⟩,
     ⟨some 56, .toInt .u8 (.tmp 55), none, 0⟩,
     ⟨some 57, .bin .or (.tmp 54) (.tmp 56), none, 0⟩,
     ⟨some 58, .rowLit false 1 1 [.int .u8 0] [(0, 1, (.tmp 57))], none, 0⟩,
     ⟨some 59, .append false 1 1 (.tmp 51) (.tmp 58), none, 0⟩,
     ⟨some 5, .mov (.tmp 59), none, 0⟩]))))))
 (.ops [⟨some 15, .mov (.tmp 6), none, 0⟩,
   ⟨some 16, .bin .add (.tmp 15) (.con (.int .i64 2)), none, 0⟩,
   ⟨some 6, .mov (.tmp 16), none, 0⟩])))
def f_value_bytes_s0 (t0 t2 t5 t6 : AV) : List AV := [t0, .unk, t2, .unk, .unk, t5, t6, .unk, .unk, .unk, .unk, .unk, .unk, .unk, .unk, .unk, .unk, .unk, .unk, .unk, .unk, .unk, .unk, .unk, .unk, .unk, .unk, .unk, .unk, .unk, .unk, .unk, .unk, .unk, .unk, .unk, .unk, .unk, .unk, .unk, .unk, .unk, .unk, .unk, .unk, .unk, .unk, .unk, .unk, .unk, .unk, .unk, .unk, .unk, .unk, .unk, .unk, .unk, .unk, .unk, .unk]
def f_value_bytes : XFunc := { ntmps := 61, res := [.cell 2 3 true, .tmp 3, .tmp 4], pure := true, body :=
  (.seq (.ops [⟨some 2, .alloc [.int .i64 0, .int .i64 0, .str []], none, 0⟩,
     ⟨some 3, .mov (.con (.int .i64 0)), none, 0⟩,
     ⟨some 4, .mov (.con (.int .i64 0)), none, 0⟩])
  (.seq (.ops [⟨some 5, .mov (.con .nils), none, 0⟩])
  (.seq (.seq (.ops [⟨some 6, .mov (.con (.int .i64 2)), none, 0⟩])
   (.block 0
    (.loop f_value_bytes_k0 f_value_bytes_b0)))
  (.seq (.ops [⟨some 60, .build [.int .i64 0, .int .i64 0, .str []] [], none, 0⟩,
     ⟨none, .store 3 (.tmp 2) (.tmp 60), none, 0⟩,
     ⟨some 3, .mov (.con (.int .i64 0)), none, 0⟩,
     ⟨some 4, .mov (.con (.int .i64 5)), none, 0⟩])
  .ret)))) }
def f_name_Quote_k0 : List Bool := [true, false, false, true, false, false, false, false, true, true, false, false, false, false, false, false, false, false, false, false, false, false, false, false, false, false, false, false, false, false, false, false, false, false, false, false, false, false, false, false, false, false, false, false, false, false]
def f_name_Quote_b0 : XCode :=
  (.seq (.ops [⟨some 10, .bin .lss (.tmp 9) (.tmp 8), none, 0⟩])
 (.seq (.cond (.tmp 10)
   .skip
   (.exit 0))
 (.seq (.block 1
   (.seq (.ops [⟨some 11, .mov (.tmp 9), none, 0⟩,
      ⟨some 4, .mov (.tmp 11), none, 0⟩])
   (.seq (.ops [⟨some 12, .mov (.tmp 0), none, 0⟩,
      ⟨some 13, .mov (.tmp 4), none, 0⟩,
      ⟨some 14, .indexStr (.tmp 12) (.tmp 13), none, 0⟩,
      ⟨some 5, .mov (.tmp 14), none, 0⟩])
   (.block 2
    (.seq (.ops [⟨some 25, .mov (.tmp 5), none, 0⟩,
       ⟨some 26, .call (.fn 72) [(.tmp 25)], none, 0⟩,
       ⟨some 24, .mov (.tmp 26), none, 0⟩])
    (.cond (.tmp 24)
     (.ops [⟨some 27, .mov (.tmp 5), none, 0⟩,
        ⟨some 28, .call (.fn 71) [(.tmp 3), (.tmp 27)], none, 0⟩])
     (.seq (.ops [⟨some 30, .mov (.tmp 5), none, 0⟩,
         ⟨some 31, .bin .eql (.tmp 30) (.con (.int .u8 10)), none, 0⟩,
         ⟨some 29, .mov (.tmp 31), none, 0⟩])
      (.cond (.tmp 29)
       (.ops [⟨some 32, .call (.fn 73) [(.tmp 3), (.con (.str [92, 110]))], none, 0⟩])
       (.seq (.ops [⟨some 34, .mov (.tmp 5), none, 0⟩,
           ⟨some 35, .bin .eql (.tmp 34) (.con (.int .u8 34)), none, 0⟩,
           ⟨some 36, .mov (.tmp 35), none, 0⟩,
           ⟨some 37, .mov (.tmp 5), some (36, false), 0⟩,
           ⟨some 38, .bin .eql (.tmp 37) (.con (.int .u8 92)), some (36, false), 0⟩,
           ⟨some 39, .pick (.tmp 36) (.con (.bool true)) (.tmp 38), none, 0⟩,
           ⟨some 33, .mov (.tmp 39), none, 0⟩])
        (.cond (.tmp 33)
         (.seq (.ops [⟨some 40, .call (.fn 71) [(.tmp 3), (.con (.int .u8 92))], none, 0⟩])
          (.ops [⟨some 41, .mov (.tmp 5), none, 0⟩,
            ⟨some 42, .call (.fn 71) [(.tmp 3), (.tmp 41)], none, 0⟩]))
         (.seq (.ops [⟨some 15, .call (.fn 73) [(.tmp 3), (.con (.str [92, 120]))], none, 0⟩])
          (.seq (.ops [⟨some 16, .mov (.tmp 5), none, 0⟩,
             ⟨some 17, .bin .shr (.tmp 16) (.con (.int .u64 4)), none, 0⟩,
             ⟨some 18, .indexStr (.con (.str [48, 49, 50, 51, 52, 53, 54, 55, 56, 57, 97, 98, 99, 100, 101, 102])) (.tmp 17), none, 0⟩,
             ⟨some 19, .call (.fn 71) [(.tmp 3), (.tmp 18)], none, 0⟩])
          (.ops [⟨some 20, .mov (.tmp 5), none, 0⟩,
            ⟨some 21, .bin .and (.tmp 20) (.con (.int .u8 15)), none, 0⟩,
            ⟨some 22, .indexStr (.con (.str [48, 49, 50, 51, 52, 53, 54, 55, 56, 57, 97, 98, 99, 100, 101, 102])) (.tmp 21), none, 0⟩,
            ⟨some 23, .call (.fn 71) [(.tmp 3), (.tmp 22)], none, 0⟩])))))))))))))
 (.ops [⟨some 43, .bin .add (.tmp 9) (.con (.int .i64 1)), none, 0⟩,
   ⟨some 9, .mov (.tmp 43), none, 0⟩]))))
def f_name_Quote_s0 (t0 t3 t8 t9 : AV) : List AV := [t0, .unk, .unk, t3, .unk, .unk, .unk, .unk, t8, t9, .unk, .unk, .unk, .unk, .unk, .unk, .unk, .unk, .unk, .unk, .unk, .unk, .unk, .unk, .unk, .unk, .unk, .unk, .unk, .unk, .unk, .unk, .unk, .unk, .unk, .unk, .unk, .unk, .unk, .unk, .unk, .unk, .unk, .unk, .unk, .unk]
def f_name_Quote : XFunc := { ntmps := 46, res := [.tmp 2], pure := true, body :=
  (.seq (.ops [⟨some 2, .mov (.con (.str [])), none, 0⟩])
  (.seq (.ops [⟨some 3, .allocT 0 [.nilp, .nils], none, 0⟩])
  (.seq (.ops [⟨some 6, .call (.fn 71) [(.tmp 3), (.con (.int .u8 34))], none, 0⟩])
  (.seq (.seq (.ops [⟨some 7, .mov (.tmp 0), none, 0⟩,
      ⟨some 8, .lenS (.tmp 7), none, 0⟩,
      ⟨some 9, .mov (.con (.int .i64 0)), none, 0⟩])
   (.block 0
    (.loop f_name_Quote_k0 f_name_Quote_b0)))
  (.seq (.ops [⟨some 44, .call (.fn 71) [(.tmp 3), (.con (.int .u8 34))], none, 0⟩])
  (.seq (.ops [⟨some 45, .call (.fn 74) [(.tmp 3)], none, 0⟩,
     ⟨some 2, .mov (.tmp 45), none, 0⟩])
  .ret)))))) }
def f_haulageref05_hex_k0 : List Bool := [true, false, false, true, true, false, false, false, false, false, false, false, false, false, false, false, false, false, false, false, false, false, false, false, false, false, false, false, false, false, false, false, false, false, false]
def f_haulageref05_hex_b0 : XCode :=
  (.seq (.seq (.ops [⟨some 5, .mov (.tmp 4), none, 0⟩,
     ⟨some 6, .mov (.tmp 0), none, 0⟩,
     ⟨some 7, .lenS (.tmp 6), none, 0⟩,
     ⟨some 8, .bin .lss (.tmp 5) (.tmp 7), none, 0⟩])
  (.cond (.tmp 8)
   .skip
   (.exit 0)))
 (.seq (.block 1
   (.draw [⟨some 11, .mov (.tmp 3), none, 0⟩,
     ⟨some 12, .mov (.tmp 0), none, 0⟩,
     ⟨some 13, .mov (.tmp 4), none, 0⟩,
     ⟨some 14, .indexStr (.tmp 12) (.tmp 13), none, 0⟩,
     ⟨some 15, .bin .quo (.tmp 14) (.con (.int .u8 16)), none, 0⟩,
     ⟨some 16, .mov (.tmp 0), none, 0⟩,
     ⟨some 17, .mov (.tmp 4), none, 0⟩,
     ⟨some 18, .indexStr (.tmp 16) (.tmp 17), none, 0⟩,
     ⟨some 19, .bin .quo (.tmp 18) (.con (.int .u8 16)), none, 0⟩,
     ⟨some 20, .bin .add (.tmp 19) (.con (.int .u8 1)), none, 0⟩,
     ⟨some 21, .cutStr (.con (.str [48, 49, 50, 51, 52, 53, 54, 55, 56, 57, 97, 98, 99, 100, 101, 102])) (some (.tmp 15)) (some (.tmp 20)), none, 0⟩,
     ⟨some 22, .bin .add (.tmp 11) (.tmp 21), none, 0⟩,
     ⟨some 23, .mov (.tmp 0), none, 0⟩,
     ⟨some 24, .mov (.tmp 4), none, 0⟩,
     ⟨some 25, .indexStr (.tmp 23) (.tmp 24), none, 0⟩,
     ⟨some 26, .bin .rem (.tmp 25) (.con (.int .u8 16)), none, 0⟩,
     ⟨some 27, .mov (.tmp 0), none, 0⟩,
     ⟨some 28, .mov (.tmp 4), none, 0⟩,
     ⟨some 29, .indexStr (.tmp 27) (.tmp 28), none, 0⟩,
     ⟨some 30, .bin .rem (.tmp 29) (.con (.int .u8 16)), none, 0⟩,
     ⟨some 31, .bin .add (.tmp 30) (.con (.int .u8 1)), none, 0⟩,
     ⟨some 32, .cutStr (.con (.str [48, 49, 50, 51, 52, 53, 54, 55, 56, 57, 97, 98, 99, 100, 101, 102])) (some (.tmp 26)) (some (.tmp 31)), none, 0⟩,
     ⟨some 33, .bin .add (.tmp 22) (.tmp 32), none, 0⟩,
     ⟨some 3, .mov (.tmp 33), none, 0⟩]
    [[], [], [], [1, 2], [1, 2, 3], [], [], [5, 6], [5, 6, 7], [5, 6, 7, 8], [1, 2, 3, 4, 5, 6, 7, 8, 9], [0, 1, 2, 3, 4, 5, 6, 7, 8, 9, 10], [], [], [12, 13], [12, 13, 14], [], [], [16, 17], [16, 17, 18], [16, 17, 18, 19], [12, 13, 14, 15, 16, 17, 18, 19, 20], [0, 1, 2, 3, 4, 5, 6, 7, 8, 9, 10, 11, 12, 13, 14, 15, 16, 17, 18, 19, 20, 21], [0, 1, 2, 3, 4, 5, 6, 7, 8, 9, 10, 11, 12, 13, 14, 15, 16, 17, 18, 19, 20, 21, 22]]))
 (.ops [⟨some 9, .mov (.tmp 4), none, 0⟩,
   ⟨some 10, .bin .add (.tmp 9) (.con (.int .i64 1)), none, 0⟩,
   ⟨some 4, .mov (.tmp 10), none, 0⟩])))
def f_haulageref05_hex : XFunc := { ntmps := 35, res := [.tmp 2], pure := true, body :=
  (.seq (.ops [⟨some 2, .mov (.con (.str [])), none, 0⟩])
  (.seq (.ops [⟨some 3, .mov (.con (.str [])), none, 0⟩])
  (.seq (.seq (.ops [⟨some 4, .mov (.con (.int .i64 0)), none, 0⟩])
   (.block 0
    (.loop f_haulageref05_hex_k0 f_haulageref05_hex_b0)))
  (.seq (.ops [⟨some 34, .mov (.tmp 3), none, 0⟩,
     ⟨some 2, .mov (.tmp 34), none, 0⟩])
  .ret)))) }
def f_name_Unquote_k0 : List Bool := [true, false, false, false, false, true, true, false, false, false, false, false, false, false, false, false, false, false, false, false, false, false, false, false, false, false, false, false, false, false, false, false, false, false, false, false, false, false, false, false, false, false, false, false, false, false, false, false, false, false, false, false, false, false, false, false, false, false, false, false]
def f_name_Unquote_b0 : XCode :=
  (.seq (.seq (.ops [⟨some 17, .mov (.tmp 6), none, 0⟩,
     ⟨some 18, .mov (.tmp 0), none, 0⟩,
     ⟨some 19, .lenS (.tmp 18), none, 0⟩,
     ⟨some 20, .bin .lss (.tmp 17) (.tmp 19), none, 0⟩])
  (.cond (.tmp 20)
   .skip
   (.exit 0)))
 (.seq (.block 1
   (.seq (.ops [⟨some 23, .mov (.tmp 0), none, 0⟩,
      ⟨some 24, .mov (.tmp 6), none, 0⟩,
      ⟨some 25, .indexStr (.tmp 23) (.tmp 24), none, 0⟩,
      ⟨some 7, .mov (.tmp 25), none, 0⟩])
   (.block 2
    (.seq (.ops [⟨some 27, .mov (.tmp 7), none, 0⟩,
       ⟨some 28, .bin .eql (.tmp 27) (.con (.int .u8 34)), none, 0⟩,
       ⟨some 26, .mov (.tmp 28), none, 0⟩])
    (.cond (.tmp 26)
     (.seq (.ops [⟨some 29, .mov (.tmp 5), none, 0⟩,
         ⟨some 30, .toStr (.tmp 29), none, 0⟩,
         ⟨some 31, .mov (.tmp 6), none, 0⟩,
         ⟨some 32, .bin .add (.tmp 31) (.con (.int .i64 1)), none, 0⟩,
         ⟨some 2, .mov (.tmp 30), none, 0⟩,
         ⟨some 3, .mov (.tmp 32), none, 0⟩,
         ⟨some 4, .mov (.con (.bool true)), none, 0⟩])
      .ret)
     (.seq (.ops [⟨some 34, .mov (.tmp 7), none, 0⟩,
         ⟨some 35, .call (.fn 72) [(.tmp 34)], none, 0⟩,
         ⟨some 33, .mov (.tmp 35), none, 0⟩])
      (.cond (.tmp 33)
       (.ops [⟨some 36, .mov (.tmp 5), none, 0⟩,
          ⟨some 37, .mov (.tmp 7), none, 0⟩,
          ⟨some 38, .rowLit false 1 1 [.int .u8 0] [(0, 1, (.tmp 37))], none, 0⟩,
          ⟨some 39, .append false 1 1 (.tmp 36) (.tmp 38), none, 0⟩,
          ⟨some 5, .mov (.tmp 39), none, 0⟩])
       (.seq (.ops [⟨some 41, .mov (.tmp 7), none, 0⟩,
           ⟨some 42, .bin .eql (.tmp 41) (.con (.int .u8 92)), none, 0⟩,
           ⟨some 40, .mov (.tmp 42), none, 0⟩])
        (.cond (.tmp 40)
         (.seq (.ops [⟨some 44, .mov (.tmp 0), none, 0⟩,
             ⟨some 45, .mov (.tmp 6), none, 0⟩,
             ⟨some 46, .bin .add (.tmp 45) (.con (.int .i64 1)), none, 0⟩,
             ⟨some 47, .cutStr (.tmp 44) (some (.tmp 46)) none, none, 0⟩,
             ⟨some 48, .call (.fn 75) [(.tmp 47)], none, 0⟩,
             ⟨some 43, .mov (.tmp 48), none, 0⟩,
             ⟨some 49, .extract (.tmp 43) 0, none, 0⟩,
             ⟨some 50, .extract (.tmp 43) 1, none, 0⟩,
             ⟨some 8, .mov (.tmp 49), none, 0⟩,
             ⟨some 9, .mov (.tmp 50), none, 0⟩])
          (.seq (.seq (.ops [⟨some 51, .mov (.tmp 9), none, 0⟩,
              ⟨some 52, .bin .eql (.tmp 51) (.con (.int .i64 0)), none, 0⟩])
           (.cond (.tmp 52)
            (.seq (.ops [⟨some 2, .mov (.con (.str [])), none, 0⟩,
                ⟨some 3, .mov (.con (.int .i64 0)), none, 0⟩,
                ⟨some 4, .mov (.con (.bool false)), none, 0⟩])
             .ret)
            .skip))
          (.seq (.ops [⟨some 53, .mov (.tmp 5), none, 0⟩,
             ⟨some 54, .mov (.tmp 8), none, 0⟩,
             ⟨some 55, .rowLit false 1 1 [.int .u8 0] [(0, 1, (.tmp 54))], none, 0⟩,
             ⟨some 56, .append false 1 1 (.tmp 53) (.tmp 55), none, 0⟩,
             ⟨some 5, .mov (.tmp 56), none, 0⟩])
          (.ops [⟨some 57, .mov (.tmp 6), none, 0⟩,
            ⟨some 58, .mov (.tmp 9), none, 0⟩,
            ⟨some 59, .bin .add (.tmp 57) (.tmp 58), none, 0⟩,
            ⟨some 6, .mov (.tmp 59), none, 0⟩]))))
         (.seq (.ops [⟨some 2, .mov (.con (.str [])), none, 0⟩,
             ⟨some 3, .mov (.con (.int .i64 0)), none, 0⟩,
             ⟨some 4, .mov (.con (.bool false)), none, 0⟩])
          .ret))))))))))
 (.ops [⟨some 21, .mov (.tmp 6), none, 0⟩,
   ⟨some 22, .bin .add (.tmp 21) (.con (.int .i64 1)), none, 0⟩,
   ⟨some 6, .mov (.tmp 22), none, 0⟩])))
def f_name_Unquote_s0 (t0 t5 t6 : AV) : List AV := [t0, .unk, .unk, .unk, .unk, t5, t6, .unk, .unk, .unk, .unk, .unk, .unk, .unk, .unk, .unk, .unk, .unk, .unk, .unk, .unk, .unk, .unk, .unk, .unk, .unk, .unk, .unk, .unk, .unk, .unk, .unk, .unk, .unk, .unk, .unk, .unk, .unk, .unk, .unk, .unk, .unk, .unk, .unk, .unk, .unk, .unk, .unk, .unk, .unk, .unk, .unk, .unk, .unk, .unk, .unk, .unk, .unk, .unk, .unk]
def f_name_Unquote : XFunc := { ntmps := 60, res := [.tmp 2, .tmp 3, .tmp 4], pure := true, body :=
  (.seq (.ops [⟨some 2, .mov (.con (.str [])), none, 0⟩,
     ⟨some 3, .mov (.con (.int .i64 0)), none, 0⟩,
     ⟨some 4, .mov (.con (.bool false)), none, 0⟩])
  (.seq (.seq (.ops [⟨some 10, .mov (.tmp 0), none, 0⟩,
      ⟨some 11, .bin .eql (.tmp 10) (.con (.str [])), none, 0⟩,
      ⟨some 12, .mov (.tmp 11), none, 0⟩,
      ⟨some 13, .mov (.tmp 0), some (12, false), 0⟩,
      ⟨some 14, .indexStr (.tmp 13) (.con (.int .i64 0)), some (12, false), 0⟩,
      ⟨some 15, .bin .neq (.tmp 14) (.con (.int .u8 34)), some (12, false), 0⟩,
      ⟨some 16, .pick (.tmp 12) (.con (.bool true)) (.tmp 15), none, 0⟩])
   (.cond (.tmp 16)
    (.seq (.ops [⟨some 2, .mov (.con (.str [])), none, 0⟩,
        ⟨some 3, .mov (.con (.int .i64 0)), none, 0⟩,
        ⟨some 4, .mov (.con (.bool false)), none, 0⟩])
     .ret)
    .skip))
  (.seq (.ops [⟨some 5, .mov (.con .nils), none, 0⟩])
  (.seq (.seq (.ops [⟨some 6, .mov (.con (.int .i64 1)), none, 0⟩])
   (.block 0
    (.loop f_name_Unquote_k0 f_name_Unquote_b0)))
  (.seq (.ops [⟨some 2, .mov (.con (.str [])), none, 0⟩,
     ⟨some 3, .mov (.con (.int .i64 0)), none, 0⟩,
     ⟨some 4, .mov (.con (.bool false)), none, 0⟩])
  .ret))))) }
def f_strings_IndexByte : XFunc := { ntmps := 8, res := [.tmp 4], pure := true, body :=
  (.seq (.ops [⟨some 4, .mov (.con (.int .i64 0)), none, 0⟩])
  (.seq (.ops [⟨some 5, .mov (.tmp 0), none, 0⟩,
     ⟨some 6, .mov (.tmp 1), none, 0⟩,
     ⟨some 7, .call (.fn 76) [(.tmp 5), (.tmp 6)], none, 0⟩,
     ⟨some 4, .mov (.tmp 7), none, 0⟩])
  .ret)) }
def f_haulageref04_one : XFunc := { ntmps := 43, res := [.tmp 2], pure := true, body :=
  (.seq (.ops [⟨some 2, .mov (.con (.str [])), none, 0⟩])
  (.seq (.ops [⟨some 3, .mov (.con (.str [48, 49, 50, 51, 52, 53, 54, 55, 56, 57, 97, 98, 99, 100, 101, 102])), none, 0⟩])
  (.seq (.block 0
    (.seq (.ops [⟨some 5, .mov (.tmp 0), none, 0⟩,
       ⟨some 6, .bin .eql (.tmp 5) (.con (.int .u8 34)), none, 0⟩,
       ⟨some 7, .mov (.tmp 6), none, 0⟩,
       ⟨some 8, .mov (.tmp 0), some (7, false), 0⟩,
       ⟨some 9, .bin .eql (.tmp 8) (.con (.int .u8 92)), some (7, false), 0⟩,
       ⟨some 10, .pick (.tmp 7) (.con (.bool true)) (.tmp 9), none, 0⟩,
       ⟨some 4, .mov (.tmp 10), none, 0⟩])
    (.cond (.tmp 4)
     (.seq (.ops [⟨some 11, .mov (.tmp 0), none, 0⟩,
         ⟨some 12, .rowLit false 1 2 [.int .u8 0] [(0, 1, (.con (.int .u8 92))), (1, 1, (.tmp 11))], none, 0⟩,
         ⟨some 13, .toStr (.tmp 12), none, 0⟩,
         ⟨some 2, .mov (.tmp 13), none, 0⟩])
      .ret)
     (.seq (.ops [⟨some 15, .mov (.tmp 0), none, 0⟩,
         ⟨some 16, .bin .eql (.tmp 15) (.con (.int .u8 10)), none, 0⟩,
         ⟨some 14, .mov (.tmp 16), none, 0⟩])
      (.cond (.tmp 14)
       (.seq (.ops [⟨some 2, .mov (.con (.str [92, 110])), none, 0⟩])
        .ret)
       (.seq (.ops [⟨some 18, .mov (.tmp 0), none, 0⟩,
           ⟨some 19, .bin .lss (.tmp 18) (.con (.int .u8 32)), none, 0⟩,
           ⟨some 20, .mov (.tmp 19), none, 0⟩,
           ⟨some 21, .mov (.tmp 0), some (20, false), 0⟩,
           ⟨some 22, .bin .gtr (.tmp 21) (.con (.int .u8 126)), some (20, false), 0⟩,
           ⟨some 23, .pick (.tmp 20) (.con (.bool true)) (.tmp 22), none, 0⟩,
           ⟨some 17, .mov (.tmp 23), none, 0⟩])
        (.cond (.tmp 17)
         (.seq (.draw [⟨some 24, .mov (.tmp 3), none, 0⟩,
             ⟨some 25, .mov (.tmp 0), none, 0⟩,
             ⟨some 26, .bin .quo (.tmp 25) (.con (.int .u8 16)), none, 0⟩,
             ⟨some 27, .mov (.tmp 0), none, 0⟩,
             ⟨some 28, .bin .quo (.tmp 27) (.con (.int .u8 16)), none, 0⟩,
             ⟨some 29, .bin .add (.tmp 28) (.con (.int .u8 1)), none, 0⟩,
             ⟨some 30, .cutStr (.tmp 24) (some (.tmp 26)) (some (.tmp 29)), none, 0⟩,
             ⟨some 31, .bin .add (.con (.str [92, 120])) (.tmp 30), none, 0⟩,
             ⟨some 32, .mov (.tmp 3), none, 0⟩,
             ⟨some 33, .mov (.tmp 0), none, 0⟩,
             ⟨some 34, .bin .rem (.tmp 33) (.con (.int .u8 16)), none, 0⟩,
             ⟨some 35, .mov (.tmp 0), none, 0⟩,
             ⟨some 36, .bin .rem (.tmp 35) (.con (.int .u8 16)), none, 0⟩,
             ⟨some 37, .bin .add (.tmp 36) (.con (.int .u8 1)), none, 0⟩,
             ⟨some 38, .cutStr (.tmp 32) (some (.tmp 34)) (some (.tmp 37)), none, 0⟩,
             ⟨some 39, .bin .add (.tmp 31) (.tmp 38), none, 0⟩,
             ⟨some 2, .mov (.tmp 39), none, 0⟩]
            [[], [], [1], [], [3], [3, 4], [0, 1, 2, 3, 4, 5], [0, 1, 2, 3, 4, 5, 6], [], [], [9], [], [11], [11, 12], [8, 9, 10, 11, 12, 13], [0, 1, 2, 3, 4, 5, 6, 7, 8, 9, 10, 11, 12, 13, 14], [0, 1, 2, 3, 4, 5, 6, 7, 8, 9, 10, 11, 12, 13, 14, 15]])
          .ret)
         .skip)))))))
  (.seq (.ops [⟨some 40, .mov (.tmp 0), none, 0⟩,
     ⟨some 41, .rowLit false 1 1 [.int .u8 0] [(0, 1, (.tmp 40))], none, 0⟩,
     ⟨some 42, .toStr (.tmp 41), none, 0⟩,
     ⟨some 2, .mov (.tmp 42), none, 0⟩])
  .ret)))) }
def f_strings_Builder_WriteByte : XFunc := { ntmps := 17, res := [.tmp 4], pure := false, body :=
  (.seq (.ops [⟨some 4, .mov (.con .nili), none, 0⟩])
  (.seq (.ops [⟨some 5, .mov (.tmp 0), none, 0⟩,
     ⟨some 6, .call (.fn 77) [(.tmp 5)], none, 0⟩])
  (.seq (.ops [⟨some 7, .mov (.tmp 0), none, 0⟩,
     ⟨some 8, .mov (.tmp 0), none, 0⟩,
     ⟨some 9, .nilCheck (.tmp 8), none, 0⟩,
     ⟨some 10, .fieldAddr 1 (.tmp 9), none, 0⟩,
     ⟨some 11, .load 1 false (.tmp 10), none, 0⟩,
     ⟨some 12, .mov (.tmp 1), none, 0⟩,
     ⟨some 13, .rowLit false 1 1 [.int .u8 0] [(0, 1, (.tmp 12))], none, 0⟩,
     ⟨some 14, .appendT 1 1 1 (.tmp 11) (.tmp 13), none, 0⟩,
     ⟨some 15, .nilCheck (.tmp 7), none, 0⟩,
     ⟨some 16, .fieldAddr 1 (.tmp 15), none, 0⟩,
     ⟨none, .store 1 (.tmp 16) (.tmp 14), none, 0⟩])
  (.seq (.ops [⟨some 4, .mov (.con .nili), none, 0⟩])
  .ret)))) }
def f_name_plain : XFunc := { ntmps := 17, res := [.tmp 2], pure := true, body :=
  (.seq (.ops [⟨some 2, .mov (.con (.bool false)), none, 0⟩])
  (.seq (.ops [⟨some 3, .mov (.tmp 0), none, 0⟩,
     ⟨some 4, .bin .geq (.tmp 3) (.con (.int .u8 32)), none, 0⟩,
     ⟨some 5, .mov (.tmp 4), none, 0⟩,
     ⟨some 6, .mov (.tmp 0), some (5, true), 0⟩,
     ⟨some 7, .bin .leq (.tmp 6) (.con (.int .u8 126)), some (5, true), 0⟩,
     ⟨some 8, .pick (.tmp 5) (.tmp 7) (.con (.bool false)), none, 0⟩,
     ⟨some 9, .mov (.tmp 8), none, 0⟩,
     ⟨some 10, .mov (.tmp 0), some (9, true), 0⟩,
     ⟨some 11, .bin .neq (.tmp 10) (.con (.int .u8 34)), some (9, true), 0⟩,
     ⟨some 12, .pick (.tmp 9) (.tmp 11) (.con (.bool false)), none, 0⟩,
     ⟨some 13, .mov (.tmp 12), none, 0⟩,
     ⟨some 14, .mov (.tmp 0), some (13, true), 0⟩,
     ⟨some 15, .bin .neq (.tmp 14) (.con (.int .u8 92)), some (13, true), 0⟩,
     ⟨some 16, .pick (.tmp 13) (.tmp 15) (.con (.bool false)), none, 0⟩,
     ⟨some 2, .mov (.tmp 16), none, 0⟩])
  .ret)) }
def f_strings_Builder_WriteString : XFunc := { ntmps := 19, res := [.tmp 4, .tmp 5], pure := false, body :=
  (.seq (.ops [⟨some 4, .mov (.con (.int .i64 0)), none, 0⟩,
     ⟨some 5, .mov (.con .nili), none, 0⟩])
  (.seq (.ops [⟨some 6, .mov (.tmp 0), none, 0⟩,
     ⟨some 7, .call (.fn 77) [(.tmp 6)], none, 0⟩])
  (.seq (.ops [⟨some 8, .mov (.tmp 0), none, 0⟩,
     ⟨some 9, .mov (.tmp 0), none, 0⟩,
     ⟨some 10, .nilCheck (.tmp 9), none, 0⟩,
     ⟨some 11, .fieldAddr 1 (.tmp 10), none, 0⟩,
     ⟨some 12, .load 1 false (.tmp 11), none, 0⟩,
     ⟨some 13, .mov (.tmp 1), none, 0⟩,
     ⟨some 14, .appendT 1 1 1 (.tmp 12) (.tmp 13), none, 0⟩,
     ⟨some 15, .nilCheck (.tmp 8), none, 0⟩,
     ⟨some 16, .fieldAddr 1 (.tmp 15), none, 0⟩,
     ⟨none, .store 1 (.tmp 16) (.tmp 14), none, 0⟩])
  (.seq (.ops [⟨some 17, .mov (.tmp 1), none, 0⟩,
     ⟨some 18, .lenS (.tmp 17), none, 0⟩,
     ⟨some 4, .mov (.tmp 18), none, 0⟩,
     ⟨some 5, .mov (.con .nili), none, 0⟩])
  .ret)))) }
def f_strings_Builder_String : XFunc := { ntmps := 14, res := [.tmp 2], pure := false, body :=
  (.seq (.ops [⟨some 2, .mov (.con (.str [])), none, 0⟩])
  (.seq (.draw [⟨some 3, .mov (.tmp 0), none, 0⟩,
     ⟨some 4, .nilCheck (.tmp 3), none, 0⟩,
     ⟨some 5, .fieldAddr 1 (.tmp 4), none, 0⟩,
     ⟨some 6, .load 1 false (.tmp 5), none, 0⟩,
     ⟨some 7, .sliceData (.tmp 6), none, 0⟩,
     ⟨some 8, .mov (.tmp 0), none, 0⟩,
     ⟨some 9, .nilCheck (.tmp 8), none, 0⟩,
     ⟨some 10, .fieldAddr 1 (.tmp 9), none, 0⟩,
     ⟨some 11, .load 1 false (.tmp 10), none, 0⟩,
     ⟨some 12, .len (.tmp 11), none, 0⟩,
     ⟨some 13, .strOf 1 (.tmp 7) (.tmp 12), none, 2⟩,
     ⟨some 2, .mov (.tmp 13), none, 0⟩]
    [[], [0], [0, 1], [0, 1, 2], [0, 1, 2, 3], [], [5], [5, 6], [5, 6, 7], [5, 6, 7, 8], [0, 1, 2, 3, 4, 5, 6, 7, 8, 9], [0, 1, 2, 3, 4, 5, 6, 7, 8, 9, 10]])
  .ret)) }
def f_name_escaped : XFunc := { ntmps := 53, res := [.tmp 2, .tmp 3], pure := true, body :=
  (.seq (.ops [⟨some 2, .mov (.con (.int .u8 0)), none, 0⟩,
     ⟨some 3, .mov (.con (.int .i64 0)), none, 0⟩])
  (.seq (.seq (.ops [⟨some 7, .mov (.tmp 0), none, 0⟩,
      ⟨some 8, .bin .eql (.tmp 7) (.con (.str [])), none, 0⟩])
   (.cond (.tmp 8)
    (.seq (.ops [⟨some 2, .mov (.con (.int .u8 0)), none, 0⟩,
        ⟨some 3, .mov (.con (.int .i64 0)), none, 0⟩])
     .ret)
    .skip))
  (.seq (.seq (.ops [⟨some 9, .mov (.tmp 0), none, 0⟩,
      ⟨some 10, .indexStr (.tmp 9) (.con (.int .i64 0)), none, 0⟩])
   (.block 0
    (.seq (.ops [⟨some 12, .bin .eql (.tmp 10) (.con (.int .u8 110)), none, 0⟩,
       ⟨some 11, .mov (.tmp 12), none, 0⟩])
    (.cond (.tmp 11)
     (.seq (.ops [⟨some 2, .mov (.con (.int .u8 10)), none, 0⟩,
         ⟨some 3, .mov (.con (.int .i64 1)), none, 0⟩])
      .ret)
     (.seq (.seq (.ops [⟨some 14, .bin .eql (.tmp 10) (.con (.int .u8 34)), none, 0⟩,
          ⟨some 13, .mov (.tmp 14), none, 0⟩])
       (.cond (.tmp 13)
        .skip
        (.ops [⟨some 15, .bin .eql (.tmp 10) (.con (.int .u8 92)), none, 0⟩,
           ⟨some 13, .mov (.tmp 15), none, 0⟩])))
      (.cond (.tmp 13)
       (.seq (.ops [⟨some 16, .mov (.tmp 0), none, 0⟩,
           ⟨some 17, .indexStr (.tmp 16) (.con (.int .i64 0)), none, 0⟩,
           ⟨some 2, .mov (.tmp 17), none, 0⟩,
           ⟨some 3, .mov (.con (.int .i64 1)), none, 0⟩])
        .ret)
       (.seq (.ops [⟨some 19, .bin .eql (.tmp 10) (.con (.int .u8 120)), none, 0⟩,
           ⟨some 18, .mov (.tmp 19), none, 0⟩])
        (.cond (.tmp 18)
         (.seq (.seq (.ops [⟨some 20, .mov (.tmp 0), none, 0⟩,
              ⟨some 21, .lenS (.tmp 20), none, 0⟩,
              ⟨some 22, .bin .lss (.tmp 21) (.con (.int .i64 3)), none, 0⟩])
           (.cond (.tmp 22)
            (.seq (.ops [⟨some 2, .mov (.con (.int .u8 0)), none, 0⟩,
                ⟨some 3, .mov (.con (.int .i64 0)), none, 0⟩])
             .ret)
            .skip))
          (.seq (.draw [⟨some 23, .mov (.tmp 0), none, 0⟩,
             ⟨some 24, .indexStr (.tmp 23) (.con (.int .i64 1)), none, 0⟩,
             ⟨some 25, .call (.fn 64) [(.con (.str [48, 49, 50, 51, 52, 53, 54, 55, 56, 57, 97, 98, 99, 100, 101, 102])), (.tmp 24)], none, 1⟩,
             ⟨some 26, .mov (.tmp 0), none, 0⟩,
             ⟨some 27, .indexStr (.tmp 26) (.con (.int .i64 2)), none, 0⟩,
             ⟨some 28, .call (.fn 64) [(.con (.str [48, 49, 50, 51, 52, 53, 54, 55, 56, 57, 97, 98, 99, 100, 101, 102])), (.tmp 27)], none, 1⟩,
             ⟨some 4, .mov (.tmp 25), none, 0⟩,
             ⟨some 5, .mov (.tmp 28), none, 0⟩]
            [[], [0], [0, 1], [], [3], [0, 1, 2, 3, 4], [0, 1, 2, 3, 4, 5], [0, 1, 2, 3, 4, 5, 6]])
          (.seq (.ops [⟨some 29, .mov (.tmp 4), none, 0⟩,
             ⟨some 30, .bin .shl (.tmp 29) (.con (.int .u64 4)), none, 0⟩,
             ⟨some 31, .mov (.tmp 5), none, 0⟩,
             ⟨some 32, .bin .or (.tmp 30) (.tmp 31), none, 0⟩,
             ⟨some 33, .toInt .u8 (.tmp 32), none, 0⟩,
             ⟨some 6, .mov (.tmp 33), none, 0⟩])
          (.seq (.seq (.ops [⟨some 34, .mov (.tmp 4), none, 0⟩,
              ⟨some 35, .bin .lss (.tmp 34) (.con (.int .i64 0)), none, 0⟩,
              ⟨some 36, .mov (.tmp 35), none, 0⟩,
              ⟨some 37, .mov (.tmp 5), some (36, false), 0⟩,
              ⟨some 38, .bin .lss (.tmp 37) (.con (.int .i64 0)), some (36, false), 0⟩,
              ⟨some 39, .pick (.tmp 36) (.con (.bool true)) (.tmp 38), none, 0⟩,
              ⟨some 40, .mov (.tmp 39), none, 0⟩,
              ⟨some 41, .mov (.tmp 6), some (40, false), 0⟩,
              ⟨some 42, .bin .geq (.tmp 41) (.con (.int .u8 32)), some (40, false), 0⟩,
              ⟨some 43, .mov (.tmp 42), some (40, false), 0⟩,
              ⟨some 44, .mov (.tmp 6), some (43, true), 0⟩,
              ⟨some 45, .bin .leq (.tmp 44) (.con (.int .u8 126)), some (43, true), 0⟩,
              ⟨some 46, .pick (.tmp 43) (.tmp 45) (.con (.bool false)), some (40, false), 0⟩,
              ⟨some 47, .pick (.tmp 40) (.con (.bool true)) (.tmp 46), none, 0⟩,
              ⟨some 48, .mov (.tmp 47), none, 0⟩,
              ⟨some 49, .mov (.tmp 6), some (48, false), 0⟩,
              ⟨some 50, .bin .eql (.tmp 49) (.con (.int .u8 10)), some (48, false), 0⟩,
              ⟨some 51, .pick (.tmp 48) (.con (.bool true)) (.tmp 50), none, 0⟩])
           (.cond (.tmp 51)
            (.seq (.ops [⟨some 2, .mov (.con (.int .u8 0)), none, 0⟩,
                ⟨some 3, .mov (.con (.int .i64 0)), none, 0⟩])
             .ret)
            .skip))
          (.seq (.ops [⟨some 52, .mov (.tmp 6), none, 0⟩,
             ⟨some 2, .mov (.tmp 52), none, 0⟩,
             ⟨some 3, .mov (.con (.int .i64 3)), none, 0⟩])
          .ret)))))
         .skip))))))))
  (.seq (.ops [⟨some 2, .mov (.con (.int .u8 0)), none, 0⟩,
     ⟨some 3, .mov (.con (.int .i64 0)), none, 0⟩])
  .ret)))) }
def f_internal_stringslite_IndexByte : XFunc := { ntmps := 8, res := [.tmp 4], pure := true, body :=
  (.seq (.ops [⟨some 4, .mov (.con (.int .i64 0)), none, 0⟩])
  (.seq (.ops [⟨some 5, .mov (.tmp 0), none, 0⟩,
     ⟨some 6, .mov (.tmp 1), none, 0⟩,
     ⟨some 7, .idxByte 226 (.fn 226) (.tmp 5) (.tmp 6), none, 0⟩,
     ⟨some 4, .mov (.tmp 7), none, 0⟩])
  .ret)) }
def f_strings_Builder_copyCheck : XFunc := { ntmps := 20, res := [], pure := false, body :=
  (.seq (.ops [⟨some 2, .mov (.tmp 0), none, 0⟩,
     ⟨some 3, .nilCheck (.tmp 2), none, 0⟩,
     ⟨some 4, .fieldAddr 0 (.tmp 3), none, 0⟩,
     ⟨some 5, .load 1 false (.tmp 4), none, 0⟩,
     ⟨some 6, .nilPtr false (.tmp 5), none, 0⟩])
  (.cond (.tmp 6)
   (.ops [⟨some 7, .mov (.tmp 0), none, 0⟩,
      ⟨some 8, .mov (.tmp 0), none, 0⟩,
      ⟨some 9, .cast false 0 2 (.tmp 8), none, 0⟩,
      ⟨some 10, .noEsc 227 (.fn 227) (.tmp 9), none, 0⟩,
      ⟨some 11, .cast true 0 2 (.tmp 10), none, 0⟩,
      ⟨some 12, .nilCheck (.tmp 7), none, 0⟩,
      ⟨some 13, .fieldAddr 0 (.tmp 12), none, 0⟩,
      ⟨none, .store 1 (.tmp 13) (.tmp 11), none, 0⟩])
   (.seq (.ops [⟨some 14, .mov (.tmp 0), none, 0⟩,
       ⟨some 15, .nilCheck (.tmp 14), none, 0⟩,
       ⟨some 16, .fieldAddr 0 (.tmp 15), none, 0⟩,
       ⟨some 17, .load 1 false (.tmp 16), none, 0⟩,
       ⟨some 18, .mov (.tmp 0), none, 0⟩,
       ⟨some 19, .eqPtr true (.tmp 17) (.tmp 18), none, 0⟩])
    (.cond (.tmp 19)
     .refuse
     .skip)))) }
end Hx.Fn
