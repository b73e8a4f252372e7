/-
  The abstract code of the functions that the laws reach.
-/
import Derived.Test.YtmmapbhhkmchcaaGreatDoorProg
import Derived.Test.YtmmapbhhkmchcaaGreatDoorAc
import Derived.KernelRfl
set_option linter.unusedVariables false
set_option maxRecDepth 100000
namespace Go.Proofs.YtmmapbhhkmchcaaGreatDoor
open Go Go.Am
variable {O : Orc} {Q : Ex → Slots → Heap → Prop} {σ : Slots} {h : Heap}
/-- franking/frankinglaw02.AbnfBrackets -/
abbrev bB4 : AC :=
  .seq (.region [⟨some 6, .mv (.c (.bool false)), none, 0⟩] 0 false []) (.seq (.seq (.region [⟨some 23, .mv (.t 0), none, 0⟩, ⟨some 24, .len (.t 23), none, 0⟩, ⟨some 25, .bin .gtr (.t 24) (.c (.int .i64
  200)), none, 0⟩, ⟨some 26, .mv (.t 25), none, 0⟩, ⟨some 27, .mv (.t 1), some (26, false), 0⟩, ⟨some 28, .len (.t 27), some (26, false), 0⟩, ⟨some 29, .bin .gtr (.t 28) (.c (.int .i64 200)), some (26,
  false), 0⟩, ⟨some 30, .pick (.t 26) (.c (.bool true)) (.t 29), none, 0⟩] 0 false []) (.cond (.t 30) (.seq (.region [⟨some 31, .call (.c (.fn 9 [])) [], none, 0⟩, ⟨some 6, .mv (.t 31), none, 0⟩] 0 false
  []) .ret) .skip)) (.seq (.region [⟨some 32, .mv (.t 2), none, 0⟩, ⟨some 33, .bin .rem (.t 32) (.c (.int .u8 41)), none, 0⟩, ⟨some 34, .cvInt .i64 (.t 33), none, 0⟩, ⟨some 7, .mv (.t 34), none, 0⟩] 0
  false []) (.seq (.region [⟨some 35, .mv (.t 0), none, 0⟩, ⟨some 36, .call (.c (.fn 18 [])) [.t 35, .c (.list 1 [] .full)], none, 0⟩, ⟨some 37, .mv (.t 1), none, 0⟩, ⟨some 38, .call (.c (.fn 18 [])) [.t
  37, .c (.list 1 [] .full)], none, 0⟩, ⟨some 8, .alloc [.int .u8 0, .str [], .int .u8 0, .int .u8 0, .int .i64 0, .int .i64 0, .list 7 [] .full], none, 0⟩, ⟨some 9, .alloc [.int .u8 0, .str [], .int .u8
  0, .int .u8 0, .int .i64 0, .int .i64 0, .list 7 [] .full], none, 1⟩, ⟨none, .store 7 (.t 8) (.t 36), none, 2⟩, ⟨none, .store 7 (.t 9) (.t 38), none, 2⟩] 2 false []) (.seq (.region [⟨some 40, .load
  (some 7) (.t 8), none, 0⟩, ⟨some 41, .build [.str [], .int .i64 0, .bool false, .int .u8 0, .str [], .int .u8 0, .int .u8 0, .int .i64 0, .int .i64 0, .list 7 [] .full] [(0, 1, .c (.str [120])), (3, 7,
  .t 40)], none, 0⟩, ⟨some 42, .call (.c (.fn 16 [])) [.t 41], none, 0⟩, ⟨some 39, .mv (.t 42), none, 0⟩, ⟨some 43, .ext (.t 39) 0, none, 0⟩, ⟨some 44, .ext (.t 39) 1, none, 0⟩, ⟨some 10, .mv (.t 43),
  none, 0⟩, ⟨some 11, .mv (.t 44), none, 0⟩] 0 false []) (.seq (.region [⟨some 46, .load (some 7) (.t 9), none, 0⟩, ⟨some 47, .build [.str [], .int .i64 0, .bool false, .int .u8 0, .str [], .int .u8 0,
  .int .u8 0, .int .i64 0, .int .i64 0, .list 7 [] .full] [(0, 1, .c (.str [120])), (3, 7, .t 46)], none, 0⟩, ⟨some 48, .call (.c (.fn 16 [])) [.t 47], none, 0⟩, ⟨some 45, .mv (.t 48), none, 0⟩, ⟨some
  49, .ext (.t 45) 0, none, 0⟩, ⟨some 50, .ext (.t 45) 1, none, 0⟩, ⟨some 12, .mv (.t 49), none, 0⟩, ⟨some 13, .mv (.t 50), none, 0⟩] 0 false []) (.seq (.seq (.region [⟨some 51, .mv (.t 11), none, 0⟩,
  ⟨some 52, .bin .neq (.t 51) (.c (.int .i64 0)), none, 0⟩, ⟨some 53, .mv (.t 52), none, 0⟩, ⟨some 54, .mv (.t 13), some (53, false), 0⟩, ⟨some 55, .bin .neq (.t 54) (.c (.int .i64 0)), some (53, false),
  0⟩, ⟨some 56, .pick (.t 53) (.c (.bool true)) (.t 55), none, 0⟩, ⟨some 57, .mv (.t 56), none, 0⟩, ⟨some 58, .mv (.t 10), some (57, false), 0⟩, ⟨some 59, .lenS (.t 58), some (57, false), 0⟩, ⟨some 60,
  .mv (.t 12), some (57, false), 0⟩, ⟨some 61, .lenS (.t 60), some (57, false), 0⟩, ⟨some 62, .bin .add (.t 59) (.t 61), some (57, false), 0⟩, ⟨some 63, .bin .gtr (.t 62) (.c (.int .i64 60000)), some
  (57, false), 0⟩, ⟨some 64, .pick (.t 57) (.c (.bool true)) (.t 63), none, 0⟩] 0 false []) (.cond (.t 64) (.seq (.region [⟨some 65, .mv (.t 11), none, 0⟩, ⟨some 66, .bin .eql (.t 65) (.c (.int .i64 0)),
  none, 0⟩, ⟨some 67, .mv (.t 66), none, 0⟩, ⟨some 68, .mv (.t 13), some (67, true), 0⟩, ⟨some 69, .bin .eql (.t 68) (.c (.int .i64 0)), some (67, true), 0⟩, ⟨some 70, .pick (.t 67) (.t 69) (.c (.bool
  false)), none, 0⟩, ⟨some 71, .mv (.t 70), none, 0⟩, ⟨some 72, .call (.c (.fn 9 [])) [], some (71, true), 0⟩, ⟨some 73, .pick (.t 71) (.t 72) (.c (.bool false)), none, 0⟩, ⟨some 6, .mv (.t 73), none,
  0⟩] 0 false []) .ret) .skip)) (.seq (.region [⟨some 74, .mv (.t 10), none, 0⟩, ⟨some 75, .call (.c (.fn 19 [])) [.t 74, .c (.str [120, 32, 61, 32])], none, 0⟩, ⟨some 76, .mv (.t 12), none, 0⟩, ⟨some
  77, .call (.c (.fn 19 [])) [.t 76, .c (.str [120, 32, 61, 32])], none, 0⟩, ⟨some 10, .mv (.t 75), none, 0⟩, ⟨some 12, .mv (.t 77), none, 0⟩] 0 false []) (.seq (.region [⟨some 78, .mv (.t 7), none, 0⟩,
  ⟨some 79, .call (.c (.fn 20 [])) [.c (.str [40]), .t 78], none, 0⟩, ⟨some 80, .mv (.t 7), none, 0⟩, ⟨some 81, .call (.c (.fn 20 [])) [.c (.str [32, 41]), .t 80], none, 0⟩, ⟨some 14, .mv (.t 79), none,
  0⟩, ⟨some 15, .mv (.t 81), none, 0⟩] 0 false []) (.seq (.region [⟨some 83, .mv (.t 14), none, 0⟩, ⟨some 84, .bin .add (.c (.str [82, 117, 108, 101, 32, 61, 32])) (.t 83), none, 0⟩, ⟨some 85, .mv (.t
  10), none, 0⟩, ⟨some 86, .bin .add (.t 84) (.t 85), none, 0⟩, ⟨some 87, .mv (.t 15), none, 0⟩, ⟨some 88, .bin .add (.t 86) (.t 87), none, 0⟩, ⟨some 89, .call (.c (.fn 21 [])) [.t 88], none, 0⟩, ⟨some
  82, .mv (.t 89), none, 0⟩, ⟨some 90, .ext (.t 82) 0, none, 0⟩, ⟨some 91, .ext (.t 82) 1, none, 0⟩, ⟨some 92, .ext (.t 82) 2, none, 0⟩, ⟨some 16, .mv (.t 90), none, 0⟩, ⟨some 17, .mv (.t 91), none, 0⟩,
  ⟨some 18, .mv (.t 92), none, 0⟩] 0 false []) (.seq (.region [⟨some 94, .mv (.t 14), none, 0⟩, ⟨some 95, .bin .add (.c (.str [114, 85, 108, 101, 32, 61, 32, 40])) (.t 94), none, 0⟩, ⟨some 96, .mv (.t
  10), none, 0⟩, ⟨some 97, .bin .add (.t 95) (.t 96), none, 0⟩, ⟨some 98, .mv (.t 15), none, 0⟩, ⟨some 99, .bin .add (.t 97) (.t 98), none, 0⟩, ⟨some 100, .bin .add (.t 99) (.c (.str [41, 32, 47, 32,
  40])), none, 0⟩, ⟨some 101, .mv (.t 12), none, 0⟩, ⟨some 102, .bin .add (.t 100) (.t 101), none, 0⟩, ⟨some 103, .bin .add (.t 102) (.c (.str [41, 32, 40])), none, 0⟩, ⟨some 104, .mv (.t 10), none, 0⟩,
  ⟨some 105, .bin .add (.t 103) (.t 104), none, 0⟩, ⟨some 106, .bin .add (.t 105) (.c (.str [41])), none, 0⟩, ⟨some 107, .call (.c (.fn 21 [])) [.t 106], none, 0⟩, ⟨some 93, .mv (.t 107), none, 0⟩, ⟨some
  108, .ext (.t 93) 0, none, 0⟩, ⟨some 109, .ext (.t 93) 1, none, 0⟩, ⟨some 110, .ext (.t 93) 2, none, 0⟩, ⟨some 19, .mv (.t 108), none, 0⟩, ⟨some 20, .mv (.t 109), none, 0⟩, ⟨some 21, .mv (.t 110),
  none, 0⟩] 0 false []) (.seq (.region [⟨some 111, .load (some 7) (.t 9), none, 0⟩, ⟨some 112, .load (some 7) (.t 8), none, 0⟩, ⟨some 113, .bslice 7 [.t 111, .t 112], none, 0⟩, ⟨some 114, .build [.int
  .u8 0, .str [], .int .u8 0, .int .u8 0, .int .i64 0, .int .i64 0, .list 7 [] .full] [(0, 1, .c (.int .u8 5)), (6, 1, .t 113)], none, 0⟩, ⟨some 22, .alloc [.int .u8 0, .str [], .int .u8 0, .int .u8 0,
  .int .i64 0, .int .i64 0, .list 7 [] .full], none, 0⟩, ⟨none, .store 7 (.t 22) (.t 114), none, 1⟩] 1 false []) (.seq (.region [⟨some 115, .mv (.t 18), none, 0⟩, ⟨some 116, .bin .eql (.t 115) (.c (.int
  .i64 0)), none, 0⟩, ⟨some 117, .mv (.t 116), none, 0⟩, ⟨some 118, .mv (.t 21), some (117, true), 0⟩, ⟨some 119, .bin .eql (.t 118) (.c (.int .i64 0)), some (117, true), 0⟩, ⟨some 120, .pick (.t 117)
  (.t 119) (.c (.bool false)), none, 0⟩, ⟨some 121, .mv (.t 120), none, 0⟩, ⟨some 122, .mv (.t 16), some (121, true), 0⟩, ⟨some 123, .load (some 7) (.t 8), some (121, true), 0⟩, ⟨some 124, .build [.str
  [], .int .i64 0, .bool false, .int .u8 0, .str [], .int .u8 0, .int .u8 0, .int .i64 0, .int .i64 0, .list 7 [] .full] [(0, 1, .c (.str [114, 117, 108, 101])), (3, 7, .t 123)], some (121, true), 0⟩,
  ⟨some 125, .bslice 10 [.t 124], some (121, true), 0⟩, ⟨some 126, .call (.c (.fn 13 [])) [.t 122, .t 125, .c (.bool false)], some (121, true), 0⟩, ⟨some 127, .pick (.t 121) (.t 126) (.c (.bool false)),
  none, 0⟩, ⟨some 128, .mv (.t 127), none, 0⟩, ⟨some 129, .mv (.t 19), some (128, true), 0⟩, ⟨some 130, .load (some 7) (.t 8), some (128, true), 0⟩, ⟨some 131, .load (some 7) (.t 22), some (128, true),
  0⟩, ⟨some 132, .bslice 7 [.t 130, .t 131], some (128, true), 0⟩, ⟨some 133, .build [.int .u8 0, .str [], .int .u8 0, .int .u8 0, .int .i64 0, .int .i64 0, .list 7 [] .full] [(0, 1, .c (.int .u8 6)),
  (6, 1, .t 132)], some (128, true), 0⟩, ⟨some 134, .build [.str [], .int .i64 0, .bool false, .int .u8 0, .str [], .int .u8 0, .int .u8 0, .int .i64 0, .int .i64 0, .list 7 [] .full] [(0, 1, .c (.str
  [114, 117, 108, 101])), (3, 7, .t 133)], some (128, true), 0⟩, ⟨some 135, .bslice 10 [.t 134], some (128, true), 0⟩, ⟨some 136, .call (.c (.fn 13 [])) [.t 129, .t 135, .c (.bool false)], some (128,
  true), 0⟩, ⟨some 137, .pick (.t 128) (.t 136) (.c (.bool false)), none, 0⟩, ⟨some 138, .mv (.t 137), none, 0⟩, ⟨some 139, .call (.c (.fn 9 [])) [], some (138, true), 0⟩, ⟨some 140, .pick (.t 138) (.t
  139) (.c (.bool false)), none, 0⟩, ⟨some 6, .mv (.t 140), none, 0⟩] 0 false []) .ret))))))))))))
def B4 := bB4
theorem wB4 : Wp O B4 Q σ h = Wp O bB4 Q σ h := rfl
def F4 : AF := ⟨B4, [.tmp 6], false⟩
theorem tab4 : T 4 = some F4 := by kernel_rfl
/-- franking/frankinglaw02.AbnfWrong -/
abbrev bL5_0 : AC :=
  .seq (.region [⟨some 41, .bin .lss (.t 40) (.t 39), none, 0⟩] 0 false []) (.seq (.cond (.t 41) .skip (.exit 2)) (.seq (.block 3 (.seq (.region [⟨some 42, .idx 1 (.t 38) (.t 40), none, 0⟩, ⟨some 43,
  .load none (.t 42), none, 0⟩, ⟨some 12, .mv (.t 43), none, 0⟩] 0 false []) (.seq (.seq (.region [⟨some 44, .mv (.t 12), none, 0⟩, ⟨some 45, .len (.t 44), none, 0⟩, ⟨some 46, .bin .gtr (.t 45) (.c (.int
  .i64 60)), none, 0⟩] 0 false []) (.cond (.t 46) (.seq (.region [⟨some 47, .call (.c (.fn 9 [])) [], none, 0⟩, ⟨some 6, .mv (.t 47), none, 0⟩] 0 false []) .ret) .skip)) (.seq (.region [⟨some 49, .mv (.t
  12), none, 0⟩, ⟨some 50, .call (.c (.fn 18 [])) [.t 49, .c (.list 1 [] .full)], none, 0⟩, ⟨some 51, .build [.str [], .int .i64 0, .bool false, .int .u8 0, .str [], .int .u8 0, .int .u8 0, .int .i64 0,
  .int .i64 0, .list 7 [] .full] [(0, 1, .c (.str [120])), (3, 7, .t 50)], none, 0⟩, ⟨some 52, .call (.c (.fn 16 [])) [.t 51], none, 0⟩, ⟨some 48, .mv (.t 52), none, 0⟩, ⟨some 53, .ext (.t 48) 0, none,
  0⟩, ⟨some 54, .ext (.t 48) 1, none, 0⟩, ⟨some 13, .mv (.t 53), none, 0⟩, ⟨some 14, .mv (.t 54), none, 0⟩] 0 false []) (.seq (.seq (.region [⟨some 55, .mv (.t 14), none, 0⟩, ⟨some 56, .bin .neq (.t 55)
  (.c (.int .i64 0)), none, 0⟩] 0 false []) (.cond (.t 56) (.seq (.region [⟨some 6, .mv (.c (.bool false)), none, 0⟩] 0 false []) .ret) .skip)) (.seq (.region [⟨some 57, .mv (.t 9), none, 0⟩, ⟨some 58,
  .bin .eql (.t 57) (.c (.int .i64 0)), none, 0⟩] 0 false []) (.cond (.t 58) (.region [⟨some 59, .mv (.t 7), none, 0⟩, ⟨some 60, .mv (.t 13), none, 0⟩, ⟨some 61, .bin .add (.t 60) (.c (.str [10])), none,
  0⟩, ⟨some 62, .bin .add (.t 59) (.t 61), none, 0⟩, ⟨some 7, .mv (.t 62), none, 0⟩] 0 false []) (.region [⟨some 63, .mv (.t 8), none, 0⟩, ⟨some 64, .mv (.t 13), none, 0⟩, ⟨some 65, .bin .add (.t 64) (.c
  (.str [10])), none, 0⟩, ⟨some 66, .bin .add (.t 63) (.t 65), none, 0⟩, ⟨some 8, .mv (.t 66), none, 0⟩] 0 false [])))))))) (.region [⟨some 67, .bin .add (.t 40) (.c (.int .i64 1)), none, 0⟩, ⟨some 40,
  .mv (.t 67), none, 0⟩] 0 false [])))
def L5_0 := bL5_0
theorem wL5_0 : Wp O L5_0 Q σ h = Wp O bL5_0 Q σ h := rfl
abbrev bK5_0 : AC :=
  .region [⟨some 68, .bin .add (.t 33) (.c (.int .i64 1)), none, 0⟩, ⟨some 33, .mv (.t 68), none, 0⟩] 0 false []
def K5_0 := bK5_0
theorem wK5_0 : Wp O K5_0 Q σ h = Wp O bK5_0 Q σ h := rfl
abbrev bL5_1 : AC :=
  .seq (.region [⟨some 34, .bin .lss (.t 33) (.t 32), none, 0⟩] 0 false []) (.seq (.cond (.t 34) .skip (.exit 0)) (.seq (.block 1 (.seq (.region [⟨some 35, .mv (.t 33), none, 0⟩, ⟨some 36, .idx 1 (.t 31)
  (.t 33), none, 0⟩, ⟨some 37, .load none (.t 36), none, 0⟩, ⟨some 9, .mv (.t 35), none, 0⟩, ⟨some 10, .mv (.t 37), none, 0⟩] 0 false []) (.seq (.region [⟨some 38, .mv (.t 10), none, 0⟩, ⟨some 39, .len
  (.t 38), none, 0⟩, ⟨some 40, .mv (.c (.int .i64 0)), none, 0⟩] 0 false []) (.block 2 (.loop L5_0))))) K5_0))
def L5_1 := bL5_1
theorem wL5_1 : Wp O L5_1 Q σ h = Wp O bL5_1 Q σ h := rfl
abbrev bK5_1 : AC :=
  .seq (.seq (.region [⟨some 69, .mv (.t 7), none, 0⟩, ⟨some 70, .lenS (.t 69), none, 0⟩, ⟨some 71, .mv (.t 8), none, 0⟩, ⟨some 72, .lenS (.t 71), none, 0⟩, ⟨some 73, .bin .add (.t 70) (.t 72), none, 0⟩,
  ⟨some 74, .bin .gtr (.t 73) (.c (.int .i64 40000)), none, 0⟩] 0 false []) (.cond (.t 74) (.seq (.region [⟨some 75, .call (.c (.fn 9 [])) [], none, 0⟩, ⟨some 6, .mv (.t 75), none, 0⟩] 0 false []) .ret)
  .skip)) (.seq (.region [⟨some 76, .call (.c (.fn 20 [])) [.c (.str [49, 40]), .c (.int .i64 98)], none, 0⟩, ⟨some 77, .bin .add (.c (.str [114, 32, 61, 32])) (.t 76), none, 0⟩, ⟨some 78, .bin .add (.t
  77) (.c (.str [97, 32, 98])), none, 0⟩, ⟨some 79, .call (.c (.fn 20 [])) [.c (.str [41]), .c (.int .i64 98)], none, 0⟩, ⟨some 80, .bin .add (.t 78) (.t 79), none, 0⟩, ⟨some 15, .mv (.t 80), none, 0⟩] 0
  false []) (.seq (.region [⟨some 81, .build [.str [], .int .i64 0, .int .i64 0] [(0, 1, .c (.str [114, 32, 97])), (1, 1, .c (.int .i64 2)), (2, 1, .c (.int .i64 20))], none, 0⟩, ⟨some 82, .build [.str
  [], .int .i64 0, .int .i64 0] [(0, 1, .c (.str [114])), (1, 1, .c (.int .i64 2)), (2, 1, .c (.int .i64 20))], none, 0⟩, ⟨some 83, .build [.str [], .int .i64 0, .int .i64 0] [(0, 1, .c (.str [114, 32,
  61, 32, 61, 32, 97])), (1, 1, .c (.int .i64 4)), (2, 1, .c (.int .i64 20))], none, 0⟩, ⟨some 84, .build [.str [], .int .i64 0, .int .i64 0] [(0, 1, .c (.str [114, 32, 61, 32, 47, 32, 97])), (1, 1, .c
  (.int .i64 4)), (2, 1, .c (.int .i64 20))], none, 0⟩, ⟨some 85, .build [.str [], .int .i64 0, .int .i64 0] [(0, 1, .c (.str [114, 32, 61, 32, 97, 32, 47, 32, 47, 32, 98])), (1, 1, .c (.int .i64 8)),
  (2, 1, .c (.int .i64 20))], none, 0⟩, ⟨some 86, .build [.str [], .int .i64 0, .int .i64 0] [(0, 1, .c (.str [114, 32, 61, 32, 97, 32, 41])), (1, 1, .c (.int .i64 6)), (2, 1, .c (.int .i64 20))], none,
  0⟩, ⟨some 87, .build [.str [], .int .i64 0, .int .i64 0] [(0, 1, .c (.str [114, 32, 61, 32, 40, 97, 93, 32, 98])), (1, 1, .c (.int .i64 6)), (2, 1, .c (.int .i64 20))], none, 0⟩, ⟨some 88, .build [.str
  [], .int .i64 0, .int .i64 0] [(0, 1, .c (.str [114, 32, 61, 32, 91, 97, 41, 32, 98])), (1, 1, .c (.int .i64 6)), (2, 1, .c (.int .i64 20))], none, 0⟩, ⟨some 89, .build [.str [], .int .i64 0, .int .i64
  0] [(0, 1, .c (.str [114, 32, 61, 32, 40, 41])), (1, 1, .c (.int .i64 5)), (2, 1, .c (.int .i64 20))], none, 0⟩, ⟨some 90, .build [.str [], .int .i64 0, .int .i64 0] [(0, 1, .c (.str [114, 32, 61, 32,
  50, 32, 51, 97])), (1, 1, .c (.int .i64 6)), (2, 1, .c (.int .i64 20))], none, 0⟩, ⟨some 91, .build [.str [], .int .i64 0, .int .i64 0] [(0, 1, .c (.str [114, 32, 61, 32, 97, 32, 50])), (1, 1, .c (.int
  .i64 8)), (2, 1, .c (.int .i64 20))], none, 0⟩, ⟨some 92, .build [.str [], .int .i64 0, .int .i64 0] [(0, 1, .c (.str [114, 32, 61, 32, 97, 32, 61, 47, 32, 98])), (1, 1, .c (.int .i64 6)), (2, 1, .c
  (.int .i64 20))], none, 0⟩, ⟨some 93, .build [.str [], .int .i64 0, .int .i64 0] [(0, 1, .c (.str [114, 32, 61, 32])), (1, 1, .c (.int .i64 5)), (2, 1, .c (.int .i64 20))], none, 0⟩, ⟨some 94, .build
  [.str [], .int .i64 0, .int .i64 0] [(0, 1, .c (.str [114, 32, 61, 32, 91, 97])), (1, 1, .c (.int .i64 7)), (2, 1, .c (.int .i64 20))], none, 0⟩, ⟨some 95, .mv (.t 15), none, 0⟩, ⟨some 96, .call (.c
  (.fn 22 [])) [.t 95, .c (.str [97, 32, 98]), .c (.str [49, 40, 97, 32, 98, 41]), .c (.int .i64 1)], none, 0⟩, ⟨some 97, .build [.str [], .int .i64 0, .int .i64 0] [(0, 1, .t 96), (1, 1, .c (.int .i64
  0)), (2, 1, .c (.int .i64 21))], none, 0⟩, ⟨some 98, .bslice 3 [.t 81, .t 82, .t 83, .t 84, .t 85, .t 86, .t 87, .t 88, .t 89, .t 90, .t 91, .t 92, .t 93, .t 94, .t 97], none, 0⟩, ⟨some 16, .mv (.t
  98), none, 0⟩] 0 false []) (.seq (.region [⟨some 99, .mv (.t 16), none, 0⟩, ⟨some 100, .mv (.t 1), none, 0⟩, ⟨some 101, .cvInt .i64 (.t 100), none, 0⟩, ⟨some 102, .mv (.t 16), none, 0⟩, ⟨some 103, .len
  (.t 102), none, 0⟩, ⟨some 104, .bin .rem (.t 101) (.t 103), none, 0⟩, ⟨some 105, .idx 3 (.t 99) (.t 104), none, 0⟩, ⟨some 106, .load (some 3) (.t 105), none, 0⟩, ⟨some 17, .alloc [.str [], .int .i64 0,
  .int .i64 0], none, 0⟩, ⟨none, .store 3 (.t 17) (.t 106), none, 1⟩] 1 false []) (.seq (.region [⟨some 108, .mv (.t 7), none, 0⟩, ⟨some 109, .mv (.t 15), none, 0⟩, ⟨some 110, .bin .add (.t 108) (.t
  109), none, 0⟩, ⟨some 111, .bin .add (.t 110) (.c (.str [10])), none, 0⟩, ⟨some 112, .mv (.t 8), none, 0⟩, ⟨some 113, .bin .add (.t 111) (.t 112), none, 0⟩, ⟨some 114, .call (.c (.fn 21 [])) [.t 113],
  none, 0⟩, ⟨some 107, .mv (.t 114), none, 0⟩, ⟨some 115, .ext (.t 107) 0, none, 0⟩, ⟨some 116, .ext (.t 107) 1, none, 0⟩, ⟨some 117, .ext (.t 107) 2, none, 0⟩, ⟨some 18, .mv (.t 115), none, 0⟩, ⟨some
  19, .mv (.t 116), none, 0⟩, ⟨some 20, .mv (.t 117), none, 0⟩] 0 false []) (.seq (.region [⟨some 118, .mv (.t 20), none, 0⟩, ⟨some 119, .bin .eql (.t 118) (.c (.int .i64 0)), none, 0⟩, ⟨some 120, .mv
  (.t 119), none, 0⟩, ⟨some 121, .mv (.t 18), some (120, true), 0⟩, ⟨some 122, .len (.t 121), some (120, true), 0⟩, ⟨some 123, .mv (.t 0), some (120, true), 0⟩, ⟨some 124, .len (.t 123), some (120,
  true), 0⟩, ⟨some 125, .min (.t 124) (.c (.int .i64 6)), some (120, true), 0⟩, ⟨some 126, .mv (.t 2), some (120, true), 0⟩, ⟨some 127, .len (.t 126), some (120, true), 0⟩, ⟨some 128, .min (.t 127) (.c
  (.int .i64 6)), some (120, true), 0⟩, ⟨some 129, .bin .add (.t 125) (.t 128), some (120, true), 0⟩, ⟨some 130, .bin .add (.t 129) (.c (.int .i64 1)), some (120, true), 0⟩, ⟨some 131, .bin .eql (.t 122)
  (.t 130), some (120, true), 0⟩, ⟨some 132, .pick (.t 120) (.t 131) (.c (.bool false)), none, 0⟩, ⟨some 133, .mv (.t 132), none, 0⟩, ⟨some 134, .mv (.t 7), some (133, true), 0⟩, ⟨some 135, .off 0 (.t
  17), some (133, true), 0⟩, ⟨some 136, .load none (.t 135), some (133, true), 0⟩, ⟨some 137, .bin .add (.t 134) (.t 136), some (133, true), 0⟩, ⟨some 138, .bin .add (.t 137) (.c (.str [10])), some (133,
  true), 0⟩, ⟨some 139, .mv (.t 8), some (133, true), 0⟩, ⟨some 140, .bin .add (.t 138) (.t 139), some (133, true), 0⟩, ⟨some 141, .mv (.t 7), some (133, true), 0⟩, ⟨some 142, .lenS (.t 141), some (133,
  true), 0⟩, ⟨some 143, .off 1 (.t 17), some (133, true), 0⟩, ⟨some 144, .load none (.t 143), some (133, true), 0⟩, ⟨some 145, .bin .add (.t 142) (.t 144), some (133, true), 0⟩, ⟨some 146, .off 2 (.t
  17), some (133, true), 0⟩, ⟨some 147, .load none (.t 146), some (133, true), 0⟩, ⟨some 148, .call (.c (.fn 23 [])) [.t 140, .t 145, .t 147], some (133, true), 0⟩, ⟨some 149, .pick (.t 133) (.t 148) (.c
  (.bool false)), none, 0⟩, ⟨some 150, .mv (.t 149), none, 0⟩, ⟨some 151, .call (.c (.fn 9 [])) [], some (150, true), 0⟩, ⟨some 152, .pick (.t 150) (.t 151) (.c (.bool false)), none, 0⟩, ⟨some 6, .mv (.t
  152), none, 0⟩] 0 false []) .ret)))))
def K5_1 := bK5_1
theorem wK5_1 : Wp O K5_1 Q σ h = Wp O bK5_1 Q σ h := rfl
abbrev bB5 : AC :=
  .seq (.region [⟨some 6, .mv (.c (.bool false)), none, 0⟩] 0 false []) (.seq (.region [⟨some 7, .mv (.c (.str [])), none, 0⟩, ⟨some 8, .mv (.c (.str [])), none, 0⟩] 0 false []) (.seq (.seq (.region
  [⟨some 21, .mv (.t 0), none, 0⟩, ⟨some 22, .mv (.t 0), none, 0⟩, ⟨some 23, .len (.t 22), none, 0⟩, ⟨some 24, .min (.t 23) (.c (.int .i64 6)), none, 0⟩, ⟨some 25, .slice 1 (.t 21) none (some (.t 24))
  none, none, 0⟩, ⟨some 26, .mv (.t 2), none, 0⟩, ⟨some 27, .mv (.t 2), none, 0⟩, ⟨some 28, .len (.t 27), none, 0⟩, ⟨some 29, .min (.t 28) (.c (.int .i64 6)), none, 0⟩, ⟨some 30, .slice 1 (.t 26) none
  (some (.t 29)) none, none, 0⟩, ⟨some 31, .bslice 1 [.t 25, .t 30], none, 0⟩, ⟨some 32, .len (.t 31), none, 0⟩, ⟨some 33, .mv (.c (.int .i64 0)), none, 0⟩] 0 true []) (.block 0 (.loop L5_1))) K5_1))
def B5 := bB5
theorem wB5 : Wp O B5 Q σ h = Wp O bB5 Q σ h := rfl
def F5 : AF := ⟨B5, [.tmp 6], false⟩
theorem tab5 : T 5 = some F5 := by kernel_rfl
/-- franking/frankinglow.Grown -/
abbrev bB18 : AC :=
  .seq (.region [⟨some 4, .alloc [.int .u8 0, .str [], .int .u8 0, .int .u8 0, .int .i64 0, .int .i64 0, .list 7 [] .full], none, 0⟩] 1 false []) (.seq (.region [⟨some 6, .mv (.t 0), none, 0⟩, ⟨some 7,
  .mv (.t 1), none, 0⟩, ⟨some 8, .build [.list 1 [] .full, .int .i64 0, .list 1 [] .full] [(0, 1, .t 6), (2, 1, .t 7)], none, 0⟩, ⟨some 9, .box 3 (.t 8), none, 0⟩, ⟨some 5, .mv (.t 9), none, 1⟩] 1 false
  []) (.seq (.region [⟨some 10, .mv (.t 5), none, 0⟩, ⟨some 11, .call (.c (.fn 48 [])) [.t 10, .c (.int .i64 0)], none, 0⟩, ⟨none, .store 7 (.t 4) (.t 11), none, 0⟩] 0 false []) .ret))
def B18 := bB18
theorem wB18 : Wp O B18 Q σ h = Wp O bB18 Q σ h := rfl
def F18 : AF := ⟨B18, [.cell 4 (some 7)], false⟩
theorem tab18 : T 18 = some F18 := by kernel_rfl
/-- (*franking/frankinglow.grower).tree -/
abbrev bJ48_0 : AC :=
  .cond (.t 93) (.seq (.region [⟨some 96, .mv (.t 0), none, 0⟩, ⟨some 97, .mv (.t 1), none, 0⟩, ⟨some 98, .call (.c (.fn 93 [])) [.t 96, .c (.int .u8 6), .t 97], none, 0⟩, ⟨none, .store 7 (.t 4) (.t 98),
  none, 0⟩] 0 false []) .ret) .skip
def J48_0 := bJ48_0
theorem wJ48_0 : Wp O J48_0 Q σ h = Wp O bJ48_0 Q σ h := rfl
abbrev bJ48_1 : AC :=
  .cond (.t 86) (.seq (.region [⟨some 90, .mv (.t 0), none, 0⟩, ⟨some 91, .mv (.t 1), none, 0⟩, ⟨some 92, .call (.c (.fn 93 [])) [.t 90, .c (.int .u8 5), .t 91], none, 0⟩, ⟨none, .store 7 (.t 4) (.t 92),
  none, 0⟩] 0 false []) .ret) (.seq (.seq (.region [⟨some 94, .bin .eql (.t 26) (.c (.int .i64 7)), none, 0⟩, ⟨some 93, .mv (.t 94), none, 0⟩] 0 false []) (.cond (.t 93) .skip (.region [⟨some 95, .bin
  .eql (.t 26) (.c (.int .i64 8)), none, 0⟩, ⟨some 93, .mv (.t 95), none, 0⟩] 0 false []))) J48_0)
def J48_1 := bJ48_1
theorem wJ48_1 : Wp O J48_1 Q σ h = Wp O bJ48_1 Q σ h := rfl
abbrev bJ48_2 : AC :=
  .seq (.region [⟨some 123, .mv (.t 0), none, 0⟩, ⟨some 124, .mv (.t 1), none, 0⟩, ⟨some 125, .bin .add (.t 124) (.c (.int .i64 1)), none, 0⟩, ⟨some 126, .call (.c (.fn 48 [])) [.t 123, .t 125], none,
  0⟩, ⟨some 127, .bslice 7 [.t 126], none, 0⟩, ⟨some 128, .off 6 (.t 9), none, 0⟩, ⟨none, .store 1 (.t 128) (.t 127), none, 0⟩] 0 false []) (.seq (.region [⟨some 129, .load (some 7) (.t 9), none, 0⟩,
  ⟨none, .store 7 (.t 4) (.t 129), none, 0⟩] 0 false []) .ret)
def J48_2 := bJ48_2
theorem wJ48_2 : Wp O J48_2 Q σ h = Wp O bJ48_2 Q σ h := rfl
abbrev bJ48_3 : AC :=
  .seq (.region [⟨some 99, .build [.int .u8 0, .str [], .int .u8 0, .int .u8 0, .int .i64 0, .int .i64 0, .list 7 [] .full] [(0, 1, .c (.int .u8 7)), (5, 1, .c (.int .i64 (-1)))], none, 0⟩, ⟨some 9,
  .alloc [.int .u8 0, .str [], .int .u8 0, .int .u8 0, .int .i64 0, .int .i64 0, .list 7 [] .full], none, 0⟩, ⟨none, .store 7 (.t 9) (.t 99), none, 1⟩] 1 false []) (.seq (.seq (.region [⟨some 100, .mv
  (.t 0), none, 0⟩, ⟨some 101, .call (.c (.fn 92 [])) [.t 100, .c (.int .i64 5)], none, 0⟩] 0 false []) (.block 1 (.seq (.region [⟨some 103, .bin .eql (.t 101) (.c (.int .i64 1)), none, 0⟩, ⟨some 102,
  .mv (.t 103), none, 0⟩] 0 false []) (.cond (.t 102) (.region [⟨some 104, .off 5 (.t 9), none, 0⟩, ⟨none, .store 1 (.t 104) (.c (.int .i64 1)), none, 0⟩] 0 false []) (.seq (.region [⟨some 106, .bin .eql
  (.t 101) (.c (.int .i64 2)), none, 0⟩, ⟨some 105, .mv (.t 106), none, 0⟩] 0 false []) (.cond (.t 105) (.region [⟨some 107, .off 4 (.t 9), none, 0⟩, ⟨none, .store 1 (.t 107) (.c (.int .i64 1)), none,
  0⟩] 0 false []) (.seq (.region [⟨some 109, .bin .eql (.t 101) (.c (.int .i64 3)), none, 0⟩, ⟨some 108, .mv (.t 109), none, 0⟩] 0 false []) (.cond (.t 108) (.region [⟨some 110, .off 4 (.t 9), none, 0⟩,
  ⟨none, .store 1 (.t 110) (.c (.int .i64 2)), none, 0⟩, ⟨some 111, .off 5 (.t 9), none, 0⟩, ⟨none, .store 1 (.t 111) (.c (.int .i64 2)), none, 0⟩] 0 false []) (.seq (.region [⟨some 113, .bin .eql (.t
  101) (.c (.int .i64 4)), none, 0⟩, ⟨some 112, .mv (.t 113), none, 0⟩] 0 false []) (.cond (.t 112) (.seq (.region [⟨some 114, .mv (.t 0), none, 0⟩, ⟨some 115, .call (.c (.fn 92 [])) [.t 114, .c (.int
  .i64 3)], none, 0⟩, ⟨some 116, .off 4 (.t 9), none, 0⟩, ⟨none, .store 1 (.t 116) (.t 115), none, 0⟩] 0 false []) (.region [⟨some 117, .off 4 (.t 9), none, 0⟩, ⟨some 118, .load none (.t 117), none, 0⟩,
  ⟨some 119, .mv (.t 0), none, 0⟩, ⟨some 120, .call (.c (.fn 92 [])) [.t 119, .c (.int .i64 3)], none, 0⟩, ⟨some 121, .bin .add (.t 118) (.t 120), none, 0⟩, ⟨some 122, .off 5 (.t 9), none, 0⟩, ⟨none,
  .store 1 (.t 122) (.t 121), none, 0⟩] 0 true [(1, 3)])) .skip)))))))))) J48_2)
def J48_3 := bJ48_3
theorem wJ48_3 : Wp O J48_3 Q σ h = Wp O bJ48_3 Q σ h := rfl
abbrev bJ48_4 : AC :=
  .seq (.seq (.region [⟨some 24, .mv (.t 0), none, 0⟩, ⟨some 25, .mv (.t 5), none, 0⟩, ⟨some 26, .call (.c (.fn 92 [])) [.t 24, .t 25], none, 0⟩] 0 false []) (.block 0 (.seq (.region [⟨some 28, .bin .eql
  (.t 26) (.c (.int .i64 0)), none, 0⟩, ⟨some 27, .mv (.t 28), none, 0⟩] 0 false []) (.cond (.t 27) (.seq (.seq (.region [⟨some 29, .mv (.t 0), none, 0⟩, ⟨some 30, .nilchk (.t 29), none, 0⟩, ⟨some 31,
  .off 2 (.t 30), none, 0⟩, ⟨some 32, .load none (.t 31), none, 0⟩, ⟨some 33, .len (.t 32), none, 0⟩, ⟨some 34, .bin .gtr (.t 33) (.c (.int .i64 0)), none, 0⟩] 0 false []) (.cond (.t 34) (.seq (.region
  [⟨some 35, .mv (.t 0), none, 0⟩, ⟨some 36, .nilchk (.t 35), none, 0⟩, ⟨some 37, .off 2 (.t 36), none, 0⟩, ⟨some 38, .load none (.t 37), none, 0⟩, ⟨some 39, .mv (.t 0), none, 0⟩, ⟨some 40, .mv (.t 0),
  none, 0⟩, ⟨some 41, .nilchk (.t 40), none, 0⟩, ⟨some 42, .off 2 (.t 41), none, 0⟩, ⟨some 43, .load none (.t 42), none, 0⟩, ⟨some 44, .len (.t 43), none, 0⟩, ⟨some 45, .call (.c (.fn 92 [])) [.t 39, .t
  44], none, 0⟩, ⟨some 46, .idx 1 (.t 38) (.t 45), none, 0⟩, ⟨some 47, .load none (.t 46), none, 0⟩, ⟨some 48, .build [.int .u8 0, .str [], .int .u8 0, .int .u8 0, .int .i64 0, .int .i64 0, .list 7 []
  .full] [(0, 1, .c (.int .u8 1)), (1, 1, .t 47)], none, 0⟩, ⟨none, .store 7 (.t 4) (.t 48), none, 0⟩] 0 true [(3, 10)]) .ret) .skip)) (.seq (.region [⟨some 49, .build [.int .u8 0, .str [], .int .u8 0,
  .int .u8 0, .int .i64 0, .int .i64 0, .list 7 [] .full] [(0, 1, .c (.int .u8 2)), (1, 1, .c (.str [98]))], none, 0⟩, ⟨none, .store 7 (.t 4) (.t 49), none, 0⟩] 0 false []) .ret)) (.seq (.region [⟨some
  51, .bin .eql (.t 26) (.c (.int .i64 1)), none, 0⟩, ⟨some 50, .mv (.t 51), none, 0⟩] 0 false []) (.cond (.t 50) (.seq (.region [⟨some 52, .bslice 1 [.c (.str [97]), .c (.str [97, 98]), .c (.str []), .c
  (.str [98, 32, 99]), .c (.str [65, 45, 98]), .c (.str [43])], none, 0⟩, ⟨some 6, .mv (.t 52), none, 0⟩] 0 false []) (.seq (.region [⟨some 53, .mv (.t 6), none, 0⟩, ⟨some 54, .mv (.t 0), none, 0⟩, ⟨some
  55, .mv (.t 6), none, 0⟩, ⟨some 56, .len (.t 55), none, 0⟩, ⟨some 57, .call (.c (.fn 92 [])) [.t 54, .t 56], none, 0⟩, ⟨some 58, .idx 1 (.t 53) (.t 57), none, 0⟩, ⟨some 59, .load none (.t 58), none,
  0⟩, ⟨some 60, .build [.int .u8 0, .str [], .int .u8 0, .int .u8 0, .int .i64 0, .int .i64 0, .list 7 [] .full] [(0, 1, .c (.int .u8 2)), (1, 1, .t 59)], none, 0⟩, ⟨none, .store 7 (.t 4) (.t 60), none,
  0⟩] 0 false []) .ret)) (.seq (.region [⟨some 62, .bin .eql (.t 26) (.c (.int .i64 2)), none, 0⟩, ⟨some 61, .mv (.t 62), none, 0⟩] 0 false []) (.cond (.t 61) (.seq (.region [⟨some 63, .bslice 1 [.c
  (.str [97]), .c (.str [13, 10]), .c (.str [65]), .c (.str [0, 255]), .c (.str [128])], none, 0⟩, ⟨some 7, .mv (.t 63), none, 0⟩] 0 false []) (.seq (.region [⟨some 64, .mv (.t 7), none, 0⟩, ⟨some 65,
  .mv (.t 0), none, 0⟩, ⟨some 66, .mv (.t 7), none, 0⟩, ⟨some 67, .len (.t 66), none, 0⟩, ⟨some 68, .call (.c (.fn 92 [])) [.t 65, .t 67], none, 0⟩, ⟨some 69, .idx 1 (.t 64) (.t 68), none, 0⟩, ⟨some 70,
  .load none (.t 69), none, 0⟩, ⟨some 71, .build [.int .u8 0, .str [], .int .u8 0, .int .u8 0, .int .i64 0, .int .i64 0, .list 7 [] .full] [(0, 1, .c (.int .u8 3)), (1, 1, .t 70)], none, 0⟩, ⟨none,
  .store 7 (.t 4) (.t 71), none, 0⟩] 0 false []) .ret)) (.seq (.region [⟨some 73, .bin .eql (.t 26) (.c (.int .i64 3)), none, 0⟩, ⟨some 72, .mv (.t 73), none, 0⟩] 0 false []) (.cond (.t 72) (.seq
  (.region [⟨some 74, .mv (.t 0), none, 0⟩, ⟨some 75, .call (.c (.fn 92 [])) [.t 74, .c (.int .i64 256)], none, 0⟩, ⟨some 8, .mv (.t 75), none, 0⟩] 0 false []) (.seq (.region [⟨some 76, .mv (.t 8), none,
  0⟩, ⟨some 77, .cvInt .u8 (.t 76), none, 0⟩, ⟨some 78, .mv (.t 8), none, 0⟩, ⟨some 79, .mv (.t 0), none, 0⟩, ⟨some 80, .mv (.t 8), none, 0⟩, ⟨some 81, .bin .sub (.c (.int .i64 256)) (.t 80), none, 0⟩,
  ⟨some 82, .call (.c (.fn 92 [])) [.t 79, .t 81], none, 0⟩, ⟨some 83, .bin .add (.t 78) (.t 82), none, 0⟩, ⟨some 84, .cvInt .u8 (.t 83), none, 0⟩, ⟨some 85, .build [.int .u8 0, .str [], .int .u8 0, .int
  .u8 0, .int .i64 0, .int .i64 0, .list 7 [] .full] [(0, 1, .c (.int .u8 4)), (2, 1, .t 77), (3, 1, .t 84)], none, 0⟩, ⟨none, .store 7 (.t 4) (.t 85), none, 0⟩] 0 false []) .ret)) (.seq (.seq (.region
  [⟨some 87, .bin .eql (.t 26) (.c (.int .i64 4)), none, 0⟩, ⟨some 86, .mv (.t 87), none, 0⟩] 0 false []) (.cond (.t 86) .skip (.seq (.region [⟨some 88, .bin .eql (.t 26) (.c (.int .i64 5)), none, 0⟩,
  ⟨some 86, .mv (.t 88), none, 0⟩] 0 false []) (.cond (.t 86) .skip (.region [⟨some 89, .bin .eql (.t 26) (.c (.int .i64 6)), none, 0⟩, ⟨some 86, .mv (.t 89), none, 0⟩] 0 false []))))) J48_1)))))))))))
  J48_3
def J48_4 := bJ48_4
theorem wJ48_4 : Wp O J48_4 Q σ h = Wp O bJ48_4 Q σ h := rfl
abbrev bB48 : AC :=
  .seq (.region [⟨some 4, .alloc [.int .u8 0, .str [], .int .u8 0, .int .u8 0, .int .i64 0, .int .i64 0, .list 7 [] .full], none, 0⟩] 1 false []) (.seq (.region [⟨some 5, .mv (.c (.int .i64 10)), none,
  0⟩] 0 false []) (.seq (.seq (.region [⟨some 10, .mv (.t 1), none, 0⟩, ⟨some 11, .bin .geq (.t 10) (.c (.int .i64 6)), none, 0⟩, ⟨some 12, .mv (.t 11), none, 0⟩, ⟨some 13, .mv (.t 0), some (12, false),
  0⟩, ⟨some 14, .nilchk (.t 13), some (12, false), 0⟩, ⟨some 15, .off 1 (.t 14), some (12, false), 0⟩, ⟨some 16, .load none (.t 15), some (12, false), 0⟩, ⟨some 17, .mv (.t 0), some (12, false), 0⟩,
  ⟨some 18, .nilchk (.t 17), some (12, false), 0⟩, ⟨some 19, .off 0 (.t 18), some (12, false), 0⟩, ⟨some 20, .load none (.t 19), some (12, false), 0⟩, ⟨some 21, .len (.t 20), some (12, false), 0⟩, ⟨some
  22, .bin .geq (.t 16) (.t 21), some (12, false), 0⟩, ⟨some 23, .pick (.t 12) (.c (.bool true)) (.t 22), none, 0⟩] 0 true []) (.cond (.t 23) (.region [⟨some 5, .mv (.c (.int .i64 4)), none, 0⟩] 0 false
  []) .skip)) J48_4))
def B48 := bB48
theorem wB48 : Wp O B48 Q σ h = Wp O bB48 Q σ h := rfl
def F48 : AF := ⟨B48, [.cell 4 (some 7)], false⟩
theorem tab48 : T 48 = some F48 := by kernel_rfl
/-- (*franking/frankinglow.grower).next -/
abbrev bB92 : AC :=
  .seq (.region [⟨some 4, .mv (.c (.int .i64 0)), none, 0⟩] 0 false []) (.seq (.seq (.region [⟨some 5, .mv (.t 0), none, 0⟩, ⟨some 6, .nilchk (.t 5), none, 0⟩, ⟨some 7, .off 1 (.t 6), none, 0⟩, ⟨some 8,
  .load none (.t 7), none, 0⟩, ⟨some 9, .mv (.t 0), none, 0⟩, ⟨some 10, .nilchk (.t 9), none, 0⟩, ⟨some 11, .off 0 (.t 10), none, 0⟩, ⟨some 12, .load none (.t 11), none, 0⟩, ⟨some 13, .len (.t 12), none,
  0⟩, ⟨some 14, .bin .geq (.t 8) (.t 13), none, 0⟩] 0 true []) (.cond (.t 14) (.seq (.region [⟨some 4, .mv (.c (.int .i64 0)), none, 0⟩] 0 false []) .ret) .skip)) (.seq (.region [⟨some 15, .mv (.t 0),
  none, 0⟩, ⟨some 16, .nilchk (.t 15), none, 0⟩, ⟨some 17, .off 1 (.t 16), none, 0⟩, ⟨some 18, .load none (.t 17), none, 0⟩, ⟨some 19, .bin .add (.t 18) (.c (.int .i64 1)), none, 0⟩, ⟨some 20, .nilchk
  (.t 15), none, 0⟩, ⟨some 21, .off 1 (.t 20), none, 0⟩, ⟨none, .store 1 (.t 21) (.t 19), none, 0⟩] 0 false []) (.seq (.region [⟨some 22, .mv (.t 0), none, 0⟩, ⟨some 23, .nilchk (.t 22), none, 0⟩, ⟨some
  24, .off 0 (.t 23), none, 0⟩, ⟨some 25, .load none (.t 24), none, 0⟩, ⟨some 26, .mv (.t 0), none, 0⟩, ⟨some 27, .nilchk (.t 26), none, 0⟩, ⟨some 28, .off 1 (.t 27), none, 0⟩, ⟨some 29, .load none (.t
  28), none, 0⟩, ⟨some 30, .bin .sub (.t 29) (.c (.int .i64 1)), none, 0⟩, ⟨some 31, .idx 1 (.t 25) (.t 30), none, 0⟩, ⟨some 32, .load none (.t 31), none, 0⟩, ⟨some 33, .cvInt .i64 (.t 32), none, 0⟩,
  ⟨some 34, .mv (.t 1), none, 0⟩, ⟨some 35, .bin .rem (.t 33) (.t 34), none, 0⟩, ⟨some 4, .mv (.t 35), none, 0⟩] 0 true []) .ret)))
def B92 := bB92
theorem wB92 : Wp O B92 Q σ h = Wp O bB92 Q σ h := rfl
def F92 : AF := ⟨B92, [.tmp 4], false⟩
theorem tab92 : T 92 = some F92 := by kernel_rfl
/-- (*franking/frankinglow.grower).some -/
abbrev bL93_0 : AC :=
  .seq (.region [⟨some 14, .bin .lss (.t 13) (.t 12), none, 0⟩] 0 false []) (.seq (.cond (.t 14) .skip (.exit 0)) (.seq (.block 1 (.region [⟨some 15, .off 6 (.t 7), none, 0⟩, ⟨some 16, .load none (.t
  15), none, 0⟩, ⟨some 17, .mv (.t 0), none, 0⟩, ⟨some 18, .mv (.t 2), none, 0⟩, ⟨some 19, .bin .add (.t 18) (.c (.int .i64 1)), none, 0⟩, ⟨some 20, .call (.c (.fn 48 [])) [.t 17, .t 19], none, 0⟩, ⟨some
  21, .bslice 7 [.t 20], none, 0⟩, ⟨some 22, .append 7 72 25 (.t 16) (.t 21), none, 0⟩, ⟨some 23, .off 6 (.t 7), none, 1⟩, ⟨none, .store 1 (.t 23) (.t 22), none, 1⟩] 1 true [(1, 5)])) (.region [⟨some 24,
  .bin .add (.t 13) (.c (.int .i64 1)), none, 0⟩, ⟨some 13, .mv (.t 24), none, 0⟩] 0 false [])))
def L93_0 := bL93_0
theorem wL93_0 : Wp O L93_0 Q σ h = Wp O bL93_0 Q σ h := rfl
abbrev bK93_0 : AC :=
  .seq (.region [⟨some 25, .load (some 7) (.t 7), none, 0⟩, ⟨none, .store 7 (.t 6) (.t 25), none, 0⟩] 0 false []) .ret
def K93_0 := bK93_0
theorem wK93_0 : Wp O K93_0 Q σ h = Wp O bK93_0 Q σ h := rfl
abbrev bB93 : AC :=
  .seq (.region [⟨some 6, .alloc [.int .u8 0, .str [], .int .u8 0, .int .u8 0, .int .i64 0, .int .i64 0, .list 7 [] .full], none, 0⟩] 1 false []) (.seq (.region [⟨some 8, .mv (.t 1), none, 0⟩, ⟨some 9,
  .build [.int .u8 0, .str [], .int .u8 0, .int .u8 0, .int .i64 0, .int .i64 0, .list 7 [] .full] [(0, 1, .t 8)], none, 0⟩, ⟨some 7, .alloc [.int .u8 0, .str [], .int .u8 0, .int .u8 0, .int .i64 0,
  .int .i64 0, .list 7 [] .full], none, 0⟩, ⟨none, .store 7 (.t 7) (.t 9), none, 1⟩] 1 false []) (.seq (.seq (.region [⟨some 10, .mv (.t 0), none, 0⟩, ⟨some 11, .call (.c (.fn 92 [])) [.t 10, .c (.int
  .i64 2)], none, 0⟩, ⟨some 12, .bin .add (.c (.int .i64 2)) (.t 11), none, 0⟩, ⟨some 13, .mv (.c (.int .i64 0)), none, 0⟩] 0 false []) (.block 0 (.loop L93_0))) K93_0))
def B93 := bB93
theorem wB93 : Wp O B93 Q σ h = Wp O bB93 Q σ h := rfl
def F93 : AF := ⟨B93, [.cell 6 (some 7)], false⟩
theorem tab93 : T 93 = some F93 := by kernel_rfl
/-- strings.TrimPrefix -/
abbrev bB19 : AC :=
  .seq (.region [⟨some 4, .mv (.c (.str [])), none, 0⟩] 0 false []) (.seq (.region [⟨some 5, .mv (.t 0), none, 0⟩, ⟨some 6, .mv (.t 1), none, 0⟩, ⟨some 7, .call (.c (.fn 49 [])) [.t 5, .t 6], none, 0⟩,
  ⟨some 4, .mv (.t 7), none, 0⟩] 0 false []) .ret)
def B19 := bB19
theorem wB19 : Wp O B19 Q σ h = Wp O bB19 Q σ h := rfl
def F19 : AF := ⟨B19, [.tmp 4], false⟩
theorem tab19 : T 19 = some F19 := by kernel_rfl
/-- internal/stringslite.TrimPrefix -/
abbrev bB49 : AC :=
  .seq (.region [⟨some 4, .mv (.c (.str [])), none, 0⟩] 0 false []) (.seq (.seq (.region [⟨some 5, .mv (.t 0), none, 0⟩, ⟨some 6, .mv (.t 1), none, 0⟩, ⟨some 7, .call (.c (.fn 94 [])) [.t 5, .t 6], none,
  0⟩] 0 false []) (.cond (.t 7) (.seq (.region [⟨some 8, .mv (.t 0), none, 0⟩, ⟨some 9, .mv (.t 1), none, 0⟩, ⟨some 10, .lenS (.t 9), none, 0⟩, ⟨some 11, .sliceS (.t 8) (some (.t 10)) none, none, 0⟩,
  ⟨some 4, .mv (.t 11), none, 0⟩] 0 false []) .ret) .skip)) (.seq (.region [⟨some 12, .mv (.t 0), none, 0⟩, ⟨some 4, .mv (.t 12), none, 0⟩] 0 false []) .ret))
def B49 := bB49
theorem wB49 : Wp O B49 Q σ h = Wp O bB49 Q σ h := rfl
def F49 : AF := ⟨B49, [.tmp 4], false⟩
theorem tab49 : T 49 = some F49 := by kernel_rfl
end Go.Proofs.YtmmapbhhkmchcaaGreatDoor
