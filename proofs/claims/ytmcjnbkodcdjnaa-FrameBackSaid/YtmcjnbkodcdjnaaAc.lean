/-
  The abstract code of the functions that the laws reach.
-/
import Derived.Test.YtmcjnbkodcdjnaaProg
import Derived.Test.YtmcjnbkodcdjnaaAmC
import Derived.KernelRfl
set_option linter.unusedVariables false
set_option maxRecDepth 100000
namespace Go.Proofs.Ytmcjnbkodcdjnaa
open Go Go.Am
noncomputable def T : FuncId → Option AF := table Try.prog ["frame.go:22"] ["franking/frame.Push$1"]
variable {O : Orc} {Q : Ex → Slots → Heap → Prop} {σ : Slots} {h : Heap}
/-- franking/frankinglaw12.FrameChunks -/
abbrev bB3 : AC :=
  .seq (.region [⟨some 8, .mv (.c (.bool false)), none, 0⟩] 0 false []) (.seq (.seq (.region [⟨some 19, .mv (.t 1), none, 0⟩, ⟨some 20, .len (.t 19), none, 0⟩, ⟨some 21, .bin .gtr (.t 20) (.c (.int .i64
  3000)), none, 0⟩] 0 false []) (.cond (.t 21) (.seq (.region [⟨some 22, .call (.c (.fn 7 [])) [], none, 0⟩, ⟨some 8, .mv (.t 22), none, 0⟩] 0 false []) .ret) .skip)) (.seq (.region [⟨some 23, .mv (.t
  0), none, 0⟩, ⟨some 24, .cvInt .i64 (.t 23), none, 0⟩, ⟨some 25, .bin .rem (.t 24) (.c (.int .i64 2000)), none, 0⟩, ⟨some 26, .bin .add (.c (.int .i64 1)) (.t 25), none, 0⟩, ⟨some 9, .mv (.t 26), none,
  0⟩] 0 false []) (.seq (.region [⟨some 28, .mv (.t 9), none, 0⟩, ⟨some 29, .mv (.t 1), none, 0⟩, ⟨some 30, .mv (.t 2), none, 0⟩, ⟨some 31, .call (.c (.fn 8 [])) [.t 28, .t 29, .t 30], none, 0⟩, ⟨some
  27, .mv (.t 31), none, 0⟩, ⟨some 32, .ext (.t 27) 0, none, 0⟩, ⟨some 33, .ext (.t 27) 1, none, 0⟩, ⟨some 34, .ext (.t 27) 2, none, 0⟩, ⟨some 10, .alloc [.int .i64 0, .str [], .bool false, .bool false],
  none, 0⟩, ⟨none, .store 4 (.t 10) (.t 32), none, 1⟩, ⟨some 11, .mv (.t 33), none, 1⟩, ⟨some 12, .mv (.t 34), none, 1⟩] 1 false []) (.seq (.region [⟨some 36, .mv (.t 9), none, 0⟩, ⟨some 37, .mv (.t 1),
  none, 0⟩, ⟨some 38, .mv (.t 3), none, 0⟩, ⟨some 39, .call (.c (.fn 8 [])) [.t 36, .t 37, .t 38], none, 0⟩, ⟨some 35, .mv (.t 39), none, 0⟩, ⟨some 40, .ext (.t 35) 0, none, 0⟩, ⟨some 41, .ext (.t 35) 1,
  none, 0⟩, ⟨some 42, .ext (.t 35) 2, none, 0⟩, ⟨some 13, .alloc [.int .i64 0, .str [], .bool false, .bool false], none, 0⟩, ⟨none, .store 4 (.t 13) (.t 40), none, 1⟩, ⟨some 14, .mv (.t 41), none, 1⟩,
  ⟨some 15, .mv (.t 42), none, 1⟩] 1 false []) (.seq (.region [⟨some 44, .mv (.t 9), none, 0⟩, ⟨some 45, .mv (.t 1), none, 0⟩, ⟨some 46, .call (.c (.fn 8 [])) [.t 44, .t 45, .c (.list 1 [] .full)], none,
  0⟩, ⟨some 43, .mv (.t 46), none, 0⟩, ⟨some 47, .ext (.t 43) 0, none, 0⟩, ⟨some 48, .ext (.t 43) 1, none, 0⟩, ⟨some 49, .ext (.t 43) 2, none, 0⟩, ⟨some 16, .alloc [.int .i64 0, .str [], .bool false,
  .bool false], none, 0⟩, ⟨none, .store 4 (.t 16) (.t 47), none, 1⟩, ⟨some 17, .mv (.t 48), none, 1⟩, ⟨some 18, .mv (.t 49), none, 1⟩] 1 false []) (.seq (.region [⟨some 50, .mv (.t 12), none, 0⟩, ⟨some
  51, .mv (.t 50), none, 0⟩, ⟨some 52, .mv (.t 15), some (51, true), 0⟩, ⟨some 53, .pick (.t 51) (.t 52) (.c (.bool false)), none, 0⟩, ⟨some 54, .mv (.t 53), none, 0⟩, ⟨some 55, .mv (.t 18), some (54,
  true), 0⟩, ⟨some 56, .pick (.t 54) (.t 55) (.c (.bool false)), none, 0⟩, ⟨some 57, .mv (.t 56), none, 0⟩, ⟨some 58, .load (some 4) (.t 10), some (57, true), 0⟩, ⟨some 59, .load (some 4) (.t 13), some
  (57, true), 0⟩, ⟨some 60, .eq false (some 4) [(0, LK.int), (1, LK.str), (2, LK.bool), (3, LK.bool)] (.t 58) (.t 59), some (57, true), 0⟩, ⟨some 61, .pick (.t 57) (.t 60) (.c (.bool false)), none, 0⟩,
  ⟨some 62, .mv (.t 61), none, 0⟩, ⟨some 63, .load (some 4) (.t 13), some (62, true), 0⟩, ⟨some 64, .load (some 4) (.t 16), some (62, true), 0⟩, ⟨some 65, .eq false (some 4) [(0, LK.int), (1, LK.str),
  (2, LK.bool), (3, LK.bool)] (.t 63) (.t 64), some (62, true), 0⟩, ⟨some 66, .pick (.t 62) (.t 65) (.c (.bool false)), none, 0⟩, ⟨some 67, .mv (.t 66), none, 0⟩, ⟨some 68, .mv (.t 11), some (67, true),
  0⟩, ⟨some 69, .mv (.t 14), some (67, true), 0⟩, ⟨some 70, .call (.c (.fn 9 [])) [.t 68, .t 69], some (67, true), 0⟩, ⟨some 71, .pick (.t 67) (.t 70) (.c (.bool false)), none, 0⟩, ⟨some 72, .mv (.t 71),
  none, 0⟩, ⟨some 73, .mv (.t 14), some (72, true), 0⟩, ⟨some 74, .mv (.t 17), some (72, true), 0⟩, ⟨some 75, .call (.c (.fn 9 [])) [.t 73, .t 74], some (72, true), 0⟩, ⟨some 76, .pick (.t 72) (.t 75)
  (.c (.bool false)), none, 0⟩, ⟨some 77, .mv (.t 76), none, 0⟩, ⟨some 78, .call (.c (.fn 7 [])) [], some (77, true), 0⟩, ⟨some 79, .pick (.t 77) (.t 78) (.c (.bool false)), none, 0⟩, ⟨some 8, .mv (.t
  79), none, 0⟩] 0 false []) .ret))))))
def B3 := bB3
theorem wB3 : Wp O B3 Q σ h = Wp O bB3 Q σ h := rfl
def F3 : AF := ⟨B3, [.tmp 8], false⟩
theorem tab3 : T 3 = some F3 := by kernel_rfl
/-- franking/frankinglaw12.FrameMore -/
abbrev bL4_0 : AC :=
  .seq (.region [⟨some 91, .bin .lss (.t 90) (.t 89), none, 0⟩] 0 false []) (.seq (.cond (.t 91) .skip (.exit 0)) (.seq (.block 1 (.seq (.region [⟨some 92, .mv (.t 90), none, 0⟩, ⟨some 93, .idx 2 (.t 88)
  (.t 90), none, 0⟩, ⟨some 94, .load (some 2) (.t 93), none, 0⟩, ⟨some 16, .alloc [.str [], .bool false], none, 0⟩, ⟨some 15, .mv (.t 92), none, 1⟩, ⟨none, .store 2 (.t 16) (.t 94), none, 1⟩] 1 false [])
  (.seq (.region [⟨some 95, .mv (.t 13), none, 0⟩, ⟨some 96, .mv (.t 15), none, 0⟩, ⟨some 97, .idx 2 (.t 95) (.t 96), none, 0⟩, ⟨some 98, .off 0 (.t 97), none, 0⟩, ⟨some 99, .load none (.t 98), none, 0⟩,
  ⟨some 100, .off 0 (.t 16), none, 0⟩, ⟨some 101, .load none (.t 100), none, 0⟩, ⟨some 102, .call (.c (.fn 10 [])) [.t 99, .t 101], none, 0⟩, ⟨some 103, .not (.t 102), none, 0⟩, ⟨some 104, .mv (.t 103),
  none, 0⟩, ⟨some 105, .off 0 (.t 16), some (104, false), 0⟩, ⟨some 106, .load none (.t 105), some (104, false), 0⟩, ⟨some 107, .lenS (.t 106), some (104, false), 0⟩, ⟨some 108, .mv (.t 7), some (104,
  false), 0⟩, ⟨some 109, .mv (.t 13), some (104, false), 0⟩, ⟨some 110, .mv (.t 15), some (104, false), 0⟩, ⟨some 111, .idx 2 (.t 109) (.t 110), some (104, false), 0⟩, ⟨some 112, .off 0 (.t 111), some
  (104, false), 0⟩, ⟨some 113, .load none (.t 112), some (104, false), 0⟩, ⟨some 114, .lenS (.t 113), some (104, false), 0⟩, ⟨some 115, .min (.t 108) (.t 114), some (104, false), 0⟩, ⟨some 116, .bin .neq
  (.t 107) (.t 115), some (104, false), 0⟩, ⟨some 117, .pick (.t 104) (.c (.bool true)) (.t 116), none, 0⟩, ⟨some 118, .mv (.t 117), none, 0⟩, ⟨some 119, .off 1 (.t 16), some (118, false), 0⟩, ⟨some 120,
  .load none (.t 119), some (118, false), 0⟩, ⟨some 121, .mv (.t 13), some (118, false), 0⟩, ⟨some 122, .mv (.t 15), some (118, false), 0⟩, ⟨some 123, .idx 2 (.t 121) (.t 122), some (118, false), 0⟩,
  ⟨some 124, .off 1 (.t 123), some (118, false), 0⟩, ⟨some 125, .load none (.t 124), some (118, false), 0⟩, ⟨some 126, .mv (.t 125), some (118, false), 0⟩, ⟨some 127, .mv (.t 13), some (126, false), 0⟩,
  ⟨some 128, .mv (.t 15), some (126, false), 0⟩, ⟨some 129, .idx 2 (.t 127) (.t 128), some (126, false), 0⟩, ⟨some 130, .off 0 (.t 129), some (126, false), 0⟩, ⟨some 131, .load none (.t 130), some (126,
  false), 0⟩, ⟨some 132, .lenS (.t 131), some (126, false), 0⟩, ⟨some 133, .mv (.t 7), some (126, false), 0⟩, ⟨some 134, .bin .gtr (.t 132) (.t 133), some (126, false), 0⟩, ⟨some 135, .pick (.t 126) (.c
  (.bool true)) (.t 134), some (118, false), 0⟩, ⟨some 136, .eq true none [(0, LK.bool)] (.t 120) (.t 135), some (118, false), 0⟩, ⟨some 137, .pick (.t 118) (.c (.bool true)) (.t 136), none, 0⟩] 0 true
  []) (.cond (.t 137) (.seq (.region [⟨some 6, .mv (.c (.bool false)), none, 0⟩] 0 false []) .ret) .skip)))) (.region [⟨some 138, .bin .add (.t 90) (.c (.int .i64 1)), none, 0⟩, ⟨some 90, .mv (.t 138),
  none, 0⟩] 0 false [])))
def L4_0 := bL4_0
theorem wL4_0 : Wp O L4_0 Q σ h = Wp O bL4_0 Q σ h := rfl
abbrev bK4_0 : AC :=
  .seq (.region [⟨some 139, .call (.c (.fn 7 [])) [], none, 0⟩, ⟨some 6, .mv (.t 139), none, 0⟩] 0 false []) .ret
def K4_0 := bK4_0
theorem wK4_0 : Wp O K4_0 Q σ h = Wp O bK4_0 Q σ h := rfl
abbrev bB4 : AC :=
  .seq (.region [⟨some 6, .mv (.c (.bool false)), none, 0⟩] 0 false []) (.seq (.seq (.region [⟨some 17, .mv (.t 2), none, 0⟩, ⟨some 18, .len (.t 17), none, 0⟩, ⟨some 19, .bin .gtr (.t 18) (.c (.int .i64
  3000)), none, 0⟩] 0 false []) (.cond (.t 19) (.seq (.region [⟨some 20, .call (.c (.fn 7 [])) [], none, 0⟩, ⟨some 6, .mv (.t 20), none, 0⟩] 0 false []) .ret) .skip)) (.seq (.region [⟨some 21, .mv (.t
  0), none, 0⟩, ⟨some 22, .cvInt .i64 (.t 21), none, 0⟩, ⟨some 23, .bin .rem (.t 22) (.c (.int .i64 2000)), none, 0⟩, ⟨some 24, .bin .add (.c (.int .i64 1)) (.t 23), none, 0⟩, ⟨some 7, .mv (.t 24), none,
  0⟩] 0 false []) (.seq (.region [⟨some 25, .mv (.t 7), none, 0⟩, ⟨some 26, .mv (.t 1), none, 0⟩, ⟨some 27, .cvInt .i64 (.t 26), none, 0⟩, ⟨some 28, .mv (.t 7), none, 0⟩, ⟨some 29, .bin .sub (.c (.int
  .i64 2001)) (.t 28), none, 0⟩, ⟨some 30, .bin .rem (.t 27) (.t 29), none, 0⟩, ⟨some 31, .bin .add (.t 25) (.t 30), none, 0⟩, ⟨some 8, .mv (.t 31), none, 0⟩] 0 false []) (.seq (.region [⟨some 33, .mv
  (.t 7), none, 0⟩, ⟨some 34, .mv (.t 2), none, 0⟩, ⟨some 35, .call (.c (.fn 8 [])) [.t 33, .t 34, .c (.list 1 [] .full)], none, 0⟩, ⟨some 32, .mv (.t 35), none, 0⟩, ⟨some 36, .ext (.t 32) 0, none, 0⟩,
  ⟨some 37, .ext (.t 32) 1, none, 0⟩, ⟨some 38, .ext (.t 32) 2, none, 0⟩, ⟨some 9, .alloc [.int .i64 0, .str [], .bool false, .bool false], none, 0⟩, ⟨none, .store 4 (.t 9) (.t 36), none, 1⟩, ⟨some 10,
  .mv (.t 37), none, 1⟩, ⟨some 11, .mv (.t 38), none, 1⟩] 1 false []) (.seq (.region [⟨some 40, .mv (.t 8), none, 0⟩, ⟨some 41, .mv (.t 2), none, 0⟩, ⟨some 42, .call (.c (.fn 8 [])) [.t 40, .t 41, .c
  (.list 1 [] .full)], none, 0⟩, ⟨some 39, .mv (.t 42), none, 0⟩, ⟨some 43, .ext (.t 39) 0, none, 0⟩, ⟨some 44, .ext (.t 39) 1, none, 0⟩, ⟨some 45, .ext (.t 39) 2, none, 0⟩, ⟨some 12, .alloc [.int .i64
  0, .str [], .bool false, .bool false], none, 0⟩, ⟨none, .store 4 (.t 12) (.t 43), none, 1⟩, ⟨some 13, .mv (.t 44), none, 1⟩, ⟨some 14, .mv (.t 45), none, 1⟩] 1 false []) (.seq (.seq (.region [⟨some 46,
  .mv (.t 11), none, 0⟩, ⟨some 47, .not (.t 46), none, 0⟩, ⟨some 48, .mv (.t 47), none, 0⟩, ⟨some 49, .mv (.t 14), some (48, false), 0⟩, ⟨some 50, .not (.t 49), some (48, false), 0⟩, ⟨some 51, .pick (.t
  48) (.c (.bool true)) (.t 50), none, 0⟩, ⟨some 52, .mv (.t 51), none, 0⟩, ⟨some 53, .mv (.t 10), some (52, false), 0⟩, ⟨some 54, .len (.t 53), some (52, false), 0⟩, ⟨some 55, .mv (.t 13), some (52,
  false), 0⟩, ⟨some 56, .len (.t 55), some (52, false), 0⟩, ⟨some 57, .bin .neq (.t 54) (.t 56), some (52, false), 0⟩, ⟨some 58, .pick (.t 52) (.c (.bool true)) (.t 57), none, 0⟩, ⟨some 59, .mv (.t 58),
  none, 0⟩, ⟨some 60, .off 3 (.t 9), some (59, false), 0⟩, ⟨some 61, .load none (.t 60), some (59, false), 0⟩, ⟨some 62, .off 3 (.t 12), some (59, false), 0⟩, ⟨some 63, .load none (.t 62), some (59,
  false), 0⟩, ⟨some 64, .eq true none [(0, LK.bool)] (.t 61) (.t 63), some (59, false), 0⟩, ⟨some 65, .pick (.t 59) (.c (.bool true)) (.t 64), none, 0⟩, ⟨some 66, .mv (.t 65), none, 0⟩, ⟨some 67, .off 1
  (.t 12), some (66, false), 0⟩, ⟨some 68, .load none (.t 67), some (66, false), 0⟩, ⟨some 69, .off 1 (.t 9), some (66, false), 0⟩, ⟨some 70, .load none (.t 69), some (66, false), 0⟩, ⟨some 71, .call (.c
  (.fn 10 [])) [.t 68, .t 70], some (66, false), 0⟩, ⟨some 72, .not (.t 71), some (66, false), 0⟩, ⟨some 73, .pick (.t 66) (.c (.bool true)) (.t 72), none, 0⟩, ⟨some 74, .mv (.t 73), none, 0⟩, ⟨some 75,
  .off 2 (.t 9), some (74, false), 0⟩, ⟨some 76, .load none (.t 75), some (74, false), 0⟩, ⟨some 77, .off 2 (.t 12), some (74, false), 0⟩, ⟨some 78, .load none (.t 77), some (74, false), 0⟩, ⟨some 79,
  .mv (.t 78), some (74, false), 0⟩, ⟨some 80, .off 1 (.t 12), some (79, false), 0⟩, ⟨some 81, .load none (.t 80), some (79, false), 0⟩, ⟨some 82, .lenS (.t 81), some (79, false), 0⟩, ⟨some 83, .mv (.t
  7), some (79, false), 0⟩, ⟨some 84, .bin .gtr (.t 82) (.t 83), some (79, false), 0⟩, ⟨some 85, .pick (.t 79) (.c (.bool true)) (.t 84), some (74, false), 0⟩, ⟨some 86, .eq true none [(0, LK.bool)] (.t
  76) (.t 85), some (74, false), 0⟩, ⟨some 87, .pick (.t 74) (.c (.bool true)) (.t 86), none, 0⟩] 0 false []) (.cond (.t 87) (.seq (.region [⟨some 6, .mv (.c (.bool false)), none, 0⟩] 0 false []) .ret)
  .skip)) (.seq (.seq (.region [⟨some 88, .mv (.t 10), none, 0⟩, ⟨some 89, .len (.t 88), none, 0⟩, ⟨some 90, .mv (.c (.int .i64 0)), none, 0⟩] 0 false []) (.block 0 (.loop L4_0))) K4_0)))))))
def B4 := bB4
theorem wB4 : Wp O B4 Q σ h = Wp O bB4 Q σ h := rfl
def F4 : AF := ⟨B4, [.tmp 6], false⟩
theorem tab4 : T 4 = some F4 := by kernel_rfl
/-- franking/frankinglaw12.FrameBare -/
abbrev bL5_0 : AC :=
  .seq (.region [⟨some 26, .bin .lss (.t 25) (.t 24), none, 0⟩] 0 false []) (.seq (.cond (.t 26) .skip (.exit 0)) (.seq (.block 1 (.seq (.region [⟨some 27, .idx 1 (.t 23) (.t 25), none, 0⟩, ⟨some 28,
  .load none (.t 27), none, 0⟩, ⟨some 10, .mv (.t 28), none, 0⟩] 0 false []) (.seq (.region [⟨some 29, .mv (.t 10), none, 0⟩, ⟨some 30, .bin .neq (.t 29) (.c (.int .u8 10)), none, 0⟩, ⟨some 31, .mv (.t
  30), none, 0⟩, ⟨some 32, .mv (.t 8), some (31, false), 0⟩, ⟨some 33, .len (.t 32), some (31, false), 0⟩, ⟨some 34, .bin .eql (.t 33) (.c (.int .i64 0)), some (31, false), 0⟩, ⟨some 35, .pick (.t 31)
  (.c (.bool true)) (.t 34), none, 0⟩, ⟨some 36, .mv (.t 35), none, 0⟩, ⟨some 37, .mv (.t 8), some (36, false), 0⟩, ⟨some 38, .mv (.t 8), some (36, false), 0⟩, ⟨some 39, .len (.t 38), some (36, false),
  0⟩, ⟨some 40, .bin .sub (.t 39) (.c (.int .i64 1)), some (36, false), 0⟩, ⟨some 41, .idx 1 (.t 37) (.t 40), some (36, false), 0⟩, ⟨some 42, .load none (.t 41), some (36, false), 0⟩, ⟨some 43, .bin .neq
  (.t 42) (.c (.int .u8 13)), some (36, false), 0⟩, ⟨some 44, .pick (.t 36) (.c (.bool true)) (.t 43), none, 0⟩] 0 false []) (.cond (.t 44) (.region [⟨some 45, .mv (.t 8), none, 0⟩, ⟨some 46, .mv (.t
  10), none, 0⟩, ⟨some 47, .bslice 1 [.t 46], none, 0⟩, ⟨some 48, .append 1 1 5 (.t 45) (.t 47), none, 0⟩, ⟨some 8, .mv (.t 48), none, 1⟩] 1 false []) .skip)))) (.region [⟨some 49, .bin .add (.t 25) (.c
  (.int .i64 1)), none, 0⟩, ⟨some 25, .mv (.t 49), none, 0⟩] 0 false [])))
def L5_0 := bL5_0
theorem wL5_0 : Wp O L5_0 Q σ h = Wp O bL5_0 Q σ h := rfl
abbrev bK5_0 : AC :=
  .seq (.region [⟨some 51, .mv (.t 7), none, 0⟩, ⟨some 52, .mv (.t 8), none, 0⟩, ⟨some 53, .mv (.t 2), none, 0⟩, ⟨some 54, .call (.c (.fn 8 [])) [.t 51, .t 52, .t 53], none, 0⟩, ⟨some 50, .mv (.t 54),
  none, 0⟩, ⟨some 55, .ext (.t 50) 0, none, 0⟩, ⟨some 56, .ext (.t 50) 1, none, 0⟩, ⟨some 57, .ext (.t 50) 2, none, 0⟩, ⟨some 11, .alloc [.int .i64 0, .str [], .bool false, .bool false], none, 0⟩, ⟨none,
  .store 4 (.t 11) (.t 55), none, 1⟩, ⟨some 12, .mv (.t 56), none, 1⟩, ⟨some 13, .mv (.t 57), none, 1⟩] 1 false []) (.seq (.seq (.region [⟨some 58, .mv (.t 13), none, 0⟩, ⟨some 59, .not (.t 58), none,
  0⟩, ⟨some 60, .mv (.t 59), none, 0⟩, ⟨some 61, .mv (.t 12), some (60, false), 0⟩, ⟨some 62, .len (.t 61), some (60, false), 0⟩, ⟨some 63, .bin .neq (.t 62) (.c (.int .i64 0)), some (60, false), 0⟩,
  ⟨some 64, .pick (.t 60) (.c (.bool true)) (.t 63), none, 0⟩] 0 false []) (.cond (.t 64) (.seq (.region [⟨some 6, .mv (.c (.bool false)), none, 0⟩] 0 false []) .ret) .skip)) (.seq (.region [⟨some 65,
  .mv (.t 8), none, 0⟩, ⟨some 66, .cvBytesStr (.t 65), none, 0⟩, ⟨some 14, .mv (.t 66), none, 0⟩] 0 false []) (.seq (.seq (.region [⟨some 67, .mv (.t 14), none, 0⟩, ⟨some 68, .lenS (.t 67), none, 0⟩,
  ⟨some 69, .mv (.t 7), none, 0⟩, ⟨some 70, .bin .gtr (.t 68) (.t 69), none, 0⟩] 0 false []) (.cond (.t 70) (.seq (.region [⟨some 71, .off 2 (.t 11), none, 0⟩, ⟨some 72, .load none (.t 71), none, 0⟩,
  ⟨some 73, .mv (.t 14), none, 0⟩, ⟨some 74, .call (.c (.fn 11 [])) [.t 73, .c (.str [13])], none, 0⟩, ⟨some 75, .lenS (.t 74), none, 0⟩, ⟨some 76, .mv (.t 7), none, 0⟩, ⟨some 77, .bin .gtr (.t 75) (.t
  76), none, 0⟩, ⟨some 78, .eq false none [(0, LK.bool)] (.t 72) (.t 77), none, 0⟩, ⟨some 79, .mv (.t 78), none, 0⟩, ⟨some 80, .mv (.t 14), some (79, true), 0⟩, ⟨some 81, .off 1 (.t 11), some (79, true),
  0⟩, ⟨some 82, .load none (.t 81), some (79, true), 0⟩, ⟨some 83, .call (.c (.fn 10 [])) [.t 80, .t 82], some (79, true), 0⟩, ⟨some 84, .pick (.t 79) (.t 83) (.c (.bool false)), none, 0⟩, ⟨some 85, .mv
  (.t 84), none, 0⟩, ⟨some 86, .off 1 (.t 11), some (85, true), 0⟩, ⟨some 87, .load none (.t 86), some (85, true), 0⟩, ⟨some 88, .lenS (.t 87), some (85, true), 0⟩, ⟨some 89, .mv (.t 7), some (85, true),
  0⟩, ⟨some 90, .bin .eql (.t 88) (.t 89), some (85, true), 0⟩, ⟨some 91, .pick (.t 85) (.t 90) (.c (.bool false)), none, 0⟩, ⟨some 92, .mv (.t 91), none, 0⟩, ⟨some 93, .call (.c (.fn 7 [])) [], some
  (92, true), 0⟩, ⟨some 94, .pick (.t 92) (.t 93) (.c (.bool false)), none, 0⟩, ⟨some 6, .mv (.t 94), none, 0⟩] 0 true [(1, 3)]) .ret) .skip)) (.seq (.region [⟨some 95, .off 2 (.t 11), none, 0⟩, ⟨some
  96, .load none (.t 95), none, 0⟩, ⟨some 97, .not (.t 96), none, 0⟩, ⟨some 98, .mv (.t 97), none, 0⟩, ⟨some 99, .load (some 4) (.t 11), some (98, true), 0⟩, ⟨some 100, .call (.c (.fn 12 [])) [.t 99],
  some (98, true), 0⟩, ⟨some 101, .mv (.t 14), some (98, true), 0⟩, ⟨some 102, .bin .eql (.t 100) (.t 101), some (98, true), 0⟩, ⟨some 103, .pick (.t 98) (.t 102) (.c (.bool false)), none, 0⟩, ⟨some 104,
  .mv (.t 103), none, 0⟩, ⟨some 105, .call (.c (.fn 7 [])) [], some (104, true), 0⟩, ⟨some 106, .pick (.t 104) (.t 105) (.c (.bool false)), none, 0⟩, ⟨some 6, .mv (.t 106), none, 0⟩] 0 false []) .ret))))
def K5_0 := bK5_0
theorem wK5_0 : Wp O K5_0 Q σ h = Wp O bK5_0 Q σ h := rfl
abbrev bB5 : AC :=
  .seq (.region [⟨some 6, .mv (.c (.bool false)), none, 0⟩] 0 false []) (.seq (.seq (.region [⟨some 15, .mv (.t 1), none, 0⟩, ⟨some 16, .len (.t 15), none, 0⟩, ⟨some 17, .bin .gtr (.t 16) (.c (.int .i64
  500)), none, 0⟩] 0 false []) (.cond (.t 17) (.seq (.region [⟨some 18, .call (.c (.fn 7 [])) [], none, 0⟩, ⟨some 6, .mv (.t 18), none, 0⟩] 0 false []) .ret) .skip)) (.seq (.region [⟨some 19, .mv (.t 0),
  none, 0⟩, ⟨some 20, .cvInt .i64 (.t 19), none, 0⟩, ⟨some 21, .bin .rem (.t 20) (.c (.int .i64 2000)), none, 0⟩, ⟨some 22, .bin .add (.c (.int .i64 1)) (.t 21), none, 0⟩, ⟨some 7, .mv (.t 22), none, 0⟩]
  0 false []) (.seq (.region [⟨some 8, .mv (.c (.list 1 [] .full)), none, 0⟩] 0 false []) (.seq (.seq (.region [⟨some 23, .mv (.t 1), none, 0⟩, ⟨some 24, .len (.t 23), none, 0⟩, ⟨some 25, .mv (.c (.int
  .i64 0)), none, 0⟩] 0 false []) (.block 0 (.loop L5_0))) K5_0))))
def B5 := bB5
theorem wB5 : Wp O B5 Q σ h = Wp O bB5 Q σ h := rfl
def F5 : AF := ⟨B5, [.tmp 6], false⟩
theorem tab5 : T 5 = some F5 := by kernel_rfl
/-- franking/frankinglaw12.FrameBack -/
abbrev bL6_0 : AC :=
  .seq (.region [⟨some 26, .bin .lss (.t 25) (.t 24), none, 0⟩] 0 false []) (.seq (.cond (.t 26) .skip (.exit 0)) (.seq (.block 1 (.seq (.region [⟨some 27, .idx 1 (.t 23) (.t 25), none, 0⟩, ⟨some 28,
  .load none (.t 27), none, 0⟩, ⟨some 10, .mv (.t 28), none, 0⟩] 0 false []) (.seq (.seq (.region [⟨some 29, .mv (.t 10), none, 0⟩, ⟨some 30, .lenS (.t 29), none, 0⟩, ⟨some 31, .bin .gtr (.t 30) (.c
  (.int .i64 300)), none, 0⟩, ⟨some 32, .mv (.t 31), none, 0⟩, ⟨some 33, .mv (.t 10), some (32, false), 0⟩, ⟨some 34, .call (.c (.fn 13 [])) [.t 33, .c (.str [13, 10])], some (32, false), 0⟩, ⟨some 35,
  .pick (.t 32) (.c (.bool true)) (.t 34), none, 0⟩] 0 false []) (.cond (.t 35) (.seq (.region [⟨some 36, .call (.c (.fn 7 [])) [], none, 0⟩, ⟨some 6, .mv (.t 36), none, 0⟩] 0 false []) .ret) .skip))
  (.region [⟨some 37, .mv (.t 8), none, 0⟩, ⟨some 38, .mv (.t 10), none, 0⟩, ⟨some 39, .mv (.t 10), none, 0⟩, ⟨some 40, .lenS (.t 39), none, 0⟩, ⟨some 41, .mv (.t 7), none, 0⟩, ⟨some 42, .min (.t 40) (.t
  41), none, 0⟩, ⟨some 43, .sliceS (.t 38) none (some (.t 42)), none, 0⟩, ⟨some 44, .mv (.t 10), none, 0⟩, ⟨some 45, .lenS (.t 44), none, 0⟩, ⟨some 46, .mv (.t 7), none, 0⟩, ⟨some 47, .bin .gtr (.t 45)
  (.t 46), none, 0⟩, ⟨some 48, .build [.str [], .bool false] [(0, 1, .t 43), (1, 1, .t 47)], none, 0⟩, ⟨some 49, .bslice 2 [.t 48], none, 0⟩, ⟨some 50, .append 2 24 34 (.t 37) (.t 49), none, 0⟩, ⟨some 8,
  .mv (.t 50), none, 1⟩] 1 false [])))) (.region [⟨some 51, .bin .add (.t 25) (.c (.int .i64 1)), none, 0⟩, ⟨some 25, .mv (.t 51), none, 0⟩] 0 false [])))
def L6_0 := bL6_0
theorem wL6_0 : Wp O L6_0 Q σ h = Wp O bL6_0 Q σ h := rfl
abbrev bK6_0 : AC :=
  .seq (.region [⟨some 11, .mv (.c (.str [])), none, 0⟩] 0 false []) (.seq (.seq (.region [⟨some 52, .mv (.t 1), none, 0⟩, ⟨some 53, .len (.t 52), none, 0⟩, ⟨some 54, .bin .gtr (.t 53) (.c (.int .i64
  0)), none, 0⟩] 0 false []) (.cond (.t 54) (.region [⟨some 11, .mv (.c (.str [13, 10])), none, 0⟩] 0 false []) .skip)) (.seq (.region [⟨some 56, .mv (.t 7), none, 0⟩, ⟨some 57, .mv (.t 1), none, 0⟩,
  ⟨some 58, .call (.c (.fn 14 [])) [.t 57, .c (.str [13, 10])], none, 0⟩, ⟨some 59, .mv (.t 11), none, 0⟩, ⟨some 60, .bin .add (.t 58) (.t 59), none, 0⟩, ⟨some 61, .cvStrBytes 5 (.t 60), none, 0⟩, ⟨some
  62, .mv (.t 2), none, 1⟩, ⟨some 63, .call (.c (.fn 8 [])) [.t 56, .t 61, .t 62], none, 1⟩, ⟨some 55, .mv (.t 63), none, 1⟩, ⟨some 64, .ext (.t 55) 0, none, 1⟩, ⟨some 65, .ext (.t 55) 1, none, 1⟩, ⟨some
  66, .ext (.t 55) 2, none, 1⟩, ⟨some 12, .alloc [.int .i64 0, .str [], .bool false, .bool false], none, 1⟩, ⟨none, .store 4 (.t 12) (.t 64), none, 2⟩, ⟨some 13, .mv (.t 65), none, 2⟩, ⟨some 14, .mv (.t
  66), none, 2⟩] 2 false []) (.seq (.region [⟨some 67, .mv (.t 14), none, 0⟩, ⟨some 68, .mv (.t 67), none, 0⟩, ⟨some 69, .mv (.t 13), some (68, true), 0⟩, ⟨some 70, .mv (.t 8), some (68, true), 0⟩, ⟨some
  71, .call (.c (.fn 9 [])) [.t 69, .t 70], some (68, true), 0⟩, ⟨some 72, .pick (.t 68) (.t 71) (.c (.bool false)), none, 0⟩, ⟨some 73, .mv (.t 72), none, 0⟩, ⟨some 74, .load (some 4) (.t 12), some (73,
  true), 0⟩, ⟨some 75, .mv (.t 7), some (73, true), 0⟩, ⟨some 76, .build [.int .i64 0, .str [], .bool false, .bool false] [(0, 1, .t 75)], some (73, true), 0⟩, ⟨some 77, .eq false (some 4) [(0, LK.int),
  (1, LK.str), (2, LK.bool), (3, LK.bool)] (.t 74) (.t 76), some (73, true), 0⟩, ⟨some 78, .pick (.t 73) (.t 77) (.c (.bool false)), none, 0⟩, ⟨some 79, .mv (.t 78), none, 0⟩, ⟨some 80, .load (some 4)
  (.t 12), some (79, true), 0⟩, ⟨some 81, .call (.c (.fn 12 [])) [.t 80], some (79, true), 0⟩, ⟨some 82, .bin .eql (.t 81) (.c (.str [])), some (79, true), 0⟩, ⟨some 83, .pick (.t 79) (.t 82) (.c (.bool
  false)), none, 0⟩, ⟨some 84, .mv (.t 83), none, 0⟩, ⟨some 85, .call (.c (.fn 7 [])) [], some (84, true), 0⟩, ⟨some 86, .pick (.t 84) (.t 85) (.c (.bool false)), none, 0⟩, ⟨some 6, .mv (.t 86), none,
  0⟩] 0 false []) .ret)))
def K6_0 := bK6_0
theorem wK6_0 : Wp O K6_0 Q σ h = Wp O bK6_0 Q σ h := rfl
abbrev bB6 : AC :=
  .seq (.region [⟨some 6, .mv (.c (.bool false)), none, 0⟩] 0 false []) (.seq (.seq (.region [⟨some 15, .mv (.t 1), none, 0⟩, ⟨some 16, .len (.t 15), none, 0⟩, ⟨some 17, .bin .gtr (.t 16) (.c (.int .i64
  30)), none, 0⟩] 0 false []) (.cond (.t 17) (.seq (.region [⟨some 18, .call (.c (.fn 7 [])) [], none, 0⟩, ⟨some 6, .mv (.t 18), none, 0⟩] 0 false []) .ret) .skip)) (.seq (.region [⟨some 19, .mv (.t 0),
  none, 0⟩, ⟨some 20, .cvInt .i64 (.t 19), none, 0⟩, ⟨some 21, .bin .rem (.t 20) (.c (.int .i64 2000)), none, 0⟩, ⟨some 22, .bin .add (.c (.int .i64 1)) (.t 21), none, 0⟩, ⟨some 7, .mv (.t 22), none, 0⟩]
  0 false []) (.seq (.region [⟨some 8, .mv (.c (.list 2 [] .full)), none, 0⟩] 0 false []) (.seq (.seq (.region [⟨some 23, .mv (.t 1), none, 0⟩, ⟨some 24, .len (.t 23), none, 0⟩, ⟨some 25, .mv (.c (.int
  .i64 0)), none, 0⟩] 0 false []) (.block 0 (.loop L6_0))) K6_0))))
def B6 := bB6
theorem wB6 : Wp O B6 Q σ h = Wp O bB6 Q σ h := rfl
def F6 : AF := ⟨B6, [.tmp 6], false⟩
theorem tab6 : T 6 = some F6 := by kernel_rfl
/-- franking/frankinglaw12.awake -/
abbrev bB7 : AC :=
  .seq (.region [⟨some 0, .mv (.c (.bool false)), none, 0⟩] 0 false []) (.seq (.region [⟨some 13, .call (.c (.fn 15 [])) [.c (.int .i64 4)], none, 0⟩, ⟨some 12, .mv (.t 13), none, 0⟩, ⟨some 14, .ext (.t
  12) 0, none, 0⟩, ⟨some 15, .ext (.t 12) 1, none, 0⟩, ⟨some 1, .alloc [.int .i64 0, .str [], .bool false, .bool false], none, 0⟩, ⟨none, .store 4 (.t 1) (.t 14), none, 1⟩, ⟨some 2, .mv (.t 15), none,
  1⟩] 1 false []) (.seq (.region [⟨some 17, .load (some 4) (.t 1), none, 0⟩, ⟨some 18, .cvStrBytes 5 (.c (.str [97, 98, 13, 10, 99, 100, 101, 102, 103, 104, 13])), none, 0⟩, ⟨some 19, .cvMark (.t 18),
  none, 1⟩, ⟨some 20, .call (.c (.fn 16 [])) [.t 17, .t 19], none, 1⟩, ⟨some 16, .mv (.t 20), none, 1⟩, ⟨some 21, .ext (.t 16) 0, none, 1⟩, ⟨some 22, .ext (.t 16) 1, none, 1⟩, ⟨none, .store 4 (.t 1) (.t
  21), none, 1⟩, ⟨some 3, .mv (.t 22), none, 1⟩] 1 false []) (.seq (.region [⟨some 24, .load (some 4) (.t 1), none, 0⟩, ⟨some 25, .cvStrBytes 5 (.c (.str [10])), none, 0⟩, ⟨some 26, .cvMark (.t 25),
  none, 1⟩, ⟨some 27, .call (.c (.fn 16 [])) [.t 24, .t 26], none, 1⟩, ⟨some 23, .mv (.t 27), none, 1⟩, ⟨some 28, .ext (.t 23) 0, none, 1⟩, ⟨some 29, .ext (.t 23) 1, none, 1⟩, ⟨some 4, .alloc [.int .i64
  0, .str [], .bool false, .bool false], none, 1⟩, ⟨none, .store 4 (.t 4) (.t 28), none, 2⟩, ⟨some 5, .mv (.t 29), none, 2⟩] 2 false []) (.seq (.region [⟨some 31, .load (some 4) (.t 4), none, 0⟩, ⟨some
  32, .cvStrBytes 5 (.c (.str [13, 13, 10])), none, 0⟩, ⟨some 33, .cvMark (.t 32), none, 1⟩, ⟨some 34, .call (.c (.fn 16 [])) [.t 31, .t 33], none, 1⟩, ⟨some 30, .mv (.t 34), none, 1⟩, ⟨some 35, .ext (.t
  30) 0, none, 1⟩, ⟨some 36, .ext (.t 30) 1, none, 1⟩, ⟨some 6, .alloc [.int .i64 0, .str [], .bool false, .bool false], none, 1⟩, ⟨none, .store 4 (.t 6) (.t 35), none, 2⟩, ⟨some 7, .mv (.t 36), none,
  2⟩] 2 false []) (.seq (.region [⟨some 38, .call (.c (.fn 15 [])) [.c (.int .i64 0)], none, 0⟩, ⟨some 37, .mv (.t 38), none, 0⟩, ⟨some 39, .ext (.t 37) 0, none, 0⟩, ⟨some 40, .ext (.t 37) 1, none, 0⟩,
  ⟨some 8, .alloc [.int .i64 0, .str [], .bool false, .bool false], none, 0⟩, ⟨none, .store 4 (.t 8) (.t 39), none, 1⟩, ⟨some 9, .mv (.t 40), none, 1⟩] 1 false []) (.seq (.region [⟨some 42, .call (.c
  (.fn 15 [])) [.c (.int .i64 2001)], none, 0⟩, ⟨some 41, .mv (.t 42), none, 0⟩, ⟨some 43, .ext (.t 41) 0, none, 0⟩, ⟨some 44, .ext (.t 41) 1, none, 0⟩, ⟨some 10, .alloc [.int .i64 0, .str [], .bool
  false, .bool false], none, 0⟩, ⟨none, .store 4 (.t 10) (.t 43), none, 1⟩, ⟨some 11, .mv (.t 44), none, 1⟩] 1 false []) (.seq (.region [⟨some 45, .mv (.t 2), none, 0⟩, ⟨some 46, .bin .eql (.t 45) (.c
  (.int .i64 0)), none, 0⟩, ⟨some 47, .mv (.t 46), none, 0⟩, ⟨some 48, .mv (.t 9), some (47, true), 0⟩, ⟨some 49, .bin .eql (.t 48) (.c (.int .i64 2)), some (47, true), 0⟩, ⟨some 50, .pick (.t 47) (.t
  49) (.c (.bool false)), none, 0⟩, ⟨some 51, .mv (.t 50), none, 0⟩, ⟨some 52, .mv (.t 11), some (51, true), 0⟩, ⟨some 53, .bin .eql (.t 52) (.c (.int .i64 2)), some (51, true), 0⟩, ⟨some 54, .pick (.t
  51) (.t 53) (.c (.bool false)), none, 0⟩, ⟨some 55, .mv (.t 54), none, 0⟩, ⟨some 56, .mv (.t 3), some (55, true), 0⟩, ⟨some 57, .build [.str [], .bool false] [(0, 1, .c (.str [97, 98]))], some (55,
  true), 0⟩, ⟨some 58, .bslice 2 [.t 57], some (55, true), 0⟩, ⟨some 59, .call (.c (.fn 9 [])) [.t 56, .t 58], some (55, true), 0⟩, ⟨some 60, .pick (.t 55) (.t 59) (.c (.bool false)), none, 0⟩, ⟨some 61,
  .mv (.t 60), none, 0⟩, ⟨some 62, .load (some 4) (.t 1), some (61, true), 0⟩, ⟨some 63, .build [.int .i64 0, .str [], .bool false, .bool false] [(0, 1, .c (.int .i64 4)), (1, 1, .c (.str [99, 100, 101,
  102])), (2, 1, .c (.bool true)), (3, 1, .c (.bool true))], some (61, true), 0⟩, ⟨some 64, .eq false (some 4) [(0, LK.int), (1, LK.str), (2, LK.bool), (3, LK.bool)] (.t 62) (.t 63), some (61, true), 0⟩,
  ⟨some 65, .pick (.t 61) (.t 64) (.c (.bool false)), none, 0⟩, ⟨some 66, .mv (.t 65), none, 0⟩, ⟨some 67, .mv (.t 5), some (66, true), 0⟩, ⟨some 68, .build [.str [], .bool false] [(0, 1, .c (.str [99,
  100, 101, 102])), (1, 1, .c (.bool true))], some (66, true), 0⟩, ⟨some 69, .bslice 2 [.t 68], some (66, true), 0⟩, ⟨some 70, .call (.c (.fn 9 [])) [.t 67, .t 69], some (66, true), 0⟩, ⟨some 71, .pick
  (.t 66) (.t 70) (.c (.bool false)), none, 0⟩, ⟨some 72, .mv (.t 71), none, 0⟩, ⟨some 73, .mv (.t 7), some (72, true), 0⟩, ⟨some 74, .build [.str [], .bool false] [(0, 1, .c (.str [13]))], some (72,
  true), 0⟩, ⟨some 75, .bslice 2 [.t 74], some (72, true), 0⟩, ⟨some 76, .call (.c (.fn 9 [])) [.t 73, .t 75], some (72, true), 0⟩, ⟨some 77, .pick (.t 72) (.t 76) (.c (.bool false)), none, 0⟩, ⟨some 78,
  .mv (.t 77), none, 0⟩, ⟨some 79, .load (some 4) (.t 6), some (78, true), 0⟩, ⟨some 80, .build [.int .i64 0, .str [], .bool false, .bool false] [(0, 1, .c (.int .i64 4))], some (78, true), 0⟩, ⟨some 81,
  .eq false (some 4) [(0, LK.int), (1, LK.str), (2, LK.bool), (3, LK.bool)] (.t 79) (.t 80), some (78, true), 0⟩, ⟨some 82, .pick (.t 78) (.t 81) (.c (.bool false)), none, 0⟩, ⟨some 83, .mv (.t 82),
  none, 0⟩, ⟨some 84, .load (some 4) (.t 1), some (83, true), 0⟩, ⟨some 85, .call (.c (.fn 12 [])) [.t 84], some (83, true), 0⟩, ⟨some 86, .bin .eql (.t 85) (.c (.str [99, 100, 101, 102, 13])), some (83,
  true), 0⟩, ⟨some 87, .pick (.t 83) (.t 86) (.c (.bool false)), none, 0⟩, ⟨some 0, .mv (.t 87), none, 0⟩] 0 false []) .ret)))))))
def B7 := bB7
theorem wB7 : Wp O B7 Q σ h = Wp O bB7 Q σ h := rfl
def F7 : AF := ⟨B7, [.tmp 0], false⟩
theorem tab7 : T 7 = some F7 := by kernel_rfl
/-- franking/frankinglaw12.all -/
abbrev bJ8_0 : AC :=
  .seq (.region [⟨some 14, .mv (.c (.list 2 [] .full)), none, 0⟩] 0 false []) (.seq (.region [⟨some 42, .load (some 4) (.t 9), none, 0⟩, ⟨some 43, .mv (.t 1), none, 0⟩, ⟨some 44, .mv (.t 13), none, 0⟩,
  ⟨some 45, .slice 1 (.t 43) none (some (.t 44)) none, none, 0⟩, ⟨some 46, .call (.c (.fn 16 [])) [.t 42, .t 45], none, 0⟩, ⟨some 41, .mv (.t 46), none, 0⟩, ⟨some 47, .ext (.t 41) 0, none, 0⟩, ⟨some 48,
  .ext (.t 41) 1, none, 0⟩, ⟨none, .store 4 (.t 9) (.t 47), none, 0⟩, ⟨some 14, .mv (.t 48), none, 0⟩] 0 true []) (.seq (.region [⟨some 49, .mv (.t 11), none, 0⟩, ⟨some 50, .mv (.t 14), none, 0⟩, ⟨some
  51, .append 2 24 34 (.t 49) (.t 50), none, 0⟩, ⟨some 11, .mv (.t 51), none, 1⟩] 1 false []) (.region [⟨some 52, .mv (.t 1), none, 0⟩, ⟨some 53, .mv (.t 13), none, 0⟩, ⟨some 54, .slice 1 (.t 52) (some
  (.t 53)) none none, none, 0⟩, ⟨some 1, .mv (.t 54), none, 0⟩] 0 false [])))
def J8_0 := bJ8_0
theorem wJ8_0 : Wp O J8_0 Q σ h = Wp O bJ8_0 Q σ h := rfl
abbrev bJ8_1 : AC :=
  .region [⟨some 23, .mv (.t 12), none, 0⟩, ⟨some 24, .bin .add (.t 23) (.c (.int .i64 1)), none, 0⟩, ⟨some 12, .mv (.t 24), none, 0⟩] 0 false []
def J8_1 := bJ8_1
theorem wJ8_1 : Wp O J8_1 Q σ h = Wp O bJ8_1 Q σ h := rfl
abbrev bL8_0 : AC :=
  .seq (.seq (.region [⟨some 20, .mv (.t 1), none, 0⟩, ⟨some 21, .len (.t 20), none, 0⟩, ⟨some 22, .bin .gtr (.t 21) (.c (.int .i64 0)), none, 0⟩] 0 false []) (.cond (.t 22) .skip (.exit 0))) (.seq
  (.block 1 (.seq (.region [⟨some 25, .mv (.t 1), none, 0⟩, ⟨some 26, .len (.t 25), none, 0⟩, ⟨some 13, .mv (.t 26), none, 0⟩] 0 false []) (.seq (.seq (.region [⟨some 27, .mv (.t 2), none, 0⟩, ⟨some 28,
  .len (.t 27), none, 0⟩, ⟨some 29, .bin .gtr (.t 28) (.c (.int .i64 0)), none, 0⟩] 0 false []) (.cond (.t 29) (.region [⟨some 30, .mv (.t 13), none, 0⟩, ⟨some 31, .mv (.t 2), none, 0⟩, ⟨some 32, .mv (.t
  12), none, 0⟩, ⟨some 33, .mv (.t 2), none, 0⟩, ⟨some 34, .len (.t 33), none, 0⟩, ⟨some 35, .bin .rem (.t 32) (.t 34), none, 0⟩, ⟨some 36, .idx 1 (.t 31) (.t 35), none, 0⟩, ⟨some 37, .load none (.t 36),
  none, 0⟩, ⟨some 38, .cvInt .i64 (.t 37), none, 0⟩, ⟨some 39, .bin .add (.c (.int .i64 1)) (.t 38), none, 0⟩, ⟨some 40, .min (.t 30) (.t 39), none, 0⟩, ⟨some 13, .mv (.t 40), none, 0⟩] 0 false [])
  .skip)) J8_0))) J8_1)
def L8_0 := bL8_0
theorem wL8_0 : Wp O L8_0 Q σ h = Wp O bL8_0 Q σ h := rfl
abbrev bK8_0 : AC :=
  .seq (.region [⟨some 55, .load (some 4) (.t 9), none, 0⟩, ⟨some 56, .mv (.t 11), none, 0⟩, ⟨some 57, .mv (.t 10), none, 0⟩, ⟨some 58, .bin .eql (.t 57) (.c (.int .i64 0)), none, 0⟩, ⟨none, .store 4 (.t
  6) (.t 55), none, 0⟩, ⟨some 7, .mv (.t 56), none, 0⟩, ⟨some 8, .mv (.t 58), none, 0⟩] 0 false []) .ret
def K8_0 := bK8_0
theorem wK8_0 : Wp O K8_0 Q σ h = Wp O bK8_0 Q σ h := rfl
abbrev bB8 : AC :=
  .seq (.region [⟨some 6, .alloc [.int .i64 0, .str [], .bool false, .bool false], none, 0⟩, ⟨some 7, .mv (.c (.list 2 [] .full)), none, 1⟩, ⟨some 8, .mv (.c (.bool false)), none, 1⟩] 1 false []) (.seq
  (.region [⟨some 16, .mv (.t 0), none, 0⟩, ⟨some 17, .call (.c (.fn 15 [])) [.t 16], none, 0⟩, ⟨some 15, .mv (.t 17), none, 0⟩, ⟨some 18, .ext (.t 15) 0, none, 0⟩, ⟨some 19, .ext (.t 15) 1, none, 0⟩,
  ⟨some 9, .alloc [.int .i64 0, .str [], .bool false, .bool false], none, 0⟩, ⟨none, .store 4 (.t 9) (.t 18), none, 1⟩, ⟨some 10, .mv (.t 19), none, 1⟩] 1 false []) (.seq (.region [⟨some 11, .mv (.c
  (.list 2 [] .full)), none, 0⟩] 0 false []) (.seq (.seq (.region [⟨some 12, .mv (.c (.int .i64 0)), none, 0⟩] 0 false []) (.block 0 (.loop L8_0))) K8_0)))
def B8 := bB8
theorem wB8 : Wp O B8 Q σ h = Wp O bB8 Q σ h := rfl
def F8 : AF := ⟨B8, [.cell 6 (some 4), .tmp 7, .tmp 8], false⟩
theorem tab8 : T 8 = some F8 := by kernel_rfl
/-- franking/frankinglaw12.Same -/
abbrev bL9_0 : AC :=
  .seq (.region [⟨some 14, .bin .lss (.t 13) (.t 12), none, 0⟩] 0 false []) (.seq (.cond (.t 14) .skip (.exit 0)) (.seq (.block 1 (.seq (.region [⟨some 15, .mv (.t 13), none, 0⟩, ⟨some 5, .mv (.t 15),
  none, 0⟩] 0 false []) (.seq (.region [⟨some 16, .mv (.t 0), none, 0⟩, ⟨some 17, .mv (.t 5), none, 0⟩, ⟨some 18, .idx 2 (.t 16) (.t 17), none, 0⟩, ⟨some 19, .load (some 2) (.t 18), none, 0⟩, ⟨some 20,
  .mv (.t 1), none, 0⟩, ⟨some 21, .mv (.t 5), none, 0⟩, ⟨some 22, .idx 2 (.t 20) (.t 21), none, 0⟩, ⟨some 23, .load (some 2) (.t 22), none, 0⟩, ⟨some 24, .eq true (some 2) [(0, LK.str), (1, LK.bool)] (.t
  19) (.t 23), none, 0⟩] 0 true []) (.cond (.t 24) (.seq (.region [⟨some 4, .mv (.c (.bool false)), none, 0⟩] 0 false []) .ret) .skip)))) (.region [⟨some 25, .bin .add (.t 13) (.c (.int .i64 1)), none,
  0⟩, ⟨some 13, .mv (.t 25), none, 0⟩] 0 false [])))
def L9_0 := bL9_0
theorem wL9_0 : Wp O L9_0 Q σ h = Wp O bL9_0 Q σ h := rfl
abbrev bK9_0 : AC :=
  .seq (.region [⟨some 4, .mv (.c (.bool true)), none, 0⟩] 0 false []) .ret
def K9_0 := bK9_0
theorem wK9_0 : Wp O K9_0 Q σ h = Wp O bK9_0 Q σ h := rfl
abbrev bB9 : AC :=
  .seq (.region [⟨some 4, .mv (.c (.bool false)), none, 0⟩] 0 false []) (.seq (.seq (.region [⟨some 6, .mv (.t 0), none, 0⟩, ⟨some 7, .len (.t 6), none, 0⟩, ⟨some 8, .mv (.t 1), none, 0⟩, ⟨some 9, .len
  (.t 8), none, 0⟩, ⟨some 10, .bin .neq (.t 7) (.t 9), none, 0⟩] 0 false []) (.cond (.t 10) (.seq (.region [⟨some 4, .mv (.c (.bool false)), none, 0⟩] 0 false []) .ret) .skip)) (.seq (.seq (.region
  [⟨some 11, .mv (.t 0), none, 0⟩, ⟨some 12, .len (.t 11), none, 0⟩, ⟨some 13, .mv (.c (.int .i64 0)), none, 0⟩] 0 false []) (.block 0 (.loop L9_0))) K9_0))
def B9 := bB9
theorem wB9 : Wp O B9 Q σ h = Wp O bB9 Q σ h := rfl
def F9 : AF := ⟨B9, [.tmp 4], false⟩
theorem tab9 : T 9 = some F9 := by kernel_rfl
/-- franking/frame.New -/
abbrev bB15 : AC :=
  .seq (.region [⟨some 2, .alloc [.int .i64 0, .str [], .bool false, .bool false], none, 0⟩, ⟨some 3, .mv (.c (.int .i64 0)), none, 1⟩] 1 false []) (.seq (.seq (.region [⟨some 4, .mv (.t 0), none, 0⟩,
  ⟨some 5, .bin .lss (.t 4) (.c (.int .i64 1)), none, 0⟩, ⟨some 6, .mv (.t 5), none, 0⟩, ⟨some 7, .mv (.t 0), some (6, false), 0⟩, ⟨some 8, .bin .gtr (.t 7) (.c (.int .i64 2000)), some (6, false), 0⟩,
  ⟨some 9, .pick (.t 6) (.c (.bool true)) (.t 8), none, 0⟩] 0 false []) (.cond (.t 9) (.seq (.region [⟨some 10, .build [.int .i64 0, .str [], .bool false, .bool false] [], none, 0⟩, ⟨none, .store 4 (.t
  2) (.t 10), none, 0⟩, ⟨some 3, .mv (.c (.int .i64 2)), none, 0⟩] 0 false []) .ret) .skip)) (.seq (.region [⟨some 11, .mv (.t 0), none, 0⟩, ⟨some 12, .build [.int .i64 0, .str [], .bool false, .bool
  false] [(0, 1, .t 11)], none, 0⟩, ⟨none, .store 4 (.t 2) (.t 12), none, 0⟩, ⟨some 3, .mv (.c (.int .i64 0)), none, 0⟩] 0 false []) .ret))
def B15 := bB15
theorem wB15 : Wp O B15 Q σ h = Wp O bB15 Q σ h := rfl
def F15 : AF := ⟨B15, [.cell 2 (some 4), .tmp 3], false⟩
theorem tab15 : T 15 = some F15 := by kernel_rfl
/-- franking/frame.Push -/
abbrev bL16_0 : AC :=
  .seq (.region [⟨some 24, .bin .lss (.t 23) (.t 22), none, 0⟩] 0 false []) (.seq (.cond (.t 24) .skip (.exit 0)) (.seq (.block 1 (.seq (.region [⟨some 25, .idx 1 (.t 21) (.t 23), none, 0⟩, ⟨some 26,
  .load none (.t 25), none, 0⟩, ⟨some 12, .mv (.t 26), none, 0⟩] 0 false []) (.seq (.seq (.region [⟨some 27, .mv (.t 9), none, 0⟩] 0 false []) (.cond (.t 27) (.seq (.region [⟨some 28, .mv (.t 12), none,
  0⟩, ⟨some 29, .bin .eql (.t 28) (.c (.int .u8 13)), none, 0⟩, ⟨some 9, .mv (.t 29), none, 0⟩] 0 false []) (.seq (.seq (.region [⟨some 30, .mv (.t 12), none, 0⟩, ⟨some 31, .bin .eql (.t 30) (.c (.int
  .u8 10)), none, 0⟩] 0 false []) (.cond (.t 31) (.seq (.region [⟨some 32, .mv (.t 6), none, 0⟩, ⟨some 33, .load none (.t 7), none, 0⟩, ⟨some 34, .cvBytesStr (.t 33), none, 0⟩, ⟨some 35, .load none (.t
  8), none, 0⟩, ⟨some 36, .build [.str [], .bool false] [(0, 1, .t 34), (1, 1, .t 35)], none, 0⟩, ⟨some 37, .bslice 2 [.t 36], none, 0⟩, ⟨some 38, .append 2 24 34 (.t 32) (.t 37), none, 0⟩, ⟨some 6, .mv
  (.t 38), none, 1⟩] 1 false []) (.seq (.region [⟨some 39, .load none (.t 7), none, 0⟩, ⟨some 40, .slice 1 (.t 39) none (some (.c (.int .i64 0))) none, none, 0⟩, ⟨none, .store 1 (.t 7) (.t 40), none, 0⟩,
  ⟨none, .store 1 (.t 8) (.c (.bool false)), none, 0⟩] 0 false []) (.exit 1))) .skip)) (.seq (.region [⟨some 41, .mv (.t 10), none, 0⟩, ⟨some 42, .call (.t 41) [.c (.int .u8 13)], none, 0⟩] 0 false [])
  (.seq (.region [⟨some 43, .mv (.t 9), none, 0⟩] 0 false []) (.cond (.t 43) (.exit 1) .skip))))) (.seq (.region [⟨some 44, .mv (.t 12), none, 0⟩, ⟨some 45, .bin .eql (.t 44) (.c (.int .u8 13)), none,
  0⟩] 0 false []) (.cond (.t 45) (.seq (.region [⟨some 9, .mv (.c (.bool true)), none, 0⟩] 0 false []) (.exit 1)) .skip)))) (.region [⟨some 46, .mv (.t 10), none, 0⟩, ⟨some 47, .mv (.t 12), none, 0⟩,
  ⟨some 48, .call (.t 46) [.t 47], none, 0⟩] 0 false [])))) (.region [⟨some 49, .bin .add (.t 23) (.c (.int .i64 1)), none, 0⟩, ⟨some 23, .mv (.t 49), none, 0⟩] 0 false [])))
def L16_0 := bL16_0
theorem wL16_0 : Wp O L16_0 Q σ h = Wp O bL16_0 Q σ h := rfl
abbrev bK16_0 : AC :=
  .seq (.region [⟨some 50, .off 0 (.t 2), none, 0⟩, ⟨some 51, .load none (.t 50), none, 0⟩, ⟨some 52, .load none (.t 7), none, 0⟩, ⟨some 53, .cvBytesStr (.t 52), none, 0⟩, ⟨some 54, .load none (.t 8),
  none, 0⟩, ⟨some 55, .mv (.t 9), none, 0⟩, ⟨some 56, .build [.int .i64 0, .str [], .bool false, .bool false] [(0, 1, .t 51), (1, 1, .t 53), (2, 1, .t 54), (3, 1, .t 55)], none, 0⟩, ⟨some 57, .mv (.t 6),
  none, 0⟩, ⟨none, .store 4 (.t 4) (.t 56), none, 0⟩, ⟨some 5, .mv (.t 57), none, 0⟩] 0 false []) .ret
def K16_0 := bK16_0
theorem wK16_0 : Wp O K16_0 Q σ h = Wp O bK16_0 Q σ h := rfl
abbrev bB16 : AC :=
  .seq (.region [⟨some 2, .box 4 (.t 0), none, 0⟩, ⟨some 4, .alloc [.int .i64 0, .str [], .bool false, .bool false], none, 1⟩, ⟨some 5, .mv (.c (.list 2 [] .full)), none, 2⟩] 2 false []) (.scope (.seq
  (.region [⟨some 6, .mv (.c (.list 2 [] .full)), none, 0⟩] 0 false []) (.seq (.region [⟨some 13, .off 1 (.t 2), none, 0⟩, ⟨some 14, .load none (.t 13), none, 0⟩, ⟨some 15, .cvStrBytesM (.t 14), none,
  0⟩, ⟨some 16, .off 2 (.t 2), none, 1⟩, ⟨some 17, .load none (.t 16), none, 1⟩, ⟨some 18, .off 3 (.t 2), none, 1⟩, ⟨some 19, .load none (.t 18), none, 1⟩, ⟨some 7, .alloc [.list 1 [] .full], none, 1⟩,
  ⟨some 8, .alloc [.bool false], none, 2⟩, ⟨none, .store 1 (.t 7) (.t 15), none, 3⟩, ⟨none, .store 1 (.t 8) (.t 17), none, 3⟩, ⟨some 9, .mv (.t 19), none, 3⟩] 3 true [(2, 4), (2, 6), (1, 7), (2, 7), (4,
  7), (6, 7), (1, 8), (2, 8), (4, 8), (6, 8), (7, 8), (4, 9), (6, 9), (6, 10)]) (.seq (.region [⟨some 20, .mkfn 23 [.t 7, .t 2, .t 8], none, 0⟩, ⟨some 10, .mv (.t 20), none, 0⟩] 0 false []) (.seq (.label
  0) (.seq (.seq (.region [⟨some 21, .mv (.t 1), none, 0⟩, ⟨some 22, .len (.t 21), none, 0⟩, ⟨some 23, .mv (.c (.int .i64 0)), none, 0⟩] 0 false []) (.block 0 (.loop L16_0))) K16_0))))))
def B16 := bB16
theorem wB16 : Wp O B16 Q σ h = Wp O bB16 Q σ h := rfl
def F16 : AF := ⟨B16, [.cell 4 (some 4), .tmp 5], false⟩
theorem tab16 : T 16 = some F16 := by kernel_rfl
/-- franking/frame.Push$1 -/
abbrev bB23 : AC :=
  .seq (.seq (.region [⟨some 5, .load none (.t 1), none, 0⟩, ⟨some 6, .len (.t 5), none, 0⟩, ⟨some 7, .off 0 (.t 2), none, 0⟩, ⟨some 8, .load none (.t 7), none, 0⟩, ⟨some 9, .bin .lss (.t 6) (.t 8),
  none, 0⟩] 0 false []) (.cond (.t 9) (.seq (.region [⟨some 10, .load none (.t 1), none, 0⟩, ⟨some 11, .mv (.t 0), none, 0⟩, ⟨some 12, .bslice 1 [.t 11], none, 0⟩, ⟨some 13, .append 1 1 5 (.t 10) (.t
  12), none, 0⟩, ⟨none, .store 1 (.t 1) (.t 13), none, 1⟩] 1 false []) .ret) .skip)) (.region [⟨none, .store 1 (.t 3) (.c (.bool true)), none, 0⟩] 0 false [])
def B23 := bB23
theorem wB23 : Wp O B23 Q σ h = Wp O bB23 Q σ h := rfl
def F23 : AF := ⟨B23, [], true⟩
theorem tab23 : T 23 = some F23 := by kernel_rfl
/-- franking/frame.Rest -/
abbrev bB12 : AC :=
  .seq (.region [⟨some 1, .box 4 (.t 0), none, 0⟩, ⟨some 2, .mv (.c (.str [])), none, 1⟩] 1 false []) (.seq (.seq (.region [⟨some 3, .off 3 (.t 1), none, 0⟩, ⟨some 4, .load none (.t 3), none, 0⟩] 0 false
  []) (.cond (.t 4) (.seq (.region [⟨some 5, .off 1 (.t 1), none, 0⟩, ⟨some 6, .load none (.t 5), none, 0⟩, ⟨some 7, .cvStrBytes 5 (.c (.str [13])), none, 0⟩, ⟨some 8, .cvBytesStr (.t 7), none, 1⟩, ⟨some
  9, .bin .add (.t 6) (.t 8), none, 1⟩, ⟨some 2, .mv (.t 9), none, 1⟩] 1 false []) .ret) .skip)) (.seq (.region [⟨some 10, .off 1 (.t 1), none, 0⟩, ⟨some 11, .load none (.t 10), none, 0⟩, ⟨some 2, .mv
  (.t 11), none, 0⟩] 0 false []) .ret))
def B12 := bB12
theorem wB12 : Wp O B12 Q σ h = Wp O bB12 Q σ h := rfl
def F12 : AF := ⟨B12, [.tmp 2], false⟩
theorem tab12 : T 12 = some F12 := by kernel_rfl
/-- strings.HasPrefix -/
abbrev bB10 : AC :=
  .seq (.region [⟨some 4, .mv (.c (.bool false)), none, 0⟩] 0 false []) (.seq (.region [⟨some 5, .mv (.t 0), none, 0⟩, ⟨some 6, .mv (.t 1), none, 0⟩, ⟨some 7, .call (.c (.fn 17 [])) [.t 5, .t 6], none,
  0⟩, ⟨some 4, .mv (.t 7), none, 0⟩] 0 false []) .ret)
def B10 := bB10
theorem wB10 : Wp O B10 Q σ h = Wp O bB10 Q σ h := rfl
def F10 : AF := ⟨B10, [.tmp 4], false⟩
theorem tab10 : T 10 = some F10 := by kernel_rfl
/-- internal/stringslite.HasPrefix -/
abbrev bB17 : AC :=
  .seq (.region [⟨some 4, .mv (.c (.bool false)), none, 0⟩] 0 false []) (.seq (.region [⟨some 5, .mv (.t 0), none, 0⟩, ⟨some 6, .lenS (.t 5), none, 0⟩, ⟨some 7, .mv (.t 1), none, 0⟩, ⟨some 8, .lenS (.t
  7), none, 0⟩, ⟨some 9, .bin .geq (.t 6) (.t 8), none, 0⟩, ⟨some 10, .mv (.t 9), none, 0⟩, ⟨some 11, .mv (.t 0), some (10, true), 0⟩, ⟨some 12, .mv (.t 1), some (10, true), 0⟩, ⟨some 13, .lenS (.t 12),
  some (10, true), 0⟩, ⟨some 14, .sliceS (.t 11) none (some (.t 13)), some (10, true), 0⟩, ⟨some 15, .mv (.t 1), some (10, true), 0⟩, ⟨some 16, .bin .eql (.t 14) (.t 15), some (10, true), 0⟩, ⟨some 17,
  .pick (.t 10) (.t 16) (.c (.bool false)), none, 0⟩, ⟨some 4, .mv (.t 17), none, 0⟩] 0 false []) .ret)
def B17 := bB17
theorem wB17 : Wp O B17 Q σ h = Wp O bB17 Q σ h := rfl
def F17 : AF := ⟨B17, [.tmp 4], false⟩
theorem tab17 : T 17 = some F17 := by kernel_rfl
/-- strings.TrimSuffix -/
abbrev bB11 : AC :=
  .seq (.region [⟨some 4, .mv (.c (.str [])), none, 0⟩] 0 false []) (.seq (.region [⟨some 5, .mv (.t 0), none, 0⟩, ⟨some 6, .mv (.t 1), none, 0⟩, ⟨some 7, .call (.c (.fn 18 [])) [.t 5, .t 6], none, 0⟩,
  ⟨some 4, .mv (.t 7), none, 0⟩] 0 false []) .ret)
def B11 := bB11
theorem wB11 : Wp O B11 Q σ h = Wp O bB11 Q σ h := rfl
def F11 : AF := ⟨B11, [.tmp 4], false⟩
theorem tab11 : T 11 = some F11 := by kernel_rfl
/-- internal/stringslite.TrimSuffix -/
abbrev bB18 : AC :=
  .seq (.region [⟨some 4, .mv (.c (.str [])), none, 0⟩] 0 false []) (.seq (.seq (.region [⟨some 5, .mv (.t 0), none, 0⟩, ⟨some 6, .mv (.t 1), none, 0⟩, ⟨some 7, .call (.c (.fn 24 [])) [.t 5, .t 6], none,
  0⟩] 0 false []) (.cond (.t 7) (.seq (.region [⟨some 8, .mv (.t 0), none, 0⟩, ⟨some 9, .mv (.t 0), none, 0⟩, ⟨some 10, .lenS (.t 9), none, 0⟩, ⟨some 11, .mv (.t 1), none, 0⟩, ⟨some 12, .lenS (.t 11),
  none, 0⟩, ⟨some 13, .bin .sub (.t 10) (.t 12), none, 0⟩, ⟨some 14, .sliceS (.t 8) none (some (.t 13)), none, 0⟩, ⟨some 4, .mv (.t 14), none, 0⟩] 0 false []) .ret) .skip)) (.seq (.region [⟨some 15, .mv
  (.t 0), none, 0⟩, ⟨some 4, .mv (.t 15), none, 0⟩] 0 false []) .ret))
def B18 := bB18
theorem wB18 : Wp O B18 Q σ h = Wp O bB18 Q σ h := rfl
def F18 : AF := ⟨B18, [.tmp 4], false⟩
theorem tab18 : T 18 = some F18 := by kernel_rfl
/-- internal/stringslite.HasSuffix -/
abbrev bB24 : AC :=
  .seq (.region [⟨some 4, .mv (.c (.bool false)), none, 0⟩] 0 false []) (.seq (.region [⟨some 5, .mv (.t 0), none, 0⟩, ⟨some 6, .lenS (.t 5), none, 0⟩, ⟨some 7, .mv (.t 1), none, 0⟩, ⟨some 8, .lenS (.t
  7), none, 0⟩, ⟨some 9, .bin .geq (.t 6) (.t 8), none, 0⟩, ⟨some 10, .mv (.t 9), none, 0⟩, ⟨some 11, .mv (.t 0), some (10, true), 0⟩, ⟨some 12, .mv (.t 0), some (10, true), 0⟩, ⟨some 13, .lenS (.t 12),
  some (10, true), 0⟩, ⟨some 14, .mv (.t 1), some (10, true), 0⟩, ⟨some 15, .lenS (.t 14), some (10, true), 0⟩, ⟨some 16, .bin .sub (.t 13) (.t 15), some (10, true), 0⟩, ⟨some 17, .sliceS (.t 11) (some
  (.t 16)) none, some (10, true), 0⟩, ⟨some 18, .mv (.t 1), some (10, true), 0⟩, ⟨some 19, .bin .eql (.t 17) (.t 18), some (10, true), 0⟩, ⟨some 20, .pick (.t 10) (.t 19) (.c (.bool false)), none, 0⟩,
  ⟨some 4, .mv (.t 20), none, 0⟩] 0 false []) .ret)
def B24 := bB24
theorem wB24 : Wp O B24 Q σ h = Wp O bB24 Q σ h := rfl
def F24 : AF := ⟨B24, [.tmp 4], false⟩
theorem tab24 : T 24 = some F24 := by kernel_rfl
theorem mixed : Try.prog.follows .mixedOrders = true := by kernel_rfl
end Go.Proofs.Ytmcjnbkodcdjnaa
