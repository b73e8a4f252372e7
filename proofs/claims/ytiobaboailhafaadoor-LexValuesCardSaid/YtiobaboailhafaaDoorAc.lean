/-
  The abstract code of the functions that the laws reach.
-/
import Derived.Test.YtiobaboailhafaaDoorProg
import Derived.Test.YtiobaboailhafaaDoorAmC
import Derived.KernelRfl
set_option linter.unusedVariables false
set_option maxRecDepth 100000
namespace Go.Proofs.YtiobaboailhafaaDoor
open Go Go.Am
noncomputable def T : FuncId → Option AF := table Tryd.prog [] ["franking/lex.rows", "franking/lex.rows$1", "franking/lex.sign", "franking/lex.value$1", "internal/strconv.formatBase10"]
variable {O : Orc} {Q : Ex → Slots → Heap → Prop} {σ : Slots} {h : Heap}
/-- franking/lex.Lex -/
abbrev bJ8_0 : AC :=
  .cond (.t 55) (.seq (.region [⟨some 70, .mv (.t 8), none, 0⟩, ⟨some 2, .mv (.c (.list 7 [] .full)), none, 0⟩, ⟨some 3, .mv (.t 70), none, 0⟩, ⟨some 4, .mv (.c (.int .i64 10)), none, 0⟩] 0 false [])
  .ret) (.seq (.region [⟨some 72, .mv (.t 13), none, 0⟩, ⟨some 73, .bin .eql (.t 72) (.c (.int .i64 0)), none, 0⟩, ⟨some 74, .mv (.t 73), none, 0⟩, ⟨some 75, .mv (.t 7), some (74, true), 0⟩, ⟨some 76,
  .pick (.t 74) (.t 75) (.c (.bool false)), none, 0⟩, ⟨some 71, .mv (.t 76), none, 0⟩] 0 false []) (.cond (.t 71) (.region [⟨some 77, .mv (.t 5), none, 0⟩, ⟨some 78, .mv (.t 8), none, 0⟩, ⟨some 79,
  .build [.int .u8 0, .int .i64 0, .str [], .int .i64 0, .int .i64 0, .int .u8 0, .int .u8 0] [(0, 1, .c (.int .u8 13)), (1, 1, .t 78)], none, 0⟩, ⟨some 80, .bslice 7 [.t 79], none, 0⟩, ⟨some 81, .append
  7 56 35 (.t 77) (.t 80), none, 0⟩, ⟨some 5, .mv (.t 81), none, 1⟩] 1 false []) .skip))
def J8_0 := bJ8_0
theorem wJ8_0 : Wp O J8_0 Q σ h = Wp O bJ8_0 Q σ h := rfl
abbrev bJ8_1 : AC :=
  .seq (.region [⟨some 7, .mv (.c (.bool true)), none, 0⟩] 0 false []) (.seq (.region [⟨some 83, .mv (.t 9), none, 0⟩, ⟨some 84, .mv (.t 8), none, 0⟩, ⟨some 85, .mv (.t 6), none, 0⟩, ⟨some 86, .call (.c
  (.fn 25 [])) [.t 83, .t 84, .t 85], none, 0⟩, ⟨some 82, .mv (.t 86), none, 0⟩, ⟨some 87, .ext (.t 82) 0, none, 0⟩, ⟨some 88, .ext (.t 82) 1, none, 0⟩, ⟨some 89, .ext (.t 82) 2, none, 0⟩, ⟨some 14, .mv
  (.t 87), none, 0⟩, ⟨some 15, .mv (.t 88), none, 0⟩, ⟨some 16, .mv (.t 89), none, 0⟩] 0 false []) (.seq (.seq (.region [⟨some 90, .mv (.t 16), none, 0⟩, ⟨some 91, .bin .neq (.t 90) (.c (.int .i64 0)),
  none, 0⟩] 0 false []) (.cond (.t 91) (.seq (.region [⟨some 92, .mv (.t 15), none, 0⟩, ⟨some 93, .mv (.t 16), none, 0⟩, ⟨some 2, .mv (.c (.list 7 [] .full)), none, 0⟩, ⟨some 3, .mv (.t 92), none, 0⟩,
  ⟨some 4, .mv (.t 93), none, 0⟩] 0 false []) .ret) .skip)) (.region [⟨some 94, .mv (.t 5), none, 0⟩, ⟨some 95, .mv (.t 14), none, 0⟩, ⟨some 96, .append 7 56 35 (.t 94) (.t 95), none, 0⟩, ⟨some 97, .mv
  (.t 12), none, 1⟩, ⟨some 5, .mv (.t 96), none, 1⟩, ⟨some 8, .mv (.t 97), none, 1⟩] 1 false [])))
def J8_1 := bJ8_1
theorem wJ8_1 : Wp O J8_1 Q σ h = Wp O bJ8_1 Q σ h := rfl
abbrev bJ8_2 : AC :=
  .seq (.region [⟨some 41, .mv (.t 9), none, 0⟩, ⟨some 42, .call (.c (.fn 22 [])) [.t 41, .c (.fn 23 [])], none, 0⟩, ⟨some 13, .mv (.t 42), none, 0⟩] 0 false []) (.seq (.block 2 (.seq (.region [⟨some 44,
  .mv (.t 13), none, 0⟩, ⟨some 45, .mv (.t 9), none, 0⟩, ⟨some 46, .lenS (.t 45), none, 0⟩, ⟨some 47, .bin .eql (.t 44) (.t 46), none, 0⟩, ⟨some 48, .mv (.t 47), none, 0⟩, ⟨some 49, .mv (.t 9), some (48,
  false), 0⟩, ⟨some 50, .mv (.t 13), some (48, false), 0⟩, ⟨some 51, .indexS (.t 49) (.t 50), some (48, false), 0⟩, ⟨some 52, .bin .eql (.t 51) (.c (.int .u8 59)), some (48, false), 0⟩, ⟨some 53, .pick
  (.t 48) (.c (.bool true)) (.t 52), none, 0⟩, ⟨some 43, .mv (.t 53), none, 0⟩] 0 false []) (.cond (.t 43) (.seq (.region [⟨some 54, .mv (.t 12), none, 0⟩, ⟨some 8, .mv (.t 54), none, 0⟩] 0 false [])
  (.exit 1)) (.seq (.seq (.region [⟨some 56, .mv (.t 13), none, 0⟩, ⟨some 57, .bin .eql (.t 56) (.c (.int .i64 0)), none, 0⟩, ⟨some 58, .mv (.t 57), none, 0⟩, ⟨some 59, .mv (.t 9), some (58, true), 0⟩,
  ⟨some 60, .indexS (.t 59) (.c (.int .i64 0)), some (58, true), 0⟩, ⟨some 61, .call (.c (.fn 24 [])) [.t 60], some (58, true), 0⟩, ⟨some 62, .not (.t 61), some (58, true), 0⟩, ⟨some 63, .pick (.t 58)
  (.t 62) (.c (.bool false)), none, 0⟩, ⟨some 55, .mv (.t 63), none, 0⟩] 0 false []) (.cond (.t 55) .skip (.region [⟨some 64, .mv (.t 13), none, 0⟩, ⟨some 65, .bin .gtr (.t 64) (.c (.int .i64 0)), none,
  0⟩, ⟨some 66, .mv (.t 65), none, 0⟩, ⟨some 67, .mv (.t 7), some (66, true), 0⟩, ⟨some 68, .not (.t 67), some (66, true), 0⟩, ⟨some 69, .pick (.t 66) (.t 68) (.c (.bool false)), none, 0⟩, ⟨some 55, .mv
  (.t 69), none, 0⟩] 0 false []))) J8_0)))) J8_1)
def J8_2 := bJ8_2
theorem wJ8_2 : Wp O J8_2 Q σ h = Wp O bJ8_2 Q σ h := rfl
abbrev bL8_0 : AC :=
  .seq (.seq (.region [⟨some 21, .mv (.t 8), none, 0⟩, ⟨some 22, .mv (.t 0), none, 0⟩, ⟨some 23, .lenS (.t 22), none, 0⟩, ⟨some 24, .bin .lss (.t 21) (.t 23), none, 0⟩] 0 false []) (.cond (.t 24) .skip
  (.exit 0))) (.block 1 (.seq (.region [⟨some 26, .mv (.t 0), none, 0⟩, ⟨some 27, .mv (.t 8), none, 0⟩, ⟨some 28, .sliceS (.t 26) (some (.t 27)) none, none, 0⟩, ⟨some 29, .call (.c (.fn 20 [])) [.t 28,
  .c (.str [10])], none, 0⟩, ⟨some 25, .mv (.t 29), none, 0⟩, ⟨some 30, .ext (.t 25) 0, none, 0⟩, ⟨some 31, .ext (.t 25) 1, none, 0⟩, ⟨some 32, .ext (.t 25) 2, none, 0⟩, ⟨some 9, .mv (.t 30), none, 0⟩,
  ⟨some 10, .mv (.t 31), none, 0⟩, ⟨some 11, .mv (.t 32), none, 0⟩] 0 false []) (.seq (.region [⟨some 33, .mv (.t 8), none, 0⟩, ⟨some 34, .mv (.t 9), none, 0⟩, ⟨some 35, .lenS (.t 34), none, 0⟩, ⟨some
  36, .bin .add (.t 33) (.t 35), none, 0⟩, ⟨some 37, .bin .add (.t 36) (.c (.int .i64 1)), none, 0⟩, ⟨some 12, .mv (.t 37), none, 0⟩] 0 false []) (.seq (.seq (.region [⟨some 38, .mv (.t 11), none, 0⟩] 0
  false []) (.cond (.t 38) (.region [⟨some 39, .mv (.t 9), none, 0⟩, ⟨some 40, .call (.c (.fn 21 [])) [.t 39, .c (.str [13])], none, 0⟩, ⟨some 9, .mv (.t 40), none, 0⟩] 0 false []) .skip)) J8_2))))
def L8_0 := bL8_0
theorem wL8_0 : Wp O L8_0 Q σ h = Wp O bL8_0 Q σ h := rfl
abbrev bJ8_3 : AC :=
  .seq (.region [⟨some 105, .mv (.t 5), none, 0⟩, ⟨some 2, .mv (.t 105), none, 0⟩, ⟨some 3, .mv (.c (.int .i64 0)), none, 0⟩, ⟨some 4, .mv (.c (.int .i64 0)), none, 0⟩] 0 false []) .ret
def J8_3 := bJ8_3
theorem wJ8_3 : Wp O J8_3 Q σ h = Wp O bJ8_3 Q σ h := rfl
abbrev bK8_0 : AC :=
  .seq (.seq (.region [⟨some 98, .mv (.t 7), none, 0⟩] 0 false []) (.cond (.t 98) (.region [⟨some 99, .mv (.t 5), none, 0⟩, ⟨some 100, .mv (.t 0), none, 0⟩, ⟨some 101, .lenS (.t 100), none, 0⟩, ⟨some
  102, .build [.int .u8 0, .int .i64 0, .str [], .int .i64 0, .int .i64 0, .int .u8 0, .int .u8 0] [(0, 1, .c (.int .u8 13)), (1, 1, .t 101)], none, 0⟩, ⟨some 103, .bslice 7 [.t 102], none, 0⟩, ⟨some
  104, .append 7 56 35 (.t 99) (.t 103), none, 0⟩, ⟨some 5, .mv (.t 104), none, 1⟩] 1 false []) .skip)) J8_3
def K8_0 := bK8_0
theorem wK8_0 : Wp O K8_0 Q σ h = Wp O bK8_0 Q σ h := rfl
abbrev bB8 : AC :=
  .seq (.region [⟨some 2, .mv (.c (.list 7 [] .full)), none, 0⟩, ⟨some 3, .mv (.c (.int .i64 0)), none, 0⟩, ⟨some 4, .mv (.c (.int .i64 0)), none, 0⟩] 0 false []) (.seq (.seq (.region [⟨some 17, .mv (.t
  0), none, 0⟩, ⟨some 18, .lenS (.t 17), none, 0⟩, ⟨some 19, .bin .gtr (.t 18) (.c (.int .i64 65536)), none, 0⟩] 0 false []) (.cond (.t 19) (.seq (.region [⟨some 2, .mv (.c (.list 7 [] .full)), none, 0⟩,
  ⟨some 3, .mv (.c (.int .i64 65536)), none, 0⟩, ⟨some 4, .mv (.c (.int .i64 3)), none, 0⟩] 0 false []) .ret) .skip)) (.seq (.region [⟨some 5, .mv (.c (.list 7 [] .full)), none, 0⟩] 0 false []) (.seq
  (.region [⟨some 20, .call (.c (.fn 19 [])) [], none, 0⟩, ⟨some 6, .mv (.t 20), none, 0⟩, ⟨some 7, .mv (.c (.bool false)), none, 0⟩] 0 false []) (.seq (.seq (.region [⟨some 8, .mv (.c (.int .i64 0)),
  none, 0⟩] 0 false []) (.block 0 (.loop L8_0))) K8_0))))
def B8 := bB8
theorem wB8 : Wp O B8 Q σ h = Wp O bB8 Q σ h := rfl
def F8 : AF := ⟨B8, [.tmp 2, .tmp 3, .tmp 4], false⟩
theorem tab8 : T 8 = some F8 := by kernel_rfl
/-- franking/lex.times -/
abbrev bJ44_0 : AC :=
  .seq (.seq (.region [⟨some 60, .off 4 (.t 6), none, 0⟩, ⟨some 61, .load none (.t 60), none, 0⟩, ⟨some 62, .bin .geq (.t 61) (.c (.int .i64 0)), none, 0⟩, ⟨some 63, .mv (.t 62), none, 0⟩, ⟨some 64, .off
  4 (.t 6), some (63, true), 0⟩, ⟨some 65, .load none (.t 64), some (63, true), 0⟩, ⟨some 66, .off 3 (.t 6), some (63, true), 0⟩, ⟨some 67, .load none (.t 66), some (63, true), 0⟩, ⟨some 68, .bin .lss
  (.t 65) (.t 67), some (63, true), 0⟩, ⟨some 69, .pick (.t 63) (.t 68) (.c (.bool false)), none, 0⟩] 0 false []) (.cond (.t 69) (.seq (.region [⟨some 70, .build [.int .u8 0, .int .i64 0, .str [], .int
  .i64 0, .int .i64 0, .int .u8 0, .int .u8 0, .int .i64 0, .int .i64 0] [(8, 1, .c (.int .i64 13))], none, 0⟩, ⟨none, .store 9 (.t 2) (.t 70), none, 0⟩] 0 false []) .ret) .skip)) (.seq (.region [⟨some
  71, .load (some 7) (.t 6), none, 0⟩, ⟨some 72, .mv (.t 3), none, 0⟩, ⟨some 73, .bin .add (.t 72) (.c (.int .i64 1)), none, 0⟩, ⟨some 74, .mv (.t 5), none, 0⟩, ⟨some 75, .bin .add (.t 73) (.t 74), none,
  0⟩, ⟨some 76, .build [.int .u8 0, .int .i64 0, .str [], .int .i64 0, .int .i64 0, .int .u8 0, .int .u8 0, .int .i64 0, .int .i64 0] [(0, 7, .t 71), (7, 1, .t 75)], none, 0⟩, ⟨none, .store 9 (.t 2) (.t
  76), none, 0⟩] 0 false []) .ret)
def J44_0 := bJ44_0
theorem wJ44_0 : Wp O J44_0 Q σ h = Wp O bJ44_0 Q σ h := rfl
abbrev bJ44_1 : AC :=
  .seq (.block 0 (.seq (.region [⟨some 26, .mv (.t 3), none, 0⟩, ⟨some 27, .bin .gtr (.t 26) (.c (.int .i64 4)), none, 0⟩, ⟨some 25, .mv (.t 27), none, 0⟩] 0 false []) (.cond (.t 25) (.seq (.region
  [⟨some 28, .build [.int .u8 0, .int .i64 0, .str [], .int .i64 0, .int .i64 0, .int .u8 0, .int .u8 0, .int .i64 0, .int .i64 0] [(8, 1, .c (.int .i64 12))], none, 0⟩, ⟨none, .store 9 (.t 2) (.t 28),
  none, 0⟩] 0 false []) .ret) (.seq (.region [⟨some 30, .mv (.t 5), none, 0⟩, ⟨some 31, .bin .gtr (.t 30) (.c (.int .i64 4)), none, 0⟩, ⟨some 29, .mv (.t 31), none, 0⟩] 0 false []) (.cond (.t 29) (.seq
  (.region [⟨some 32, .mv (.t 3), none, 0⟩, ⟨some 33, .bin .add (.t 32) (.c (.int .i64 1)), none, 0⟩, ⟨some 34, .build [.int .u8 0, .int .i64 0, .str [], .int .i64 0, .int .i64 0, .int .u8 0, .int .u8 0,
  .int .i64 0, .int .i64 0] [(7, 1, .t 33), (8, 1, .c (.int .i64 12))], none, 0⟩, ⟨none, .store 9 (.t 2) (.t 34), none, 0⟩] 0 false []) .ret) .skip))))) (.seq (.region [⟨some 35, .mv (.t 0), none, 0⟩,
  ⟨some 36, .mv (.t 3), none, 0⟩, ⟨some 37, .sliceS (.t 35) none (some (.t 36)), none, 0⟩, ⟨some 38, .call (.c (.fn 65 [])) [.t 37, .c (.int .i64 10)], none, 0⟩, ⟨some 39, .build [.int .u8 0, .int .i64
  0, .str [], .int .i64 0, .int .i64 0, .int .u8 0, .int .u8 0] [(0, 1, .c (.int .u8 9)), (3, 1, .t 38), (4, 1, .c (.int .i64 (-1)))], none, 0⟩, ⟨some 6, .alloc [.int .u8 0, .int .i64 0, .str [], .int
  .i64 0, .int .i64 0, .int .u8 0, .int .u8 0], none, 0⟩, ⟨none, .store 7 (.t 6) (.t 39), none, 1⟩] 1 false []) (.seq (.seq (.region [⟨some 40, .mv (.t 4), none, 0⟩, ⟨some 41, .not (.t 40), none, 0⟩] 0
  false []) (.cond (.t 41) (.seq (.region [⟨some 42, .off 3 (.t 6), none, 0⟩, ⟨some 43, .load none (.t 42), none, 0⟩, ⟨some 44, .off 4 (.t 6), none, 0⟩, ⟨none, .store 1 (.t 44) (.t 43), none, 0⟩] 0 false
  []) (.seq (.region [⟨some 45, .load (some 7) (.t 6), none, 0⟩, ⟨some 46, .mv (.t 3), none, 0⟩, ⟨some 47, .build [.int .u8 0, .int .i64 0, .str [], .int .i64 0, .int .i64 0, .int .u8 0, .int .u8 0, .int
  .i64 0, .int .i64 0] [(0, 7, .t 45), (7, 1, .t 46)], none, 0⟩, ⟨none, .store 9 (.t 2) (.t 47), none, 0⟩] 0 false []) .ret)) .skip)) (.seq (.seq (.region [⟨some 48, .mv (.t 5), none, 0⟩, ⟨some 49, .bin
  .gtr (.t 48) (.c (.int .i64 0)), none, 0⟩] 0 false []) (.cond (.t 49) (.region [⟨some 50, .mv (.t 0), none, 0⟩, ⟨some 51, .mv (.t 3), none, 0⟩, ⟨some 52, .bin .add (.t 51) (.c (.int .i64 1)), none, 0⟩,
  ⟨some 53, .mv (.t 3), none, 0⟩, ⟨some 54, .bin .add (.t 53) (.c (.int .i64 1)), none, 0⟩, ⟨some 55, .mv (.t 5), none, 0⟩, ⟨some 56, .bin .add (.t 54) (.t 55), none, 0⟩, ⟨some 57, .sliceS (.t 50) (some
  (.t 52)) (some (.t 56)), none, 0⟩, ⟨some 58, .call (.c (.fn 65 [])) [.t 57, .c (.int .i64 10)], none, 0⟩, ⟨some 59, .off 4 (.t 6), none, 0⟩, ⟨none, .store 1 (.t 59) (.t 58), none, 0⟩] 0 false [])
  .skip)) J44_0)))
def J44_1 := bJ44_1
theorem wJ44_1 : Wp O J44_1 Q σ h = Wp O bJ44_1 Q σ h := rfl
abbrev bB44 : AC :=
  .seq (.region [⟨some 2, .alloc [.int .u8 0, .int .i64 0, .str [], .int .i64 0, .int .i64 0, .int .u8 0, .int .u8 0, .int .i64 0, .int .i64 0], none, 0⟩] 1 false []) (.seq (.region [⟨some 7, .mv (.t 0),
  none, 0⟩, ⟨some 8, .call (.c (.fn 22 [])) [.t 7, .c (.fn 43 [])], none, 0⟩, ⟨some 3, .mv (.t 8), none, 0⟩] 0 false []) (.seq (.region [⟨some 9, .mv (.t 3), none, 0⟩, ⟨some 10, .mv (.t 0), none, 0⟩,
  ⟨some 11, .lenS (.t 10), none, 0⟩, ⟨some 12, .bin .lss (.t 9) (.t 11), none, 0⟩, ⟨some 13, .mv (.t 12), none, 0⟩, ⟨some 14, .mv (.t 0), some (13, true), 0⟩, ⟨some 15, .mv (.t 3), some (13, true), 0⟩,
  ⟨some 16, .indexS (.t 14) (.t 15), some (13, true), 0⟩, ⟨some 17, .bin .eql (.t 16) (.c (.int .u8 42)), some (13, true), 0⟩, ⟨some 18, .pick (.t 13) (.t 17) (.c (.bool false)), none, 0⟩, ⟨some 4, .mv
  (.t 18), none, 0⟩] 0 false []) (.seq (.region [⟨some 5, .mv (.c (.int .i64 0)), none, 0⟩] 0 false []) (.seq (.seq (.region [⟨some 19, .mv (.t 4), none, 0⟩] 0 false []) (.cond (.t 19) (.region [⟨some
  20, .mv (.t 0), none, 0⟩, ⟨some 21, .mv (.t 3), none, 0⟩, ⟨some 22, .bin .add (.t 21) (.c (.int .i64 1)), none, 0⟩, ⟨some 23, .sliceS (.t 20) (some (.t 22)) none, none, 0⟩, ⟨some 24, .call (.c (.fn 22
  [])) [.t 23, .c (.fn 43 [])], none, 0⟩, ⟨some 5, .mv (.t 24), none, 0⟩] 0 false []) .skip)) J44_1))))
def B44 := bB44
theorem wB44 : Wp O B44 Q σ h = Wp O bB44 Q σ h := rfl
def F44 : AF := ⟨B44, [.cell 2 (some 9)], false⟩
theorem tab44 : T 44 = some F44 := by kernel_rfl
/-- franking/lex.rows -/
abbrev bB19 : AC :=
  .seq (.region [⟨some 0, .mv (.c (.list 2 [] .full)), none, 0⟩] 0 false []) (.seq (.region [⟨some 1, .mv (.c (.fn 37 [])), none, 0⟩] 0 false []) (.seq (.region [⟨some 2, .build [.nilf, .nilf] [(0, 1, .c
  (.fn 24 [])), (1, 1, .c (.fn 39 []))], none, 0⟩, ⟨some 3, .mv (.t 1), none, 0⟩, ⟨some 4, .call (.t 3) [.c (.int .u8 61)], none, 0⟩, ⟨some 5, .build [.nilf, .nilf] [(0, 1, .t 4), (1, 1, .c (.fn 40
  []))], none, 0⟩, ⟨some 6, .mv (.t 1), none, 0⟩, ⟨some 7, .call (.t 6) [.c (.int .u8 47)], none, 0⟩, ⟨some 8, .call (.c (.fn 41 [])) [.c (.int .u8 4)], none, 0⟩, ⟨some 9, .build [.nilf, .nilf] [(0, 1,
  .t 7), (1, 1, .t 8)], none, 0⟩, ⟨some 10, .mv (.t 1), none, 0⟩, ⟨some 11, .call (.t 10) [.c (.int .u8 40)], none, 0⟩, ⟨some 12, .call (.c (.fn 41 [])) [.c (.int .u8 5)], none, 0⟩, ⟨some 13, .build
  [.nilf, .nilf] [(0, 1, .t 11), (1, 1, .t 12)], none, 0⟩, ⟨some 14, .mv (.t 1), none, 0⟩, ⟨some 15, .call (.t 14) [.c (.int .u8 41)], none, 0⟩, ⟨some 16, .call (.c (.fn 41 [])) [.c (.int .u8 6)], none,
  0⟩, ⟨some 17, .build [.nilf, .nilf] [(0, 1, .t 15), (1, 1, .t 16)], none, 0⟩, ⟨some 18, .mv (.t 1), none, 0⟩, ⟨some 19, .call (.t 18) [.c (.int .u8 91)], none, 0⟩, ⟨some 20, .call (.c (.fn 41 [])) [.c
  (.int .u8 7)], none, 0⟩, ⟨some 21, .build [.nilf, .nilf] [(0, 1, .t 19), (1, 1, .t 20)], none, 0⟩, ⟨some 22, .mv (.t 1), none, 0⟩, ⟨some 23, .call (.t 22) [.c (.int .u8 93)], none, 0⟩, ⟨some 24, .call
  (.c (.fn 41 [])) [.c (.int .u8 8)], none, 0⟩, ⟨some 25, .build [.nilf, .nilf] [(0, 1, .t 23), (1, 1, .t 24)], none, 0⟩, ⟨some 26, .build [.nilf, .nilf] [(0, 1, .c (.fn 42 [])), (1, 1, .c (.fn 44 []))],
  none, 0⟩, ⟨some 27, .mv (.t 1), none, 0⟩, ⟨some 28, .call (.t 27) [.c (.int .u8 34)], none, 0⟩, ⟨some 29, .build [.nilf, .nilf] [(0, 1, .t 28), (1, 1, .c (.fn 45 []))], none, 0⟩, ⟨some 30, .mv (.t 1),
  none, 0⟩, ⟨some 31, .call (.t 30) [.c (.int .u8 37)], none, 0⟩, ⟨some 32, .build [.nilf, .nilf] [(0, 1, .t 31), (1, 1, .c (.fn 46 []))], none, 0⟩, ⟨some 33, .mv (.t 1), none, 0⟩, ⟨some 34, .call (.t
  33) [.c (.int .u8 60)], none, 0⟩, ⟨some 35, .build [.nilf, .nilf] [(0, 1, .t 34), (1, 1, .c (.fn 47 []))], none, 0⟩, ⟨some 36, .build [.nilf, .nilf] [(0, 1, .c (.fn 48 [])), (1, 1, .c (.fn 49 []))],
  none, 0⟩, ⟨some 37, .bslice 2 [.t 2, .t 5, .t 9, .t 13, .t 17, .t 21, .t 25, .t 26, .t 29, .t 32, .t 35, .t 36], none, 0⟩, ⟨some 0, .mv (.t 37), none, 0⟩] 0 false []) .ret))
def B19 := bB19
theorem wB19 : Wp O B19 Q σ h = Wp O bB19 Q σ h := rfl
def F19 : AF := ⟨B19, [.tmp 0], true⟩
theorem tab19 : T 19 = some F19 := by kernel_rfl
/-- franking/lex.rows$1 -/
abbrev bB37 : AC :=
  .seq (.region [⟨some 1, .box 1 (.t 0), none, 0⟩, ⟨some 2, .mv (.c (.nilf)), none, 1⟩] 1 false []) (.seq (.region [⟨some 3, .mkfn 38 [.t 1], none, 0⟩, ⟨some 2, .mv (.t 3), none, 0⟩] 0 false []) .ret)
def B37 := bB37
theorem wB37 : Wp O B37 Q σ h = Wp O bB37 Q σ h := rfl
def F37 : AF := ⟨B37, [.tmp 2], true⟩
theorem tab37 : T 37 = some F37 := by kernel_rfl
/-- franking/lex.rows$1$1 -/
abbrev bB38 : AC :=
  .seq (.region [⟨some 3, .mv (.c (.bool false)), none, 0⟩] 0 false []) (.seq (.region [⟨some 4, .load none (.t 1), none, 0⟩, ⟨some 5, .mv (.t 0), none, 0⟩, ⟨some 6, .bin .eql (.t 4) (.t 5), none, 0⟩,
  ⟨some 3, .mv (.t 6), none, 0⟩] 0 false []) .ret)
def B38 := bB38
theorem wB38 : Wp O B38 Q σ h = Wp O bB38 Q σ h := rfl
def F38 : AF := ⟨B38, [.tmp 3], false⟩
theorem tab38 : T 38 = some F38 := by kernel_rfl
/-- franking/lex.name -/
abbrev bB39 : AC :=
  .seq (.region [⟨some 2, .alloc [.int .u8 0, .int .i64 0, .str [], .int .i64 0, .int .i64 0, .int .u8 0, .int .u8 0, .int .i64 0, .int .i64 0], none, 0⟩] 1 false []) (.seq (.region [⟨some 4, .mv (.t 0),
  none, 0⟩, ⟨some 5, .call (.c (.fn 22 [])) [.t 4, .c (.fn 62 [])], none, 0⟩, ⟨some 3, .mv (.t 5), none, 0⟩] 0 false []) (.seq (.region [⟨some 6, .mv (.t 0), none, 0⟩, ⟨some 7, .mv (.t 3), none, 0⟩,
  ⟨some 8, .sliceS (.t 6) none (some (.t 7)), none, 0⟩, ⟨some 9, .build [.int .u8 0, .int .i64 0, .str [], .int .i64 0, .int .i64 0, .int .u8 0, .int .u8 0] [(0, 1, .c (.int .u8 1)), (2, 1, .t 8)], none,
  0⟩, ⟨some 10, .mv (.t 3), none, 0⟩, ⟨some 11, .build [.int .u8 0, .int .i64 0, .str [], .int .i64 0, .int .i64 0, .int .u8 0, .int .u8 0, .int .i64 0, .int .i64 0] [(0, 7, .t 9), (7, 1, .t 10)], none,
  0⟩, ⟨none, .store 9 (.t 2) (.t 11), none, 0⟩] 0 false []) .ret))
def B39 := bB39
theorem wB39 : Wp O B39 Q σ h = Wp O bB39 Q σ h := rfl
def F39 : AF := ⟨B39, [.cell 2 (some 9)], false⟩
theorem tab39 : T 39 = some F39 := by kernel_rfl
/-- franking/lex.name$1 -/
abbrev bB62 : AC :=
  .seq (.region [⟨some 2, .mv (.c (.bool false)), none, 0⟩] 0 false []) (.seq (.region [⟨some 3, .mv (.t 0), none, 0⟩, ⟨some 4, .call (.c (.fn 24 [])) [.t 3], none, 0⟩, ⟨some 5, .mv (.t 4), none, 0⟩,
  ⟨some 6, .mv (.t 0), some (5, false), 0⟩, ⟨some 7, .call (.c (.fn 43 [])) [.t 6], some (5, false), 0⟩, ⟨some 8, .pick (.t 5) (.c (.bool true)) (.t 7), none, 0⟩, ⟨some 9, .mv (.t 8), none, 0⟩, ⟨some 10,
  .mv (.t 0), some (9, false), 0⟩, ⟨some 11, .bin .eql (.t 10) (.c (.int .u8 45)), some (9, false), 0⟩, ⟨some 12, .pick (.t 9) (.c (.bool true)) (.t 11), none, 0⟩, ⟨some 2, .mv (.t 12), none, 0⟩] 0 false
  []) .ret)
def B62 := bB62
theorem wB62 : Wp O B62 Q σ h = Wp O bB62 Q σ h := rfl
def F62 : AF := ⟨B62, [.tmp 2], false⟩
theorem tab62 : T 62 = some F62 := by kernel_rfl
/-- franking/lex.is -/
abbrev bB40 : AC :=
  .seq (.region [⟨some 2, .alloc [.int .u8 0, .int .i64 0, .str [], .int .i64 0, .int .i64 0, .int .u8 0, .int .u8 0, .int .i64 0, .int .i64 0], none, 0⟩] 1 false []) (.seq (.seq (.region [⟨some 3, .mv
  (.t 0), none, 0⟩, ⟨some 4, .call (.c (.fn 63 [])) [.t 3, .c (.str [61, 47])], none, 0⟩] 0 false []) (.cond (.t 4) (.seq (.region [⟨some 5, .build [.int .u8 0, .int .i64 0, .str [], .int .i64 0, .int
  .i64 0, .int .u8 0, .int .u8 0] [(0, 1, .c (.int .u8 3))], none, 0⟩, ⟨some 6, .build [.int .u8 0, .int .i64 0, .str [], .int .i64 0, .int .i64 0, .int .u8 0, .int .u8 0, .int .i64 0, .int .i64 0] [(0,
  7, .t 5), (7, 1, .c (.int .i64 2))], none, 0⟩, ⟨none, .store 9 (.t 2) (.t 6), none, 0⟩] 0 false []) .ret) .skip)) (.seq (.region [⟨some 7, .build [.int .u8 0, .int .i64 0, .str [], .int .i64 0, .int
  .i64 0, .int .u8 0, .int .u8 0] [(0, 1, .c (.int .u8 2))], none, 0⟩, ⟨some 8, .build [.int .u8 0, .int .i64 0, .str [], .int .i64 0, .int .i64 0, .int .u8 0, .int .u8 0, .int .i64 0, .int .i64 0] [(0,
  7, .t 7), (7, 1, .c (.int .i64 1))], none, 0⟩, ⟨none, .store 9 (.t 2) (.t 8), none, 0⟩] 0 false []) .ret))
def B40 := bB40
theorem wB40 : Wp O B40 Q σ h = Wp O bB40 Q σ h := rfl
def F40 : AF := ⟨B40, [.cell 2 (some 9)], false⟩
theorem tab40 : T 40 = some F40 := by kernel_rfl
/-- franking/lex.sign -/
abbrev bB41 : AC :=
  .seq (.region [⟨some 1, .box 1 (.t 0), none, 0⟩, ⟨some 2, .mv (.c (.nilf)), none, 1⟩] 1 false []) (.seq (.region [⟨some 3, .mkfn 64 [.t 1], none, 0⟩, ⟨some 2, .mv (.t 3), none, 0⟩] 0 false []) .ret)
def B41 := bB41
theorem wB41 : Wp O B41 Q σ h = Wp O bB41 Q σ h := rfl
def F41 : AF := ⟨B41, [.tmp 2], true⟩
theorem tab41 : T 41 = some F41 := by kernel_rfl
/-- franking/lex.sign$1 -/
abbrev bB64 : AC :=
  .seq (.region [⟨some 3, .alloc [.int .u8 0, .int .i64 0, .str [], .int .i64 0, .int .i64 0, .int .u8 0, .int .u8 0, .int .i64 0, .int .i64 0], none, 0⟩] 1 false []) (.seq (.region [⟨some 4, .load none
  (.t 1), none, 0⟩, ⟨some 5, .build [.int .u8 0, .int .i64 0, .str [], .int .i64 0, .int .i64 0, .int .u8 0, .int .u8 0] [(0, 1, .t 4)], none, 0⟩, ⟨some 6, .build [.int .u8 0, .int .i64 0, .str [], .int
  .i64 0, .int .i64 0, .int .u8 0, .int .u8 0, .int .i64 0, .int .i64 0] [(0, 7, .t 5), (7, 1, .c (.int .i64 1))], none, 0⟩, ⟨none, .store 9 (.t 3) (.t 6), none, 0⟩] 0 false []) .ret)
def B64 := bB64
theorem wB64 : Wp O B64 Q σ h = Wp O bB64 Q σ h := rfl
def F64 : AF := ⟨B64, [.cell 3 (some 9)], false⟩
theorem tab64 : T 64 = some F64 := by kernel_rfl
/-- franking/lex.rows$2 -/
abbrev bB42 : AC :=
  .seq (.region [⟨some 2, .mv (.c (.bool false)), none, 0⟩] 0 false []) (.seq (.region [⟨some 3, .mv (.t 0), none, 0⟩, ⟨some 4, .call (.c (.fn 43 [])) [.t 3], none, 0⟩, ⟨some 5, .mv (.t 4), none, 0⟩,
  ⟨some 6, .mv (.t 0), some (5, false), 0⟩, ⟨some 7, .bin .eql (.t 6) (.c (.int .u8 42)), some (5, false), 0⟩, ⟨some 8, .pick (.t 5) (.c (.bool true)) (.t 7), none, 0⟩, ⟨some 2, .mv (.t 8), none, 0⟩] 0
  false []) .ret)
def B42 := bB42
theorem wB42 : Wp O B42 Q σ h = Wp O bB42 Q σ h := rfl
def F42 : AF := ⟨B42, [.tmp 2], false⟩
theorem tab42 : T 42 = some F42 := by kernel_rfl
/-- franking/lex.digit -/
abbrev bB43 : AC :=
  .seq (.region [⟨some 2, .mv (.c (.bool false)), none, 0⟩] 0 false []) (.seq (.region [⟨some 3, .mv (.t 0), none, 0⟩, ⟨some 4, .bin .geq (.t 3) (.c (.int .u8 48)), none, 0⟩, ⟨some 5, .mv (.t 4), none,
  0⟩, ⟨some 6, .mv (.t 0), some (5, true), 0⟩, ⟨some 7, .bin .leq (.t 6) (.c (.int .u8 57)), some (5, true), 0⟩, ⟨some 8, .pick (.t 5) (.t 7) (.c (.bool false)), none, 0⟩, ⟨some 2, .mv (.t 8), none, 0⟩]
  0 false []) .ret)
def B43 := bB43
theorem wB43 : Wp O B43 Q σ h = Wp O bB43 Q σ h := rfl
def F43 : AF := ⟨B43, [.tmp 2], false⟩
theorem tab43 : T 43 = some F43 := by kernel_rfl
/-- franking/lex.chars -/
abbrev bL45_0 : AC :=
  .seq (.region [⟨some 17, .next (.t 16), none, 0⟩, ⟨some 18, .ext (.t 17) 0, none, 0⟩] 0 false []) (.seq (.cond (.t 18) .skip (.exit 0)) (.block 1 (.seq (.region [⟨some 19, .ext (.t 17) 2, none, 0⟩,
  ⟨some 7, .mv (.t 19), none, 0⟩] 0 false []) (.region [⟨some 20, .mv (.t 5), none, 0⟩, ⟨some 21, .mv (.t 20), none, 0⟩, ⟨some 22, .mv (.t 7), some (21, true), 0⟩, ⟨some 23, .bin .geq (.t 22) (.c (.int
  .i32 32)), some (21, true), 0⟩, ⟨some 24, .pick (.t 21) (.t 23) (.c (.bool false)), none, 0⟩, ⟨some 25, .mv (.t 24), none, 0⟩, ⟨some 26, .mv (.t 7), some (25, true), 0⟩, ⟨some 27, .bin .leq (.t 26) (.c
  (.int .i32 126)), some (25, true), 0⟩, ⟨some 28, .pick (.t 25) (.t 27) (.c (.bool false)), none, 0⟩, ⟨some 5, .mv (.t 28), none, 0⟩] 0 false []))))
def L45_0 := bL45_0
theorem wL45_0 : Wp O L45_0 Q σ h = Wp O bL45_0 Q σ h := rfl
abbrev bK45_0 : AC :=
  .seq (.seq (.region [⟨some 29, .mv (.t 5), none, 0⟩, ⟨some 30, .not (.t 29), none, 0⟩] 0 false []) (.cond (.t 30) (.seq (.region [⟨some 31, .build [.int .u8 0, .int .i64 0, .str [], .int .i64 0, .int
  .i64 0, .int .u8 0, .int .u8 0, .int .i64 0, .int .i64 0] [(8, 1, .c (.int .i64 14))], none, 0⟩, ⟨none, .store 9 (.t 2) (.t 31), none, 0⟩] 0 false []) .ret) .skip)) (.seq (.region [⟨some 32, .mv (.t
  3), none, 0⟩, ⟨some 33, .build [.int .u8 0, .int .i64 0, .str [], .int .i64 0, .int .i64 0, .int .u8 0, .int .u8 0] [(0, 1, .c (.int .u8 10)), (2, 1, .t 32)], none, 0⟩, ⟨some 34, .mv (.t 3), none, 0⟩,
  ⟨some 35, .lenS (.t 34), none, 0⟩, ⟨some 36, .bin .add (.t 35) (.c (.int .i64 2)), none, 0⟩, ⟨some 37, .build [.int .u8 0, .int .i64 0, .str [], .int .i64 0, .int .i64 0, .int .u8 0, .int .u8 0, .int
  .i64 0, .int .i64 0] [(0, 7, .t 33), (7, 1, .t 36)], none, 0⟩, ⟨none, .store 9 (.t 2) (.t 37), none, 0⟩] 0 false []) .ret)
def K45_0 := bK45_0
theorem wK45_0 : Wp O K45_0 Q σ h = Wp O bK45_0 Q σ h := rfl
abbrev bB45 : AC :=
  .seq (.region [⟨some 2, .alloc [.int .u8 0, .int .i64 0, .str [], .int .i64 0, .int .i64 0, .int .u8 0, .int .u8 0, .int .i64 0, .int .i64 0], none, 0⟩] 1 false []) (.seq (.region [⟨some 9, .mv (.t 0),
  none, 0⟩, ⟨some 10, .sliceS (.t 9) (some (.c (.int .i64 1))) none, none, 0⟩, ⟨some 11, .call (.c (.fn 20 [])) [.t 10, .c (.str [34])], none, 0⟩, ⟨some 8, .mv (.t 11), none, 0⟩, ⟨some 12, .ext (.t 8) 0,
  none, 0⟩, ⟨some 13, .ext (.t 8) 1, none, 0⟩, ⟨some 14, .ext (.t 8) 2, none, 0⟩, ⟨some 3, .mv (.t 12), none, 0⟩, ⟨some 4, .mv (.t 13), none, 0⟩, ⟨some 5, .mv (.t 14), none, 0⟩] 0 false []) (.seq (.seq
  (.region [⟨some 15, .mv (.t 3), none, 0⟩, ⟨some 16, .rangeS (.t 15), none, 0⟩] 1 false []) (.block 0 (.loop L45_0))) K45_0))
def B45 := bB45
theorem wB45 : Wp O B45 Q σ h = Wp O bB45 Q σ h := rfl
def F45 : AF := ⟨B45, [.cell 2 (some 9)], false⟩
theorem tab45 : T 45 = some F45 := by kernel_rfl
/-- franking/lex.value -/
abbrev bL46_0 : AC :=
  .seq (.seq (.region [⟨some 59, .load none (.t 4), none, 0⟩, ⟨some 60, .load none (.t 1), none, 0⟩, ⟨some 61, .lenS (.t 60), none, 0⟩, ⟨some 62, .bin .lss (.t 59) (.t 61), none, 0⟩, ⟨some 63, .mv (.t
  62), none, 0⟩, ⟨some 64, .load none (.t 1), some (63, true), 0⟩, ⟨some 65, .load none (.t 4), some (63, true), 0⟩, ⟨some 66, .indexS (.t 64) (.t 65), some (63, true), 0⟩, ⟨some 67, .bin .eql (.t 66)
  (.c (.int .u8 46)), some (63, true), 0⟩, ⟨some 68, .pick (.t 63) (.t 67) (.c (.bool false)), none, 0⟩] 0 false []) (.cond (.t 68) .skip (.exit 0))) (.block 1 (.seq (.region [⟨some 69, .load none (.t
  4), none, 0⟩, ⟨some 70, .bin .add (.t 69) (.c (.int .i64 1)), none, 0⟩, ⟨none, .store 1 (.t 4) (.t 70), none, 0⟩] 0 false []) (.seq (.region [⟨some 72, .mv (.t 5), none, 0⟩, ⟨some 73, .call (.t 72) [],
  none, 0⟩, ⟨some 71, .mv (.t 73), none, 0⟩, ⟨some 74, .ext (.t 71) 0, none, 0⟩, ⟨some 75, .ext (.t 71) 1, none, 0⟩, ⟨some 12, .mv (.t 74), none, 0⟩, ⟨some 13, .mv (.t 75), none, 0⟩] 0 false []) (.seq
  (.seq (.region [⟨some 76, .mv (.t 13), none, 0⟩, ⟨some 77, .not (.t 76), none, 0⟩] 0 false []) (.cond (.t 77) (.seq (.region [⟨some 78, .load (some 9) (.t 6), none, 0⟩, ⟨none, .store 9 (.t 2) (.t 78),
  none, 0⟩] 0 false []) .ret) .skip)) (.region [⟨some 79, .mv (.t 11), none, 0⟩, ⟨some 80, .mv (.t 12), none, 0⟩, ⟨some 81, .bslice 1 [.t 80], none, 0⟩, ⟨some 82, .append 1 1 5 (.t 79) (.t 81), none, 0⟩,
  ⟨some 11, .mv (.t 82), none, 1⟩] 1 false [])))))
def L46_0 := bL46_0
theorem wL46_0 : Wp O L46_0 Q σ h = Wp O bL46_0 Q σ h := rfl
abbrev bK46_0 : AC :=
  .seq (.region [⟨some 83, .mv (.t 11), none, 0⟩, ⟨some 84, .cvBytesStr (.t 83), none, 0⟩, ⟨some 85, .build [.int .u8 0, .int .i64 0, .str [], .int .i64 0, .int .i64 0, .int .u8 0, .int .u8 0] [(0, 1, .c
  (.int .u8 11)), (2, 1, .t 84)], none, 0⟩, ⟨some 86, .load none (.t 4), none, 0⟩, ⟨some 87, .build [.int .u8 0, .int .i64 0, .str [], .int .i64 0, .int .i64 0, .int .u8 0, .int .u8 0, .int .i64 0, .int
  .i64 0] [(0, 7, .t 85), (7, 1, .t 86)], none, 0⟩, ⟨none, .store 9 (.t 2) (.t 87), none, 0⟩] 0 false []) .ret
def K46_0 := bK46_0
theorem wK46_0 : Wp O K46_0 Q σ h = Wp O bK46_0 Q σ h := rfl
abbrev bB46 : AC :=
  .seq (.region [⟨some 1, .box 1 (.t 0), none, 0⟩, ⟨some 2, .alloc [.int .u8 0, .int .i64 0, .str [], .int .i64 0, .int .i64 0, .int .u8 0, .int .u8 0, .int .i64 0, .int .i64 0], none, 1⟩] 2 false [])
  (.seq (.region [⟨some 14, .load none (.t 1), none, 0⟩, ⟨some 15, .sliceS (.t 14) (some (.c (.int .i64 1))) none, none, 0⟩, ⟨some 16, .call (.c (.fn 66 [])) [.t 15], none, 0⟩, ⟨some 3, .alloc [.int .i64
  0], none, 0⟩, ⟨some 4, .alloc [.int .i64 0], none, 1⟩, ⟨none, .store 1 (.t 3) (.t 16), none, 2⟩, ⟨none, .store 1 (.t 4) (.c (.int .i64 2)), none, 2⟩] 2 false []) (.seq (.region [⟨some 17, .mkfn 67 [.t
  1, .t 4, .t 3], none, 0⟩, ⟨some 5, .mv (.t 17), none, 0⟩] 0 false []) (.seq (.region [⟨some 18, .build [.int .u8 0, .int .i64 0, .str [], .int .i64 0, .int .i64 0, .int .u8 0, .int .u8 0, .int .i64 0,
  .int .i64 0] [(8, 1, .c (.int .i64 15))], none, 0⟩, ⟨some 6, .alloc [.int .u8 0, .int .i64 0, .str [], .int .i64 0, .int .i64 0, .int .u8 0, .int .u8 0, .int .i64 0, .int .i64 0], none, 0⟩, ⟨none,
  .store 9 (.t 6) (.t 18), none, 1⟩] 1 false []) (.seq (.region [⟨some 20, .mv (.t 5), none, 0⟩, ⟨some 21, .call (.t 20) [], none, 0⟩, ⟨some 19, .mv (.t 21), none, 0⟩, ⟨some 22, .ext (.t 19) 0, none, 0⟩,
  ⟨some 23, .ext (.t 19) 1, none, 0⟩, ⟨some 7, .mv (.t 22), none, 0⟩, ⟨some 8, .mv (.t 23), none, 0⟩] 0 false []) (.seq (.seq (.region [⟨some 24, .mv (.t 8), none, 0⟩, ⟨some 25, .not (.t 24), none, 0⟩] 0
  false []) (.cond (.t 25) (.seq (.region [⟨some 26, .load (some 9) (.t 6), none, 0⟩, ⟨none, .store 9 (.t 2) (.t 26), none, 0⟩] 0 false []) .ret) .skip)) (.seq (.seq (.region [⟨some 27, .load none (.t
  4), none, 0⟩, ⟨some 28, .load none (.t 1), none, 0⟩, ⟨some 29, .lenS (.t 28), none, 0⟩, ⟨some 30, .bin .lss (.t 27) (.t 29), none, 0⟩, ⟨some 31, .mv (.t 30), none, 0⟩, ⟨some 32, .load none (.t 1), some
  (31, true), 0⟩, ⟨some 33, .load none (.t 4), some (31, true), 0⟩, ⟨some 34, .indexS (.t 32) (.t 33), some (31, true), 0⟩, ⟨some 35, .bin .eql (.t 34) (.c (.int .u8 45)), some (31, true), 0⟩, ⟨some 36,
  .pick (.t 31) (.t 35) (.c (.bool false)), none, 0⟩] 0 false []) (.cond (.t 36) (.seq (.region [⟨some 37, .load none (.t 4), none, 0⟩, ⟨some 38, .bin .add (.t 37) (.c (.int .i64 1)), none, 0⟩, ⟨none,
  .store 1 (.t 4) (.t 38), none, 0⟩] 0 false []) (.seq (.region [⟨some 40, .mv (.t 5), none, 0⟩, ⟨some 41, .call (.t 40) [], none, 0⟩, ⟨some 39, .mv (.t 41), none, 0⟩, ⟨some 42, .ext (.t 39) 0, none, 0⟩,
  ⟨some 43, .ext (.t 39) 1, none, 0⟩, ⟨some 9, .mv (.t 42), none, 0⟩, ⟨some 10, .mv (.t 43), none, 0⟩] 0 false []) (.seq (.seq (.region [⟨some 44, .mv (.t 10), none, 0⟩, ⟨some 45, .not (.t 44), none, 0⟩,
  ⟨some 46, .mv (.t 45), none, 0⟩, ⟨some 47, .mv (.t 7), some (46, false), 0⟩, ⟨some 48, .mv (.t 9), some (46, false), 0⟩, ⟨some 49, .bin .gtr (.t 47) (.t 48), some (46, false), 0⟩, ⟨some 50, .pick (.t
  46) (.c (.bool true)) (.t 49), none, 0⟩] 0 false []) (.cond (.t 50) (.seq (.region [⟨some 51, .load (some 9) (.t 6), none, 0⟩, ⟨none, .store 9 (.t 2) (.t 51), none, 0⟩] 0 false []) .ret) .skip)) (.seq
  (.region [⟨some 52, .mv (.t 7), none, 0⟩, ⟨some 53, .mv (.t 9), none, 0⟩, ⟨some 54, .build [.int .u8 0, .int .i64 0, .str [], .int .i64 0, .int .i64 0, .int .u8 0, .int .u8 0] [(0, 1, .c (.int .u8
  12)), (5, 1, .t 52), (6, 1, .t 53)], none, 0⟩, ⟨some 55, .load none (.t 4), none, 0⟩, ⟨some 56, .build [.int .u8 0, .int .i64 0, .str [], .int .i64 0, .int .i64 0, .int .u8 0, .int .u8 0, .int .i64 0,
  .int .i64 0] [(0, 7, .t 54), (7, 1, .t 55)], none, 0⟩, ⟨none, .store 9 (.t 2) (.t 56), none, 0⟩] 0 false []) .ret)))) .skip)) (.seq (.region [⟨some 57, .mv (.t 7), none, 0⟩, ⟨some 58, .bslice 1 [.t
  57], none, 0⟩, ⟨some 11, .mv (.t 58), none, 0⟩] 0 false []) (.seq (.block 0 (.loop L46_0)) K46_0))))))))
def B46 := bB46
theorem wB46 : Wp O B46 Q σ h = Wp O bB46 Q σ h := rfl
def F46 : AF := ⟨B46, [.cell 2 (some 9)], false⟩
theorem tab46 : T 46 = some F46 := by kernel_rfl
/-- franking/lex.value$1 -/
abbrev bB67 : AC :=
  .seq (.region [⟨some 3, .mv (.c (.int .u8 0)), none, 0⟩, ⟨some 4, .mv (.c (.bool false)), none, 0⟩] 0 false []) (.seq (.region [⟨some 7, .load none (.t 0), none, 0⟩, ⟨some 8, .load none (.t 1), none,
  0⟩, ⟨some 9, .load none (.t 0), none, 0⟩, ⟨some 10, .lenS (.t 9), none, 0⟩, ⟨some 11, .min (.t 8) (.t 10), none, 0⟩, ⟨some 12, .sliceS (.t 7) (some (.t 11)) none, none, 0⟩, ⟨some 13, .mkfn 68 [.t 2],
  none, 0⟩, ⟨some 14, .call (.c (.fn 22 [])) [.t 12, .t 13], none, 0⟩, ⟨some 5, .mv (.t 14), none, 0⟩] 0 false []) (.seq (.seq (.region [⟨some 15, .mv (.t 5), none, 0⟩, ⟨some 16, .bin .eql (.t 15) (.c
  (.int .i64 0)), none, 0⟩, ⟨some 17, .mv (.t 16), none, 0⟩, ⟨some 18, .mv (.t 5), some (17, false), 0⟩, ⟨some 19, .bin .gtr (.t 18) (.c (.int .i64 8)), some (17, false), 0⟩, ⟨some 20, .pick (.t 17) (.c
  (.bool true)) (.t 19), none, 0⟩] 0 false []) (.cond (.t 20) (.seq (.region [⟨some 3, .mv (.c (.int .u8 0)), none, 0⟩, ⟨some 4, .mv (.c (.bool false)), none, 0⟩] 0 false []) .ret) .skip)) (.seq (.region
  [⟨some 21, .load none (.t 0), none, 0⟩, ⟨some 22, .load none (.t 1), none, 0⟩, ⟨some 23, .load none (.t 1), none, 0⟩, ⟨some 24, .mv (.t 5), none, 0⟩, ⟨some 25, .bin .add (.t 23) (.t 24), none, 0⟩,
  ⟨some 26, .sliceS (.t 21) (some (.t 22)) (some (.t 25)), none, 0⟩, ⟨some 27, .load none (.t 2), none, 0⟩, ⟨some 28, .call (.c (.fn 65 [])) [.t 26, .t 27], none, 0⟩, ⟨some 6, .mv (.t 28), none, 0⟩] 0
  true []) (.seq (.region [⟨some 29, .load none (.t 1), none, 0⟩, ⟨some 30, .mv (.t 5), none, 0⟩, ⟨some 31, .bin .add (.t 29) (.t 30), none, 0⟩, ⟨none, .store 1 (.t 1) (.t 31), none, 0⟩] 0 false [])
  (.seq (.region [⟨some 32, .mv (.t 6), none, 0⟩, ⟨some 33, .cvInt .u8 (.t 32), none, 0⟩, ⟨some 34, .mv (.t 6), none, 0⟩, ⟨some 35, .bin .leq (.t 34) (.c (.int .i64 255)), none, 0⟩, ⟨some 3, .mv (.t 33),
  none, 0⟩, ⟨some 4, .mv (.t 35), none, 0⟩] 0 false []) .ret)))))
def B67 := bB67
theorem wB67 : Wp O B67 Q σ h = Wp O bB67 Q σ h := rfl
def F67 : AF := ⟨B67, [.tmp 3, .tmp 4], true⟩
theorem tab67 : T 67 = some F67 := by kernel_rfl
/-- franking/lex.value$1$1 -/
abbrev bB68 : AC :=
  .seq (.region [⟨some 3, .mv (.c (.bool false)), none, 0⟩] 0 false []) (.seq (.region [⟨some 4, .mv (.t 0), none, 0⟩, ⟨some 5, .call (.c (.fn 69 [])) [.t 4], none, 0⟩, ⟨some 6, .load none (.t 1), none,
  0⟩, ⟨some 7, .bin .lss (.t 5) (.t 6), none, 0⟩, ⟨some 3, .mv (.t 7), none, 0⟩] 0 true [(1, 2)]) .ret)
def B68 := bB68
theorem wB68 : Wp O B68 Q σ h = Wp O bB68 Q σ h := rfl
def F68 : AF := ⟨B68, [.tmp 3], false⟩
theorem tab68 : T 68 = some F68 := by kernel_rfl
/-- franking/lex.rows$3 -/
abbrev bB47 : AC :=
  .seq (.region [⟨some 2, .alloc [.int .u8 0, .int .i64 0, .str [], .int .i64 0, .int .i64 0, .int .u8 0, .int .u8 0, .int .i64 0, .int .i64 0], none, 0⟩] 1 false []) (.seq (.region [⟨some 3, .build
  [.int .u8 0, .int .i64 0, .str [], .int .i64 0, .int .i64 0, .int .u8 0, .int .u8 0, .int .i64 0, .int .i64 0] [(8, 1, .c (.int .i64 16))], none, 0⟩, ⟨none, .store 9 (.t 2) (.t 3), none, 0⟩] 0 false
  []) .ret)
def B47 := bB47
theorem wB47 : Wp O B47 Q σ h = Wp O bB47 Q σ h := rfl
def F47 : AF := ⟨B47, [.cell 2 (some 9)], false⟩
theorem tab47 : T 47 = some F47 := by kernel_rfl
/-- franking/lex.rows$4 -/
abbrev bB48 : AC :=
  .seq (.region [⟨some 2, .mv (.c (.bool false)), none, 0⟩] 0 false []) (.seq (.region [⟨some 2, .mv (.c (.bool true)), none, 0⟩] 0 false []) .ret)
def B48 := bB48
theorem wB48 : Wp O B48 Q σ h = Wp O bB48 Q σ h := rfl
def F48 : AF := ⟨B48, [.tmp 2], false⟩
theorem tab48 : T 48 = some F48 := by kernel_rfl
/-- franking/lex.rows$5 -/
abbrev bB49 : AC :=
  .seq (.region [⟨some 2, .alloc [.int .u8 0, .int .i64 0, .str [], .int .i64 0, .int .i64 0, .int .u8 0, .int .u8 0, .int .i64 0, .int .i64 0], none, 0⟩] 1 false []) (.seq (.region [⟨some 3, .build
  [.int .u8 0, .int .i64 0, .str [], .int .i64 0, .int .i64 0, .int .u8 0, .int .u8 0, .int .i64 0, .int .i64 0] [(8, 1, .c (.int .i64 11))], none, 0⟩, ⟨none, .store 9 (.t 2) (.t 3), none, 0⟩] 0 false
  []) .ret)
def B49 := bB49
theorem wB49 : Wp O B49 Q σ h = Wp O bB49 Q σ h := rfl
def F49 : AF := ⟨B49, [.cell 2 (some 9)], false⟩
theorem tab49 : T 49 = some F49 := by kernel_rfl
/-- franking/lex.run -/
abbrev bL22_0 : AC :=
  .seq (.seq (.region [⟨some 6, .mv (.t 5), none, 0⟩, ⟨some 7, .mv (.t 0), none, 0⟩, ⟨some 8, .lenS (.t 7), none, 0⟩, ⟨some 9, .bin .lss (.t 6) (.t 8), none, 0⟩, ⟨some 10, .mv (.t 9), none, 0⟩, ⟨some 11,
  .mv (.t 1), some (10, true), 0⟩, ⟨some 12, .mv (.t 0), some (10, true), 0⟩, ⟨some 13, .mv (.t 5), some (10, true), 0⟩, ⟨some 14, .indexS (.t 12) (.t 13), some (10, true), 0⟩, ⟨some 15, .call (.t 11)
  [.t 14], some (10, true), 0⟩, ⟨some 16, .pick (.t 10) (.t 15) (.c (.bool false)), none, 0⟩] 0 false []) (.cond (.t 16) .skip (.exit 0))) (.block 1 (.region [⟨some 17, .mv (.t 5), none, 0⟩, ⟨some 18,
  .bin .add (.t 17) (.c (.int .i64 1)), none, 0⟩, ⟨some 5, .mv (.t 18), none, 0⟩] 0 false []))
def L22_0 := bL22_0
theorem wL22_0 : Wp O L22_0 Q σ h = Wp O bL22_0 Q σ h := rfl
abbrev bK22_0 : AC :=
  .seq (.region [⟨some 19, .mv (.t 5), none, 0⟩, ⟨some 4, .mv (.t 19), none, 0⟩] 0 false []) .ret
def K22_0 := bK22_0
theorem wK22_0 : Wp O K22_0 Q σ h = Wp O bK22_0 Q σ h := rfl
abbrev bB22 : AC :=
  .seq (.region [⟨some 4, .mv (.c (.int .i64 0)), none, 0⟩] 0 false []) (.seq (.region [⟨some 5, .mv (.c (.int .i64 0)), none, 0⟩] 0 false []) (.seq (.block 0 (.loop L22_0)) K22_0))
def B22 := bB22
theorem wB22 : Wp O B22 Q σ h = Wp O bB22 Q σ h := rfl
def F22 : AF := ⟨B22, [.tmp 4], false⟩
theorem tab22 : T 22 = some F22 := by kernel_rfl
/-- franking/lex.blank -/
abbrev bB23 : AC :=
  .seq (.region [⟨some 2, .mv (.c (.bool false)), none, 0⟩] 0 false []) (.seq (.region [⟨some 3, .mv (.t 0), none, 0⟩, ⟨some 4, .bin .eql (.t 3) (.c (.int .u8 32)), none, 0⟩, ⟨some 5, .mv (.t 4), none,
  0⟩, ⟨some 6, .mv (.t 0), some (5, false), 0⟩, ⟨some 7, .bin .eql (.t 6) (.c (.int .u8 9)), some (5, false), 0⟩, ⟨some 8, .pick (.t 5) (.c (.bool true)) (.t 7), none, 0⟩, ⟨some 2, .mv (.t 8), none, 0⟩]
  0 false []) .ret)
def B23 := bB23
theorem wB23 : Wp O B23 Q σ h = Wp O bB23 Q σ h := rfl
def F23 : AF := ⟨B23, [.tmp 2], false⟩
theorem tab23 : T 23 = some F23 := by kernel_rfl
/-- franking/lex.letter -/
abbrev bB24 : AC :=
  .seq (.region [⟨some 2, .mv (.c (.bool false)), none, 0⟩] 0 false []) (.seq (.region [⟨some 3, .mv (.t 0), none, 0⟩, ⟨some 4, .bin .or (.t 3) (.c (.int .u8 32)), none, 0⟩, ⟨some 5, .bin .geq (.t 4) (.c
  (.int .u8 97)), none, 0⟩, ⟨some 6, .mv (.t 5), none, 0⟩, ⟨some 7, .mv (.t 0), some (6, true), 0⟩, ⟨some 8, .bin .or (.t 7) (.c (.int .u8 32)), some (6, true), 0⟩, ⟨some 9, .bin .leq (.t 8) (.c (.int
  .u8 122)), some (6, true), 0⟩, ⟨some 10, .pick (.t 6) (.t 9) (.c (.bool false)), none, 0⟩, ⟨some 2, .mv (.t 10), none, 0⟩] 0 false []) .ret)
def B24 := bB24
theorem wB24 : Wp O B24 Q σ h = Wp O bB24 Q σ h := rfl
def F24 : AF := ⟨B24, [.tmp 2], false⟩
theorem tab24 : T 24 = some F24 := by kernel_rfl
/-- franking/lex.line -/
abbrev bL25_0 : AC :=
  .seq (.region [⟨some 33, .bin .lss (.t 32) (.t 31), none, 0⟩] 0 false []) (.seq (.cond (.t 33) .skip (.exit 2)) (.seq (.block 3 (.seq (.region [⟨some 34, .idx 2 (.t 30) (.t 32), none, 0⟩, ⟨some 35,
  .load (some 2) (.t 34), none, 0⟩, ⟨some 12, .alloc [.nilf, .nilf], none, 0⟩, ⟨none, .store 2 (.t 12) (.t 35), none, 1⟩] 1 false []) (.seq (.seq (.region [⟨some 36, .off 0 (.t 12), none, 0⟩, ⟨some 37,
  .load none (.t 36), none, 0⟩, ⟨some 38, .mv (.t 0), none, 0⟩, ⟨some 39, .mv (.t 10), none, 0⟩, ⟨some 40, .indexS (.t 38) (.t 39), none, 0⟩, ⟨some 41, .call (.t 37) [.t 40], none, 0⟩, ⟨some 42, .not (.t
  41), none, 0⟩] 0 true []) (.cond (.t 42) (.exit 3) .skip)) (.seq (.region [⟨some 43, .off 1 (.t 12), none, 0⟩, ⟨some 44, .load none (.t 43), none, 0⟩, ⟨some 45, .mv (.t 0), none, 0⟩, ⟨some 46, .mv (.t
  10), none, 0⟩, ⟨some 47, .sliceS (.t 45) (some (.t 46)) none, none, 0⟩, ⟨some 48, .call (.t 44) [.t 47], none, 0⟩, ⟨some 13, .alloc [.int .u8 0, .int .i64 0, .str [], .int .i64 0, .int .i64 0, .int .u8
  0, .int .u8 0, .int .i64 0, .int .i64 0], none, 0⟩, ⟨none, .store 9 (.t 13) (.t 48), none, 1⟩] 1 true [(1, 6), (5, 6)]) (.seq (.seq (.region [⟨some 49, .off 8 (.t 13), none, 0⟩, ⟨some 50, .load none
  (.t 49), none, 0⟩, ⟨some 51, .bin .neq (.t 50) (.c (.int .i64 0)), none, 0⟩] 0 false []) (.cond (.t 51) (.seq (.region [⟨some 52, .mv (.t 1), none, 0⟩, ⟨some 53, .mv (.t 10), none, 0⟩, ⟨some 54, .bin
  .add (.t 52) (.t 53), none, 0⟩, ⟨some 55, .off 7 (.t 13), none, 0⟩, ⟨some 56, .load none (.t 55), none, 0⟩, ⟨some 57, .bin .add (.t 54) (.t 56), none, 0⟩, ⟨some 58, .off 8 (.t 13), none, 0⟩, ⟨some 59,
  .load none (.t 58), none, 0⟩, ⟨some 6, .mv (.c (.list 7 [] .full)), none, 0⟩, ⟨some 7, .mv (.t 57), none, 0⟩, ⟨some 8, .mv (.t 59), none, 0⟩] 0 true []) .ret) .skip)) (.seq (.region [⟨some 60, .mv (.t
  1), none, 0⟩, ⟨some 61, .mv (.t 10), none, 0⟩, ⟨some 62, .bin .add (.t 60) (.t 61), none, 0⟩, ⟨some 63, .off 0 (.t 13), none, 0⟩, ⟨some 64, .off 1 (.t 63), none, 0⟩, ⟨none, .store 1 (.t 64) (.t 62),
  none, 0⟩] 0 false []) (.seq (.region [⟨some 65, .mv (.t 9), none, 0⟩, ⟨some 66, .off 0 (.t 13), none, 0⟩, ⟨some 67, .load (some 7) (.t 66), none, 0⟩, ⟨some 68, .bslice 7 [.t 67], none, 0⟩, ⟨some 69,
  .append 7 56 35 (.t 65) (.t 68), none, 0⟩, ⟨some 9, .mv (.t 69), none, 1⟩] 1 false []) (.seq (.region [⟨some 70, .mv (.t 10), none, 0⟩, ⟨some 71, .off 7 (.t 13), none, 0⟩, ⟨some 72, .load none (.t 71),
  none, 0⟩, ⟨some 73, .bin .add (.t 70) (.t 72), none, 0⟩, ⟨some 10, .mv (.t 73), none, 0⟩] 0 false []) (.exit 2))))))))) (.region [⟨some 74, .bin .add (.t 32) (.c (.int .i64 1)), none, 0⟩, ⟨some 32, .mv
  (.t 74), none, 0⟩] 0 false [])))
def L25_0 := bL25_0
theorem wL25_0 : Wp O L25_0 Q σ h = Wp O bL25_0 Q σ h := rfl
abbrev bL25_1 : AC :=
  .seq (.seq (.region [⟨some 14, .mv (.t 10), none, 0⟩, ⟨some 15, .mv (.t 0), none, 0⟩, ⟨some 16, .lenS (.t 15), none, 0⟩, ⟨some 17, .bin .lss (.t 14) (.t 16), none, 0⟩, ⟨some 18, .mv (.t 17), none, 0⟩,
  ⟨some 19, .mv (.t 0), some (18, true), 0⟩, ⟨some 20, .mv (.t 10), some (18, true), 0⟩, ⟨some 21, .indexS (.t 19) (.t 20), some (18, true), 0⟩, ⟨some 22, .bin .neq (.t 21) (.c (.int .u8 59)), some (18,
  true), 0⟩, ⟨some 23, .pick (.t 18) (.t 22) (.c (.bool false)), none, 0⟩] 0 false []) (.cond (.t 23) .skip (.exit 0))) (.block 1 (.seq (.seq (.region [⟨some 24, .mv (.t 0), none, 0⟩, ⟨some 25, .mv (.t
  10), none, 0⟩, ⟨some 26, .indexS (.t 24) (.t 25), none, 0⟩, ⟨some 27, .call (.c (.fn 23 [])) [.t 26], none, 0⟩] 0 false []) (.cond (.t 27) (.seq (.region [⟨some 28, .mv (.t 10), none, 0⟩, ⟨some 29,
  .bin .add (.t 28) (.c (.int .i64 1)), none, 0⟩, ⟨some 10, .mv (.t 29), none, 0⟩] 0 false []) (.exit 1)) .skip)) (.seq (.region [⟨some 30, .mv (.t 2), none, 0⟩, ⟨some 31, .len (.t 30), none, 0⟩, ⟨some
  32, .mv (.c (.int .i64 0)), none, 0⟩] 0 false []) (.block 2 (.loop L25_0)))))
def L25_1 := bL25_1
theorem wL25_1 : Wp O L25_1 Q σ h = Wp O bL25_1 Q σ h := rfl
abbrev bK25_0 : AC :=
  .seq (.region [⟨some 75, .mv (.t 9), none, 0⟩, ⟨some 6, .mv (.t 75), none, 0⟩, ⟨some 7, .mv (.c (.int .i64 0)), none, 0⟩, ⟨some 8, .mv (.c (.int .i64 0)), none, 0⟩] 0 false []) .ret
def K25_0 := bK25_0
theorem wK25_0 : Wp O K25_0 Q σ h = Wp O bK25_0 Q σ h := rfl
abbrev bB25 : AC :=
  .seq (.region [⟨some 6, .mv (.c (.list 7 [] .full)), none, 0⟩, ⟨some 7, .mv (.c (.int .i64 0)), none, 0⟩, ⟨some 8, .mv (.c (.int .i64 0)), none, 0⟩] 0 false []) (.seq (.region [⟨some 9, .mv (.c (.list
  7 [] .full)), none, 0⟩] 0 false []) (.seq (.seq (.region [⟨some 10, .mv (.c (.int .i64 0)), none, 0⟩] 0 false []) (.block 0 (.loop L25_1))) K25_0))
def B25 := bB25
theorem wB25 : Wp O B25 Q σ h = Wp O bB25 Q σ h := rfl
def F25 : AF := ⟨B25, [.tmp 6, .tmp 7, .tmp 8], false⟩
theorem tab25 : T 25 = some F25 := by kernel_rfl
/-- franking/lex.number -/
abbrev bL65_0 : AC :=
  .seq (.region [⟨some 10, .bin .lss (.t 9) (.t 8), none, 0⟩] 0 false []) (.seq (.cond (.t 10) .skip (.exit 0)) (.seq (.block 1 (.seq (.region [⟨some 11, .mv (.t 9), none, 0⟩, ⟨some 6, .mv (.t 11), none,
  0⟩] 0 false []) (.region [⟨some 12, .mv (.t 5), none, 0⟩, ⟨some 13, .mv (.t 1), none, 0⟩, ⟨some 14, .bin .mul (.t 12) (.t 13), none, 0⟩, ⟨some 15, .mv (.t 0), none, 0⟩, ⟨some 16, .mv (.t 6), none, 0⟩,
  ⟨some 17, .indexS (.t 15) (.t 16), none, 0⟩, ⟨some 18, .call (.c (.fn 69 [])) [.t 17], none, 0⟩, ⟨some 19, .bin .add (.t 14) (.t 18), none, 0⟩, ⟨some 5, .mv (.t 19), none, 0⟩] 0 false []))) (.region
  [⟨some 20, .bin .add (.t 9) (.c (.int .i64 1)), none, 0⟩, ⟨some 9, .mv (.t 20), none, 0⟩] 0 false [])))
def L65_0 := bL65_0
theorem wL65_0 : Wp O L65_0 Q σ h = Wp O bL65_0 Q σ h := rfl
abbrev bK65_0 : AC :=
  .seq (.region [⟨some 21, .mv (.t 5), none, 0⟩, ⟨some 4, .mv (.t 21), none, 0⟩] 0 false []) .ret
def K65_0 := bK65_0
theorem wK65_0 : Wp O K65_0 Q σ h = Wp O bK65_0 Q σ h := rfl
abbrev bB65 : AC :=
  .seq (.region [⟨some 4, .mv (.c (.int .i64 0)), none, 0⟩] 0 false []) (.seq (.region [⟨some 5, .mv (.c (.int .i64 0)), none, 0⟩] 0 false []) (.seq (.seq (.region [⟨some 7, .mv (.t 0), none, 0⟩, ⟨some
  8, .lenS (.t 7), none, 0⟩, ⟨some 9, .mv (.c (.int .i64 0)), none, 0⟩] 0 false []) (.block 0 (.loop L65_0))) K65_0))
def B65 := bB65
theorem wB65 : Wp O B65 Q σ h = Wp O bB65 Q σ h := rfl
def F65 : AF := ⟨B65, [.tmp 4], false⟩
theorem tab65 : T 65 = some F65 := by kernel_rfl
/-- franking/lex.base -/
abbrev bB66 : AC :=
  .seq (.region [⟨some 2, .mv (.c (.int .i64 0)), none, 0⟩] 0 false []) (.seq (.seq (.region [⟨some 3, .mv (.t 0), none, 0⟩, ⟨some 4, .bin .eql (.t 3) (.c (.str [])), none, 0⟩] 0 false []) (.cond (.t 4)
  (.seq (.region [⟨some 2, .mv (.c (.int .i64 0)), none, 0⟩] 0 false []) .ret) .skip)) (.seq (.seq (.region [⟨some 5, .mv (.t 0), none, 0⟩, ⟨some 6, .indexS (.t 5) (.c (.int .i64 0)), none, 0⟩, ⟨some 7,
  .bin .or (.t 6) (.c (.int .u8 32)), none, 0⟩] 0 false []) (.block 0 (.seq (.region [⟨some 9, .bin .eql (.t 7) (.c (.int .u8 120)), none, 0⟩, ⟨some 8, .mv (.t 9), none, 0⟩] 0 false []) (.cond (.t 8)
  (.seq (.region [⟨some 2, .mv (.c (.int .i64 16)), none, 0⟩] 0 false []) .ret) (.seq (.region [⟨some 11, .bin .eql (.t 7) (.c (.int .u8 100)), none, 0⟩, ⟨some 10, .mv (.t 11), none, 0⟩] 0 false [])
  (.cond (.t 10) (.seq (.region [⟨some 2, .mv (.c (.int .i64 10)), none, 0⟩] 0 false []) .ret) (.seq (.region [⟨some 13, .bin .eql (.t 7) (.c (.int .u8 98)), none, 0⟩, ⟨some 12, .mv (.t 13), none, 0⟩] 0
  false []) (.cond (.t 12) (.seq (.region [⟨some 2, .mv (.c (.int .i64 2)), none, 0⟩] 0 false []) .ret) .skip)))))))) (.seq (.region [⟨some 2, .mv (.c (.int .i64 0)), none, 0⟩] 0 false []) .ret)))
def B66 := bB66
theorem wB66 : Wp O B66 Q σ h = Wp O bB66 Q σ h := rfl
def F66 : AF := ⟨B66, [.tmp 2], false⟩
theorem tab66 : T 66 = some F66 := by kernel_rfl
/-- franking/lex.nibble -/
abbrev bB69 : AC :=
  .seq (.region [⟨some 2, .mv (.c (.int .i64 0)), none, 0⟩] 0 false []) (.seq (.block 0 (.seq (.region [⟨some 4, .mv (.t 0), none, 0⟩, ⟨some 5, .call (.c (.fn 43 [])) [.t 4], none, 0⟩, ⟨some 3, .mv (.t
  5), none, 0⟩] 0 false []) (.cond (.t 3) (.seq (.region [⟨some 6, .mv (.t 0), none, 0⟩, ⟨some 7, .bin .sub (.t 6) (.c (.int .u8 48)), none, 0⟩, ⟨some 8, .cvInt .i64 (.t 7), none, 0⟩, ⟨some 2, .mv (.t
  8), none, 0⟩] 0 false []) .ret) (.seq (.region [⟨some 10, .mv (.t 0), none, 0⟩, ⟨some 11, .bin .or (.t 10) (.c (.int .u8 32)), none, 0⟩, ⟨some 12, .bin .geq (.t 11) (.c (.int .u8 97)), none, 0⟩, ⟨some
  13, .mv (.t 12), none, 0⟩, ⟨some 14, .mv (.t 0), some (13, true), 0⟩, ⟨some 15, .bin .or (.t 14) (.c (.int .u8 32)), some (13, true), 0⟩, ⟨some 16, .bin .leq (.t 15) (.c (.int .u8 102)), some (13,
  true), 0⟩, ⟨some 17, .pick (.t 13) (.t 16) (.c (.bool false)), none, 0⟩, ⟨some 9, .mv (.t 17), none, 0⟩] 0 false []) (.cond (.t 9) (.seq (.region [⟨some 18, .mv (.t 0), none, 0⟩, ⟨some 19, .bin .or (.t
  18) (.c (.int .u8 32)), none, 0⟩, ⟨some 20, .bin .sub (.t 19) (.c (.int .u8 97)), none, 0⟩, ⟨some 21, .cvInt .i64 (.t 20), none, 0⟩, ⟨some 22, .bin .add (.t 21) (.c (.int .i64 10)), none, 0⟩, ⟨some 2,
  .mv (.t 22), none, 0⟩] 0 false []) .ret) .skip))))) (.seq (.region [⟨some 2, .mv (.c (.int .i64 16)), none, 0⟩] 0 false []) .ret))
def B69 := bB69
theorem wB69 : Wp O B69 Q σ h = Wp O bB69 Q σ h := rfl
def F69 : AF := ⟨B69, [.tmp 2], false⟩
theorem tab69 : T 69 = some F69 := by kernel_rfl
/-- strings.Cut -/
abbrev bB20 : AC :=
  .seq (.region [⟨some 4, .mv (.c (.str [])), none, 0⟩, ⟨some 5, .mv (.c (.str [])), none, 0⟩, ⟨some 6, .mv (.c (.bool false)), none, 0⟩] 0 false []) (.seq (.region [⟨some 7, .mv (.t 0), none, 0⟩, ⟨some
  8, .mv (.t 1), none, 0⟩, ⟨some 9, .call (.c (.fn 50 [])) [.t 7, .t 8], none, 0⟩, ⟨some 10, .ext (.t 9) 0, none, 0⟩, ⟨some 11, .ext (.t 9) 1, none, 0⟩, ⟨some 12, .ext (.t 9) 2, none, 0⟩, ⟨some 4, .mv
  (.t 10), none, 0⟩, ⟨some 5, .mv (.t 11), none, 0⟩, ⟨some 6, .mv (.t 12), none, 0⟩] 0 false []) .ret)
def B20 := bB20
theorem wB20 : Wp O B20 Q σ h = Wp O bB20 Q σ h := rfl
def F20 : AF := ⟨B20, [.tmp 4, .tmp 5, .tmp 6], false⟩
theorem tab20 : T 20 = some F20 := by kernel_rfl
/-- internal/stringslite.Cut -/
abbrev bB50 : AC :=
  .seq (.region [⟨some 4, .mv (.c (.str [])), none, 0⟩, ⟨some 5, .mv (.c (.str [])), none, 0⟩, ⟨some 6, .mv (.c (.bool false)), none, 0⟩] 0 false []) (.seq (.seq (.region [⟨some 8, .mv (.t 0), none, 0⟩,
  ⟨some 9, .mv (.t 1), none, 0⟩, ⟨some 10, .call (.c (.fn 70 [])) [.t 8, .t 9], none, 0⟩, ⟨some 7, .mv (.t 10), none, 0⟩] 0 false []) (.seq (.region [⟨some 11, .mv (.t 7), none, 0⟩, ⟨some 12, .bin .geq
  (.t 11) (.c (.int .i64 0)), none, 0⟩] 0 false []) (.cond (.t 12) (.seq (.region [⟨some 13, .mv (.t 0), none, 0⟩, ⟨some 14, .mv (.t 7), none, 0⟩, ⟨some 15, .sliceS (.t 13) none (some (.t 14)), none, 0⟩,
  ⟨some 16, .mv (.t 0), none, 0⟩, ⟨some 17, .mv (.t 7), none, 0⟩, ⟨some 18, .mv (.t 1), none, 0⟩, ⟨some 19, .lenS (.t 18), none, 0⟩, ⟨some 20, .bin .add (.t 17) (.t 19), none, 0⟩, ⟨some 21, .sliceS (.t
  16) (some (.t 20)) none, none, 0⟩, ⟨some 4, .mv (.t 15), none, 0⟩, ⟨some 5, .mv (.t 21), none, 0⟩, ⟨some 6, .mv (.c (.bool true)), none, 0⟩] 0 true []) .ret) .skip))) (.seq (.region [⟨some 22, .mv (.t
  0), none, 0⟩, ⟨some 4, .mv (.t 22), none, 0⟩, ⟨some 5, .mv (.c (.str [])), none, 0⟩, ⟨some 6, .mv (.c (.bool false)), none, 0⟩] 0 false []) .ret))
def B50 := bB50
theorem wB50 : Wp O B50 Q σ h = Wp O bB50 Q σ h := rfl
def F50 : AF := ⟨B50, [.tmp 4, .tmp 5, .tmp 6], false⟩
theorem tab50 : T 50 = some F50 := by kernel_rfl
/-- strings.TrimSuffix -/
abbrev bB21 : AC :=
  .seq (.region [⟨some 4, .mv (.c (.str [])), none, 0⟩] 0 false []) (.seq (.region [⟨some 5, .mv (.t 0), none, 0⟩, ⟨some 6, .mv (.t 1), none, 0⟩, ⟨some 7, .call (.c (.fn 51 [])) [.t 5, .t 6], none, 0⟩,
  ⟨some 4, .mv (.t 7), none, 0⟩] 0 false []) .ret)
def B21 := bB21
theorem wB21 : Wp O B21 Q σ h = Wp O bB21 Q σ h := rfl
def F21 : AF := ⟨B21, [.tmp 4], false⟩
theorem tab21 : T 21 = some F21 := by kernel_rfl
/-- internal/stringslite.TrimSuffix -/
abbrev bB51 : AC :=
  .seq (.region [⟨some 4, .mv (.c (.str [])), none, 0⟩] 0 false []) (.seq (.seq (.region [⟨some 5, .mv (.t 0), none, 0⟩, ⟨some 6, .mv (.t 1), none, 0⟩, ⟨some 7, .call (.c (.fn 71 [])) [.t 5, .t 6], none,
  0⟩] 0 false []) (.cond (.t 7) (.seq (.region [⟨some 8, .mv (.t 0), none, 0⟩, ⟨some 9, .mv (.t 0), none, 0⟩, ⟨some 10, .lenS (.t 9), none, 0⟩, ⟨some 11, .mv (.t 1), none, 0⟩, ⟨some 12, .lenS (.t 11),
  none, 0⟩, ⟨some 13, .bin .sub (.t 10) (.t 12), none, 0⟩, ⟨some 14, .sliceS (.t 8) none (some (.t 13)), none, 0⟩, ⟨some 4, .mv (.t 14), none, 0⟩] 0 false []) .ret) .skip)) (.seq (.region [⟨some 15, .mv
  (.t 0), none, 0⟩, ⟨some 4, .mv (.t 15), none, 0⟩] 0 false []) .ret))
def B51 := bB51
theorem wB51 : Wp O B51 Q σ h = Wp O bB51 Q σ h := rfl
def F51 : AF := ⟨B51, [.tmp 4], false⟩
theorem tab51 : T 51 = some F51 := by kernel_rfl
/-- internal/stringslite.HasSuffix -/
abbrev bB71 : AC :=
  .seq (.region [⟨some 4, .mv (.c (.bool false)), none, 0⟩] 0 false []) (.seq (.region [⟨some 5, .mv (.t 0), none, 0⟩, ⟨some 6, .lenS (.t 5), none, 0⟩, ⟨some 7, .mv (.t 1), none, 0⟩, ⟨some 8, .lenS (.t
  7), none, 0⟩, ⟨some 9, .bin .geq (.t 6) (.t 8), none, 0⟩, ⟨some 10, .mv (.t 9), none, 0⟩, ⟨some 11, .mv (.t 0), some (10, true), 0⟩, ⟨some 12, .mv (.t 0), some (10, true), 0⟩, ⟨some 13, .lenS (.t 12),
  some (10, true), 0⟩, ⟨some 14, .mv (.t 1), some (10, true), 0⟩, ⟨some 15, .lenS (.t 14), some (10, true), 0⟩, ⟨some 16, .bin .sub (.t 13) (.t 15), some (10, true), 0⟩, ⟨some 17, .sliceS (.t 11) (some
  (.t 16)) none, some (10, true), 0⟩, ⟨some 18, .mv (.t 1), some (10, true), 0⟩, ⟨some 19, .bin .eql (.t 17) (.t 18), some (10, true), 0⟩, ⟨some 20, .pick (.t 10) (.t 19) (.c (.bool false)), none, 0⟩,
  ⟨some 4, .mv (.t 20), none, 0⟩] 0 false []) .ret)
def B71 := bB71
theorem wB71 : Wp O B71 Q σ h = Wp O bB71 Q σ h := rfl
def F71 : AF := ⟨B71, [.tmp 4], false⟩
theorem tab71 : T 71 = some F71 := by kernel_rfl
/-- strings.HasPrefix -/
abbrev bB63 : AC :=
  .seq (.region [⟨some 4, .mv (.c (.bool false)), none, 0⟩] 0 false []) (.seq (.region [⟨some 5, .mv (.t 0), none, 0⟩, ⟨some 6, .mv (.t 1), none, 0⟩, ⟨some 7, .call (.c (.fn 77 [])) [.t 5, .t 6], none,
  0⟩, ⟨some 4, .mv (.t 7), none, 0⟩] 0 false []) .ret)
def B63 := bB63
theorem wB63 : Wp O B63 Q σ h = Wp O bB63 Q σ h := rfl
def F63 : AF := ⟨B63, [.tmp 4], false⟩
theorem tab63 : T 63 = some F63 := by kernel_rfl
/-- internal/stringslite.HasPrefix -/
abbrev bB77 : AC :=
  .seq (.region [⟨some 4, .mv (.c (.bool false)), none, 0⟩] 0 false []) (.seq (.region [⟨some 5, .mv (.t 0), none, 0⟩, ⟨some 6, .lenS (.t 5), none, 0⟩, ⟨some 7, .mv (.t 1), none, 0⟩, ⟨some 8, .lenS (.t
  7), none, 0⟩, ⟨some 9, .bin .geq (.t 6) (.t 8), none, 0⟩, ⟨some 10, .mv (.t 9), none, 0⟩, ⟨some 11, .mv (.t 0), some (10, true), 0⟩, ⟨some 12, .mv (.t 1), some (10, true), 0⟩, ⟨some 13, .lenS (.t 12),
  some (10, true), 0⟩, ⟨some 14, .sliceS (.t 11) none (some (.t 13)), some (10, true), 0⟩, ⟨some 15, .mv (.t 1), some (10, true), 0⟩, ⟨some 16, .bin .eql (.t 14) (.t 15), some (10, true), 0⟩, ⟨some 17,
  .pick (.t 10) (.t 16) (.c (.bool false)), none, 0⟩, ⟨some 4, .mv (.t 17), none, 0⟩] 0 false []) .ret)
def B77 := bB77
theorem wB77 : Wp O B77 Q σ h = Wp O bB77 Q σ h := rfl
def F77 : AF := ⟨B77, [.tmp 4], false⟩
theorem tab77 : T 77 = some F77 := by kernel_rfl
/-- internal/stringslite.Index -/
abbrev bL70_0 : AC :=
  .seq (.seq (.region [⟨some 57, .mv (.t 8), none, 0⟩, ⟨some 58, .mv (.t 9), none, 0⟩, ⟨some 59, .bin .lss (.t 57) (.t 58), none, 0⟩] 0 false []) (.cond (.t 59) .skip (.exit 1))) (.block 2 (.seq (.seq
  (.region [⟨some 60, .mv (.t 0), none, 0⟩, ⟨some 61, .mv (.t 8), none, 0⟩, ⟨some 62, .indexS (.t 60) (.t 61), none, 0⟩, ⟨some 63, .mv (.t 6), none, 0⟩, ⟨some 64, .bin .neq (.t 62) (.t 63), none, 0⟩] 0
  false []) (.cond (.t 64) (.seq (.region [⟨some 65, .mv (.t 0), none, 0⟩, ⟨some 66, .mv (.t 8), none, 0⟩, ⟨some 67, .bin .add (.t 66) (.c (.int .i64 1)), none, 0⟩, ⟨some 68, .mv (.t 9), none, 0⟩, ⟨some
  69, .sliceS (.t 65) (some (.t 67)) (some (.t 68)), none, 0⟩, ⟨some 70, .mv (.t 6), none, 0⟩, ⟨some 71, .call (.c (.fn 78 [])) [.t 69, .t 70], none, 0⟩, ⟨some 11, .mv (.t 71), none, 0⟩] 0 false [])
  (.seq (.seq (.region [⟨some 72, .mv (.t 11), none, 0⟩, ⟨some 73, .bin .lss (.t 72) (.c (.int .i64 0)), none, 0⟩] 0 false []) (.cond (.t 73) (.seq (.region [⟨some 4, .mv (.c (.int .i64 (-1))), none, 0⟩]
  0 false []) .ret) .skip)) (.region [⟨some 74, .mv (.t 8), none, 0⟩, ⟨some 75, .mv (.t 11), none, 0⟩, ⟨some 76, .bin .add (.t 75) (.c (.int .i64 1)), none, 0⟩, ⟨some 77, .bin .add (.t 74) (.t 76), none,
  0⟩, ⟨some 8, .mv (.t 77), none, 0⟩] 0 false []))) .skip)) (.seq (.seq (.region [⟨some 78, .mv (.t 0), none, 0⟩, ⟨some 79, .mv (.t 8), none, 0⟩, ⟨some 80, .bin .add (.t 79) (.c (.int .i64 1)), none, 0⟩,
  ⟨some 81, .indexS (.t 78) (.t 80), none, 0⟩, ⟨some 82, .mv (.t 7), none, 0⟩, ⟨some 83, .bin .eql (.t 81) (.t 82), none, 0⟩, ⟨some 84, .mv (.t 83), none, 0⟩, ⟨some 85, .mv (.t 0), some (84, true), 0⟩,
  ⟨some 86, .mv (.t 8), some (84, true), 0⟩, ⟨some 87, .mv (.t 8), some (84, true), 0⟩, ⟨some 88, .mv (.t 5), some (84, true), 0⟩, ⟨some 89, .bin .add (.t 87) (.t 88), some (84, true), 0⟩, ⟨some 90,
  .sliceS (.t 85) (some (.t 86)) (some (.t 89)), some (84, true), 0⟩, ⟨some 91, .mv (.t 1), some (84, true), 0⟩, ⟨some 92, .bin .eql (.t 90) (.t 91), some (84, true), 0⟩, ⟨some 93, .pick (.t 84) (.t 92)
  (.c (.bool false)), none, 0⟩] 0 false []) (.cond (.t 93) (.seq (.region [⟨some 94, .mv (.t 8), none, 0⟩, ⟨some 4, .mv (.t 94), none, 0⟩] 0 false []) .ret) .skip)) (.seq (.region [⟨some 95, .mv (.t 8),
  none, 0⟩, ⟨some 96, .bin .add (.t 95) (.c (.int .i64 1)), none, 0⟩, ⟨some 8, .mv (.t 96), none, 0⟩] 0 false []) (.seq (.region [⟨some 97, .mv (.t 10), none, 0⟩, ⟨some 98, .bin .add (.t 97) (.c (.int
  .i64 1)), none, 0⟩, ⟨some 10, .mv (.t 98), none, 0⟩] 0 false []) (.seq (.region [⟨some 99, .mv (.t 5), none, 0⟩, ⟨some 100, .fail, none, 0⟩, ⟨some 101, .bin .leq (.t 99) (.t 100), none, 0⟩, ⟨some 102,
  .mv (.t 101), none, 0⟩, ⟨some 103, .mv (.t 10), some (102, true), 0⟩, ⟨some 104, .mv (.t 8), some (102, true), 0⟩, ⟨some 105, .call (.c (.fn 80 [])) [.t 104], some (102, true), 0⟩, ⟨some 106, .bin .gtr
  (.t 103) (.t 105), some (102, true), 0⟩, ⟨some 107, .pick (.t 102) (.t 106) (.c (.bool false)), none, 0⟩] 0 false []) (.cond (.t 107) (.seq (.region [⟨some 108, .mv (.t 0), none, 0⟩, ⟨some 109, .mv (.t
  8), none, 0⟩, ⟨some 110, .sliceS (.t 108) (some (.t 109)) none, none, 0⟩, ⟨some 111, .mv (.t 1), none, 0⟩, ⟨some 112, .call (.c (.fn 79 [])) [.t 110, .t 111], none, 0⟩, ⟨some 12, .mv (.t 112), none,
  0⟩] 0 false []) (.seq (.seq (.region [⟨some 113, .mv (.t 12), none, 0⟩, ⟨some 114, .bin .geq (.t 113) (.c (.int .i64 0)), none, 0⟩] 0 false []) (.cond (.t 114) (.seq (.region [⟨some 115, .mv (.t 12),
  none, 0⟩, ⟨some 116, .mv (.t 8), none, 0⟩, ⟨some 117, .bin .add (.t 115) (.t 116), none, 0⟩, ⟨some 4, .mv (.t 117), none, 0⟩] 0 false []) .ret) .skip)) (.seq (.region [⟨some 4, .mv (.c (.int .i64
  (-1))), none, 0⟩] 0 false []) .ret))) (.seq (.region [⟨some 118, .mv (.t 5), none, 0⟩, ⟨some 119, .fail, none, 0⟩, ⟨some 120, .bin .gtr (.t 118) (.t 119), none, 0⟩, ⟨some 121, .mv (.t 120), none, 0⟩,
  ⟨some 122, .mv (.t 10), some (121, true), 0⟩, ⟨some 123, .mv (.t 8), some (121, true), 0⟩, ⟨some 124, .bin .shr (.t 123) (.c (.int .u64 4)), some (121, true), 0⟩, ⟨some 125, .bin .add (.c (.int .i64
  4)) (.t 124), some (121, true), 0⟩, ⟨some 126, .bin .geq (.t 122) (.t 125), some (121, true), 0⟩, ⟨some 127, .pick (.t 121) (.t 126) (.c (.bool false)), none, 0⟩, ⟨some 128, .mv (.t 127), none, 0⟩,
  ⟨some 129, .mv (.t 8), some (128, true), 0⟩, ⟨some 130, .mv (.t 9), some (128, true), 0⟩, ⟨some 131, .bin .lss (.t 129) (.t 130), some (128, true), 0⟩, ⟨some 132, .pick (.t 128) (.t 131) (.c (.bool
  false)), none, 0⟩] 0 false []) (.cond (.t 132) (.seq (.region [⟨some 133, .mv (.t 0), none, 0⟩, ⟨some 134, .mv (.t 8), none, 0⟩, ⟨some 135, .sliceS (.t 133) (some (.t 134)) none, none, 0⟩, ⟨some 136,
  .mv (.t 1), none, 0⟩, ⟨some 137, .call (.c (.fn 81 [])) [.t 135, .t 136], none, 0⟩, ⟨some 13, .mv (.t 137), none, 0⟩] 0 false []) (.seq (.seq (.region [⟨some 138, .mv (.t 13), none, 0⟩, ⟨some 139, .bin
  .lss (.t 138) (.c (.int .i64 0)), none, 0⟩] 0 false []) (.cond (.t 139) (.seq (.region [⟨some 4, .mv (.c (.int .i64 (-1))), none, 0⟩] 0 false []) .ret) .skip)) (.seq (.region [⟨some 140, .mv (.t 8),
  none, 0⟩, ⟨some 141, .mv (.t 13), none, 0⟩, ⟨some 142, .bin .add (.t 140) (.t 141), none, 0⟩, ⟨some 4, .mv (.t 142), none, 0⟩] 0 false []) .ret))) .skip)))))))))
def L70_0 := bL70_0
theorem wL70_0 : Wp O L70_0 Q σ h = Wp O bL70_0 Q σ h := rfl
abbrev bK70_0 : AC :=
  .seq (.region [⟨some 4, .mv (.c (.int .i64 (-1))), none, 0⟩] 0 false []) .ret
def K70_0 := bK70_0
theorem wK70_0 : Wp O K70_0 Q σ h = Wp O bK70_0 Q σ h := rfl
abbrev bB70 : AC :=
  .seq (.region [⟨some 4, .mv (.c (.int .i64 0)), none, 0⟩] 0 false []) (.seq (.region [⟨some 14, .mv (.t 1), none, 0⟩, ⟨some 15, .lenS (.t 14), none, 0⟩, ⟨some 5, .mv (.t 15), none, 0⟩] 0 false [])
  (.seq (.block 0 (.seq (.region [⟨some 17, .mv (.t 5), none, 0⟩, ⟨some 18, .bin .eql (.t 17) (.c (.int .i64 0)), none, 0⟩, ⟨some 19, .mv (.t 18), none, 0⟩, ⟨some 20, .mv (.t 1), some (19, false), 0⟩,
  ⟨some 21, .mv (.t 0), some (19, false), 0⟩, ⟨some 22, .bin .eql (.t 20) (.t 21), some (19, false), 0⟩, ⟨some 23, .pick (.t 19) (.c (.bool true)) (.t 22), none, 0⟩, ⟨some 16, .mv (.t 23), none, 0⟩] 0
  false []) (.cond (.t 16) (.seq (.region [⟨some 4, .mv (.c (.int .i64 0)), none, 0⟩] 0 false []) .ret) (.seq (.region [⟨some 25, .mv (.t 5), none, 0⟩, ⟨some 26, .bin .eql (.t 25) (.c (.int .i64 1)),
  none, 0⟩, ⟨some 24, .mv (.t 26), none, 0⟩] 0 false []) (.cond (.t 24) (.seq (.region [⟨some 27, .mv (.t 0), none, 0⟩, ⟨some 28, .mv (.t 1), none, 0⟩, ⟨some 29, .indexS (.t 28) (.c (.int .i64 0)), none,
  0⟩, ⟨some 30, .call (.c (.fn 78 [])) [.t 27, .t 29], none, 0⟩, ⟨some 4, .mv (.t 30), none, 0⟩] 0 false []) .ret) (.seq (.region [⟨some 32, .mv (.t 5), none, 0⟩, ⟨some 33, .mv (.t 0), none, 0⟩, ⟨some
  34, .lenS (.t 33), none, 0⟩, ⟨some 35, .bin .geq (.t 32) (.t 34), none, 0⟩, ⟨some 31, .mv (.t 35), none, 0⟩] 0 false []) (.cond (.t 31) (.seq (.region [⟨some 4, .mv (.c (.int .i64 (-1))), none, 0⟩] 0
  false []) .ret) (.seq (.region [⟨some 37, .mv (.t 5), none, 0⟩, ⟨some 38, .fail, none, 0⟩, ⟨some 39, .bin .leq (.t 37) (.t 38), none, 0⟩, ⟨some 40, .mv (.t 39), none, 0⟩, ⟨some 41, .mv (.t 0), some
  (40, true), 0⟩, ⟨some 42, .lenS (.t 41), some (40, true), 0⟩, ⟨some 43, .bin .leq (.t 42) (.c (.int .i64 64)), some (40, true), 0⟩, ⟨some 44, .pick (.t 40) (.t 43) (.c (.bool false)), none, 0⟩, ⟨some
  36, .mv (.t 44), none, 0⟩] 0 false []) (.cond (.t 36) (.seq (.region [⟨some 45, .mv (.t 0), none, 0⟩, ⟨some 46, .mv (.t 1), none, 0⟩, ⟨some 47, .call (.c (.fn 79 [])) [.t 45, .t 46], none, 0⟩, ⟨some 4,
  .mv (.t 47), none, 0⟩] 0 false []) .ret) .skip))))))))) (.seq (.region [⟨some 48, .mv (.t 1), none, 0⟩, ⟨some 49, .indexS (.t 48) (.c (.int .i64 0)), none, 0⟩, ⟨some 6, .mv (.t 49), none, 0⟩] 0 false
  []) (.seq (.region [⟨some 50, .mv (.t 1), none, 0⟩, ⟨some 51, .indexS (.t 50) (.c (.int .i64 1)), none, 0⟩, ⟨some 7, .mv (.t 51), none, 0⟩] 0 false []) (.seq (.region [⟨some 8, .mv (.c (.int .i64 0)),
  none, 0⟩] 0 false []) (.seq (.region [⟨some 52, .mv (.t 0), none, 0⟩, ⟨some 53, .lenS (.t 52), none, 0⟩, ⟨some 54, .mv (.t 5), none, 0⟩, ⟨some 55, .bin .sub (.t 53) (.t 54), none, 0⟩, ⟨some 56, .bin
  .add (.t 55) (.c (.int .i64 1)), none, 0⟩, ⟨some 9, .mv (.t 56), none, 0⟩] 0 false []) (.seq (.region [⟨some 10, .mv (.c (.int .i64 0)), none, 0⟩] 0 false []) (.seq (.block 1 (.loop L70_0))
  K70_0))))))))
def B70 := bB70
theorem wB70 : Wp O B70 Q σ h = Wp O bB70 Q σ h := rfl
def F70 : AF := ⟨B70, [.tmp 4], false⟩
theorem tab70 : T 70 = some F70 := by kernel_rfl
/-- internal/stringslite.IndexByte -/
abbrev bB78 : AC :=
  .seq (.region [⟨some 4, .mv (.c (.int .i64 0)), none, 0⟩] 0 false []) (.seq (.region [⟨some 5, .mv (.t 0), none, 0⟩, ⟨some 6, .mv (.t 1), none, 0⟩, ⟨some 7, .call (.c (.fn 82 [])) [.t 5, .t 6], none,
  0⟩, ⟨some 4, .mv (.t 7), none, 0⟩] 0 false []) .ret)
def B78 := bB78
theorem wB78 : Wp O B78 Q σ h = Wp O bB78 Q σ h := rfl
def F78 : AF := ⟨B78, [.tmp 4], false⟩
theorem tab78 : T 78 = some F78 := by kernel_rfl
/-- franking/frankinglow.Toks -/
abbrev bL9_0 : AC :=
  .seq (.region [⟨some 14, .bin .lss (.t 13) (.t 12), none, 0⟩] 0 false []) (.seq (.cond (.t 14) .skip (.exit 0)) (.seq (.block 1 (.seq (.region [⟨some 15, .mv (.t 13), none, 0⟩, ⟨some 5, .mv (.t 15),
  none, 0⟩] 0 false []) (.seq (.region [⟨some 16, .mv (.t 0), none, 0⟩, ⟨some 17, .mv (.t 5), none, 0⟩, ⟨some 18, .idx 7 (.t 16) (.t 17), none, 0⟩, ⟨some 19, .load (some 7) (.t 18), none, 0⟩, ⟨some 20,
  .mv (.t 1), none, 0⟩, ⟨some 21, .mv (.t 5), none, 0⟩, ⟨some 22, .idx 7 (.t 20) (.t 21), none, 0⟩, ⟨some 23, .load (some 7) (.t 22), none, 0⟩, ⟨some 24, .eq true (some 7) [(0, LK.int), (1, LK.int), (2,
  LK.str), (3, LK.int), (4, LK.int), (5, LK.int), (6, LK.int)] (.t 19) (.t 23), none, 0⟩] 0 true []) (.cond (.t 24) (.seq (.region [⟨some 4, .mv (.c (.bool false)), none, 0⟩] 0 false []) .ret) .skip))))
  (.region [⟨some 25, .bin .add (.t 13) (.c (.int .i64 1)), none, 0⟩, ⟨some 13, .mv (.t 25), none, 0⟩] 0 false [])))
def L9_0 := bL9_0
theorem wL9_0 : Wp O L9_0 Q σ h = Wp O bL9_0 Q σ h := rfl
abbrev bK9_0 : AC :=
  .seq (.region [⟨some 4, .mv (.c (.bool true)), none, 0⟩] 0 false []) .ret
def K9_0 := bK9_0
theorem wK9_0 : Wp O K9_0 Q σ h = Wp O bK9_0 Q σ h := rfl
abbrev bB9 : AC :=
  .seq (.region [⟨some 4, .mv (.c (.bool false)), none, 0⟩] 0 false []) (.seq (.seq (.region [⟨some 6, .mv (.t 0), none, 0⟩, ⟨some 7, .len (.t 6), none, 0⟩, ⟨some 8, .mv (.t 1), none, 0⟩, ⟨some 9, .len
  (.t 8), none, 0⟩, ⟨some 10, .bin .neq (.t 7) (.t 9), none, 0⟩] 0 false []) (.cond (.t 10) (.seq (.region [⟨some 4, .mv (.c (.bool false)), none, 0⟩] 0 false []) .ret) .skip)) (.seq (.seq (.region
  [⟨some 11, .mv (.t 0), none, 0⟩, ⟨some 12, .len (.t 11), none, 0⟩, ⟨some 13, .mv (.c (.int .i64 0)), none, 0⟩] 0 false []) (.block 0 (.loop L9_0))) K9_0))
def B9 := bB9
theorem wB9 : Wp O B9 Q σ h = Wp O bB9 Q σ h := rfl
def F9 : AF := ⟨B9, [.tmp 4], false⟩
theorem tab9 : T 9 = some F9 := by kernel_rfl
/-- franking/frankinglow.Alike -/
abbrev bL10_0 : AC :=
  .seq (.region [⟨some 16, .bin .lss (.t 15) (.t 14), none, 0⟩] 0 false []) (.seq (.cond (.t 16) .skip (.exit 0)) (.seq (.block 1 (.seq (.region [⟨some 17, .mv (.t 15), none, 0⟩, ⟨some 5, .mv (.t 17),
  none, 0⟩] 0 false []) (.seq (.region [⟨some 18, .mv (.t 0), none, 0⟩, ⟨some 19, .mv (.t 5), none, 0⟩, ⟨some 20, .idx 7 (.t 18) (.t 19), none, 0⟩, ⟨some 21, .load (some 7) (.t 20), none, 0⟩, ⟨some 22,
  .mv (.t 1), none, 0⟩, ⟨some 23, .mv (.t 5), none, 0⟩, ⟨some 24, .idx 7 (.t 22) (.t 23), none, 0⟩, ⟨some 25, .load (some 7) (.t 24), none, 0⟩, ⟨some 6, .alloc [.int .u8 0, .int .i64 0, .str [], .int
  .i64 0, .int .i64 0, .int .u8 0, .int .u8 0], none, 0⟩, ⟨some 7, .alloc [.int .u8 0, .int .i64 0, .str [], .int .i64 0, .int .i64 0, .int .u8 0, .int .u8 0], none, 1⟩, ⟨none, .store 7 (.t 6) (.t 21),
  none, 2⟩, ⟨none, .store 7 (.t 7) (.t 25), none, 2⟩] 2 true [(3, 8), (7, 8), (3, 9), (7, 9), (8, 9), (7, 10)]) (.seq (.region [⟨some 26, .off 1 (.t 6), none, 0⟩, ⟨none, .store 1 (.t 26) (.c (.int .i64
  0)), none, 0⟩, ⟨some 27, .off 1 (.t 7), none, 0⟩, ⟨none, .store 1 (.t 27) (.c (.int .i64 0)), none, 0⟩] 0 false []) (.seq (.region [⟨some 28, .load (some 7) (.t 6), none, 0⟩, ⟨some 29, .load (some 7)
  (.t 7), none, 0⟩, ⟨some 30, .eq true (some 7) [(0, LK.int), (1, LK.int), (2, LK.str), (3, LK.int), (4, LK.int), (5, LK.int), (6, LK.int)] (.t 28) (.t 29), none, 0⟩] 0 false []) (.cond (.t 30) (.seq
  (.region [⟨some 4, .mv (.c (.bool false)), none, 0⟩] 0 false []) .ret) .skip)))))) (.region [⟨some 31, .bin .add (.t 15) (.c (.int .i64 1)), none, 0⟩, ⟨some 15, .mv (.t 31), none, 0⟩] 0 false [])))
def L10_0 := bL10_0
theorem wL10_0 : Wp O L10_0 Q σ h = Wp O bL10_0 Q σ h := rfl
abbrev bK10_0 : AC :=
  .seq (.region [⟨some 4, .mv (.c (.bool true)), none, 0⟩] 0 false []) .ret
def K10_0 := bK10_0
theorem wK10_0 : Wp O K10_0 Q σ h = Wp O bK10_0 Q σ h := rfl
abbrev bB10 : AC :=
  .seq (.region [⟨some 4, .mv (.c (.bool false)), none, 0⟩] 0 false []) (.seq (.seq (.region [⟨some 8, .mv (.t 0), none, 0⟩, ⟨some 9, .len (.t 8), none, 0⟩, ⟨some 10, .mv (.t 1), none, 0⟩, ⟨some 11, .len
  (.t 10), none, 0⟩, ⟨some 12, .bin .neq (.t 9) (.t 11), none, 0⟩] 0 false []) (.cond (.t 12) (.seq (.region [⟨some 4, .mv (.c (.bool false)), none, 0⟩] 0 false []) .ret) .skip)) (.seq (.seq (.region
  [⟨some 13, .mv (.t 0), none, 0⟩, ⟨some 14, .len (.t 13), none, 0⟩, ⟨some 15, .mv (.c (.int .i64 0)), none, 0⟩] 0 false []) (.block 0 (.loop L10_0))) K10_0))
def B10 := bB10
theorem wB10 : Wp O B10 Q σ h = Wp O bB10 Q σ h := rfl
def F10 : AF := ⟨B10, [.tmp 4], false⟩
theorem tab10 : T 10 = some F10 := by kernel_rfl
/-- franking/frankinglaw01.fails -/
abbrev bB11 : AC :=
  .seq (.region [⟨some 6, .mv (.c (.bool false)), none, 0⟩] 0 false []) (.seq (.region [⟨some 11, .mv (.t 0), none, 0⟩, ⟨some 12, .call (.c (.fn 8 [])) [.t 11], none, 0⟩, ⟨some 10, .mv (.t 12), none, 0⟩,
  ⟨some 13, .ext (.t 10) 0, none, 0⟩, ⟨some 14, .ext (.t 10) 1, none, 0⟩, ⟨some 15, .ext (.t 10) 2, none, 0⟩, ⟨some 7, .mv (.t 13), none, 0⟩, ⟨some 8, .mv (.t 14), none, 0⟩, ⟨some 9, .mv (.t 15), none,
  0⟩] 0 false []) (.seq (.region [⟨some 16, .mv (.t 9), none, 0⟩, ⟨some 17, .mv (.t 2), none, 0⟩, ⟨some 18, .bin .eql (.t 16) (.t 17), none, 0⟩, ⟨some 19, .mv (.t 18), none, 0⟩, ⟨some 20, .mv (.t 8),
  some (19, true), 0⟩, ⟨some 21, .mv (.t 1), some (19, true), 0⟩, ⟨some 22, .bin .eql (.t 20) (.t 21), some (19, true), 0⟩, ⟨some 23, .pick (.t 19) (.t 22) (.c (.bool false)), none, 0⟩, ⟨some 24, .mv (.t
  23), none, 0⟩, ⟨some 25, .mv (.t 7), some (24, true), 0⟩, ⟨some 26, .len (.t 25), some (24, true), 0⟩, ⟨some 27, .bin .eql (.t 26) (.c (.int .i64 0)), some (24, true), 0⟩, ⟨some 28, .pick (.t 24) (.t
  27) (.c (.bool false)), none, 0⟩, ⟨some 6, .mv (.t 28), none, 0⟩] 0 false []) .ret))
def B11 := bB11
theorem wB11 : Wp O B11 Q σ h = Wp O bB11 Q σ h := rfl
def F11 : AF := ⟨B11, [.tmp 6], false⟩
theorem tab11 : T 11 = some F11 := by kernel_rfl
/-- franking/frankinglaw01.LexValues -/
abbrev bL3_0 : AC :=
  .seq (.region [⟨some 69, .bin .lss (.t 68) (.t 67), none, 0⟩] 0 false []) (.seq (.cond (.t 69) .skip (.exit 2)) (.seq (.block 3 (.seq (.region [⟨some 70, .idx 1 (.t 66) (.t 68), none, 0⟩, ⟨some 71,
  .load none (.t 70), none, 0⟩, ⟨some 12, .mv (.t 71), none, 0⟩] 0 false []) (.region [⟨some 72, .mv (.t 10), none, 0⟩, ⟨some 73, .mv (.t 9), none, 0⟩, ⟨some 74, .mv (.t 12), none, 0⟩, ⟨some 75, .call
  (.t 73) [.t 74], none, 0⟩, ⟨some 76, .bin .add (.c (.str [46])) (.t 75), none, 0⟩, ⟨some 77, .bin .add (.t 72) (.t 76), none, 0⟩, ⟨some 10, .mv (.t 77), none, 0⟩] 0 false []))) (.region [⟨some 78, .bin
  .add (.t 68) (.c (.int .i64 1)), none, 0⟩, ⟨some 68, .mv (.t 78), none, 0⟩] 0 false [])))
def L3_0 := bL3_0
theorem wL3_0 : Wp O L3_0 Q σ h = Wp O bL3_0 Q σ h := rfl
abbrev bK3_0 : AC :=
  .seq (.region [⟨some 79, .mv (.t 10), none, 0⟩, ⟨some 80, .bin .add (.c (.str [114, 32, 61, 32])) (.t 79), none, 0⟩, ⟨some 81, .bin .add (.t 80) (.c (.str [32, 37])), none, 0⟩, ⟨some 82, .off 0 (.t 8),
  none, 0⟩, ⟨some 83, .load none (.t 82), none, 0⟩, ⟨some 84, .bin .add (.t 81) (.t 83), none, 0⟩, ⟨some 85, .off 1 (.t 8), none, 0⟩, ⟨some 86, .load none (.t 85), none, 0⟩, ⟨some 87, .bin .add (.t 84)
  (.t 86), none, 0⟩, ⟨some 88, .mv (.t 9), none, 0⟩, ⟨some 89, .mv (.t 5), none, 0⟩, ⟨some 90, .call (.t 88) [.t 89], none, 0⟩, ⟨some 91, .bin .add (.t 87) (.t 90), none, 0⟩, ⟨some 92, .bin .add (.t 91)
  (.c (.str [45])), none, 0⟩, ⟨some 93, .mv (.t 9), none, 0⟩, ⟨some 94, .mv (.t 6), none, 0⟩, ⟨some 95, .call (.t 93) [.t 94], none, 0⟩, ⟨some 96, .bin .add (.t 92) (.t 95), none, 0⟩, ⟨some 13, .mv (.t
  96), none, 0⟩] 0 true [(4, 11), (7, 11), (4, 16), (7, 16)]) (.seq (.seq (.region [⟨some 97, .mv (.t 1), none, 0⟩] 0 false []) (.cond (.t 97) (.region [⟨some 98, .mv (.t 13), none, 0⟩, ⟨some 99, .call
  (.c (.fn 7 [])) [.t 98], none, 0⟩, ⟨some 13, .mv (.t 99), none, 0⟩] 0 false []) .skip)) (.seq (.region [⟨some 101, .mv (.t 13), none, 0⟩, ⟨some 102, .call (.c (.fn 8 [])) [.t 101], none, 0⟩, ⟨some 100,
  .mv (.t 102), none, 0⟩, ⟨some 103, .ext (.t 100) 0, none, 0⟩, ⟨some 104, .ext (.t 100) 1, none, 0⟩, ⟨some 105, .ext (.t 100) 2, none, 0⟩, ⟨some 14, .mv (.t 103), none, 0⟩, ⟨some 15, .mv (.t 104), none,
  0⟩, ⟨some 16, .mv (.t 105), none, 0⟩] 0 false []) (.seq (.region [⟨some 106, .mv (.t 16), none, 0⟩, ⟨some 107, .bin .neq (.t 106) (.c (.int .i64 0)), none, 0⟩, ⟨some 108, .mv (.t 107), none, 0⟩, ⟨some
  109, .mv (.t 14), some (108, false), 0⟩, ⟨some 110, .len (.t 109), some (108, false), 0⟩, ⟨some 111, .bin .neq (.t 110) (.c (.int .i64 5)), some (108, false), 0⟩, ⟨some 112, .pick (.t 108) (.c (.bool
  true)) (.t 111), none, 0⟩, ⟨some 113, .mv (.t 112), none, 0⟩, ⟨some 114, .mv (.t 14), some (113, false), 0⟩, ⟨some 115, .idx 7 (.t 114) (.c (.int .i64 2)), some (113, false), 0⟩, ⟨some 116, .load (some
  7) (.t 115), some (113, false), 0⟩, ⟨some 117, .mv (.t 0), some (113, false), 0⟩, ⟨some 118, .cvBytesStr (.t 117), some (113, false), 0⟩, ⟨some 119, .build [.int .u8 0, .int .i64 0, .str [], .int .i64
  0, .int .i64 0, .int .u8 0, .int .u8 0] [(0, 1, .c (.int .u8 11)), (1, 1, .c (.int .i64 4)), (2, 1, .t 118)], some (113, false), 0⟩, ⟨some 120, .eq true (some 7) [(0, LK.int), (1, LK.int), (2, LK.str),
  (3, LK.int), (4, LK.int), (5, LK.int), (6, LK.int)] (.t 116) (.t 119), some (113, false), 0⟩, ⟨some 121, .pick (.t 113) (.c (.bool true)) (.t 120), none, 0⟩, ⟨some 122, .mv (.t 121), none, 0⟩, ⟨some
  123, .mv (.t 14), some (122, false), 0⟩, ⟨some 124, .idx 7 (.t 123) (.c (.int .i64 3)), some (122, false), 0⟩, ⟨some 125, .load (some 7) (.t 124), some (122, false), 0⟩, ⟨some 126, .mv (.t 10), some
  (122, false), 0⟩, ⟨some 127, .lenS (.t 126), some (122, false), 0⟩, ⟨some 128, .bin .add (.c (.int .i64 5)) (.t 127), some (122, false), 0⟩, ⟨some 129, .mv (.t 5), some (122, false), 0⟩, ⟨some 130, .mv
  (.t 6), some (122, false), 0⟩, ⟨some 131, .build [.int .u8 0, .int .i64 0, .str [], .int .i64 0, .int .i64 0, .int .u8 0, .int .u8 0] [(0, 1, .c (.int .u8 12)), (1, 1, .t 128), (5, 1, .t 129), (6, 1,
  .t 130)], some (122, false), 0⟩, ⟨some 132, .eq true (some 7) [(0, LK.int), (1, LK.int), (2, LK.str), (3, LK.int), (4, LK.int), (5, LK.int), (6, LK.int)] (.t 125) (.t 131), some (122, false), 0⟩, ⟨some
  133, .pick (.t 122) (.c (.bool true)) (.t 132), none, 0⟩] 0 true []) (.cond (.t 133) (.seq (.region [⟨some 4, .mv (.c (.bool false)), none, 0⟩] 0 false []) .ret) .skip))))
def K3_0 := bK3_0
theorem wK3_0 : Wp O K3_0 Q σ h = Wp O bK3_0 Q σ h := rfl
abbrev bK3_1 : AC :=
  .region [⟨some 134, .bin .add (.t 51) (.c (.int .i64 1)), none, 0⟩, ⟨some 51, .mv (.t 134), none, 0⟩] 0 false []
def K3_1 := bK3_1
theorem wK3_1 : Wp O K3_1 Q σ h = Wp O bK3_1 Q σ h := rfl
abbrev bL3_1 : AC :=
  .seq (.region [⟨some 52, .bin .lss (.t 51) (.t 50), none, 0⟩] 0 false []) (.seq (.cond (.t 52) .skip (.exit 0)) (.seq (.block 1 (.seq (.region [⟨some 53, .idx 3 (.t 49) (.t 51), none, 0⟩, ⟨some 54,
  .load (some 3) (.t 53), none, 0⟩, ⟨some 8, .alloc [.str [], .str [], .int .i64 0], none, 0⟩, ⟨none, .store 3 (.t 8) (.t 54), none, 1⟩] 1 false []) (.seq (.region [⟨some 55, .mkfn 5 [.t 8], none, 0⟩,
  ⟨some 9, .mv (.t 55), none, 0⟩] 0 false []) (.seq (.region [⟨some 56, .off 0 (.t 8), none, 0⟩, ⟨some 57, .load none (.t 56), none, 0⟩, ⟨some 58, .bin .add (.c (.str [37])) (.t 57), none, 0⟩, ⟨some 59,
  .mv (.t 9), none, 0⟩, ⟨some 60, .mv (.t 0), none, 0⟩, ⟨some 61, .idx 1 (.t 60) (.c (.int .i64 0)), none, 0⟩, ⟨some 62, .load none (.t 61), none, 0⟩, ⟨some 63, .call (.t 59) [.t 62], none, 0⟩, ⟨some 64,
  .bin .add (.t 58) (.t 63), none, 0⟩, ⟨some 10, .mv (.t 64), none, 0⟩] 0 true [(1, 7)]) (.seq (.seq (.region [⟨some 65, .mv (.t 0), none, 0⟩, ⟨some 66, .slice 1 (.t 65) (some (.c (.int .i64 1))) none
  none, none, 0⟩, ⟨some 67, .len (.t 66), none, 0⟩, ⟨some 68, .mv (.c (.int .i64 0)), none, 0⟩] 0 false []) (.block 2 (.loop L3_0))) K3_0))))) K3_1))
def L3_1 := bL3_1
theorem wL3_1 : Wp O L3_1 Q σ h = Wp O bL3_1 Q σ h := rfl
abbrev bK3_2 : AC :=
  .seq (.region [⟨some 135, .call (.c (.fn 4 [])) [], none, 0⟩, ⟨some 4, .mv (.t 135), none, 0⟩] 0 false []) .ret
def K3_2 := bK3_2
theorem wK3_2 : Wp O K3_2 Q σ h = Wp O bK3_2 Q σ h := rfl
abbrev bB3 : AC :=
  .seq (.region [⟨some 4, .mv (.c (.bool false)), none, 0⟩] 0 false []) (.seq (.seq (.region [⟨some 17, .mv (.t 0), none, 0⟩, ⟨some 18, .len (.t 17), none, 0⟩, ⟨some 19, .bin .eql (.t 18) (.c (.int .i64
  0)), none, 0⟩, ⟨some 20, .mv (.t 19), none, 0⟩, ⟨some 21, .mv (.t 0), some (20, false), 0⟩, ⟨some 22, .len (.t 21), some (20, false), 0⟩, ⟨some 23, .bin .gtr (.t 22) (.c (.int .i64 20)), some (20,
  false), 0⟩, ⟨some 24, .pick (.t 20) (.c (.bool true)) (.t 23), none, 0⟩] 0 false []) (.cond (.t 24) (.seq (.region [⟨some 25, .call (.c (.fn 4 [])) [], none, 0⟩, ⟨some 4, .mv (.t 25), none, 0⟩] 0 false
  []) .ret) .skip)) (.seq (.region [⟨some 26, .mv (.t 0), none, 0⟩, ⟨some 27, .idx 1 (.t 26) (.c (.int .i64 0)), none, 0⟩, ⟨some 28, .load none (.t 27), none, 0⟩, ⟨some 29, .mv (.t 0), none, 0⟩, ⟨some
  30, .mv (.t 0), none, 0⟩, ⟨some 31, .len (.t 30), none, 0⟩, ⟨some 32, .bin .sub (.t 31) (.c (.int .i64 1)), none, 0⟩, ⟨some 33, .idx 1 (.t 29) (.t 32), none, 0⟩, ⟨some 34, .load none (.t 33), none, 0⟩,
  ⟨some 35, .min (.t 28) (.t 34), none, 0⟩, ⟨some 36, .mv (.t 0), none, 0⟩, ⟨some 37, .idx 1 (.t 36) (.c (.int .i64 0)), none, 0⟩, ⟨some 38, .load none (.t 37), none, 0⟩, ⟨some 39, .mv (.t 0), none, 0⟩,
  ⟨some 40, .mv (.t 0), none, 0⟩, ⟨some 41, .len (.t 40), none, 0⟩, ⟨some 42, .bin .sub (.t 41) (.c (.int .i64 1)), none, 0⟩, ⟨some 43, .idx 1 (.t 39) (.t 42), none, 0⟩, ⟨some 44, .load none (.t 43),
  none, 0⟩, ⟨some 45, .max (.t 38) (.t 44), none, 0⟩, ⟨some 5, .mv (.t 35), none, 0⟩, ⟨some 6, .mv (.t 45), none, 0⟩] 0 true []) (.seq (.seq (.region [⟨some 46, .build [.str [], .str [], .int .i64 0]
  [(0, 1, .c (.str [120])), (1, 1, .c (.str [48])), (2, 1, .c (.int .i64 16))], none, 0⟩, ⟨some 47, .build [.str [], .str [], .int .i64 0] [(0, 1, .c (.str [100])), (1, 1, .c (.str [48])), (2, 1, .c
  (.int .i64 10))], none, 0⟩, ⟨some 48, .build [.str [], .str [], .int .i64 0] [(0, 1, .c (.str [98])), (1, 1, .c (.str [])), (2, 1, .c (.int .i64 2))], none, 0⟩, ⟨some 49, .bslice 3 [.t 46, .t 47, .t
  48], none, 0⟩, ⟨some 50, .len (.t 49), none, 0⟩, ⟨some 51, .mv (.c (.int .i64 0)), none, 0⟩] 0 false []) (.block 0 (.loop L3_1))) K3_2)))
def B3 := bB3
theorem wB3 : Wp O B3 Q σ h = Wp O bB3 Q σ h := rfl
def F3 : AF := ⟨B3, [.tmp 4], false⟩
theorem tab3 : T 3 = some F3 := by kernel_rfl
/-- franking/frankinglaw01.awake -/
abbrev bB4 : AC :=
  .seq (.region [⟨some 0, .mv (.c (.bool false)), none, 0⟩] 0 false []) (.seq (.region [⟨some 11, .call (.c (.fn 8 [])) [.c (.str [97, 32, 61, 32, 49, 42, 51, 98, 32, 59, 32, 120])], none, 0⟩, ⟨some 10,
  .mv (.t 11), none, 0⟩, ⟨some 12, .ext (.t 10) 0, none, 0⟩, ⟨some 13, .ext (.t 10) 1, none, 0⟩, ⟨some 14, .ext (.t 10) 2, none, 0⟩, ⟨some 1, .mv (.t 12), none, 0⟩, ⟨some 2, .mv (.t 13), none, 0⟩, ⟨some
  3, .mv (.t 14), none, 0⟩] 0 false []) (.seq (.region [⟨some 16, .call (.c (.fn 8 [])) [.c (.str [97, 32, 61, 32, 34, 98, 34, 32, 47, 32, 37, 120, 52, 49, 45, 53, 65, 32, 37, 100, 49, 51, 46, 49, 48,
  32, 42, 32, 53, 32, 50, 42])], none, 0⟩, ⟨some 15, .mv (.t 16), none, 0⟩, ⟨some 17, .ext (.t 15) 0, none, 0⟩, ⟨some 18, .ext (.t 15) 1, none, 0⟩, ⟨some 19, .ext (.t 15) 2, none, 0⟩, ⟨some 4, .mv (.t
  17), none, 0⟩, ⟨some 5, .mv (.t 18), none, 0⟩, ⟨some 6, .mv (.t 19), none, 0⟩] 0 false []) (.seq (.region [⟨some 21, .call (.c (.fn 8 [])) [.c (.str [])], none, 0⟩, ⟨some 20, .mv (.t 21), none, 0⟩,
  ⟨some 22, .ext (.t 20) 0, none, 0⟩, ⟨some 23, .ext (.t 20) 1, none, 0⟩, ⟨some 24, .ext (.t 20) 2, none, 0⟩, ⟨some 7, .mv (.t 22), none, 0⟩, ⟨some 8, .mv (.t 23), none, 0⟩, ⟨some 9, .mv (.t 24), none,
  0⟩] 0 false []) (.seq (.seq (.region [⟨some 25, .mv (.t 3), none, 0⟩, ⟨some 26, .mv (.t 6), none, 0⟩, ⟨some 27, .bin .add (.t 25) (.t 26), none, 0⟩, ⟨some 28, .mv (.t 9), none, 0⟩, ⟨some 29, .bin .add
  (.t 27) (.t 28), none, 0⟩, ⟨some 30, .bin .neq (.t 29) (.c (.int .i64 0)), none, 0⟩, ⟨some 31, .mv (.t 30), none, 0⟩, ⟨some 32, .mv (.t 2), some (31, false), 0⟩, ⟨some 33, .mv (.t 5), some (31, false),
  0⟩, ⟨some 34, .bin .add (.t 32) (.t 33), some (31, false), 0⟩, ⟨some 35, .mv (.t 8), some (31, false), 0⟩, ⟨some 36, .bin .add (.t 34) (.t 35), some (31, false), 0⟩, ⟨some 37, .bin .neq (.t 36) (.c
  (.int .i64 0)), some (31, false), 0⟩, ⟨some 38, .pick (.t 31) (.c (.bool true)) (.t 37), none, 0⟩, ⟨some 39, .mv (.t 38), none, 0⟩, ⟨some 40, .mv (.t 7), some (39, false), 0⟩, ⟨some 41, .len (.t 40),
  some (39, false), 0⟩, ⟨some 42, .bin .neq (.t 41) (.c (.int .i64 0)), some (39, false), 0⟩, ⟨some 43, .pick (.t 39) (.c (.bool true)) (.t 42), none, 0⟩] 0 false []) (.cond (.t 43) (.seq (.region [⟨some
  0, .mv (.c (.bool false)), none, 0⟩] 0 false []) .ret) .skip)) (.seq (.seq (.region [⟨some 44, .mv (.t 1), none, 0⟩, ⟨some 45, .build [.int .u8 0, .int .i64 0, .str [], .int .i64 0, .int .i64 0, .int
  .u8 0, .int .u8 0] [(0, 1, .c (.int .u8 1)), (2, 1, .c (.str [97]))], none, 0⟩, ⟨some 46, .build [.int .u8 0, .int .i64 0, .str [], .int .i64 0, .int .i64 0, .int .u8 0, .int .u8 0] [(0, 1, .c (.int
  .u8 2)), (1, 1, .c (.int .i64 2))], none, 0⟩, ⟨some 47, .build [.int .u8 0, .int .i64 0, .str [], .int .i64 0, .int .i64 0, .int .u8 0, .int .u8 0] [(0, 1, .c (.int .u8 9)), (1, 1, .c (.int .i64 4)),
  (3, 1, .c (.int .i64 1)), (4, 1, .c (.int .i64 3))], none, 0⟩, ⟨some 48, .build [.int .u8 0, .int .i64 0, .str [], .int .i64 0, .int .i64 0, .int .u8 0, .int .u8 0] [(0, 1, .c (.int .u8 1)), (1, 1, .c
  (.int .i64 7)), (2, 1, .c (.str [98]))], none, 0⟩, ⟨some 49, .build [.int .u8 0, .int .i64 0, .str [], .int .i64 0, .int .i64 0, .int .u8 0, .int .u8 0] [(0, 1, .c (.int .u8 13)), (1, 1, .c (.int .i64
  12))], none, 0⟩, ⟨some 50, .bslice 7 [.t 45, .t 46, .t 47, .t 48, .t 49], none, 0⟩, ⟨some 51, .call (.c (.fn 9 [])) [.t 44, .t 50], none, 0⟩, ⟨some 52, .not (.t 51), none, 0⟩] 0 false []) (.cond (.t
  52) (.seq (.region [⟨some 0, .mv (.c (.bool false)), none, 0⟩] 0 false []) .ret) .skip)) (.seq (.seq (.region [⟨some 53, .mv (.t 4), none, 0⟩, ⟨some 54, .build [.int .u8 0, .int .i64 0, .str [], .int
  .i64 0, .int .i64 0, .int .u8 0, .int .u8 0] [(0, 1, .c (.int .u8 1)), (2, 1, .c (.str [97]))], none, 0⟩, ⟨some 55, .build [.int .u8 0, .int .i64 0, .str [], .int .i64 0, .int .i64 0, .int .u8 0, .int
  .u8 0] [(0, 1, .c (.int .u8 2))], none, 0⟩, ⟨some 56, .build [.int .u8 0, .int .i64 0, .str [], .int .i64 0, .int .i64 0, .int .u8 0, .int .u8 0] [(0, 1, .c (.int .u8 10)), (2, 1, .c (.str [98]))],
  none, 0⟩, ⟨some 57, .build [.int .u8 0, .int .i64 0, .str [], .int .i64 0, .int .i64 0, .int .u8 0, .int .u8 0] [(0, 1, .c (.int .u8 4))], none, 0⟩, ⟨some 58, .build [.int .u8 0, .int .i64 0, .str [],
  .int .i64 0, .int .i64 0, .int .u8 0, .int .u8 0] [(0, 1, .c (.int .u8 12)), (5, 1, .c (.int .u8 65)), (6, 1, .c (.int .u8 90))], none, 0⟩, ⟨some 59, .build [.int .u8 0, .int .i64 0, .str [], .int .i64
  0, .int .i64 0, .int .u8 0, .int .u8 0] [(0, 1, .c (.int .u8 11)), (2, 1, .c (.str [13, 10]))], none, 0⟩, ⟨some 60, .build [.int .u8 0, .int .i64 0, .str [], .int .i64 0, .int .i64 0, .int .u8 0, .int
  .u8 0] [(0, 1, .c (.int .u8 9)), (4, 1, .c (.int .i64 (-1)))], none, 0⟩, ⟨some 61, .build [.int .u8 0, .int .i64 0, .str [], .int .i64 0, .int .i64 0, .int .u8 0, .int .u8 0] [(0, 1, .c (.int .u8 9)),
  (3, 1, .c (.int .i64 5)), (4, 1, .c (.int .i64 5))], none, 0⟩, ⟨some 62, .build [.int .u8 0, .int .i64 0, .str [], .int .i64 0, .int .i64 0, .int .u8 0, .int .u8 0] [(0, 1, .c (.int .u8 9)), (3, 1, .c
  (.int .i64 2)), (4, 1, .c (.int .i64 (-1)))], none, 0⟩, ⟨some 63, .build [.int .u8 0, .int .i64 0, .str [], .int .i64 0, .int .i64 0, .int .u8 0, .int .u8 0] [(0, 1, .c (.int .u8 13))], none, 0⟩, ⟨some
  64, .bslice 7 [.t 54, .t 55, .t 56, .t 57, .t 58, .t 59, .t 60, .t 61, .t 62, .t 63], none, 0⟩, ⟨some 65, .call (.c (.fn 10 [])) [.t 53, .t 64], none, 0⟩, ⟨some 66, .not (.t 65), none, 0⟩] 0 false [])
  (.cond (.t 66) (.seq (.region [⟨some 0, .mv (.c (.bool false)), none, 0⟩] 0 false []) .ret) .skip)) (.seq (.region [⟨some 67, .call (.c (.fn 11 [])) [.c (.str [61, 32, 97]), .c (.int .i64 0), .c (.int
  .i64 10)], none, 0⟩, ⟨some 68, .mv (.t 67), none, 0⟩, ⟨some 69, .call (.c (.fn 11 [])) [.c (.str [97, 32, 61, 32, 53, 42, 51, 98]), .c (.int .i64 4), .c (.int .i64 13)], some (68, true), 0⟩, ⟨some 70,
  .pick (.t 68) (.t 69) (.c (.bool false)), none, 0⟩, ⟨some 71, .mv (.t 70), none, 0⟩, ⟨some 72, .call (.c (.fn 11 [])) [.c (.str [97, 32, 61, 32, 60, 98, 62]), .c (.int .i64 4), .c (.int .i64 16)], some
  (71, true), 0⟩, ⟨some 73, .pick (.t 71) (.t 72) (.c (.bool false)), none, 0⟩, ⟨some 74, .mv (.t 73), none, 0⟩, ⟨some 75, .call (.c (.fn 11 [])) [.c (.str [97, 32, 61, 32, 37, 120, 49, 48, 48]), .c
  (.int .i64 4), .c (.int .i64 15)], some (74, true), 0⟩, ⟨some 76, .pick (.t 74) (.t 75) (.c (.bool false)), none, 0⟩, ⟨some 77, .mv (.t 76), none, 0⟩, ⟨some 78, .call (.c (.fn 11 [])) [.c (.str [97,
  32, 61, 32, 36]), .c (.int .i64 4), .c (.int .i64 11)], some (77, true), 0⟩, ⟨some 79, .pick (.t 77) (.t 78) (.c (.bool false)), none, 0⟩, ⟨some 0, .mv (.t 79), none, 0⟩] 0 false []) .ret)))))))
def B4 := bB4
theorem wB4 : Wp O B4 Q σ h = Wp O bB4 Q σ h := rfl
def F4 : AF := ⟨B4, [.tmp 0], false⟩
theorem tab4 : T 4 = some F4 := by kernel_rfl
/-- franking/frankinglaw01.LexValues$1 -/
abbrev bB5 : AC :=
  .seq (.region [⟨some 3, .mv (.c (.str [])), none, 0⟩] 0 false []) (.seq (.region [⟨some 4, .mv (.t 0), none, 0⟩, ⟨some 5, .cvInt .u64 (.t 4), none, 0⟩, ⟨some 6, .off 2 (.t 1), none, 0⟩, ⟨some 7, .load
  none (.t 6), none, 0⟩, ⟨some 8, .call (.c (.fn 6 [])) [.t 5, .t 7], none, 0⟩, ⟨some 3, .mv (.t 8), none, 0⟩] 0 false []) .ret)
def B5 := bB5
theorem wB5 : Wp O B5 Q σ h = Wp O bB5 Q σ h := rfl
def F5 : AF := ⟨B5, [.tmp 3], false⟩
theorem tab5 : T 5 = some F5 := by kernel_rfl
/-- strconv.FormatUint -/
abbrev bB6 : AC :=
  .seq (.region [⟨some 4, .mv (.c (.str [])), none, 0⟩] 0 false []) (.seq (.region [⟨some 5, .mv (.t 0), none, 0⟩, ⟨some 6, .mv (.t 1), none, 0⟩, ⟨some 7, .call (.c (.fn 12 [])) [.t 5, .t 6], none, 0⟩,
  ⟨some 4, .mv (.t 7), none, 0⟩] 0 false []) .ret)
def B6 := bB6
theorem wB6 : Wp O B6 Q σ h = Wp O bB6 Q σ h := rfl
def F6 : AF := ⟨B6, [.tmp 4], false⟩
theorem tab6 : T 6 = some F6 := by kernel_rfl
/-- internal/strconv.FormatUint -/
abbrev bB12 : AC :=
  .seq (.region [⟨some 4, .mv (.c (.str [])), none, 0⟩] 0 false []) (.seq (.seq (.region [⟨some 9, .mv (.t 1), none, 0⟩, ⟨some 10, .bin .eql (.t 9) (.c (.int .i64 10)), none, 0⟩] 0 false []) (.cond (.t
  10) (.seq (.seq (.region [⟨some 11, .mv (.t 0), none, 0⟩, ⟨some 12, .bin .lss (.t 11) (.c (.int .u64 100)), none, 0⟩] 0 false []) (.cond (.t 12) (.seq (.region [⟨some 13, .mv (.t 0), none, 0⟩, ⟨some
  14, .cvInt .i64 (.t 13), none, 0⟩, ⟨some 15, .call (.c (.fn 26 [])) [.t 14], none, 0⟩, ⟨some 4, .mv (.t 15), none, 0⟩] 0 false []) .ret) .skip)) (.seq (.region [⟨some 5, .alloc [.int .u8 0, .int .u8 0,
  .int .u8 0, .int .u8 0, .int .u8 0, .int .u8 0, .int .u8 0, .int .u8 0, .int .u8 0, .int .u8 0, .int .u8 0, .int .u8 0, .int .u8 0, .int .u8 0, .int .u8 0, .int .u8 0, .int .u8 0, .int .u8 0, .int .u8
  0, .int .u8 0, .int .u8 0, .int .u8 0, .int .u8 0, .int .u8 0], none, 0⟩] 1 false []) (.seq (.region [⟨some 16, .mv (.t 0), none, 0⟩, ⟨some 17, .call (.c (.fn 27 [])) [.t 16], none, 0⟩, ⟨some 6, .mv
  (.t 17), none, 0⟩] 0 false []) (.seq (.region [⟨some 18, .mv (.t 6), none, 0⟩, ⟨some 19, .sliceA 1 24 (.t 5) none (some (.t 18)), none, 0⟩, ⟨some 20, .mv (.t 0), none, 0⟩, ⟨some 21, .call (.c (.fn 28
  [])) [.t 19, .t 20], none, 0⟩] 0 false []) (.seq (.region [⟨some 22, .mv (.t 6), none, 0⟩, ⟨some 23, .sliceA 1 24 (.t 5) none (some (.t 22)), none, 0⟩, ⟨some 24, .cvBytesStr (.t 23), none, 0⟩, ⟨some 4,
  .mv (.t 24), none, 0⟩] 0 false []) .ret))))) .skip)) (.seq (.region [⟨some 26, .mv (.t 0), none, 0⟩, ⟨some 27, .mv (.t 1), none, 0⟩, ⟨some 28, .call (.c (.fn 29 [])) [.c (.list 1 [] .full), .t 26, .t
  27, .c (.bool false), .c (.bool false)], none, 0⟩, ⟨some 25, .mv (.t 28), none, 0⟩, ⟨some 29, .ext (.t 25) 0, none, 0⟩, ⟨some 30, .ext (.t 25) 1, none, 0⟩, ⟨some 7, .mv (.t 29), none, 0⟩, ⟨some 8, .mv
  (.t 30), none, 0⟩] 0 false []) (.seq (.region [⟨some 31, .mv (.t 8), none, 0⟩, ⟨some 4, .mv (.t 31), none, 0⟩] 0 false []) .ret)))
def B12 := bB12
theorem wB12 : Wp O B12 Q σ h = Wp O bB12 Q σ h := rfl
def F12 : AF := ⟨B12, [.tmp 4], false⟩
theorem tab12 : T 12 = some F12 := by kernel_rfl
/-- internal/strconv.small -/
abbrev bB26 : AC :=
  .seq (.region [⟨some 2, .mv (.c (.str [])), none, 0⟩] 0 false []) (.seq (.seq (.region [⟨some 3, .mv (.t 0), none, 0⟩, ⟨some 4, .bin .lss (.t 3) (.c (.int .i64 10)), none, 0⟩] 0 false []) (.cond (.t 4)
  (.seq (.region [⟨some 5, .mv (.t 0), none, 0⟩, ⟨some 6, .mv (.t 0), none, 0⟩, ⟨some 7, .bin .add (.t 6) (.c (.int .i64 1)), none, 0⟩, ⟨some 8, .sliceS (.c (.str [48, 49, 50, 51, 52, 53, 54, 55, 56, 57,
  97, 98, 99, 100, 101, 102, 103, 104, 105, 106, 107, 108, 109, 110, 111, 112, 113, 114, 115, 116, 117, 118, 119, 120, 121, 122])) (some (.t 5)) (some (.t 7)), none, 0⟩, ⟨some 2, .mv (.t 8), none, 0⟩] 0
  false []) .ret) .skip)) (.seq (.region [⟨some 9, .mv (.t 0), none, 0⟩, ⟨some 10, .bin .mul (.t 9) (.c (.int .i64 2)), none, 0⟩, ⟨some 11, .mv (.t 0), none, 0⟩, ⟨some 12, .bin .mul (.t 11) (.c (.int
  .i64 2)), none, 0⟩, ⟨some 13, .bin .add (.t 12) (.c (.int .i64 2)), none, 0⟩, ⟨some 14, .sliceS (.c (.str [48, 48, 48, 49, 48, 50, 48, 51, 48, 52, 48, 53, 48, 54, 48, 55, 48, 56, 48, 57, 49, 48, 49,
  49, 49, 50, 49, 51, 49, 52, 49, 53, 49, 54, 49, 55, 49, 56, 49, 57, 50, 48, 50, 49, 50, 50, 50, 51, 50, 52, 50, 53, 50, 54, 50, 55, 50, 56, 50, 57, 51, 48, 51, 49, 51, 50, 51, 51, 51, 52, 51, 53, 51,
  54, 51, 55, 51, 56, 51, 57, 52, 48, 52, 49, 52, 50, 52, 51, 52, 52, 52, 53, 52, 54, 52, 55, 52, 56, 52, 57, 53, 48, 53, 49, 53, 50, 53, 51, 53, 52, 53, 53, 53, 54, 53, 55, 53, 56, 53, 57, 54, 48, 54,
  49, 54, 50, 54, 51, 54, 52, 54, 53, 54, 54, 54, 55, 54, 56, 54, 57, 55, 48, 55, 49, 55, 50, 55, 51, 55, 52, 55, 53, 55, 54, 55, 55, 55, 56, 55, 57, 56, 48, 56, 49, 56, 50, 56, 51, 56, 52, 56, 53, 56,
  54, 56, 55, 56, 56, 56, 57, 57, 48, 57, 49, 57, 50, 57, 51, 57, 52, 57, 53, 57, 54, 57, 55, 57, 56, 57, 57])) (some (.t 10)) (some (.t 13)), none, 0⟩, ⟨some 2, .mv (.t 14), none, 0⟩] 0 false []) .ret))
def B26 := bB26
theorem wB26 : Wp O B26 Q σ h = Wp O bB26 Q σ h := rfl
def F26 : AF := ⟨B26, [.tmp 2], false⟩
theorem tab26 : T 26 = some F26 := by kernel_rfl
/-- internal/strconv.numDigits -/
abbrev bB27 : AC :=
  .seq (.region [⟨some 2, .mv (.c (.int .i64 0)), none, 0⟩] 0 false []) (.seq (.region [⟨some 4, .mv (.t 0), none, 0⟩, ⟨some 5, .call (.c (.fn 53 [])) [.t 4], none, 0⟩, ⟨some 6, .call (.c (.fn 52 []))
  [.t 5], none, 0⟩, ⟨some 3, .mv (.t 6), none, 0⟩] 0 false []) (.seq (.region [⟨some 7, .mv (.t 3), none, 0⟩, ⟨some 8, .mv (.t 0), none, 0⟩, ⟨some 9, .mv (.t 3), none, 0⟩, ⟨some 10, .idxA 1 20 (.c (.eptr
  [.int .u64 1, .int .u64 10, .int .u64 100, .int .u64 1000, .int .u64 10000, .int .u64 100000, .int .u64 1000000, .int .u64 10000000, .int .u64 100000000, .int .u64 1000000000, .int .u64 10000000000,
  .int .u64 100000000000, .int .u64 1000000000000, .int .u64 10000000000000, .int .u64 100000000000000, .int .u64 1000000000000000, .int .u64 10000000000000000, .int .u64 100000000000000000, .int .u64
  1000000000000000000, .int .u64 10000000000000000000])) (.t 9), none, 0⟩, ⟨some 11, .load none (.t 10), none, 0⟩, ⟨some 12, .bin .geq (.t 8) (.t 11), none, 0⟩, ⟨some 13, .call (.c (.fn 54 [])) [.t 12],
  none, 0⟩, ⟨some 14, .bin .add (.t 7) (.t 13), none, 0⟩, ⟨some 2, .mv (.t 14), none, 0⟩] 0 false []) .ret))
def B27 := bB27
theorem wB27 : Wp O B27 Q σ h = Wp O bB27 Q σ h := rfl
def F27 : AF := ⟨B27, [.tmp 2], false⟩
theorem tab27 : T 27 = some F27 := by kernel_rfl
/-- internal/strconv.formatBase10 -/
abbrev bL28_0 : AC :=
  .seq (.seq (.region [⟨some 19, .mv (.t 4), none, 0⟩, ⟨some 20, .bin .geq (.t 19) (.c (.int .i64 8)), none, 0⟩] 0 false []) (.cond (.t 20) .skip (.exit 0))) (.block 1 (.seq (.region [⟨some 21, .mv (.t
  1), none, 0⟩, ⟨some 22, .bin .rem (.t 21) (.c (.int .u64 100000000)), none, 0⟩, ⟨some 23, .cvInt .u32 (.t 22), none, 0⟩, ⟨some 5, .mv (.t 23), none, 0⟩] 0 false []) (.seq (.region [⟨some 24, .mv (.t
  1), none, 0⟩, ⟨some 25, .bin .quo (.t 24) (.c (.int .u64 100000000)), none, 0⟩, ⟨some 1, .mv (.t 25), none, 0⟩] 0 false []) (.seq (.region [⟨some 26, .mv (.t 5), none, 0⟩, ⟨some 27, .bin .quo (.t 26)
  (.c (.int .u32 10000)), none, 0⟩, ⟨some 28, .mv (.t 5), none, 0⟩, ⟨some 29, .bin .rem (.t 28) (.c (.int .u32 10000)), none, 0⟩, ⟨some 6, .mv (.t 27), none, 0⟩, ⟨some 7, .mv (.t 29), none, 0⟩] 0 false
  []) (.seq (.region [⟨some 30, .mv (.t 7), none, 0⟩, ⟨some 31, .bin .quo (.t 30) (.c (.int .u32 100)), none, 0⟩, ⟨some 32, .bin .mul (.t 31) (.c (.int .u32 2)), none, 0⟩, ⟨some 33, .mv (.t 7), none, 0⟩,
  ⟨some 34, .bin .rem (.t 33) (.c (.int .u32 100)), none, 0⟩, ⟨some 35, .bin .mul (.t 34) (.c (.int .u32 2)), none, 0⟩, ⟨some 8, .mv (.t 32), none, 0⟩, ⟨some 9, .mv (.t 35), none, 0⟩] 0 false []) (.seq
  (.region [⟨some 36, .mv (.t 6), none, 0⟩, ⟨some 37, .bin .quo (.t 36) (.c (.int .u32 100)), none, 0⟩, ⟨some 38, .bin .mul (.t 37) (.c (.int .u32 2)), none, 0⟩, ⟨some 39, .mv (.t 6), none, 0⟩, ⟨some 40,
  .bin .rem (.t 39) (.c (.int .u32 100)), none, 0⟩, ⟨some 41, .bin .mul (.t 40) (.c (.int .u32 2)), none, 0⟩, ⟨some 10, .mv (.t 38), none, 0⟩, ⟨some 11, .mv (.t 41), none, 0⟩] 0 false []) (.seq (.region
  [⟨some 42, .mv (.t 0), none, 0⟩, ⟨some 43, .mv (.t 4), none, 0⟩, ⟨some 44, .bin .sub (.t 43) (.c (.int .i64 1)), none, 0⟩, ⟨some 45, .mv (.t 0), none, 0⟩, ⟨some 46, .mv (.t 4), none, 0⟩, ⟨some 47, .bin
  .sub (.t 46) (.c (.int .i64 2)), none, 0⟩, ⟨some 48, .mv (.t 9), none, 0⟩, ⟨some 49, .bin .add (.t 48) (.c (.int .u32 1)), none, 0⟩, ⟨some 50, .indexS (.c (.str [48, 48, 48, 49, 48, 50, 48, 51, 48, 52,
  48, 53, 48, 54, 48, 55, 48, 56, 48, 57, 49, 48, 49, 49, 49, 50, 49, 51, 49, 52, 49, 53, 49, 54, 49, 55, 49, 56, 49, 57, 50, 48, 50, 49, 50, 50, 50, 51, 50, 52, 50, 53, 50, 54, 50, 55, 50, 56, 50, 57,
  51, 48, 51, 49, 51, 50, 51, 51, 51, 52, 51, 53, 51, 54, 51, 55, 51, 56, 51, 57, 52, 48, 52, 49, 52, 50, 52, 51, 52, 52, 52, 53, 52, 54, 52, 55, 52, 56, 52, 57, 53, 48, 53, 49, 53, 50, 53, 51, 53, 52,
  53, 53, 53, 54, 53, 55, 53, 56, 53, 57, 54, 48, 54, 49, 54, 50, 54, 51, 54, 52, 54, 53, 54, 54, 54, 55, 54, 56, 54, 57, 55, 48, 55, 49, 55, 50, 55, 51, 55, 52, 55, 53, 55, 54, 55, 55, 55, 56, 55, 57,
  56, 48, 56, 49, 56, 50, 56, 51, 56, 52, 56, 53, 56, 54, 56, 55, 56, 56, 56, 57, 57, 48, 57, 49, 57, 50, 57, 51, 57, 52, 57, 53, 57, 54, 57, 55, 57, 56, 57, 57])) (.t 49), none, 0⟩, ⟨some 51, .mv (.t
  9), none, 0⟩, ⟨some 52, .indexS (.c (.str [48, 48, 48, 49, 48, 50, 48, 51, 48, 52, 48, 53, 48, 54, 48, 55, 48, 56, 48, 57, 49, 48, 49, 49, 49, 50, 49, 51, 49, 52, 49, 53, 49, 54, 49, 55, 49, 56, 49,
  57, 50, 48, 50, 49, 50, 50, 50, 51, 50, 52, 50, 53, 50, 54, 50, 55, 50, 56, 50, 57, 51, 48, 51, 49, 51, 50, 51, 51, 51, 52, 51, 53, 51, 54, 51, 55, 51, 56, 51, 57, 52, 48, 52, 49, 52, 50, 52, 51, 52,
  52, 52, 53, 52, 54, 52, 55, 52, 56, 52, 57, 53, 48, 53, 49, 53, 50, 53, 51, 53, 52, 53, 53, 53, 54, 53, 55, 53, 56, 53, 57, 54, 48, 54, 49, 54, 50, 54, 51, 54, 52, 54, 53, 54, 54, 54, 55, 54, 56, 54,
  57, 55, 48, 55, 49, 55, 50, 55, 51, 55, 52, 55, 53, 55, 54, 55, 55, 55, 56, 55, 57, 56, 48, 56, 49, 56, 50, 56, 51, 56, 52, 56, 53, 56, 54, 56, 55, 56, 56, 56, 57, 57, 48, 57, 49, 57, 50, 57, 51, 57,
  52, 57, 53, 57, 54, 57, 55, 57, 56, 57, 57])) (.t 51), none, 0⟩, ⟨some 53, .idx 1 (.t 42) (.t 44), none, 0⟩, ⟨none, .store 1 (.t 53) (.t 50), none, 0⟩, ⟨some 54, .idx 1 (.t 45) (.t 47), none, 0⟩,
  ⟨none, .store 1 (.t 54) (.t 52), none, 0⟩] 0 true []) (.seq (.region [⟨some 55, .mv (.t 0), none, 0⟩, ⟨some 56, .mv (.t 4), none, 0⟩, ⟨some 57, .bin .sub (.t 56) (.c (.int .i64 3)), none, 0⟩, ⟨some 58,
  .mv (.t 0), none, 0⟩, ⟨some 59, .mv (.t 4), none, 0⟩, ⟨some 60, .bin .sub (.t 59) (.c (.int .i64 4)), none, 0⟩, ⟨some 61, .mv (.t 8), none, 0⟩, ⟨some 62, .bin .add (.t 61) (.c (.int .u32 1)), none, 0⟩,
  ⟨some 63, .indexS (.c (.str [48, 48, 48, 49, 48, 50, 48, 51, 48, 52, 48, 53, 48, 54, 48, 55, 48, 56, 48, 57, 49, 48, 49, 49, 49, 50, 49, 51, 49, 52, 49, 53, 49, 54, 49, 55, 49, 56, 49, 57, 50, 48, 50,
  49, 50, 50, 50, 51, 50, 52, 50, 53, 50, 54, 50, 55, 50, 56, 50, 57, 51, 48, 51, 49, 51, 50, 51, 51, 51, 52, 51, 53, 51, 54, 51, 55, 51, 56, 51, 57, 52, 48, 52, 49, 52, 50, 52, 51, 52, 52, 52, 53, 52,
  54, 52, 55, 52, 56, 52, 57, 53, 48, 53, 49, 53, 50, 53, 51, 53, 52, 53, 53, 53, 54, 53, 55, 53, 56, 53, 57, 54, 48, 54, 49, 54, 50, 54, 51, 54, 52, 54, 53, 54, 54, 54, 55, 54, 56, 54, 57, 55, 48, 55,
  49, 55, 50, 55, 51, 55, 52, 55, 53, 55, 54, 55, 55, 55, 56, 55, 57, 56, 48, 56, 49, 56, 50, 56, 51, 56, 52, 56, 53, 56, 54, 56, 55, 56, 56, 56, 57, 57, 48, 57, 49, 57, 50, 57, 51, 57, 52, 57, 53, 57,
  54, 57, 55, 57, 56, 57, 57])) (.t 62), none, 0⟩, ⟨some 64, .mv (.t 8), none, 0⟩, ⟨some 65, .indexS (.c (.str [48, 48, 48, 49, 48, 50, 48, 51, 48, 52, 48, 53, 48, 54, 48, 55, 48, 56, 48, 57, 49, 48, 49,
  49, 49, 50, 49, 51, 49, 52, 49, 53, 49, 54, 49, 55, 49, 56, 49, 57, 50, 48, 50, 49, 50, 50, 50, 51, 50, 52, 50, 53, 50, 54, 50, 55, 50, 56, 50, 57, 51, 48, 51, 49, 51, 50, 51, 51, 51, 52, 51, 53, 51,
  54, 51, 55, 51, 56, 51, 57, 52, 48, 52, 49, 52, 50, 52, 51, 52, 52, 52, 53, 52, 54, 52, 55, 52, 56, 52, 57, 53, 48, 53, 49, 53, 50, 53, 51, 53, 52, 53, 53, 53, 54, 53, 55, 53, 56, 53, 57, 54, 48, 54,
  49, 54, 50, 54, 51, 54, 52, 54, 53, 54, 54, 54, 55, 54, 56, 54, 57, 55, 48, 55, 49, 55, 50, 55, 51, 55, 52, 55, 53, 55, 54, 55, 55, 55, 56, 55, 57, 56, 48, 56, 49, 56, 50, 56, 51, 56, 52, 56, 53, 56,
  54, 56, 55, 56, 56, 56, 57, 57, 48, 57, 49, 57, 50, 57, 51, 57, 52, 57, 53, 57, 54, 57, 55, 57, 56, 57, 57])) (.t 64), none, 0⟩, ⟨some 66, .idx 1 (.t 55) (.t 57), none, 0⟩, ⟨none, .store 1 (.t 66) (.t
  63), none, 0⟩, ⟨some 67, .idx 1 (.t 58) (.t 60), none, 0⟩, ⟨none, .store 1 (.t 67) (.t 65), none, 0⟩] 0 true []) (.seq (.region [⟨some 68, .mv (.t 0), none, 0⟩, ⟨some 69, .mv (.t 4), none, 0⟩, ⟨some
  70, .bin .sub (.t 69) (.c (.int .i64 5)), none, 0⟩, ⟨some 71, .mv (.t 0), none, 0⟩, ⟨some 72, .mv (.t 4), none, 0⟩, ⟨some 73, .bin .sub (.t 72) (.c (.int .i64 6)), none, 0⟩, ⟨some 74, .mv (.t 11),
  none, 0⟩, ⟨some 75, .bin .add (.t 74) (.c (.int .u32 1)), none, 0⟩, ⟨some 76, .indexS (.c (.str [48, 48, 48, 49, 48, 50, 48, 51, 48, 52, 48, 53, 48, 54, 48, 55, 48, 56, 48, 57, 49, 48, 49, 49, 49, 50,
  49, 51, 49, 52, 49, 53, 49, 54, 49, 55, 49, 56, 49, 57, 50, 48, 50, 49, 50, 50, 50, 51, 50, 52, 50, 53, 50, 54, 50, 55, 50, 56, 50, 57, 51, 48, 51, 49, 51, 50, 51, 51, 51, 52, 51, 53, 51, 54, 51, 55,
  51, 56, 51, 57, 52, 48, 52, 49, 52, 50, 52, 51, 52, 52, 52, 53, 52, 54, 52, 55, 52, 56, 52, 57, 53, 48, 53, 49, 53, 50, 53, 51, 53, 52, 53, 53, 53, 54, 53, 55, 53, 56, 53, 57, 54, 48, 54, 49, 54, 50,
  54, 51, 54, 52, 54, 53, 54, 54, 54, 55, 54, 56, 54, 57, 55, 48, 55, 49, 55, 50, 55, 51, 55, 52, 55, 53, 55, 54, 55, 55, 55, 56, 55, 57, 56, 48, 56, 49, 56, 50, 56, 51, 56, 52, 56, 53, 56, 54, 56, 55,
  56, 56, 56, 57, 57, 48, 57, 49, 57, 50, 57, 51, 57, 52, 57, 53, 57, 54, 57, 55, 57, 56, 57, 57])) (.t 75), none, 0⟩, ⟨some 77, .mv (.t 11), none, 0⟩, ⟨some 78, .indexS (.c (.str [48, 48, 48, 49, 48,
  50, 48, 51, 48, 52, 48, 53, 48, 54, 48, 55, 48, 56, 48, 57, 49, 48, 49, 49, 49, 50, 49, 51, 49, 52, 49, 53, 49, 54, 49, 55, 49, 56, 49, 57, 50, 48, 50, 49, 50, 50, 50, 51, 50, 52, 50, 53, 50, 54, 50,
  55, 50, 56, 50, 57, 51, 48, 51, 49, 51, 50, 51, 51, 51, 52, 51, 53, 51, 54, 51, 55, 51, 56, 51, 57, 52, 48, 52, 49, 52, 50, 52, 51, 52, 52, 52, 53, 52, 54, 52, 55, 52, 56, 52, 57, 53, 48, 53, 49, 53,
  50, 53, 51, 53, 52, 53, 53, 53, 54, 53, 55, 53, 56, 53, 57, 54, 48, 54, 49, 54, 50, 54, 51, 54, 52, 54, 53, 54, 54, 54, 55, 54, 56, 54, 57, 55, 48, 55, 49, 55, 50, 55, 51, 55, 52, 55, 53, 55, 54, 55,
  55, 55, 56, 55, 57, 56, 48, 56, 49, 56, 50, 56, 51, 56, 52, 56, 53, 56, 54, 56, 55, 56, 56, 56, 57, 57, 48, 57, 49, 57, 50, 57, 51, 57, 52, 57, 53, 57, 54, 57, 55, 57, 56, 57, 57])) (.t 77), none, 0⟩,
  ⟨some 79, .idx 1 (.t 68) (.t 70), none, 0⟩, ⟨none, .store 1 (.t 79) (.t 76), none, 0⟩, ⟨some 80, .idx 1 (.t 71) (.t 73), none, 0⟩, ⟨none, .store 1 (.t 80) (.t 78), none, 0⟩] 0 true []) (.seq (.region
  [⟨some 81, .mv (.t 0), none, 0⟩, ⟨some 82, .mv (.t 4), none, 0⟩, ⟨some 83, .bin .sub (.t 82) (.c (.int .i64 7)), none, 0⟩, ⟨some 84, .mv (.t 0), none, 0⟩, ⟨some 85, .mv (.t 4), none, 0⟩, ⟨some 86, .bin
  .sub (.t 85) (.c (.int .i64 8)), none, 0⟩, ⟨some 87, .mv (.t 10), none, 0⟩, ⟨some 88, .bin .add (.t 87) (.c (.int .u32 1)), none, 0⟩, ⟨some 89, .indexS (.c (.str [48, 48, 48, 49, 48, 50, 48, 51, 48,
  52, 48, 53, 48, 54, 48, 55, 48, 56, 48, 57, 49, 48, 49, 49, 49, 50, 49, 51, 49, 52, 49, 53, 49, 54, 49, 55, 49, 56, 49, 57, 50, 48, 50, 49, 50, 50, 50, 51, 50, 52, 50, 53, 50, 54, 50, 55, 50, 56, 50,
  57, 51, 48, 51, 49, 51, 50, 51, 51, 51, 52, 51, 53, 51, 54, 51, 55, 51, 56, 51, 57, 52, 48, 52, 49, 52, 50, 52, 51, 52, 52, 52, 53, 52, 54, 52, 55, 52, 56, 52, 57, 53, 48, 53, 49, 53, 50, 53, 51, 53,
  52, 53, 53, 53, 54, 53, 55, 53, 56, 53, 57, 54, 48, 54, 49, 54, 50, 54, 51, 54, 52, 54, 53, 54, 54, 54, 55, 54, 56, 54, 57, 55, 48, 55, 49, 55, 50, 55, 51, 55, 52, 55, 53, 55, 54, 55, 55, 55, 56, 55,
  57, 56, 48, 56, 49, 56, 50, 56, 51, 56, 52, 56, 53, 56, 54, 56, 55, 56, 56, 56, 57, 57, 48, 57, 49, 57, 50, 57, 51, 57, 52, 57, 53, 57, 54, 57, 55, 57, 56, 57, 57])) (.t 88), none, 0⟩, ⟨some 90, .mv
  (.t 10), none, 0⟩, ⟨some 91, .indexS (.c (.str [48, 48, 48, 49, 48, 50, 48, 51, 48, 52, 48, 53, 48, 54, 48, 55, 48, 56, 48, 57, 49, 48, 49, 49, 49, 50, 49, 51, 49, 52, 49, 53, 49, 54, 49, 55, 49, 56,
  49, 57, 50, 48, 50, 49, 50, 50, 50, 51, 50, 52, 50, 53, 50, 54, 50, 55, 50, 56, 50, 57, 51, 48, 51, 49, 51, 50, 51, 51, 51, 52, 51, 53, 51, 54, 51, 55, 51, 56, 51, 57, 52, 48, 52, 49, 52, 50, 52, 51,
  52, 52, 52, 53, 52, 54, 52, 55, 52, 56, 52, 57, 53, 48, 53, 49, 53, 50, 53, 51, 53, 52, 53, 53, 53, 54, 53, 55, 53, 56, 53, 57, 54, 48, 54, 49, 54, 50, 54, 51, 54, 52, 54, 53, 54, 54, 54, 55, 54, 56,
  54, 57, 55, 48, 55, 49, 55, 50, 55, 51, 55, 52, 55, 53, 55, 54, 55, 55, 55, 56, 55, 57, 56, 48, 56, 49, 56, 50, 56, 51, 56, 52, 56, 53, 56, 54, 56, 55, 56, 56, 56, 57, 57, 48, 57, 49, 57, 50, 57, 51,
  57, 52, 57, 53, 57, 54, 57, 55, 57, 56, 57, 57])) (.t 90), none, 0⟩, ⟨some 92, .idx 1 (.t 81) (.t 83), none, 0⟩, ⟨none, .store 1 (.t 92) (.t 89), none, 0⟩, ⟨some 93, .idx 1 (.t 84) (.t 86), none, 0⟩,
  ⟨none, .store 1 (.t 93) (.t 91), none, 0⟩] 0 true []) (.region [⟨some 94, .mv (.t 4), none, 0⟩, ⟨some 95, .bin .sub (.t 94) (.c (.int .i64 8)), none, 0⟩, ⟨some 4, .mv (.t 95), none, 0⟩] 0 false
  [])))))))))))
def L28_0 := bL28_0
theorem wL28_0 : Wp O L28_0 Q σ h = Wp O bL28_0 Q σ h := rfl
abbrev bK28_0 : AC :=
  .seq (.region [⟨some 96, .mv (.t 1), none, 0⟩, ⟨some 97, .cvInt .u32 (.t 96), none, 0⟩, ⟨some 12, .mv (.t 97), none, 0⟩] 0 false []) (.seq (.seq (.region [⟨some 98, .mv (.t 4), none, 0⟩, ⟨some 99, .bin
  .geq (.t 98) (.c (.int .i64 4)), none, 0⟩] 0 false []) (.cond (.t 99) (.seq (.region [⟨some 100, .mv (.t 12), none, 0⟩, ⟨some 101, .bin .rem (.t 100) (.c (.int .u32 10000)), none, 0⟩, ⟨some 13, .mv (.t
  101), none, 0⟩] 0 false []) (.seq (.region [⟨some 102, .mv (.t 12), none, 0⟩, ⟨some 103, .bin .quo (.t 102) (.c (.int .u32 10000)), none, 0⟩, ⟨some 12, .mv (.t 103), none, 0⟩] 0 false []) (.seq
  (.region [⟨some 104, .mv (.t 13), none, 0⟩, ⟨some 105, .bin .quo (.t 104) (.c (.int .u32 100)), none, 0⟩, ⟨some 106, .bin .mul (.t 105) (.c (.int .u32 2)), none, 0⟩, ⟨some 107, .mv (.t 13), none, 0⟩,
  ⟨some 108, .bin .rem (.t 107) (.c (.int .u32 100)), none, 0⟩, ⟨some 109, .bin .mul (.t 108) (.c (.int .u32 2)), none, 0⟩, ⟨some 14, .mv (.t 106), none, 0⟩, ⟨some 15, .mv (.t 109), none, 0⟩] 0 false [])
  (.seq (.region [⟨some 110, .mv (.t 0), none, 0⟩, ⟨some 111, .mv (.t 4), none, 0⟩, ⟨some 112, .bin .sub (.t 111) (.c (.int .i64 1)), none, 0⟩, ⟨some 113, .mv (.t 0), none, 0⟩, ⟨some 114, .mv (.t 4),
  none, 0⟩, ⟨some 115, .bin .sub (.t 114) (.c (.int .i64 2)), none, 0⟩, ⟨some 116, .mv (.t 15), none, 0⟩, ⟨some 117, .bin .add (.t 116) (.c (.int .u32 1)), none, 0⟩, ⟨some 118, .indexS (.c (.str [48, 48,
  48, 49, 48, 50, 48, 51, 48, 52, 48, 53, 48, 54, 48, 55, 48, 56, 48, 57, 49, 48, 49, 49, 49, 50, 49, 51, 49, 52, 49, 53, 49, 54, 49, 55, 49, 56, 49, 57, 50, 48, 50, 49, 50, 50, 50, 51, 50, 52, 50, 53,
  50, 54, 50, 55, 50, 56, 50, 57, 51, 48, 51, 49, 51, 50, 51, 51, 51, 52, 51, 53, 51, 54, 51, 55, 51, 56, 51, 57, 52, 48, 52, 49, 52, 50, 52, 51, 52, 52, 52, 53, 52, 54, 52, 55, 52, 56, 52, 57, 53, 48,
  53, 49, 53, 50, 53, 51, 53, 52, 53, 53, 53, 54, 53, 55, 53, 56, 53, 57, 54, 48, 54, 49, 54, 50, 54, 51, 54, 52, 54, 53, 54, 54, 54, 55, 54, 56, 54, 57, 55, 48, 55, 49, 55, 50, 55, 51, 55, 52, 55, 53,
  55, 54, 55, 55, 55, 56, 55, 57, 56, 48, 56, 49, 56, 50, 56, 51, 56, 52, 56, 53, 56, 54, 56, 55, 56, 56, 56, 57, 57, 48, 57, 49, 57, 50, 57, 51, 57, 52, 57, 53, 57, 54, 57, 55, 57, 56, 57, 57])) (.t
  117), none, 0⟩, ⟨some 119, .mv (.t 15), none, 0⟩, ⟨some 120, .indexS (.c (.str [48, 48, 48, 49, 48, 50, 48, 51, 48, 52, 48, 53, 48, 54, 48, 55, 48, 56, 48, 57, 49, 48, 49, 49, 49, 50, 49, 51, 49, 52,
  49, 53, 49, 54, 49, 55, 49, 56, 49, 57, 50, 48, 50, 49, 50, 50, 50, 51, 50, 52, 50, 53, 50, 54, 50, 55, 50, 56, 50, 57, 51, 48, 51, 49, 51, 50, 51, 51, 51, 52, 51, 53, 51, 54, 51, 55, 51, 56, 51, 57,
  52, 48, 52, 49, 52, 50, 52, 51, 52, 52, 52, 53, 52, 54, 52, 55, 52, 56, 52, 57, 53, 48, 53, 49, 53, 50, 53, 51, 53, 52, 53, 53, 53, 54, 53, 55, 53, 56, 53, 57, 54, 48, 54, 49, 54, 50, 54, 51, 54, 52,
  54, 53, 54, 54, 54, 55, 54, 56, 54, 57, 55, 48, 55, 49, 55, 50, 55, 51, 55, 52, 55, 53, 55, 54, 55, 55, 55, 56, 55, 57, 56, 48, 56, 49, 56, 50, 56, 51, 56, 52, 56, 53, 56, 54, 56, 55, 56, 56, 56, 57,
  57, 48, 57, 49, 57, 50, 57, 51, 57, 52, 57, 53, 57, 54, 57, 55, 57, 56, 57, 57])) (.t 119), none, 0⟩, ⟨some 121, .idx 1 (.t 110) (.t 112), none, 0⟩, ⟨none, .store 1 (.t 121) (.t 118), none, 0⟩, ⟨some
  122, .idx 1 (.t 113) (.t 115), none, 0⟩, ⟨none, .store 1 (.t 122) (.t 120), none, 0⟩] 0 true []) (.seq (.region [⟨some 123, .mv (.t 0), none, 0⟩, ⟨some 124, .mv (.t 4), none, 0⟩, ⟨some 125, .bin .sub
  (.t 124) (.c (.int .i64 3)), none, 0⟩, ⟨some 126, .mv (.t 0), none, 0⟩, ⟨some 127, .mv (.t 4), none, 0⟩, ⟨some 128, .bin .sub (.t 127) (.c (.int .i64 4)), none, 0⟩, ⟨some 129, .mv (.t 14), none, 0⟩,
  ⟨some 130, .bin .add (.t 129) (.c (.int .u32 1)), none, 0⟩, ⟨some 131, .indexS (.c (.str [48, 48, 48, 49, 48, 50, 48, 51, 48, 52, 48, 53, 48, 54, 48, 55, 48, 56, 48, 57, 49, 48, 49, 49, 49, 50, 49, 51,
  49, 52, 49, 53, 49, 54, 49, 55, 49, 56, 49, 57, 50, 48, 50, 49, 50, 50, 50, 51, 50, 52, 50, 53, 50, 54, 50, 55, 50, 56, 50, 57, 51, 48, 51, 49, 51, 50, 51, 51, 51, 52, 51, 53, 51, 54, 51, 55, 51, 56,
  51, 57, 52, 48, 52, 49, 52, 50, 52, 51, 52, 52, 52, 53, 52, 54, 52, 55, 52, 56, 52, 57, 53, 48, 53, 49, 53, 50, 53, 51, 53, 52, 53, 53, 53, 54, 53, 55, 53, 56, 53, 57, 54, 48, 54, 49, 54, 50, 54, 51,
  54, 52, 54, 53, 54, 54, 54, 55, 54, 56, 54, 57, 55, 48, 55, 49, 55, 50, 55, 51, 55, 52, 55, 53, 55, 54, 55, 55, 55, 56, 55, 57, 56, 48, 56, 49, 56, 50, 56, 51, 56, 52, 56, 53, 56, 54, 56, 55, 56, 56,
  56, 57, 57, 48, 57, 49, 57, 50, 57, 51, 57, 52, 57, 53, 57, 54, 57, 55, 57, 56, 57, 57])) (.t 130), none, 0⟩, ⟨some 132, .mv (.t 14), none, 0⟩, ⟨some 133, .indexS (.c (.str [48, 48, 48, 49, 48, 50, 48,
  51, 48, 52, 48, 53, 48, 54, 48, 55, 48, 56, 48, 57, 49, 48, 49, 49, 49, 50, 49, 51, 49, 52, 49, 53, 49, 54, 49, 55, 49, 56, 49, 57, 50, 48, 50, 49, 50, 50, 50, 51, 50, 52, 50, 53, 50, 54, 50, 55, 50,
  56, 50, 57, 51, 48, 51, 49, 51, 50, 51, 51, 51, 52, 51, 53, 51, 54, 51, 55, 51, 56, 51, 57, 52, 48, 52, 49, 52, 50, 52, 51, 52, 52, 52, 53, 52, 54, 52, 55, 52, 56, 52, 57, 53, 48, 53, 49, 53, 50, 53,
  51, 53, 52, 53, 53, 53, 54, 53, 55, 53, 56, 53, 57, 54, 48, 54, 49, 54, 50, 54, 51, 54, 52, 54, 53, 54, 54, 54, 55, 54, 56, 54, 57, 55, 48, 55, 49, 55, 50, 55, 51, 55, 52, 55, 53, 55, 54, 55, 55, 55,
  56, 55, 57, 56, 48, 56, 49, 56, 50, 56, 51, 56, 52, 56, 53, 56, 54, 56, 55, 56, 56, 56, 57, 57, 48, 57, 49, 57, 50, 57, 51, 57, 52, 57, 53, 57, 54, 57, 55, 57, 56, 57, 57])) (.t 132), none, 0⟩, ⟨some
  134, .idx 1 (.t 123) (.t 125), none, 0⟩, ⟨none, .store 1 (.t 134) (.t 131), none, 0⟩, ⟨some 135, .idx 1 (.t 126) (.t 128), none, 0⟩, ⟨none, .store 1 (.t 135) (.t 133), none, 0⟩] 0 true []) (.region
  [⟨some 136, .mv (.t 4), none, 0⟩, ⟨some 137, .bin .sub (.t 136) (.c (.int .i64 4)), none, 0⟩, ⟨some 4, .mv (.t 137), none, 0⟩] 0 false [])))))) .skip)) (.seq (.seq (.region [⟨some 138, .mv (.t 4),
  none, 0⟩, ⟨some 139, .bin .geq (.t 138) (.c (.int .i64 2)), none, 0⟩] 0 false []) (.cond (.t 139) (.seq (.region [⟨some 140, .mv (.t 12), none, 0⟩, ⟨some 141, .bin .rem (.t 140) (.c (.int .u32 100)),
  none, 0⟩, ⟨some 142, .bin .mul (.t 141) (.c (.int .u32 2)), none, 0⟩, ⟨some 16, .mv (.t 142), none, 0⟩] 0 false []) (.seq (.region [⟨some 143, .mv (.t 12), none, 0⟩, ⟨some 144, .bin .quo (.t 143) (.c
  (.int .u32 100)), none, 0⟩, ⟨some 12, .mv (.t 144), none, 0⟩] 0 false []) (.seq (.region [⟨some 145, .mv (.t 0), none, 0⟩, ⟨some 146, .mv (.t 4), none, 0⟩, ⟨some 147, .bin .sub (.t 146) (.c (.int .i64
  1)), none, 0⟩, ⟨some 148, .mv (.t 0), none, 0⟩, ⟨some 149, .mv (.t 4), none, 0⟩, ⟨some 150, .bin .sub (.t 149) (.c (.int .i64 2)), none, 0⟩, ⟨some 151, .mv (.t 16), none, 0⟩, ⟨some 152, .bin .add (.t
  151) (.c (.int .u32 1)), none, 0⟩, ⟨some 153, .indexS (.c (.str [48, 48, 48, 49, 48, 50, 48, 51, 48, 52, 48, 53, 48, 54, 48, 55, 48, 56, 48, 57, 49, 48, 49, 49, 49, 50, 49, 51, 49, 52, 49, 53, 49, 54,
  49, 55, 49, 56, 49, 57, 50, 48, 50, 49, 50, 50, 50, 51, 50, 52, 50, 53, 50, 54, 50, 55, 50, 56, 50, 57, 51, 48, 51, 49, 51, 50, 51, 51, 51, 52, 51, 53, 51, 54, 51, 55, 51, 56, 51, 57, 52, 48, 52, 49,
  52, 50, 52, 51, 52, 52, 52, 53, 52, 54, 52, 55, 52, 56, 52, 57, 53, 48, 53, 49, 53, 50, 53, 51, 53, 52, 53, 53, 53, 54, 53, 55, 53, 56, 53, 57, 54, 48, 54, 49, 54, 50, 54, 51, 54, 52, 54, 53, 54, 54,
  54, 55, 54, 56, 54, 57, 55, 48, 55, 49, 55, 50, 55, 51, 55, 52, 55, 53, 55, 54, 55, 55, 55, 56, 55, 57, 56, 48, 56, 49, 56, 50, 56, 51, 56, 52, 56, 53, 56, 54, 56, 55, 56, 56, 56, 57, 57, 48, 57, 49,
  57, 50, 57, 51, 57, 52, 57, 53, 57, 54, 57, 55, 57, 56, 57, 57])) (.t 152), none, 0⟩, ⟨some 154, .mv (.t 16), none, 0⟩, ⟨some 155, .indexS (.c (.str [48, 48, 48, 49, 48, 50, 48, 51, 48, 52, 48, 53, 48,
  54, 48, 55, 48, 56, 48, 57, 49, 48, 49, 49, 49, 50, 49, 51, 49, 52, 49, 53, 49, 54, 49, 55, 49, 56, 49, 57, 50, 48, 50, 49, 50, 50, 50, 51, 50, 52, 50, 53, 50, 54, 50, 55, 50, 56, 50, 57, 51, 48, 51,
  49, 51, 50, 51, 51, 51, 52, 51, 53, 51, 54, 51, 55, 51, 56, 51, 57, 52, 48, 52, 49, 52, 50, 52, 51, 52, 52, 52, 53, 52, 54, 52, 55, 52, 56, 52, 57, 53, 48, 53, 49, 53, 50, 53, 51, 53, 52, 53, 53, 53,
  54, 53, 55, 53, 56, 53, 57, 54, 48, 54, 49, 54, 50, 54, 51, 54, 52, 54, 53, 54, 54, 54, 55, 54, 56, 54, 57, 55, 48, 55, 49, 55, 50, 55, 51, 55, 52, 55, 53, 55, 54, 55, 55, 55, 56, 55, 57, 56, 48, 56,
  49, 56, 50, 56, 51, 56, 52, 56, 53, 56, 54, 56, 55, 56, 56, 56, 57, 57, 48, 57, 49, 57, 50, 57, 51, 57, 52, 57, 53, 57, 54, 57, 55, 57, 56, 57, 57])) (.t 154), none, 0⟩, ⟨some 156, .idx 1 (.t 145) (.t
  147), none, 0⟩, ⟨none, .store 1 (.t 156) (.t 153), none, 0⟩, ⟨some 157, .idx 1 (.t 148) (.t 150), none, 0⟩, ⟨none, .store 1 (.t 157) (.t 155), none, 0⟩] 0 true []) (.region [⟨some 158, .mv (.t 4),
  none, 0⟩, ⟨some 159, .bin .sub (.t 158) (.c (.int .i64 2)), none, 0⟩, ⟨some 4, .mv (.t 159), none, 0⟩] 0 false [])))) .skip)) (.seq (.region [⟨some 160, .mv (.t 4), none, 0⟩, ⟨some 161, .bin .gtr (.t
  160) (.c (.int .i64 0)), none, 0⟩] 0 false []) (.cond (.t 161) (.region [⟨some 162, .mv (.t 0), none, 0⟩, ⟨some 163, .mv (.t 12), none, 0⟩, ⟨some 164, .bin .add (.c (.int .u32 48)) (.t 163), none, 0⟩,
  ⟨some 165, .cvInt .u8 (.t 164), none, 0⟩, ⟨some 166, .idx 1 (.t 162) (.c (.int .i64 0)), none, 0⟩, ⟨none, .store 1 (.t 166) (.t 165), none, 0⟩] 0 false []) .skip))))
def K28_0 := bK28_0
theorem wK28_0 : Wp O K28_0 Q σ h = Wp O bK28_0 Q σ h := rfl
abbrev bB28 : AC :=
  .seq (.region [⟨some 17, .mv (.t 0), none, 0⟩, ⟨some 18, .len (.t 17), none, 0⟩, ⟨some 4, .mv (.t 18), none, 0⟩] 0 false []) (.seq (.block 0 (.loop L28_0)) K28_0)
def B28 := bB28
theorem wB28 : Wp O B28 Q σ h = Wp O bB28 Q σ h := rfl
def F28 : AF := ⟨B28, [], true⟩
theorem tab28 : T 28 = some F28 := by kernel_rfl
/-- internal/strconv.formatBits -/
abbrev bL29_0 : AC :=
  .seq (.seq (.region [⟨some 44, .mv (.t 1), none, 0⟩, ⟨some 45, .mv (.t 15), none, 0⟩, ⟨some 46, .bin .geq (.t 44) (.t 45), none, 0⟩] 0 false []) (.cond (.t 46) .skip (.exit 0))) (.block 1 (.seq
  (.region [⟨some 47, .mv (.t 13), none, 0⟩, ⟨some 48, .bin .sub (.t 47) (.c (.int .i64 1)), none, 0⟩, ⟨some 13, .mv (.t 48), none, 0⟩] 0 false []) (.seq (.region [⟨some 49, .mv (.t 13), none, 0⟩, ⟨some
  50, .mv (.t 1), none, 0⟩, ⟨some 51, .mv (.t 16), none, 0⟩, ⟨some 52, .bin .and (.t 50) (.t 51), none, 0⟩, ⟨some 53, .indexS (.c (.str [48, 49, 50, 51, 52, 53, 54, 55, 56, 57, 97, 98, 99, 100, 101, 102,
  103, 104, 105, 106, 107, 108, 109, 110, 111, 112, 113, 114, 115, 116, 117, 118, 119, 120, 121, 122])) (.t 52), none, 0⟩, ⟨some 54, .idxA 1 65 (.t 12) (.t 49), none, 0⟩, ⟨none, .store 1 (.t 54) (.t 53),
  none, 0⟩] 0 false []) (.region [⟨some 55, .mv (.t 1), none, 0⟩, ⟨some 56, .mv (.t 14), none, 0⟩, ⟨some 57, .bin .shr (.t 55) (.t 56), none, 0⟩, ⟨some 1, .mv (.t 57), none, 0⟩] 0 false []))))
def L29_0 := bL29_0
theorem wL29_0 : Wp O L29_0 Q σ h = Wp O bL29_0 Q σ h := rfl
abbrev bK29_0 : AC :=
  .seq (.region [⟨some 58, .mv (.t 13), none, 0⟩, ⟨some 59, .bin .sub (.t 58) (.c (.int .i64 1)), none, 0⟩, ⟨some 13, .mv (.t 59), none, 0⟩] 0 false []) (.region [⟨some 60, .mv (.t 13), none, 0⟩, ⟨some
  61, .mv (.t 1), none, 0⟩, ⟨some 62, .indexS (.c (.str [48, 49, 50, 51, 52, 53, 54, 55, 56, 57, 97, 98, 99, 100, 101, 102, 103, 104, 105, 106, 107, 108, 109, 110, 111, 112, 113, 114, 115, 116, 117, 118,
  119, 120, 121, 122])) (.t 61), none, 0⟩, ⟨some 63, .idxA 1 65 (.t 12) (.t 60), none, 0⟩, ⟨none, .store 1 (.t 63) (.t 62), none, 0⟩] 0 false [])
def K29_0 := bK29_0
theorem wK29_0 : Wp O K29_0 Q σ h = Wp O bK29_0 Q σ h := rfl
abbrev bL29_1 : AC :=
  .seq (.seq (.region [⟨some 66, .mv (.t 1), none, 0⟩, ⟨some 67, .mv (.t 17), none, 0⟩, ⟨some 68, .bin .geq (.t 66) (.t 67), none, 0⟩] 0 false []) (.cond (.t 68) .skip (.exit 2))) (.block 3 (.seq
  (.region [⟨some 69, .mv (.t 13), none, 0⟩, ⟨some 70, .bin .sub (.t 69) (.c (.int .i64 1)), none, 0⟩, ⟨some 13, .mv (.t 70), none, 0⟩] 0 false []) (.seq (.region [⟨some 71, .mv (.t 1), none, 0⟩, ⟨some
  72, .mv (.t 17), none, 0⟩, ⟨some 73, .bin .quo (.t 71) (.t 72), none, 0⟩, ⟨some 18, .mv (.t 73), none, 0⟩] 0 false []) (.seq (.region [⟨some 74, .mv (.t 13), none, 0⟩, ⟨some 75, .mv (.t 1), none, 0⟩,
  ⟨some 76, .mv (.t 18), none, 0⟩, ⟨some 77, .mv (.t 17), none, 0⟩, ⟨some 78, .bin .mul (.t 76) (.t 77), none, 0⟩, ⟨some 79, .bin .sub (.t 75) (.t 78), none, 0⟩, ⟨some 80, .indexS (.c (.str [48, 49, 50,
  51, 52, 53, 54, 55, 56, 57, 97, 98, 99, 100, 101, 102, 103, 104, 105, 106, 107, 108, 109, 110, 111, 112, 113, 114, 115, 116, 117, 118, 119, 120, 121, 122])) (.t 79), none, 0⟩, ⟨some 81, .idxA 1 65 (.t
  12) (.t 74), none, 0⟩, ⟨none, .store 1 (.t 81) (.t 80), none, 0⟩] 0 false []) (.region [⟨some 82, .mv (.t 18), none, 0⟩, ⟨some 1, .mv (.t 82), none, 0⟩] 0 false [])))))
def L29_1 := bL29_1
theorem wL29_1 : Wp O L29_1 Q σ h = Wp O bL29_1 Q σ h := rfl
abbrev bK29_1 : AC :=
  .seq (.region [⟨some 83, .mv (.t 13), none, 0⟩, ⟨some 84, .bin .sub (.t 83) (.c (.int .i64 1)), none, 0⟩, ⟨some 13, .mv (.t 84), none, 0⟩] 0 false []) (.region [⟨some 85, .mv (.t 13), none, 0⟩, ⟨some
  86, .mv (.t 1), none, 0⟩, ⟨some 87, .indexS (.c (.str [48, 49, 50, 51, 52, 53, 54, 55, 56, 57, 97, 98, 99, 100, 101, 102, 103, 104, 105, 106, 107, 108, 109, 110, 111, 112, 113, 114, 115, 116, 117, 118,
  119, 120, 121, 122])) (.t 86), none, 0⟩, ⟨some 88, .idxA 1 65 (.t 12) (.t 85), none, 0⟩, ⟨none, .store 1 (.t 88) (.t 87), none, 0⟩] 0 false [])
def K29_1 := bK29_1
theorem wK29_1 : Wp O K29_1 Q σ h = Wp O bK29_1 Q σ h := rfl
abbrev bK29_2 : AC :=
  .seq (.seq (.region [⟨some 89, .mv (.t 3), none, 0⟩] 0 false []) (.cond (.t 89) (.seq (.region [⟨some 90, .mv (.t 13), none, 0⟩, ⟨some 91, .bin .sub (.t 90) (.c (.int .i64 1)), none, 0⟩, ⟨some 13, .mv
  (.t 91), none, 0⟩] 0 false []) (.region [⟨some 92, .mv (.t 13), none, 0⟩, ⟨some 93, .idxA 1 65 (.t 12) (.t 92), none, 0⟩, ⟨none, .store 1 (.t 93) (.c (.int .u8 45)), none, 0⟩] 0 false [])) .skip))
  (.seq (.seq (.region [⟨some 94, .mv (.t 4), none, 0⟩] 0 false []) (.cond (.t 94) (.seq (.region [⟨some 95, .mv (.t 0), none, 0⟩, ⟨some 96, .mv (.t 13), none, 0⟩, ⟨some 97, .sliceA 1 65 (.t 12) (some
  (.t 96)) none, none, 0⟩, ⟨some 98, .append 1 1 5 (.t 95) (.t 97), none, 0⟩, ⟨some 10, .mv (.t 98), none, 1⟩] 1 false []) .ret) .skip)) (.seq (.region [⟨some 99, .mv (.t 13), none, 0⟩, ⟨some 100,
  .sliceA 1 65 (.t 12) (some (.t 99)) none, none, 0⟩, ⟨some 101, .cvBytesStr (.t 100), none, 0⟩, ⟨some 11, .mv (.t 101), none, 0⟩] 0 false []) .ret))
def K29_2 := bK29_2
theorem wK29_2 : Wp O K29_2 Q σ h = Wp O bK29_2 Q σ h := rfl
abbrev bB29 : AC :=
  .seq (.region [⟨some 10, .mv (.c (.list 1 [] .full)), none, 0⟩, ⟨some 11, .mv (.c (.str [])), none, 0⟩] 0 false []) (.seq (.seq (.region [⟨some 19, .mv (.t 2), none, 0⟩, ⟨some 20, .bin .lss (.t 19) (.c
  (.int .i64 2)), none, 0⟩, ⟨some 21, .mv (.t 20), none, 0⟩, ⟨some 22, .mv (.t 2), some (21, false), 0⟩, ⟨some 23, .bin .eql (.t 22) (.c (.int .i64 10)), some (21, false), 0⟩, ⟨some 24, .pick (.t 21) (.c
  (.bool true)) (.t 23), none, 0⟩, ⟨some 25, .mv (.t 24), none, 0⟩, ⟨some 26, .mv (.t 2), some (25, false), 0⟩, ⟨some 27, .bin .gtr (.t 26) (.c (.int .i64 36)), some (25, false), 0⟩, ⟨some 28, .pick (.t
  25) (.c (.bool true)) (.t 27), none, 0⟩] 0 false []) (.cond (.t 28) (.region [⟨some 29, .mkiface 9 (.c (.str [115, 116, 114, 99, 111, 110, 118, 58, 32, 105, 108, 108, 101, 103, 97, 108, 32, 65, 112,
  112, 101, 110, 100, 73, 110, 116, 47, 70, 111, 114, 109, 97, 116, 73, 110, 116, 32, 98, 97, 115, 101])), none, 0⟩, ⟨none, .fail, none, 0⟩] 0 false []) .skip)) (.seq (.region [⟨some 12, .alloc [.int .u8
  0, .int .u8 0, .int .u8 0, .int .u8 0, .int .u8 0, .int .u8 0, .int .u8 0, .int .u8 0, .int .u8 0, .int .u8 0, .int .u8 0, .int .u8 0, .int .u8 0, .int .u8 0, .int .u8 0, .int .u8 0, .int .u8 0, .int
  .u8 0, .int .u8 0, .int .u8 0, .int .u8 0, .int .u8 0, .int .u8 0, .int .u8 0, .int .u8 0, .int .u8 0, .int .u8 0, .int .u8 0, .int .u8 0, .int .u8 0, .int .u8 0, .int .u8 0, .int .u8 0, .int .u8 0,
  .int .u8 0, .int .u8 0, .int .u8 0, .int .u8 0, .int .u8 0, .int .u8 0, .int .u8 0, .int .u8 0, .int .u8 0, .int .u8 0, .int .u8 0, .int .u8 0, .int .u8 0, .int .u8 0, .int .u8 0, .int .u8 0, .int .u8
  0, .int .u8 0, .int .u8 0, .int .u8 0, .int .u8 0, .int .u8 0, .int .u8 0, .int .u8 0, .int .u8 0, .int .u8 0, .int .u8 0, .int .u8 0, .int .u8 0, .int .u8 0, .int .u8 0], none, 0⟩] 1 false []) (.seq
  (.region [⟨some 13, .mv (.c (.int .i64 65)), none, 0⟩] 0 false []) (.seq (.seq (.region [⟨some 30, .mv (.t 3), none, 0⟩] 0 false []) (.cond (.t 30) (.region [⟨some 31, .mv (.t 1), none, 0⟩, ⟨some 32,
  .neg (.t 31), none, 0⟩, ⟨some 1, .mv (.t 32), none, 0⟩] 0 false []) .skip)) (.seq (.seq (.region [⟨some 33, .mv (.t 2), none, 0⟩, ⟨some 34, .call (.c (.fn 55 [])) [.t 33], none, 0⟩] 0 false []) (.cond
  (.t 34) (.seq (.region [⟨some 35, .mv (.t 2), none, 0⟩, ⟨some 36, .cvInt .u64 (.t 35), none, 0⟩, ⟨some 37, .call (.c (.fn 56 [])) [.t 36], none, 0⟩, ⟨some 38, .cvInt .u64 (.t 37), none, 0⟩, ⟨some 14,
  .mv (.t 38), none, 0⟩] 0 false []) (.seq (.region [⟨some 39, .mv (.t 2), none, 0⟩, ⟨some 40, .cvInt .u64 (.t 39), none, 0⟩, ⟨some 15, .mv (.t 40), none, 0⟩] 0 false []) (.seq (.region [⟨some 41, .mv
  (.t 2), none, 0⟩, ⟨some 42, .cvInt .u64 (.t 41), none, 0⟩, ⟨some 43, .bin .sub (.t 42) (.c (.int .u64 1)), none, 0⟩, ⟨some 16, .mv (.t 43), none, 0⟩] 0 false []) (.seq (.block 0 (.loop L29_0))
  K29_0)))) (.seq (.region [⟨some 64, .mv (.t 2), none, 0⟩, ⟨some 65, .cvInt .u64 (.t 64), none, 0⟩, ⟨some 17, .mv (.t 65), none, 0⟩] 0 false []) (.seq (.block 2 (.loop L29_1)) K29_1)))) K29_2)))))
def B29 := bB29
theorem wB29 : Wp O B29 Q σ h = Wp O bB29 Q σ h := rfl
def F29 : AF := ⟨B29, [.tmp 10, .tmp 11], false⟩
theorem tab29 : T 29 = some F29 := by kernel_rfl
/-- internal/strconv.log10Pow2 -/
abbrev bB52 : AC :=
  .seq (.region [⟨some 2, .mv (.c (.int .i64 0)), none, 0⟩] 0 false []) (.seq (.region [⟨some 3, .mv (.t 0), none, 0⟩, ⟨some 4, .bin .mul (.t 3) (.c (.int .i64 78913)), none, 0⟩, ⟨some 5, .bin .shr (.t
  4) (.c (.int .u64 18)), none, 0⟩, ⟨some 2, .mv (.t 5), none, 0⟩] 0 false []) .ret)
def B52 := bB52
theorem wB52 : Wp O B52 Q σ h = Wp O bB52 Q σ h := rfl
def F52 : AF := ⟨B52, [.tmp 2], false⟩
theorem tab52 : T 52 = some F52 := by kernel_rfl
/-- math/bits.Len64 -/
abbrev bB53 : AC :=
  .seq (.region [⟨some 2, .mv (.c (.int .i64 0)), none, 0⟩] 0 false []) (.seq (.seq (.region [⟨some 3, .mv (.t 0), none, 0⟩, ⟨some 4, .bin .geq (.t 3) (.c (.int .u64 4294967296)), none, 0⟩] 0 false [])
  (.cond (.t 4) (.seq (.region [⟨some 5, .mv (.t 0), none, 0⟩, ⟨some 6, .bin .shr (.t 5) (.c (.int .u64 32)), none, 0⟩, ⟨some 0, .mv (.t 6), none, 0⟩] 0 false []) (.region [⟨some 2, .mv (.c (.int .i64
  32)), none, 0⟩] 0 false [])) .skip)) (.seq (.seq (.region [⟨some 7, .mv (.t 0), none, 0⟩, ⟨some 8, .bin .geq (.t 7) (.c (.int .u64 65536)), none, 0⟩] 0 false []) (.cond (.t 8) (.seq (.region [⟨some 9,
  .mv (.t 0), none, 0⟩, ⟨some 10, .bin .shr (.t 9) (.c (.int .u64 16)), none, 0⟩, ⟨some 0, .mv (.t 10), none, 0⟩] 0 false []) (.region [⟨some 11, .mv (.t 2), none, 0⟩, ⟨some 12, .bin .add (.t 11) (.c
  (.int .i64 16)), none, 0⟩, ⟨some 2, .mv (.t 12), none, 0⟩] 0 false [])) .skip)) (.seq (.seq (.region [⟨some 13, .mv (.t 0), none, 0⟩, ⟨some 14, .bin .geq (.t 13) (.c (.int .u64 256)), none, 0⟩] 0 false
  []) (.cond (.t 14) (.seq (.region [⟨some 15, .mv (.t 0), none, 0⟩, ⟨some 16, .bin .shr (.t 15) (.c (.int .u64 8)), none, 0⟩, ⟨some 0, .mv (.t 16), none, 0⟩] 0 false []) (.region [⟨some 17, .mv (.t 2),
  none, 0⟩, ⟨some 18, .bin .add (.t 17) (.c (.int .i64 8)), none, 0⟩, ⟨some 2, .mv (.t 18), none, 0⟩] 0 false [])) .skip)) (.seq (.region [⟨some 19, .mv (.t 2), none, 0⟩, ⟨some 20, .mv (.t 0), none, 0⟩,
  ⟨some 21, .cvInt .u8 (.t 20), none, 0⟩, ⟨some 22, .indexS (.c (.str [0, 1, 2, 2, 3, 3, 3, 3, 4, 4, 4, 4, 4, 4, 4, 4, 5, 5, 5, 5, 5, 5, 5, 5, 5, 5, 5, 5, 5, 5, 5, 5, 6, 6, 6, 6, 6, 6, 6, 6, 6, 6, 6, 6,
  6, 6, 6, 6, 6, 6, 6, 6, 6, 6, 6, 6, 6, 6, 6, 6, 6, 6, 6, 6, 7, 7, 7, 7, 7, 7, 7, 7, 7, 7, 7, 7, 7, 7, 7, 7, 7, 7, 7, 7, 7, 7, 7, 7, 7, 7, 7, 7, 7, 7, 7, 7, 7, 7, 7, 7, 7, 7, 7, 7, 7, 7, 7, 7, 7, 7, 7,
  7, 7, 7, 7, 7, 7, 7, 7, 7, 7, 7, 7, 7, 7, 7, 7, 7, 8, 8, 8, 8, 8, 8, 8, 8, 8, 8, 8, 8, 8, 8, 8, 8, 8, 8, 8, 8, 8, 8, 8, 8, 8, 8, 8, 8, 8, 8, 8, 8, 8, 8, 8, 8, 8, 8, 8, 8, 8, 8, 8, 8, 8, 8, 8, 8, 8, 8,
  8, 8, 8, 8, 8, 8, 8, 8, 8, 8, 8, 8, 8, 8, 8, 8, 8, 8, 8, 8, 8, 8, 8, 8, 8, 8, 8, 8, 8, 8, 8, 8, 8, 8, 8, 8, 8, 8, 8, 8, 8, 8, 8, 8, 8, 8, 8, 8, 8, 8, 8, 8, 8, 8, 8, 8, 8, 8, 8, 8, 8, 8, 8, 8, 8, 8, 8,
  8, 8, 8, 8, 8, 8, 8, 8, 8, 8, 8])) (.t 21), none, 0⟩, ⟨some 23, .cvInt .i64 (.t 22), none, 0⟩, ⟨some 24, .bin .add (.t 19) (.t 23), none, 0⟩, ⟨some 2, .mv (.t 24), none, 0⟩] 0 false []) .ret))))
def B53 := bB53
theorem wB53 : Wp O B53 Q σ h = Wp O bB53 Q σ h := rfl
def F53 : AF := ⟨B53, [.tmp 2], false⟩
theorem tab53 : T 53 = some F53 := by kernel_rfl
/-- internal/strconv.bool2[int] -/
abbrev bB54 : AC :=
  .seq (.region [⟨some 2, .mv (.c (.int .i64 0)), none, 0⟩] 0 false []) (.seq (.seq (.region [⟨some 3, .mv (.t 0), none, 0⟩] 0 false []) (.cond (.t 3) (.seq (.region [⟨some 2, .mv (.c (.int .i64 1)),
  none, 0⟩] 0 false []) .ret) .skip)) (.seq (.region [⟨some 2, .mv (.c (.int .i64 0)), none, 0⟩] 0 false []) .ret))
def B54 := bB54
theorem wB54 : Wp O B54 Q σ h = Wp O bB54 Q σ h := rfl
def F54 : AF := ⟨B54, [.tmp 2], false⟩
theorem tab54 : T 54 = some F54 := by kernel_rfl
/-- internal/strconv.isPowerOfTwo -/
abbrev bB55 : AC :=
  .seq (.region [⟨some 2, .mv (.c (.bool false)), none, 0⟩] 0 false []) (.seq (.region [⟨some 3, .mv (.t 0), none, 0⟩, ⟨some 4, .mv (.t 0), none, 0⟩, ⟨some 5, .bin .sub (.t 4) (.c (.int .i64 1)), none,
  0⟩, ⟨some 6, .bin .and (.t 3) (.t 5), none, 0⟩, ⟨some 7, .bin .eql (.t 6) (.c (.int .i64 0)), none, 0⟩, ⟨some 2, .mv (.t 7), none, 0⟩] 0 false []) .ret)
def B55 := bB55
theorem wB55 : Wp O B55 Q σ h = Wp O bB55 Q σ h := rfl
def F55 : AF := ⟨B55, [.tmp 2], false⟩
theorem tab55 : T 55 = some F55 := by kernel_rfl
/-- math/bits.TrailingZeros -/
abbrev bB56 : AC :=
  .seq (.region [⟨some 2, .mv (.c (.int .i64 0)), none, 0⟩] 0 false []) (.seq (.cond (.c (.bool false)) (.seq (.region [⟨some 3, .mv (.t 0), none, 0⟩, ⟨some 4, .cvInt .u32 (.t 3), none, 0⟩, ⟨some 5,
  .call (.c (.fn 72 [])) [.t 4], none, 0⟩, ⟨some 2, .mv (.t 5), none, 0⟩] 0 false []) .ret) .skip) (.seq (.region [⟨some 6, .mv (.t 0), none, 0⟩, ⟨some 7, .call (.c (.fn 73 [])) [.t 6], none, 0⟩, ⟨some
  2, .mv (.t 7), none, 0⟩] 0 false []) .ret))
def B56 := bB56
theorem wB56 : Wp O B56 Q σ h = Wp O bB56 Q σ h := rfl
def F56 : AF := ⟨B56, [.tmp 2], false⟩
theorem tab56 : T 56 = some F56 := by kernel_rfl
/-- math/bits.TrailingZeros64 -/
abbrev bB73 : AC :=
  .seq (.region [⟨some 2, .mv (.c (.int .i64 0)), none, 0⟩] 0 false []) (.seq (.seq (.region [⟨some 3, .mv (.t 0), none, 0⟩, ⟨some 4, .bin .eql (.t 3) (.c (.int .u64 0)), none, 0⟩] 0 false []) (.cond (.t
  4) (.seq (.region [⟨some 2, .mv (.c (.int .i64 64)), none, 0⟩] 0 false []) .ret) .skip)) (.seq (.region [⟨some 5, .mv (.t 0), none, 0⟩, ⟨some 6, .mv (.t 0), none, 0⟩, ⟨some 7, .neg (.t 6), none, 0⟩,
  ⟨some 8, .bin .and (.t 5) (.t 7), none, 0⟩, ⟨some 9, .bin .mul (.t 8) (.c (.int .u64 285870213051353865)), none, 0⟩, ⟨some 10, .bin .shr (.t 9) (.c (.int .u64 58)), none, 0⟩, ⟨some 11, .idxA 1 64 (.c
  (.eptr [.int .u8 0, .int .u8 1, .int .u8 56, .int .u8 2, .int .u8 57, .int .u8 49, .int .u8 28, .int .u8 3, .int .u8 61, .int .u8 58, .int .u8 42, .int .u8 50, .int .u8 38, .int .u8 29, .int .u8 17,
  .int .u8 4, .int .u8 62, .int .u8 47, .int .u8 59, .int .u8 36, .int .u8 45, .int .u8 43, .int .u8 51, .int .u8 22, .int .u8 53, .int .u8 39, .int .u8 33, .int .u8 30, .int .u8 24, .int .u8 18, .int
  .u8 12, .int .u8 5, .int .u8 63, .int .u8 55, .int .u8 48, .int .u8 27, .int .u8 60, .int .u8 41, .int .u8 37, .int .u8 16, .int .u8 46, .int .u8 35, .int .u8 44, .int .u8 21, .int .u8 52, .int .u8 32,
  .int .u8 23, .int .u8 11, .int .u8 54, .int .u8 26, .int .u8 40, .int .u8 15, .int .u8 34, .int .u8 20, .int .u8 31, .int .u8 10, .int .u8 25, .int .u8 14, .int .u8 19, .int .u8 9, .int .u8 13, .int
  .u8 8, .int .u8 7, .int .u8 6])) (.t 10), none, 0⟩, ⟨some 12, .load none (.t 11), none, 0⟩, ⟨some 13, .cvInt .i64 (.t 12), none, 0⟩, ⟨some 2, .mv (.t 13), none, 0⟩] 0 false []) .ret))
def B73 := bB73
theorem wB73 : Wp O B73 Q σ h = Wp O bB73 Q σ h := rfl
def F73 : AF := ⟨B73, [.tmp 2], false⟩
theorem tab73 : T 73 = some F73 := by kernel_rfl
theorem mixed : Tryd.prog.follows .mixedOrders = true := by kernel_rfl
end Go.Proofs.YtiobaboailhafaaDoor
