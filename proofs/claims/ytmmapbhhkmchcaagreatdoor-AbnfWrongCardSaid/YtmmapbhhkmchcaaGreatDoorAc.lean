/-
  The abstract code of the functions that the laws reach.
-/
import Derived.Test.YtmmapbhhkmchcaaGreatDoorProg
import Derived.Test.YtmmapbhhkmchcaaGreatDoorAmC
import Derived.KernelRfl
set_option linter.unusedVariables false
set_option maxRecDepth 100000
namespace Go.Proofs.YtmmapbhhkmchcaaGreatDoor
open Go Go.Am
noncomputable def T : FuncId → Option AF := table Tryz.prog ["abnf.go:134", "abnf.go:163", "ref.go:107"] ["franking/lex.rows", "franking/lex.rows$1", "franking/lex.sign", "franking/lex.value$1", "franking/frankinglaw02.leaves"]
variable {O : Orc} {Q : Ex → Slots → Heap → Prop} {σ : Slots} {h : Heap}
/-- franking/lex.Lex -/
abbrev bJ10_0 : AC :=
  .cond (.t 55) (.seq (.region [⟨some 70, .mv (.t 8), none, 0⟩, ⟨some 2, .mv (.c (.list 7 [] .full)), none, 0⟩, ⟨some 3, .mv (.t 70), none, 0⟩, ⟨some 4, .mv (.c (.int .i64 10)), none, 0⟩] 0 false [])
  .ret) (.seq (.region [⟨some 72, .mv (.t 13), none, 0⟩, ⟨some 73, .bin .eql (.t 72) (.c (.int .i64 0)), none, 0⟩, ⟨some 74, .mv (.t 73), none, 0⟩, ⟨some 75, .mv (.t 7), some (74, true), 0⟩, ⟨some 76,
  .pick (.t 74) (.t 75) (.c (.bool false)), none, 0⟩, ⟨some 71, .mv (.t 76), none, 0⟩] 0 false []) (.cond (.t 71) (.region [⟨some 77, .mv (.t 5), none, 0⟩, ⟨some 78, .mv (.t 8), none, 0⟩, ⟨some 79,
  .build [.int .u8 0, .int .i64 0, .str [], .int .i64 0, .int .i64 0, .int .u8 0, .int .u8 0] [(0, 1, .c (.int .u8 13)), (1, 1, .t 78)], none, 0⟩, ⟨some 80, .bslice 7 [.t 79], none, 0⟩, ⟨some 81, .append
  7 56 57 (.t 77) (.t 80), none, 0⟩, ⟨some 5, .mv (.t 81), none, 1⟩] 1 false []) .skip))
def J10_0 := bJ10_0
theorem wJ10_0 : Wp O J10_0 Q σ h = Wp O bJ10_0 Q σ h := rfl
abbrev bJ10_1 : AC :=
  .seq (.region [⟨some 7, .mv (.c (.bool true)), none, 0⟩] 0 false []) (.seq (.region [⟨some 83, .mv (.t 9), none, 0⟩, ⟨some 84, .mv (.t 8), none, 0⟩, ⟨some 85, .mv (.t 6), none, 0⟩, ⟨some 86, .call (.c
  (.fn 35 [])) [.t 83, .t 84, .t 85], none, 0⟩, ⟨some 82, .mv (.t 86), none, 0⟩, ⟨some 87, .ext (.t 82) 0, none, 0⟩, ⟨some 88, .ext (.t 82) 1, none, 0⟩, ⟨some 89, .ext (.t 82) 2, none, 0⟩, ⟨some 14, .mv
  (.t 87), none, 0⟩, ⟨some 15, .mv (.t 88), none, 0⟩, ⟨some 16, .mv (.t 89), none, 0⟩] 0 false []) (.seq (.seq (.region [⟨some 90, .mv (.t 16), none, 0⟩, ⟨some 91, .bin .neq (.t 90) (.c (.int .i64 0)),
  none, 0⟩] 0 false []) (.cond (.t 91) (.seq (.region [⟨some 92, .mv (.t 15), none, 0⟩, ⟨some 93, .mv (.t 16), none, 0⟩, ⟨some 2, .mv (.c (.list 7 [] .full)), none, 0⟩, ⟨some 3, .mv (.t 92), none, 0⟩,
  ⟨some 4, .mv (.t 93), none, 0⟩] 0 false []) .ret) .skip)) (.region [⟨some 94, .mv (.t 5), none, 0⟩, ⟨some 95, .mv (.t 14), none, 0⟩, ⟨some 96, .append 7 56 57 (.t 94) (.t 95), none, 0⟩, ⟨some 97, .mv
  (.t 12), none, 1⟩, ⟨some 5, .mv (.t 96), none, 1⟩, ⟨some 8, .mv (.t 97), none, 1⟩] 1 false [])))
def J10_1 := bJ10_1
theorem wJ10_1 : Wp O J10_1 Q σ h = Wp O bJ10_1 Q σ h := rfl
abbrev bJ10_2 : AC :=
  .seq (.region [⟨some 41, .mv (.t 9), none, 0⟩, ⟨some 42, .call (.c (.fn 32 [])) [.t 41, .c (.fn 33 [])], none, 0⟩, ⟨some 13, .mv (.t 42), none, 0⟩] 0 false []) (.seq (.block 2 (.seq (.region [⟨some 44,
  .mv (.t 13), none, 0⟩, ⟨some 45, .mv (.t 9), none, 0⟩, ⟨some 46, .lenS (.t 45), none, 0⟩, ⟨some 47, .bin .eql (.t 44) (.t 46), none, 0⟩, ⟨some 48, .mv (.t 47), none, 0⟩, ⟨some 49, .mv (.t 9), some (48,
  false), 0⟩, ⟨some 50, .mv (.t 13), some (48, false), 0⟩, ⟨some 51, .indexS (.t 49) (.t 50), some (48, false), 0⟩, ⟨some 52, .bin .eql (.t 51) (.c (.int .u8 59)), some (48, false), 0⟩, ⟨some 53, .pick
  (.t 48) (.c (.bool true)) (.t 52), none, 0⟩, ⟨some 43, .mv (.t 53), none, 0⟩] 0 false []) (.cond (.t 43) (.seq (.region [⟨some 54, .mv (.t 12), none, 0⟩, ⟨some 8, .mv (.t 54), none, 0⟩] 0 false [])
  (.exit 1)) (.seq (.seq (.region [⟨some 56, .mv (.t 13), none, 0⟩, ⟨some 57, .bin .eql (.t 56) (.c (.int .i64 0)), none, 0⟩, ⟨some 58, .mv (.t 57), none, 0⟩, ⟨some 59, .mv (.t 9), some (58, true), 0⟩,
  ⟨some 60, .indexS (.t 59) (.c (.int .i64 0)), some (58, true), 0⟩, ⟨some 61, .call (.c (.fn 34 [])) [.t 60], some (58, true), 0⟩, ⟨some 62, .not (.t 61), some (58, true), 0⟩, ⟨some 63, .pick (.t 58)
  (.t 62) (.c (.bool false)), none, 0⟩, ⟨some 55, .mv (.t 63), none, 0⟩] 0 false []) (.cond (.t 55) .skip (.region [⟨some 64, .mv (.t 13), none, 0⟩, ⟨some 65, .bin .gtr (.t 64) (.c (.int .i64 0)), none,
  0⟩, ⟨some 66, .mv (.t 65), none, 0⟩, ⟨some 67, .mv (.t 7), some (66, true), 0⟩, ⟨some 68, .not (.t 67), some (66, true), 0⟩, ⟨some 69, .pick (.t 66) (.t 68) (.c (.bool false)), none, 0⟩, ⟨some 55, .mv
  (.t 69), none, 0⟩] 0 false []))) J10_0)))) J10_1)
def J10_2 := bJ10_2
theorem wJ10_2 : Wp O J10_2 Q σ h = Wp O bJ10_2 Q σ h := rfl
abbrev bL10_0 : AC :=
  .seq (.seq (.region [⟨some 21, .mv (.t 8), none, 0⟩, ⟨some 22, .mv (.t 0), none, 0⟩, ⟨some 23, .lenS (.t 22), none, 0⟩, ⟨some 24, .bin .lss (.t 21) (.t 23), none, 0⟩] 0 false []) (.cond (.t 24) .skip
  (.exit 0))) (.block 1 (.seq (.region [⟨some 26, .mv (.t 0), none, 0⟩, ⟨some 27, .mv (.t 8), none, 0⟩, ⟨some 28, .sliceS (.t 26) (some (.t 27)) none, none, 0⟩, ⟨some 29, .call (.c (.fn 30 [])) [.t 28,
  .c (.str [10])], none, 0⟩, ⟨some 25, .mv (.t 29), none, 0⟩, ⟨some 30, .ext (.t 25) 0, none, 0⟩, ⟨some 31, .ext (.t 25) 1, none, 0⟩, ⟨some 32, .ext (.t 25) 2, none, 0⟩, ⟨some 9, .mv (.t 30), none, 0⟩,
  ⟨some 10, .mv (.t 31), none, 0⟩, ⟨some 11, .mv (.t 32), none, 0⟩] 0 false []) (.seq (.region [⟨some 33, .mv (.t 8), none, 0⟩, ⟨some 34, .mv (.t 9), none, 0⟩, ⟨some 35, .lenS (.t 34), none, 0⟩, ⟨some
  36, .bin .add (.t 33) (.t 35), none, 0⟩, ⟨some 37, .bin .add (.t 36) (.c (.int .i64 1)), none, 0⟩, ⟨some 12, .mv (.t 37), none, 0⟩] 0 false []) (.seq (.seq (.region [⟨some 38, .mv (.t 11), none, 0⟩] 0
  false []) (.cond (.t 38) (.region [⟨some 39, .mv (.t 9), none, 0⟩, ⟨some 40, .call (.c (.fn 31 [])) [.t 39, .c (.str [13])], none, 0⟩, ⟨some 9, .mv (.t 40), none, 0⟩] 0 false []) .skip)) J10_2))))
def L10_0 := bL10_0
theorem wL10_0 : Wp O L10_0 Q σ h = Wp O bL10_0 Q σ h := rfl
abbrev bJ10_3 : AC :=
  .seq (.region [⟨some 105, .mv (.t 5), none, 0⟩, ⟨some 2, .mv (.t 105), none, 0⟩, ⟨some 3, .mv (.c (.int .i64 0)), none, 0⟩, ⟨some 4, .mv (.c (.int .i64 0)), none, 0⟩] 0 false []) .ret
def J10_3 := bJ10_3
theorem wJ10_3 : Wp O J10_3 Q σ h = Wp O bJ10_3 Q σ h := rfl
abbrev bK10_0 : AC :=
  .seq (.seq (.region [⟨some 98, .mv (.t 7), none, 0⟩] 0 false []) (.cond (.t 98) (.region [⟨some 99, .mv (.t 5), none, 0⟩, ⟨some 100, .mv (.t 0), none, 0⟩, ⟨some 101, .lenS (.t 100), none, 0⟩, ⟨some
  102, .build [.int .u8 0, .int .i64 0, .str [], .int .i64 0, .int .i64 0, .int .u8 0, .int .u8 0] [(0, 1, .c (.int .u8 13)), (1, 1, .t 101)], none, 0⟩, ⟨some 103, .bslice 7 [.t 102], none, 0⟩, ⟨some
  104, .append 7 56 57 (.t 99) (.t 103), none, 0⟩, ⟨some 5, .mv (.t 104), none, 1⟩] 1 false []) .skip)) J10_3
def K10_0 := bK10_0
theorem wK10_0 : Wp O K10_0 Q σ h = Wp O bK10_0 Q σ h := rfl
abbrev bB10 : AC :=
  .seq (.region [⟨some 2, .mv (.c (.list 7 [] .full)), none, 0⟩, ⟨some 3, .mv (.c (.int .i64 0)), none, 0⟩, ⟨some 4, .mv (.c (.int .i64 0)), none, 0⟩] 0 false []) (.seq (.seq (.region [⟨some 17, .mv (.t
  0), none, 0⟩, ⟨some 18, .lenS (.t 17), none, 0⟩, ⟨some 19, .bin .gtr (.t 18) (.c (.int .i64 65536)), none, 0⟩] 0 false []) (.cond (.t 19) (.seq (.region [⟨some 2, .mv (.c (.list 7 [] .full)), none, 0⟩,
  ⟨some 3, .mv (.c (.int .i64 65536)), none, 0⟩, ⟨some 4, .mv (.c (.int .i64 3)), none, 0⟩] 0 false []) .ret) .skip)) (.seq (.region [⟨some 5, .mv (.c (.list 7 [] .full)), none, 0⟩] 0 false []) (.seq
  (.region [⟨some 20, .call (.c (.fn 29 [])) [], none, 0⟩, ⟨some 6, .mv (.t 20), none, 0⟩, ⟨some 7, .mv (.c (.bool false)), none, 0⟩] 0 false []) (.seq (.seq (.region [⟨some 8, .mv (.c (.int .i64 0)),
  none, 0⟩] 0 false []) (.block 0 (.loop L10_0))) K10_0))))
def B10 := bB10
theorem wB10 : Wp O B10 Q σ h = Wp O bB10 Q σ h := rfl
def F10 : AF := ⟨B10, [.tmp 2, .tmp 3, .tmp 4], false⟩
theorem tab10 : T 10 = some F10 := by kernel_rfl
/-- franking/frankinglow.Toks -/
abbrev bL26_0 : AC :=
  .seq (.region [⟨some 14, .bin .lss (.t 13) (.t 12), none, 0⟩] 0 false []) (.seq (.cond (.t 14) .skip (.exit 0)) (.seq (.block 1 (.seq (.region [⟨some 15, .mv (.t 13), none, 0⟩, ⟨some 5, .mv (.t 15),
  none, 0⟩] 0 false []) (.seq (.region [⟨some 16, .mv (.t 0), none, 0⟩, ⟨some 17, .mv (.t 5), none, 0⟩, ⟨some 18, .idx 7 (.t 16) (.t 17), none, 0⟩, ⟨some 19, .load (some 7) (.t 18), none, 0⟩, ⟨some 20,
  .mv (.t 1), none, 0⟩, ⟨some 21, .mv (.t 5), none, 0⟩, ⟨some 22, .idx 7 (.t 20) (.t 21), none, 0⟩, ⟨some 23, .load (some 7) (.t 22), none, 0⟩, ⟨some 24, .eq true (some 7) [(0, LK.int), (1, LK.int), (2,
  LK.str), (3, LK.int), (4, LK.int), (5, LK.int), (6, LK.int)] (.t 19) (.t 23), none, 0⟩] 0 true []) (.cond (.t 24) (.seq (.region [⟨some 4, .mv (.c (.bool false)), none, 0⟩] 0 false []) .ret) .skip))))
  (.region [⟨some 25, .bin .add (.t 13) (.c (.int .i64 1)), none, 0⟩, ⟨some 13, .mv (.t 25), none, 0⟩] 0 false [])))
def L26_0 := bL26_0
theorem wL26_0 : Wp O L26_0 Q σ h = Wp O bL26_0 Q σ h := rfl
abbrev bK26_0 : AC :=
  .seq (.region [⟨some 4, .mv (.c (.bool true)), none, 0⟩] 0 false []) .ret
def K26_0 := bK26_0
theorem wK26_0 : Wp O K26_0 Q σ h = Wp O bK26_0 Q σ h := rfl
abbrev bB26 : AC :=
  .seq (.region [⟨some 4, .mv (.c (.bool false)), none, 0⟩] 0 false []) (.seq (.seq (.region [⟨some 6, .mv (.t 0), none, 0⟩, ⟨some 7, .len (.t 6), none, 0⟩, ⟨some 8, .mv (.t 1), none, 0⟩, ⟨some 9, .len
  (.t 8), none, 0⟩, ⟨some 10, .bin .neq (.t 7) (.t 9), none, 0⟩] 0 false []) (.cond (.t 10) (.seq (.region [⟨some 4, .mv (.c (.bool false)), none, 0⟩] 0 false []) .ret) .skip)) (.seq (.seq (.region
  [⟨some 11, .mv (.t 0), none, 0⟩, ⟨some 12, .len (.t 11), none, 0⟩, ⟨some 13, .mv (.c (.int .i64 0)), none, 0⟩] 0 false []) (.block 0 (.loop L26_0))) K26_0))
def B26 := bB26
theorem wB26 : Wp O B26 Q σ h = Wp O bB26 Q σ h := rfl
def F26 : AF := ⟨B26, [.tmp 4], false⟩
theorem tab26 : T 26 = some F26 := by kernel_rfl
/-- franking/lex.rows -/
abbrev bB29 : AC :=
  .seq (.region [⟨some 0, .mv (.c (.list 2 [] .full)), none, 0⟩] 0 false []) (.seq (.region [⟨some 1, .mv (.c (.fn 62 [])), none, 0⟩] 0 false []) (.seq (.region [⟨some 2, .build [.nilf, .nilf] [(0, 1, .c
  (.fn 34 [])), (1, 1, .c (.fn 64 []))], none, 0⟩, ⟨some 3, .mv (.t 1), none, 0⟩, ⟨some 4, .call (.t 3) [.c (.int .u8 61)], none, 0⟩, ⟨some 5, .build [.nilf, .nilf] [(0, 1, .t 4), (1, 1, .c (.fn 65
  []))], none, 0⟩, ⟨some 6, .mv (.t 1), none, 0⟩, ⟨some 7, .call (.t 6) [.c (.int .u8 47)], none, 0⟩, ⟨some 8, .call (.c (.fn 66 [])) [.c (.int .u8 4)], none, 0⟩, ⟨some 9, .build [.nilf, .nilf] [(0, 1,
  .t 7), (1, 1, .t 8)], none, 0⟩, ⟨some 10, .mv (.t 1), none, 0⟩, ⟨some 11, .call (.t 10) [.c (.int .u8 40)], none, 0⟩, ⟨some 12, .call (.c (.fn 66 [])) [.c (.int .u8 5)], none, 0⟩, ⟨some 13, .build
  [.nilf, .nilf] [(0, 1, .t 11), (1, 1, .t 12)], none, 0⟩, ⟨some 14, .mv (.t 1), none, 0⟩, ⟨some 15, .call (.t 14) [.c (.int .u8 41)], none, 0⟩, ⟨some 16, .call (.c (.fn 66 [])) [.c (.int .u8 6)], none,
  0⟩, ⟨some 17, .build [.nilf, .nilf] [(0, 1, .t 15), (1, 1, .t 16)], none, 0⟩, ⟨some 18, .mv (.t 1), none, 0⟩, ⟨some 19, .call (.t 18) [.c (.int .u8 91)], none, 0⟩, ⟨some 20, .call (.c (.fn 66 [])) [.c
  (.int .u8 7)], none, 0⟩, ⟨some 21, .build [.nilf, .nilf] [(0, 1, .t 19), (1, 1, .t 20)], none, 0⟩, ⟨some 22, .mv (.t 1), none, 0⟩, ⟨some 23, .call (.t 22) [.c (.int .u8 93)], none, 0⟩, ⟨some 24, .call
  (.c (.fn 66 [])) [.c (.int .u8 8)], none, 0⟩, ⟨some 25, .build [.nilf, .nilf] [(0, 1, .t 23), (1, 1, .t 24)], none, 0⟩, ⟨some 26, .build [.nilf, .nilf] [(0, 1, .c (.fn 67 [])), (1, 1, .c (.fn 69 []))],
  none, 0⟩, ⟨some 27, .mv (.t 1), none, 0⟩, ⟨some 28, .call (.t 27) [.c (.int .u8 34)], none, 0⟩, ⟨some 29, .build [.nilf, .nilf] [(0, 1, .t 28), (1, 1, .c (.fn 70 []))], none, 0⟩, ⟨some 30, .mv (.t 1),
  none, 0⟩, ⟨some 31, .call (.t 30) [.c (.int .u8 37)], none, 0⟩, ⟨some 32, .build [.nilf, .nilf] [(0, 1, .t 31), (1, 1, .c (.fn 71 []))], none, 0⟩, ⟨some 33, .mv (.t 1), none, 0⟩, ⟨some 34, .call (.t
  33) [.c (.int .u8 60)], none, 0⟩, ⟨some 35, .build [.nilf, .nilf] [(0, 1, .t 34), (1, 1, .c (.fn 72 []))], none, 0⟩, ⟨some 36, .build [.nilf, .nilf] [(0, 1, .c (.fn 73 [])), (1, 1, .c (.fn 74 []))],
  none, 0⟩, ⟨some 37, .bslice 2 [.t 2, .t 5, .t 9, .t 13, .t 17, .t 21, .t 25, .t 26, .t 29, .t 32, .t 35, .t 36], none, 0⟩, ⟨some 0, .mv (.t 37), none, 0⟩] 0 false []) .ret))
def B29 := bB29
theorem wB29 : Wp O B29 Q σ h = Wp O bB29 Q σ h := rfl
def F29 : AF := ⟨B29, [.tmp 0], true⟩
theorem tab29 : T 29 = some F29 := by kernel_rfl
/-- strings.Cut -/
abbrev bB30 : AC :=
  .seq (.region [⟨some 4, .mv (.c (.str [])), none, 0⟩, ⟨some 5, .mv (.c (.str [])), none, 0⟩, ⟨some 6, .mv (.c (.bool false)), none, 0⟩] 0 false []) (.seq (.region [⟨some 7, .mv (.t 0), none, 0⟩, ⟨some
  8, .mv (.t 1), none, 0⟩, ⟨some 9, .call (.c (.fn 75 [])) [.t 7, .t 8], none, 0⟩, ⟨some 10, .ext (.t 9) 0, none, 0⟩, ⟨some 11, .ext (.t 9) 1, none, 0⟩, ⟨some 12, .ext (.t 9) 2, none, 0⟩, ⟨some 4, .mv
  (.t 10), none, 0⟩, ⟨some 5, .mv (.t 11), none, 0⟩, ⟨some 6, .mv (.t 12), none, 0⟩] 0 false []) .ret)
def B30 := bB30
theorem wB30 : Wp O B30 Q σ h = Wp O bB30 Q σ h := rfl
def F30 : AF := ⟨B30, [.tmp 4, .tmp 5, .tmp 6], false⟩
theorem tab30 : T 30 = some F30 := by kernel_rfl
/-- strings.TrimSuffix -/
abbrev bB31 : AC :=
  .seq (.region [⟨some 4, .mv (.c (.str [])), none, 0⟩] 0 false []) (.seq (.region [⟨some 5, .mv (.t 0), none, 0⟩, ⟨some 6, .mv (.t 1), none, 0⟩, ⟨some 7, .call (.c (.fn 76 [])) [.t 5, .t 6], none, 0⟩,
  ⟨some 4, .mv (.t 7), none, 0⟩] 0 false []) .ret)
def B31 := bB31
theorem wB31 : Wp O B31 Q σ h = Wp O bB31 Q σ h := rfl
def F31 : AF := ⟨B31, [.tmp 4], false⟩
theorem tab31 : T 31 = some F31 := by kernel_rfl
/-- franking/lex.run -/
abbrev bL32_0 : AC :=
  .seq (.seq (.region [⟨some 6, .mv (.t 5), none, 0⟩, ⟨some 7, .mv (.t 0), none, 0⟩, ⟨some 8, .lenS (.t 7), none, 0⟩, ⟨some 9, .bin .lss (.t 6) (.t 8), none, 0⟩, ⟨some 10, .mv (.t 9), none, 0⟩, ⟨some 11,
  .mv (.t 1), some (10, true), 0⟩, ⟨some 12, .mv (.t 0), some (10, true), 0⟩, ⟨some 13, .mv (.t 5), some (10, true), 0⟩, ⟨some 14, .indexS (.t 12) (.t 13), some (10, true), 0⟩, ⟨some 15, .call (.t 11)
  [.t 14], some (10, true), 0⟩, ⟨some 16, .pick (.t 10) (.t 15) (.c (.bool false)), none, 0⟩] 0 false []) (.cond (.t 16) .skip (.exit 0))) (.block 1 (.region [⟨some 17, .mv (.t 5), none, 0⟩, ⟨some 18,
  .bin .add (.t 17) (.c (.int .i64 1)), none, 0⟩, ⟨some 5, .mv (.t 18), none, 0⟩] 0 false []))
def L32_0 := bL32_0
theorem wL32_0 : Wp O L32_0 Q σ h = Wp O bL32_0 Q σ h := rfl
abbrev bK32_0 : AC :=
  .seq (.region [⟨some 19, .mv (.t 5), none, 0⟩, ⟨some 4, .mv (.t 19), none, 0⟩] 0 false []) .ret
def K32_0 := bK32_0
theorem wK32_0 : Wp O K32_0 Q σ h = Wp O bK32_0 Q σ h := rfl
abbrev bB32 : AC :=
  .seq (.region [⟨some 4, .mv (.c (.int .i64 0)), none, 0⟩] 0 false []) (.seq (.region [⟨some 5, .mv (.c (.int .i64 0)), none, 0⟩] 0 false []) (.seq (.block 0 (.loop L32_0)) K32_0))
def B32 := bB32
theorem wB32 : Wp O B32 Q σ h = Wp O bB32 Q σ h := rfl
def F32 : AF := ⟨B32, [.tmp 4], false⟩
theorem tab32 : T 32 = some F32 := by kernel_rfl
/-- franking/lex.blank -/
abbrev bB33 : AC :=
  .seq (.region [⟨some 2, .mv (.c (.bool false)), none, 0⟩] 0 false []) (.seq (.region [⟨some 3, .mv (.t 0), none, 0⟩, ⟨some 4, .bin .eql (.t 3) (.c (.int .u8 32)), none, 0⟩, ⟨some 5, .mv (.t 4), none,
  0⟩, ⟨some 6, .mv (.t 0), some (5, false), 0⟩, ⟨some 7, .bin .eql (.t 6) (.c (.int .u8 9)), some (5, false), 0⟩, ⟨some 8, .pick (.t 5) (.c (.bool true)) (.t 7), none, 0⟩, ⟨some 2, .mv (.t 8), none, 0⟩]
  0 false []) .ret)
def B33 := bB33
theorem wB33 : Wp O B33 Q σ h = Wp O bB33 Q σ h := rfl
def F33 : AF := ⟨B33, [.tmp 2], false⟩
theorem tab33 : T 33 = some F33 := by kernel_rfl
/-- franking/lex.letter -/
abbrev bB34 : AC :=
  .seq (.region [⟨some 2, .mv (.c (.bool false)), none, 0⟩] 0 false []) (.seq (.region [⟨some 3, .mv (.t 0), none, 0⟩, ⟨some 4, .bin .or (.t 3) (.c (.int .u8 32)), none, 0⟩, ⟨some 5, .bin .geq (.t 4) (.c
  (.int .u8 97)), none, 0⟩, ⟨some 6, .mv (.t 5), none, 0⟩, ⟨some 7, .mv (.t 0), some (6, true), 0⟩, ⟨some 8, .bin .or (.t 7) (.c (.int .u8 32)), some (6, true), 0⟩, ⟨some 9, .bin .leq (.t 8) (.c (.int
  .u8 122)), some (6, true), 0⟩, ⟨some 10, .pick (.t 6) (.t 9) (.c (.bool false)), none, 0⟩, ⟨some 2, .mv (.t 10), none, 0⟩] 0 false []) .ret)
def B34 := bB34
theorem wB34 : Wp O B34 Q σ h = Wp O bB34 Q σ h := rfl
def F34 : AF := ⟨B34, [.tmp 2], false⟩
theorem tab34 : T 34 = some F34 := by kernel_rfl
/-- franking/lex.line -/
abbrev bL35_0 : AC :=
  .seq (.region [⟨some 33, .bin .lss (.t 32) (.t 31), none, 0⟩] 0 false []) (.seq (.cond (.t 33) .skip (.exit 2)) (.seq (.block 3 (.seq (.region [⟨some 34, .idx 2 (.t 30) (.t 32), none, 0⟩, ⟨some 35,
  .load (some 2) (.t 34), none, 0⟩, ⟨some 12, .alloc [.nilf, .nilf], none, 0⟩, ⟨none, .store 2 (.t 12) (.t 35), none, 1⟩] 1 false []) (.seq (.seq (.region [⟨some 36, .off 0 (.t 12), none, 0⟩, ⟨some 37,
  .load none (.t 36), none, 0⟩, ⟨some 38, .mv (.t 0), none, 0⟩, ⟨some 39, .mv (.t 10), none, 0⟩, ⟨some 40, .indexS (.t 38) (.t 39), none, 0⟩, ⟨some 41, .call (.t 37) [.t 40], none, 0⟩, ⟨some 42, .not (.t
  41), none, 0⟩] 0 true []) (.cond (.t 42) (.exit 3) .skip)) (.seq (.region [⟨some 43, .off 1 (.t 12), none, 0⟩, ⟨some 44, .load none (.t 43), none, 0⟩, ⟨some 45, .mv (.t 0), none, 0⟩, ⟨some 46, .mv (.t
  10), none, 0⟩, ⟨some 47, .sliceS (.t 45) (some (.t 46)) none, none, 0⟩, ⟨some 48, .call (.t 44) [.t 47], none, 0⟩, ⟨some 13, .alloc [.int .u8 0, .int .i64 0, .str [], .int .i64 0, .int .i64 0, .int .u8
  0, .int .u8 0, .int .i64 0, .int .i64 0], none, 0⟩, ⟨none, .store 9 (.t 13) (.t 48), none, 1⟩] 1 true [(1, 6), (5, 6)]) (.seq (.seq (.region [⟨some 49, .off 8 (.t 13), none, 0⟩, ⟨some 50, .load none
  (.t 49), none, 0⟩, ⟨some 51, .bin .neq (.t 50) (.c (.int .i64 0)), none, 0⟩] 0 false []) (.cond (.t 51) (.seq (.region [⟨some 52, .mv (.t 1), none, 0⟩, ⟨some 53, .mv (.t 10), none, 0⟩, ⟨some 54, .bin
  .add (.t 52) (.t 53), none, 0⟩, ⟨some 55, .off 7 (.t 13), none, 0⟩, ⟨some 56, .load none (.t 55), none, 0⟩, ⟨some 57, .bin .add (.t 54) (.t 56), none, 0⟩, ⟨some 58, .off 8 (.t 13), none, 0⟩, ⟨some 59,
  .load none (.t 58), none, 0⟩, ⟨some 6, .mv (.c (.list 7 [] .full)), none, 0⟩, ⟨some 7, .mv (.t 57), none, 0⟩, ⟨some 8, .mv (.t 59), none, 0⟩] 0 true []) .ret) .skip)) (.seq (.region [⟨some 60, .mv (.t
  1), none, 0⟩, ⟨some 61, .mv (.t 10), none, 0⟩, ⟨some 62, .bin .add (.t 60) (.t 61), none, 0⟩, ⟨some 63, .off 0 (.t 13), none, 0⟩, ⟨some 64, .off 1 (.t 63), none, 0⟩, ⟨none, .store 1 (.t 64) (.t 62),
  none, 0⟩] 0 false []) (.seq (.region [⟨some 65, .mv (.t 9), none, 0⟩, ⟨some 66, .off 0 (.t 13), none, 0⟩, ⟨some 67, .load (some 7) (.t 66), none, 0⟩, ⟨some 68, .bslice 7 [.t 67], none, 0⟩, ⟨some 69,
  .append 7 56 57 (.t 65) (.t 68), none, 0⟩, ⟨some 9, .mv (.t 69), none, 1⟩] 1 false []) (.seq (.region [⟨some 70, .mv (.t 10), none, 0⟩, ⟨some 71, .off 7 (.t 13), none, 0⟩, ⟨some 72, .load none (.t 71),
  none, 0⟩, ⟨some 73, .bin .add (.t 70) (.t 72), none, 0⟩, ⟨some 10, .mv (.t 73), none, 0⟩] 0 false []) (.exit 2))))))))) (.region [⟨some 74, .bin .add (.t 32) (.c (.int .i64 1)), none, 0⟩, ⟨some 32, .mv
  (.t 74), none, 0⟩] 0 false [])))
def L35_0 := bL35_0
theorem wL35_0 : Wp O L35_0 Q σ h = Wp O bL35_0 Q σ h := rfl
abbrev bL35_1 : AC :=
  .seq (.seq (.region [⟨some 14, .mv (.t 10), none, 0⟩, ⟨some 15, .mv (.t 0), none, 0⟩, ⟨some 16, .lenS (.t 15), none, 0⟩, ⟨some 17, .bin .lss (.t 14) (.t 16), none, 0⟩, ⟨some 18, .mv (.t 17), none, 0⟩,
  ⟨some 19, .mv (.t 0), some (18, true), 0⟩, ⟨some 20, .mv (.t 10), some (18, true), 0⟩, ⟨some 21, .indexS (.t 19) (.t 20), some (18, true), 0⟩, ⟨some 22, .bin .neq (.t 21) (.c (.int .u8 59)), some (18,
  true), 0⟩, ⟨some 23, .pick (.t 18) (.t 22) (.c (.bool false)), none, 0⟩] 0 false []) (.cond (.t 23) .skip (.exit 0))) (.block 1 (.seq (.seq (.region [⟨some 24, .mv (.t 0), none, 0⟩, ⟨some 25, .mv (.t
  10), none, 0⟩, ⟨some 26, .indexS (.t 24) (.t 25), none, 0⟩, ⟨some 27, .call (.c (.fn 33 [])) [.t 26], none, 0⟩] 0 false []) (.cond (.t 27) (.seq (.region [⟨some 28, .mv (.t 10), none, 0⟩, ⟨some 29,
  .bin .add (.t 28) (.c (.int .i64 1)), none, 0⟩, ⟨some 10, .mv (.t 29), none, 0⟩] 0 false []) (.exit 1)) .skip)) (.seq (.region [⟨some 30, .mv (.t 2), none, 0⟩, ⟨some 31, .len (.t 30), none, 0⟩, ⟨some
  32, .mv (.c (.int .i64 0)), none, 0⟩] 0 false []) (.block 2 (.loop L35_0)))))
def L35_1 := bL35_1
theorem wL35_1 : Wp O L35_1 Q σ h = Wp O bL35_1 Q σ h := rfl
abbrev bK35_0 : AC :=
  .seq (.region [⟨some 75, .mv (.t 9), none, 0⟩, ⟨some 6, .mv (.t 75), none, 0⟩, ⟨some 7, .mv (.c (.int .i64 0)), none, 0⟩, ⟨some 8, .mv (.c (.int .i64 0)), none, 0⟩] 0 false []) .ret
def K35_0 := bK35_0
theorem wK35_0 : Wp O K35_0 Q σ h = Wp O bK35_0 Q σ h := rfl
abbrev bB35 : AC :=
  .seq (.region [⟨some 6, .mv (.c (.list 7 [] .full)), none, 0⟩, ⟨some 7, .mv (.c (.int .i64 0)), none, 0⟩, ⟨some 8, .mv (.c (.int .i64 0)), none, 0⟩] 0 false []) (.seq (.region [⟨some 9, .mv (.c (.list
  7 [] .full)), none, 0⟩] 0 false []) (.seq (.seq (.region [⟨some 10, .mv (.c (.int .i64 0)), none, 0⟩] 0 false []) (.block 0 (.loop L35_1))) K35_0))
def B35 := bB35
theorem wB35 : Wp O B35 Q σ h = Wp O bB35 Q σ h := rfl
def F35 : AF := ⟨B35, [.tmp 6, .tmp 7, .tmp 8], false⟩
theorem tab35 : T 35 = some F35 := by kernel_rfl
/-- strings.HasPrefix -/
abbrev bB51 : AC :=
  .seq (.region [⟨some 4, .mv (.c (.bool false)), none, 0⟩] 0 false []) (.seq (.region [⟨some 5, .mv (.t 0), none, 0⟩, ⟨some 6, .mv (.t 1), none, 0⟩, ⟨some 7, .call (.c (.fn 94 [])) [.t 5, .t 6], none,
  0⟩, ⟨some 4, .mv (.t 7), none, 0⟩] 0 false []) .ret)
def B51 := bB51
theorem wB51 : Wp O B51 Q σ h = Wp O bB51 Q σ h := rfl
def F51 : AF := ⟨B51, [.tmp 4], false⟩
theorem tab51 : T 51 = some F51 := by kernel_rfl
/-- franking/lex.rows$1 -/
abbrev bB62 : AC :=
  .seq (.region [⟨some 1, .box 1 (.t 0), none, 0⟩, ⟨some 2, .mv (.c (.nilf)), none, 1⟩] 1 false []) (.seq (.region [⟨some 3, .mkfn 63 [.t 1], none, 0⟩, ⟨some 2, .mv (.t 3), none, 0⟩] 0 false []) .ret)
def B62 := bB62
theorem wB62 : Wp O B62 Q σ h = Wp O bB62 Q σ h := rfl
def F62 : AF := ⟨B62, [.tmp 2], true⟩
theorem tab62 : T 62 = some F62 := by kernel_rfl
/-- franking/lex.rows$1$1 -/
abbrev bB63 : AC :=
  .seq (.region [⟨some 3, .mv (.c (.bool false)), none, 0⟩] 0 false []) (.seq (.region [⟨some 4, .load none (.t 1), none, 0⟩, ⟨some 5, .mv (.t 0), none, 0⟩, ⟨some 6, .bin .eql (.t 4) (.t 5), none, 0⟩,
  ⟨some 3, .mv (.t 6), none, 0⟩] 0 false []) .ret)
def B63 := bB63
theorem wB63 : Wp O B63 Q σ h = Wp O bB63 Q σ h := rfl
def F63 : AF := ⟨B63, [.tmp 3], false⟩
theorem tab63 : T 63 = some F63 := by kernel_rfl
/-- franking/lex.name -/
abbrev bB64 : AC :=
  .seq (.region [⟨some 2, .alloc [.int .u8 0, .int .i64 0, .str [], .int .i64 0, .int .i64 0, .int .u8 0, .int .u8 0, .int .i64 0, .int .i64 0], none, 0⟩] 1 false []) (.seq (.region [⟨some 4, .mv (.t 0),
  none, 0⟩, ⟨some 5, .call (.c (.fn 32 [])) [.t 4, .c (.fn 107 [])], none, 0⟩, ⟨some 3, .mv (.t 5), none, 0⟩] 0 false []) (.seq (.region [⟨some 6, .mv (.t 0), none, 0⟩, ⟨some 7, .mv (.t 3), none, 0⟩,
  ⟨some 8, .sliceS (.t 6) none (some (.t 7)), none, 0⟩, ⟨some 9, .build [.int .u8 0, .int .i64 0, .str [], .int .i64 0, .int .i64 0, .int .u8 0, .int .u8 0] [(0, 1, .c (.int .u8 1)), (2, 1, .t 8)], none,
  0⟩, ⟨some 10, .mv (.t 3), none, 0⟩, ⟨some 11, .build [.int .u8 0, .int .i64 0, .str [], .int .i64 0, .int .i64 0, .int .u8 0, .int .u8 0, .int .i64 0, .int .i64 0] [(0, 7, .t 9), (7, 1, .t 10)], none,
  0⟩, ⟨none, .store 9 (.t 2) (.t 11), none, 0⟩] 0 false []) .ret))
def B64 := bB64
theorem wB64 : Wp O B64 Q σ h = Wp O bB64 Q σ h := rfl
def F64 : AF := ⟨B64, [.cell 2 (some 9)], false⟩
theorem tab64 : T 64 = some F64 := by kernel_rfl
/-- franking/lex.is -/
abbrev bB65 : AC :=
  .seq (.region [⟨some 2, .alloc [.int .u8 0, .int .i64 0, .str [], .int .i64 0, .int .i64 0, .int .u8 0, .int .u8 0, .int .i64 0, .int .i64 0], none, 0⟩] 1 false []) (.seq (.seq (.region [⟨some 3, .mv
  (.t 0), none, 0⟩, ⟨some 4, .call (.c (.fn 51 [])) [.t 3, .c (.str [61, 47])], none, 0⟩] 0 false []) (.cond (.t 4) (.seq (.region [⟨some 5, .build [.int .u8 0, .int .i64 0, .str [], .int .i64 0, .int
  .i64 0, .int .u8 0, .int .u8 0] [(0, 1, .c (.int .u8 3))], none, 0⟩, ⟨some 6, .build [.int .u8 0, .int .i64 0, .str [], .int .i64 0, .int .i64 0, .int .u8 0, .int .u8 0, .int .i64 0, .int .i64 0] [(0,
  7, .t 5), (7, 1, .c (.int .i64 2))], none, 0⟩, ⟨none, .store 9 (.t 2) (.t 6), none, 0⟩] 0 false []) .ret) .skip)) (.seq (.region [⟨some 7, .build [.int .u8 0, .int .i64 0, .str [], .int .i64 0, .int
  .i64 0, .int .u8 0, .int .u8 0] [(0, 1, .c (.int .u8 2))], none, 0⟩, ⟨some 8, .build [.int .u8 0, .int .i64 0, .str [], .int .i64 0, .int .i64 0, .int .u8 0, .int .u8 0, .int .i64 0, .int .i64 0] [(0,
  7, .t 7), (7, 1, .c (.int .i64 1))], none, 0⟩, ⟨none, .store 9 (.t 2) (.t 8), none, 0⟩] 0 false []) .ret))
def B65 := bB65
theorem wB65 : Wp O B65 Q σ h = Wp O bB65 Q σ h := rfl
def F65 : AF := ⟨B65, [.cell 2 (some 9)], false⟩
theorem tab65 : T 65 = some F65 := by kernel_rfl
/-- franking/lex.sign -/
abbrev bB66 : AC :=
  .seq (.region [⟨some 1, .box 1 (.t 0), none, 0⟩, ⟨some 2, .mv (.c (.nilf)), none, 1⟩] 1 false []) (.seq (.region [⟨some 3, .mkfn 108 [.t 1], none, 0⟩, ⟨some 2, .mv (.t 3), none, 0⟩] 0 false []) .ret)
def B66 := bB66
theorem wB66 : Wp O B66 Q σ h = Wp O bB66 Q σ h := rfl
def F66 : AF := ⟨B66, [.tmp 2], true⟩
theorem tab66 : T 66 = some F66 := by kernel_rfl
/-- franking/lex.rows$2 -/
abbrev bB67 : AC :=
  .seq (.region [⟨some 2, .mv (.c (.bool false)), none, 0⟩] 0 false []) (.seq (.region [⟨some 3, .mv (.t 0), none, 0⟩, ⟨some 4, .call (.c (.fn 68 [])) [.t 3], none, 0⟩, ⟨some 5, .mv (.t 4), none, 0⟩,
  ⟨some 6, .mv (.t 0), some (5, false), 0⟩, ⟨some 7, .bin .eql (.t 6) (.c (.int .u8 42)), some (5, false), 0⟩, ⟨some 8, .pick (.t 5) (.c (.bool true)) (.t 7), none, 0⟩, ⟨some 2, .mv (.t 8), none, 0⟩] 0
  false []) .ret)
def B67 := bB67
theorem wB67 : Wp O B67 Q σ h = Wp O bB67 Q σ h := rfl
def F67 : AF := ⟨B67, [.tmp 2], false⟩
theorem tab67 : T 67 = some F67 := by kernel_rfl
/-- franking/lex.digit -/
abbrev bB68 : AC :=
  .seq (.region [⟨some 2, .mv (.c (.bool false)), none, 0⟩] 0 false []) (.seq (.region [⟨some 3, .mv (.t 0), none, 0⟩, ⟨some 4, .bin .geq (.t 3) (.c (.int .u8 48)), none, 0⟩, ⟨some 5, .mv (.t 4), none,
  0⟩, ⟨some 6, .mv (.t 0), some (5, true), 0⟩, ⟨some 7, .bin .leq (.t 6) (.c (.int .u8 57)), some (5, true), 0⟩, ⟨some 8, .pick (.t 5) (.t 7) (.c (.bool false)), none, 0⟩, ⟨some 2, .mv (.t 8), none, 0⟩]
  0 false []) .ret)
def B68 := bB68
theorem wB68 : Wp O B68 Q σ h = Wp O bB68 Q σ h := rfl
def F68 : AF := ⟨B68, [.tmp 2], false⟩
theorem tab68 : T 68 = some F68 := by kernel_rfl
/-- franking/lex.times -/
abbrev bJ69_0 : AC :=
  .seq (.seq (.region [⟨some 60, .off 4 (.t 6), none, 0⟩, ⟨some 61, .load none (.t 60), none, 0⟩, ⟨some 62, .bin .geq (.t 61) (.c (.int .i64 0)), none, 0⟩, ⟨some 63, .mv (.t 62), none, 0⟩, ⟨some 64, .off
  4 (.t 6), some (63, true), 0⟩, ⟨some 65, .load none (.t 64), some (63, true), 0⟩, ⟨some 66, .off 3 (.t 6), some (63, true), 0⟩, ⟨some 67, .load none (.t 66), some (63, true), 0⟩, ⟨some 68, .bin .lss
  (.t 65) (.t 67), some (63, true), 0⟩, ⟨some 69, .pick (.t 63) (.t 68) (.c (.bool false)), none, 0⟩] 0 false []) (.cond (.t 69) (.seq (.region [⟨some 70, .build [.int .u8 0, .int .i64 0, .str [], .int
  .i64 0, .int .i64 0, .int .u8 0, .int .u8 0, .int .i64 0, .int .i64 0] [(8, 1, .c (.int .i64 13))], none, 0⟩, ⟨none, .store 9 (.t 2) (.t 70), none, 0⟩] 0 false []) .ret) .skip)) (.seq (.region [⟨some
  71, .load (some 7) (.t 6), none, 0⟩, ⟨some 72, .mv (.t 3), none, 0⟩, ⟨some 73, .bin .add (.t 72) (.c (.int .i64 1)), none, 0⟩, ⟨some 74, .mv (.t 5), none, 0⟩, ⟨some 75, .bin .add (.t 73) (.t 74), none,
  0⟩, ⟨some 76, .build [.int .u8 0, .int .i64 0, .str [], .int .i64 0, .int .i64 0, .int .u8 0, .int .u8 0, .int .i64 0, .int .i64 0] [(0, 7, .t 71), (7, 1, .t 75)], none, 0⟩, ⟨none, .store 9 (.t 2) (.t
  76), none, 0⟩] 0 false []) .ret)
def J69_0 := bJ69_0
theorem wJ69_0 : Wp O J69_0 Q σ h = Wp O bJ69_0 Q σ h := rfl
abbrev bJ69_1 : AC :=
  .seq (.block 0 (.seq (.region [⟨some 26, .mv (.t 3), none, 0⟩, ⟨some 27, .bin .gtr (.t 26) (.c (.int .i64 4)), none, 0⟩, ⟨some 25, .mv (.t 27), none, 0⟩] 0 false []) (.cond (.t 25) (.seq (.region
  [⟨some 28, .build [.int .u8 0, .int .i64 0, .str [], .int .i64 0, .int .i64 0, .int .u8 0, .int .u8 0, .int .i64 0, .int .i64 0] [(8, 1, .c (.int .i64 12))], none, 0⟩, ⟨none, .store 9 (.t 2) (.t 28),
  none, 0⟩] 0 false []) .ret) (.seq (.region [⟨some 30, .mv (.t 5), none, 0⟩, ⟨some 31, .bin .gtr (.t 30) (.c (.int .i64 4)), none, 0⟩, ⟨some 29, .mv (.t 31), none, 0⟩] 0 false []) (.cond (.t 29) (.seq
  (.region [⟨some 32, .mv (.t 3), none, 0⟩, ⟨some 33, .bin .add (.t 32) (.c (.int .i64 1)), none, 0⟩, ⟨some 34, .build [.int .u8 0, .int .i64 0, .str [], .int .i64 0, .int .i64 0, .int .u8 0, .int .u8 0,
  .int .i64 0, .int .i64 0] [(7, 1, .t 33), (8, 1, .c (.int .i64 12))], none, 0⟩, ⟨none, .store 9 (.t 2) (.t 34), none, 0⟩] 0 false []) .ret) .skip))))) (.seq (.region [⟨some 35, .mv (.t 0), none, 0⟩,
  ⟨some 36, .mv (.t 3), none, 0⟩, ⟨some 37, .sliceS (.t 35) none (some (.t 36)), none, 0⟩, ⟨some 38, .call (.c (.fn 109 [])) [.t 37, .c (.int .i64 10)], none, 0⟩, ⟨some 39, .build [.int .u8 0, .int .i64
  0, .str [], .int .i64 0, .int .i64 0, .int .u8 0, .int .u8 0] [(0, 1, .c (.int .u8 9)), (3, 1, .t 38), (4, 1, .c (.int .i64 (-1)))], none, 0⟩, ⟨some 6, .alloc [.int .u8 0, .int .i64 0, .str [], .int
  .i64 0, .int .i64 0, .int .u8 0, .int .u8 0], none, 0⟩, ⟨none, .store 7 (.t 6) (.t 39), none, 1⟩] 1 false []) (.seq (.seq (.region [⟨some 40, .mv (.t 4), none, 0⟩, ⟨some 41, .not (.t 40), none, 0⟩] 0
  false []) (.cond (.t 41) (.seq (.region [⟨some 42, .off 3 (.t 6), none, 0⟩, ⟨some 43, .load none (.t 42), none, 0⟩, ⟨some 44, .off 4 (.t 6), none, 0⟩, ⟨none, .store 1 (.t 44) (.t 43), none, 0⟩] 0 false
  []) (.seq (.region [⟨some 45, .load (some 7) (.t 6), none, 0⟩, ⟨some 46, .mv (.t 3), none, 0⟩, ⟨some 47, .build [.int .u8 0, .int .i64 0, .str [], .int .i64 0, .int .i64 0, .int .u8 0, .int .u8 0, .int
  .i64 0, .int .i64 0] [(0, 7, .t 45), (7, 1, .t 46)], none, 0⟩, ⟨none, .store 9 (.t 2) (.t 47), none, 0⟩] 0 false []) .ret)) .skip)) (.seq (.seq (.region [⟨some 48, .mv (.t 5), none, 0⟩, ⟨some 49, .bin
  .gtr (.t 48) (.c (.int .i64 0)), none, 0⟩] 0 false []) (.cond (.t 49) (.region [⟨some 50, .mv (.t 0), none, 0⟩, ⟨some 51, .mv (.t 3), none, 0⟩, ⟨some 52, .bin .add (.t 51) (.c (.int .i64 1)), none, 0⟩,
  ⟨some 53, .mv (.t 3), none, 0⟩, ⟨some 54, .bin .add (.t 53) (.c (.int .i64 1)), none, 0⟩, ⟨some 55, .mv (.t 5), none, 0⟩, ⟨some 56, .bin .add (.t 54) (.t 55), none, 0⟩, ⟨some 57, .sliceS (.t 50) (some
  (.t 52)) (some (.t 56)), none, 0⟩, ⟨some 58, .call (.c (.fn 109 [])) [.t 57, .c (.int .i64 10)], none, 0⟩, ⟨some 59, .off 4 (.t 6), none, 0⟩, ⟨none, .store 1 (.t 59) (.t 58), none, 0⟩] 0 false [])
  .skip)) J69_0)))
def J69_1 := bJ69_1
theorem wJ69_1 : Wp O J69_1 Q σ h = Wp O bJ69_1 Q σ h := rfl
abbrev bB69 : AC :=
  .seq (.region [⟨some 2, .alloc [.int .u8 0, .int .i64 0, .str [], .int .i64 0, .int .i64 0, .int .u8 0, .int .u8 0, .int .i64 0, .int .i64 0], none, 0⟩] 1 false []) (.seq (.region [⟨some 7, .mv (.t 0),
  none, 0⟩, ⟨some 8, .call (.c (.fn 32 [])) [.t 7, .c (.fn 68 [])], none, 0⟩, ⟨some 3, .mv (.t 8), none, 0⟩] 0 false []) (.seq (.region [⟨some 9, .mv (.t 3), none, 0⟩, ⟨some 10, .mv (.t 0), none, 0⟩,
  ⟨some 11, .lenS (.t 10), none, 0⟩, ⟨some 12, .bin .lss (.t 9) (.t 11), none, 0⟩, ⟨some 13, .mv (.t 12), none, 0⟩, ⟨some 14, .mv (.t 0), some (13, true), 0⟩, ⟨some 15, .mv (.t 3), some (13, true), 0⟩,
  ⟨some 16, .indexS (.t 14) (.t 15), some (13, true), 0⟩, ⟨some 17, .bin .eql (.t 16) (.c (.int .u8 42)), some (13, true), 0⟩, ⟨some 18, .pick (.t 13) (.t 17) (.c (.bool false)), none, 0⟩, ⟨some 4, .mv
  (.t 18), none, 0⟩] 0 false []) (.seq (.region [⟨some 5, .mv (.c (.int .i64 0)), none, 0⟩] 0 false []) (.seq (.seq (.region [⟨some 19, .mv (.t 4), none, 0⟩] 0 false []) (.cond (.t 19) (.region [⟨some
  20, .mv (.t 0), none, 0⟩, ⟨some 21, .mv (.t 3), none, 0⟩, ⟨some 22, .bin .add (.t 21) (.c (.int .i64 1)), none, 0⟩, ⟨some 23, .sliceS (.t 20) (some (.t 22)) none, none, 0⟩, ⟨some 24, .call (.c (.fn 32
  [])) [.t 23, .c (.fn 68 [])], none, 0⟩, ⟨some 5, .mv (.t 24), none, 0⟩] 0 false []) .skip)) J69_1))))
def B69 := bB69
theorem wB69 : Wp O B69 Q σ h = Wp O bB69 Q σ h := rfl
def F69 : AF := ⟨B69, [.cell 2 (some 9)], false⟩
theorem tab69 : T 69 = some F69 := by kernel_rfl
/-- franking/lex.chars -/
abbrev bL70_0 : AC :=
  .seq (.region [⟨some 17, .next (.t 16), none, 0⟩, ⟨some 18, .ext (.t 17) 0, none, 0⟩] 0 false []) (.seq (.cond (.t 18) .skip (.exit 0)) (.block 1 (.seq (.region [⟨some 19, .ext (.t 17) 2, none, 0⟩,
  ⟨some 7, .mv (.t 19), none, 0⟩] 0 false []) (.region [⟨some 20, .mv (.t 5), none, 0⟩, ⟨some 21, .mv (.t 20), none, 0⟩, ⟨some 22, .mv (.t 7), some (21, true), 0⟩, ⟨some 23, .bin .geq (.t 22) (.c (.int
  .i32 32)), some (21, true), 0⟩, ⟨some 24, .pick (.t 21) (.t 23) (.c (.bool false)), none, 0⟩, ⟨some 25, .mv (.t 24), none, 0⟩, ⟨some 26, .mv (.t 7), some (25, true), 0⟩, ⟨some 27, .bin .leq (.t 26) (.c
  (.int .i32 126)), some (25, true), 0⟩, ⟨some 28, .pick (.t 25) (.t 27) (.c (.bool false)), none, 0⟩, ⟨some 5, .mv (.t 28), none, 0⟩] 0 false []))))
def L70_0 := bL70_0
theorem wL70_0 : Wp O L70_0 Q σ h = Wp O bL70_0 Q σ h := rfl
abbrev bK70_0 : AC :=
  .seq (.seq (.region [⟨some 29, .mv (.t 5), none, 0⟩, ⟨some 30, .not (.t 29), none, 0⟩] 0 false []) (.cond (.t 30) (.seq (.region [⟨some 31, .build [.int .u8 0, .int .i64 0, .str [], .int .i64 0, .int
  .i64 0, .int .u8 0, .int .u8 0, .int .i64 0, .int .i64 0] [(8, 1, .c (.int .i64 14))], none, 0⟩, ⟨none, .store 9 (.t 2) (.t 31), none, 0⟩] 0 false []) .ret) .skip)) (.seq (.region [⟨some 32, .mv (.t
  3), none, 0⟩, ⟨some 33, .build [.int .u8 0, .int .i64 0, .str [], .int .i64 0, .int .i64 0, .int .u8 0, .int .u8 0] [(0, 1, .c (.int .u8 10)), (2, 1, .t 32)], none, 0⟩, ⟨some 34, .mv (.t 3), none, 0⟩,
  ⟨some 35, .lenS (.t 34), none, 0⟩, ⟨some 36, .bin .add (.t 35) (.c (.int .i64 2)), none, 0⟩, ⟨some 37, .build [.int .u8 0, .int .i64 0, .str [], .int .i64 0, .int .i64 0, .int .u8 0, .int .u8 0, .int
  .i64 0, .int .i64 0] [(0, 7, .t 33), (7, 1, .t 36)], none, 0⟩, ⟨none, .store 9 (.t 2) (.t 37), none, 0⟩] 0 false []) .ret)
def K70_0 := bK70_0
theorem wK70_0 : Wp O K70_0 Q σ h = Wp O bK70_0 Q σ h := rfl
abbrev bB70 : AC :=
  .seq (.region [⟨some 2, .alloc [.int .u8 0, .int .i64 0, .str [], .int .i64 0, .int .i64 0, .int .u8 0, .int .u8 0, .int .i64 0, .int .i64 0], none, 0⟩] 1 false []) (.seq (.region [⟨some 9, .mv (.t 0),
  none, 0⟩, ⟨some 10, .sliceS (.t 9) (some (.c (.int .i64 1))) none, none, 0⟩, ⟨some 11, .call (.c (.fn 30 [])) [.t 10, .c (.str [34])], none, 0⟩, ⟨some 8, .mv (.t 11), none, 0⟩, ⟨some 12, .ext (.t 8) 0,
  none, 0⟩, ⟨some 13, .ext (.t 8) 1, none, 0⟩, ⟨some 14, .ext (.t 8) 2, none, 0⟩, ⟨some 3, .mv (.t 12), none, 0⟩, ⟨some 4, .mv (.t 13), none, 0⟩, ⟨some 5, .mv (.t 14), none, 0⟩] 0 false []) (.seq (.seq
  (.region [⟨some 15, .mv (.t 3), none, 0⟩, ⟨some 16, .rangeS (.t 15), none, 0⟩] 1 false []) (.block 0 (.loop L70_0))) K70_0))
def B70 := bB70
theorem wB70 : Wp O B70 Q σ h = Wp O bB70 Q σ h := rfl
def F70 : AF := ⟨B70, [.cell 2 (some 9)], false⟩
theorem tab70 : T 70 = some F70 := by kernel_rfl
/-- franking/lex.value -/
abbrev bL71_0 : AC :=
  .seq (.seq (.region [⟨some 59, .load none (.t 4), none, 0⟩, ⟨some 60, .load none (.t 1), none, 0⟩, ⟨some 61, .lenS (.t 60), none, 0⟩, ⟨some 62, .bin .lss (.t 59) (.t 61), none, 0⟩, ⟨some 63, .mv (.t
  62), none, 0⟩, ⟨some 64, .load none (.t 1), some (63, true), 0⟩, ⟨some 65, .load none (.t 4), some (63, true), 0⟩, ⟨some 66, .indexS (.t 64) (.t 65), some (63, true), 0⟩, ⟨some 67, .bin .eql (.t 66)
  (.c (.int .u8 46)), some (63, true), 0⟩, ⟨some 68, .pick (.t 63) (.t 67) (.c (.bool false)), none, 0⟩] 0 false []) (.cond (.t 68) .skip (.exit 0))) (.block 1 (.seq (.region [⟨some 69, .load none (.t
  4), none, 0⟩, ⟨some 70, .bin .add (.t 69) (.c (.int .i64 1)), none, 0⟩, ⟨none, .store 1 (.t 4) (.t 70), none, 0⟩] 0 false []) (.seq (.region [⟨some 72, .mv (.t 5), none, 0⟩, ⟨some 73, .call (.t 72) [],
  none, 0⟩, ⟨some 71, .mv (.t 73), none, 0⟩, ⟨some 74, .ext (.t 71) 0, none, 0⟩, ⟨some 75, .ext (.t 71) 1, none, 0⟩, ⟨some 12, .mv (.t 74), none, 0⟩, ⟨some 13, .mv (.t 75), none, 0⟩] 0 false []) (.seq
  (.seq (.region [⟨some 76, .mv (.t 13), none, 0⟩, ⟨some 77, .not (.t 76), none, 0⟩] 0 false []) (.cond (.t 77) (.seq (.region [⟨some 78, .load (some 9) (.t 6), none, 0⟩, ⟨none, .store 9 (.t 2) (.t 78),
  none, 0⟩] 0 false []) .ret) .skip)) (.region [⟨some 79, .mv (.t 11), none, 0⟩, ⟨some 80, .mv (.t 12), none, 0⟩, ⟨some 81, .bslice 1 [.t 80], none, 0⟩, ⟨some 82, .append 1 1 5 (.t 79) (.t 81), none, 0⟩,
  ⟨some 11, .mv (.t 82), none, 1⟩] 1 false [])))))
def L71_0 := bL71_0
theorem wL71_0 : Wp O L71_0 Q σ h = Wp O bL71_0 Q σ h := rfl
abbrev bK71_0 : AC :=
  .seq (.region [⟨some 83, .mv (.t 11), none, 0⟩, ⟨some 84, .cvBytesStr (.t 83), none, 0⟩, ⟨some 85, .build [.int .u8 0, .int .i64 0, .str [], .int .i64 0, .int .i64 0, .int .u8 0, .int .u8 0] [(0, 1, .c
  (.int .u8 11)), (2, 1, .t 84)], none, 0⟩, ⟨some 86, .load none (.t 4), none, 0⟩, ⟨some 87, .build [.int .u8 0, .int .i64 0, .str [], .int .i64 0, .int .i64 0, .int .u8 0, .int .u8 0, .int .i64 0, .int
  .i64 0] [(0, 7, .t 85), (7, 1, .t 86)], none, 0⟩, ⟨none, .store 9 (.t 2) (.t 87), none, 0⟩] 0 false []) .ret
def K71_0 := bK71_0
theorem wK71_0 : Wp O K71_0 Q σ h = Wp O bK71_0 Q σ h := rfl
abbrev bB71 : AC :=
  .seq (.region [⟨some 1, .box 1 (.t 0), none, 0⟩, ⟨some 2, .alloc [.int .u8 0, .int .i64 0, .str [], .int .i64 0, .int .i64 0, .int .u8 0, .int .u8 0, .int .i64 0, .int .i64 0], none, 1⟩] 2 false [])
  (.seq (.region [⟨some 14, .load none (.t 1), none, 0⟩, ⟨some 15, .sliceS (.t 14) (some (.c (.int .i64 1))) none, none, 0⟩, ⟨some 16, .call (.c (.fn 110 [])) [.t 15], none, 0⟩, ⟨some 3, .alloc [.int
  .i64 0], none, 0⟩, ⟨some 4, .alloc [.int .i64 0], none, 1⟩, ⟨none, .store 1 (.t 3) (.t 16), none, 2⟩, ⟨none, .store 1 (.t 4) (.c (.int .i64 2)), none, 2⟩] 2 false []) (.seq (.region [⟨some 17, .mkfn
  111 [.t 1, .t 4, .t 3], none, 0⟩, ⟨some 5, .mv (.t 17), none, 0⟩] 0 false []) (.seq (.region [⟨some 18, .build [.int .u8 0, .int .i64 0, .str [], .int .i64 0, .int .i64 0, .int .u8 0, .int .u8 0, .int
  .i64 0, .int .i64 0] [(8, 1, .c (.int .i64 15))], none, 0⟩, ⟨some 6, .alloc [.int .u8 0, .int .i64 0, .str [], .int .i64 0, .int .i64 0, .int .u8 0, .int .u8 0, .int .i64 0, .int .i64 0], none, 0⟩,
  ⟨none, .store 9 (.t 6) (.t 18), none, 1⟩] 1 false []) (.seq (.region [⟨some 20, .mv (.t 5), none, 0⟩, ⟨some 21, .call (.t 20) [], none, 0⟩, ⟨some 19, .mv (.t 21), none, 0⟩, ⟨some 22, .ext (.t 19) 0,
  none, 0⟩, ⟨some 23, .ext (.t 19) 1, none, 0⟩, ⟨some 7, .mv (.t 22), none, 0⟩, ⟨some 8, .mv (.t 23), none, 0⟩] 0 false []) (.seq (.seq (.region [⟨some 24, .mv (.t 8), none, 0⟩, ⟨some 25, .not (.t 24),
  none, 0⟩] 0 false []) (.cond (.t 25) (.seq (.region [⟨some 26, .load (some 9) (.t 6), none, 0⟩, ⟨none, .store 9 (.t 2) (.t 26), none, 0⟩] 0 false []) .ret) .skip)) (.seq (.seq (.region [⟨some 27, .load
  none (.t 4), none, 0⟩, ⟨some 28, .load none (.t 1), none, 0⟩, ⟨some 29, .lenS (.t 28), none, 0⟩, ⟨some 30, .bin .lss (.t 27) (.t 29), none, 0⟩, ⟨some 31, .mv (.t 30), none, 0⟩, ⟨some 32, .load none (.t
  1), some (31, true), 0⟩, ⟨some 33, .load none (.t 4), some (31, true), 0⟩, ⟨some 34, .indexS (.t 32) (.t 33), some (31, true), 0⟩, ⟨some 35, .bin .eql (.t 34) (.c (.int .u8 45)), some (31, true), 0⟩,
  ⟨some 36, .pick (.t 31) (.t 35) (.c (.bool false)), none, 0⟩] 0 false []) (.cond (.t 36) (.seq (.region [⟨some 37, .load none (.t 4), none, 0⟩, ⟨some 38, .bin .add (.t 37) (.c (.int .i64 1)), none, 0⟩,
  ⟨none, .store 1 (.t 4) (.t 38), none, 0⟩] 0 false []) (.seq (.region [⟨some 40, .mv (.t 5), none, 0⟩, ⟨some 41, .call (.t 40) [], none, 0⟩, ⟨some 39, .mv (.t 41), none, 0⟩, ⟨some 42, .ext (.t 39) 0,
  none, 0⟩, ⟨some 43, .ext (.t 39) 1, none, 0⟩, ⟨some 9, .mv (.t 42), none, 0⟩, ⟨some 10, .mv (.t 43), none, 0⟩] 0 false []) (.seq (.seq (.region [⟨some 44, .mv (.t 10), none, 0⟩, ⟨some 45, .not (.t 44),
  none, 0⟩, ⟨some 46, .mv (.t 45), none, 0⟩, ⟨some 47, .mv (.t 7), some (46, false), 0⟩, ⟨some 48, .mv (.t 9), some (46, false), 0⟩, ⟨some 49, .bin .gtr (.t 47) (.t 48), some (46, false), 0⟩, ⟨some 50,
  .pick (.t 46) (.c (.bool true)) (.t 49), none, 0⟩] 0 false []) (.cond (.t 50) (.seq (.region [⟨some 51, .load (some 9) (.t 6), none, 0⟩, ⟨none, .store 9 (.t 2) (.t 51), none, 0⟩] 0 false []) .ret)
  .skip)) (.seq (.region [⟨some 52, .mv (.t 7), none, 0⟩, ⟨some 53, .mv (.t 9), none, 0⟩, ⟨some 54, .build [.int .u8 0, .int .i64 0, .str [], .int .i64 0, .int .i64 0, .int .u8 0, .int .u8 0] [(0, 1, .c
  (.int .u8 12)), (5, 1, .t 52), (6, 1, .t 53)], none, 0⟩, ⟨some 55, .load none (.t 4), none, 0⟩, ⟨some 56, .build [.int .u8 0, .int .i64 0, .str [], .int .i64 0, .int .i64 0, .int .u8 0, .int .u8 0,
  .int .i64 0, .int .i64 0] [(0, 7, .t 54), (7, 1, .t 55)], none, 0⟩, ⟨none, .store 9 (.t 2) (.t 56), none, 0⟩] 0 false []) .ret)))) .skip)) (.seq (.region [⟨some 57, .mv (.t 7), none, 0⟩, ⟨some 58,
  .bslice 1 [.t 57], none, 0⟩, ⟨some 11, .mv (.t 58), none, 0⟩] 0 false []) (.seq (.block 0 (.loop L71_0)) K71_0))))))))
def B71 := bB71
theorem wB71 : Wp O B71 Q σ h = Wp O bB71 Q σ h := rfl
def F71 : AF := ⟨B71, [.cell 2 (some 9)], false⟩
theorem tab71 : T 71 = some F71 := by kernel_rfl
/-- franking/lex.rows$3 -/
abbrev bB72 : AC :=
  .seq (.region [⟨some 2, .alloc [.int .u8 0, .int .i64 0, .str [], .int .i64 0, .int .i64 0, .int .u8 0, .int .u8 0, .int .i64 0, .int .i64 0], none, 0⟩] 1 false []) (.seq (.region [⟨some 3, .build
  [.int .u8 0, .int .i64 0, .str [], .int .i64 0, .int .i64 0, .int .u8 0, .int .u8 0, .int .i64 0, .int .i64 0] [(8, 1, .c (.int .i64 16))], none, 0⟩, ⟨none, .store 9 (.t 2) (.t 3), none, 0⟩] 0 false
  []) .ret)
def B72 := bB72
theorem wB72 : Wp O B72 Q σ h = Wp O bB72 Q σ h := rfl
def F72 : AF := ⟨B72, [.cell 2 (some 9)], false⟩
theorem tab72 : T 72 = some F72 := by kernel_rfl
/-- franking/lex.rows$4 -/
abbrev bB73 : AC :=
  .seq (.region [⟨some 2, .mv (.c (.bool false)), none, 0⟩] 0 false []) (.seq (.region [⟨some 2, .mv (.c (.bool true)), none, 0⟩] 0 false []) .ret)
def B73 := bB73
theorem wB73 : Wp O B73 Q σ h = Wp O bB73 Q σ h := rfl
def F73 : AF := ⟨B73, [.tmp 2], false⟩
theorem tab73 : T 73 = some F73 := by kernel_rfl
/-- franking/lex.rows$5 -/
abbrev bB74 : AC :=
  .seq (.region [⟨some 2, .alloc [.int .u8 0, .int .i64 0, .str [], .int .i64 0, .int .i64 0, .int .u8 0, .int .u8 0, .int .i64 0, .int .i64 0], none, 0⟩] 1 false []) (.seq (.region [⟨some 3, .build
  [.int .u8 0, .int .i64 0, .str [], .int .i64 0, .int .i64 0, .int .u8 0, .int .u8 0, .int .i64 0, .int .i64 0] [(8, 1, .c (.int .i64 11))], none, 0⟩, ⟨none, .store 9 (.t 2) (.t 3), none, 0⟩] 0 false
  []) .ret)
def B74 := bB74
theorem wB74 : Wp O B74 Q σ h = Wp O bB74 Q σ h := rfl
def F74 : AF := ⟨B74, [.cell 2 (some 9)], false⟩
theorem tab74 : T 74 = some F74 := by kernel_rfl
/-- internal/stringslite.Cut -/
abbrev bB75 : AC :=
  .seq (.region [⟨some 4, .mv (.c (.str [])), none, 0⟩, ⟨some 5, .mv (.c (.str [])), none, 0⟩, ⟨some 6, .mv (.c (.bool false)), none, 0⟩] 0 false []) (.seq (.seq (.region [⟨some 8, .mv (.t 0), none, 0⟩,
  ⟨some 9, .mv (.t 1), none, 0⟩, ⟨some 10, .call (.c (.fn 101 [])) [.t 8, .t 9], none, 0⟩, ⟨some 7, .mv (.t 10), none, 0⟩] 0 false []) (.seq (.region [⟨some 11, .mv (.t 7), none, 0⟩, ⟨some 12, .bin .geq
  (.t 11) (.c (.int .i64 0)), none, 0⟩] 0 false []) (.cond (.t 12) (.seq (.region [⟨some 13, .mv (.t 0), none, 0⟩, ⟨some 14, .mv (.t 7), none, 0⟩, ⟨some 15, .sliceS (.t 13) none (some (.t 14)), none, 0⟩,
  ⟨some 16, .mv (.t 0), none, 0⟩, ⟨some 17, .mv (.t 7), none, 0⟩, ⟨some 18, .mv (.t 1), none, 0⟩, ⟨some 19, .lenS (.t 18), none, 0⟩, ⟨some 20, .bin .add (.t 17) (.t 19), none, 0⟩, ⟨some 21, .sliceS (.t
  16) (some (.t 20)) none, none, 0⟩, ⟨some 4, .mv (.t 15), none, 0⟩, ⟨some 5, .mv (.t 21), none, 0⟩, ⟨some 6, .mv (.c (.bool true)), none, 0⟩] 0 true []) .ret) .skip))) (.seq (.region [⟨some 22, .mv (.t
  0), none, 0⟩, ⟨some 4, .mv (.t 22), none, 0⟩, ⟨some 5, .mv (.c (.str [])), none, 0⟩, ⟨some 6, .mv (.c (.bool false)), none, 0⟩] 0 false []) .ret))
def B75 := bB75
theorem wB75 : Wp O B75 Q σ h = Wp O bB75 Q σ h := rfl
def F75 : AF := ⟨B75, [.tmp 4, .tmp 5, .tmp 6], false⟩
theorem tab75 : T 75 = some F75 := by kernel_rfl
/-- internal/stringslite.TrimSuffix -/
abbrev bB76 : AC :=
  .seq (.region [⟨some 4, .mv (.c (.str [])), none, 0⟩] 0 false []) (.seq (.seq (.region [⟨some 5, .mv (.t 0), none, 0⟩, ⟨some 6, .mv (.t 1), none, 0⟩, ⟨some 7, .call (.c (.fn 114 [])) [.t 5, .t 6],
  none, 0⟩] 0 false []) (.cond (.t 7) (.seq (.region [⟨some 8, .mv (.t 0), none, 0⟩, ⟨some 9, .mv (.t 0), none, 0⟩, ⟨some 10, .lenS (.t 9), none, 0⟩, ⟨some 11, .mv (.t 1), none, 0⟩, ⟨some 12, .lenS (.t
  11), none, 0⟩, ⟨some 13, .bin .sub (.t 10) (.t 12), none, 0⟩, ⟨some 14, .sliceS (.t 8) none (some (.t 13)), none, 0⟩, ⟨some 4, .mv (.t 14), none, 0⟩] 0 false []) .ret) .skip)) (.seq (.region [⟨some 15,
  .mv (.t 0), none, 0⟩, ⟨some 4, .mv (.t 15), none, 0⟩] 0 false []) .ret))
def B76 := bB76
theorem wB76 : Wp O B76 Q σ h = Wp O bB76 Q σ h := rfl
def F76 : AF := ⟨B76, [.tmp 4], false⟩
theorem tab76 : T 76 = some F76 := by kernel_rfl
/-- internal/stringslite.HasPrefix -/
abbrev bB94 : AC :=
  .seq (.region [⟨some 4, .mv (.c (.bool false)), none, 0⟩] 0 false []) (.seq (.region [⟨some 5, .mv (.t 0), none, 0⟩, ⟨some 6, .lenS (.t 5), none, 0⟩, ⟨some 7, .mv (.t 1), none, 0⟩, ⟨some 8, .lenS (.t
  7), none, 0⟩, ⟨some 9, .bin .geq (.t 6) (.t 8), none, 0⟩, ⟨some 10, .mv (.t 9), none, 0⟩, ⟨some 11, .mv (.t 0), some (10, true), 0⟩, ⟨some 12, .mv (.t 1), some (10, true), 0⟩, ⟨some 13, .lenS (.t 12),
  some (10, true), 0⟩, ⟨some 14, .sliceS (.t 11) none (some (.t 13)), some (10, true), 0⟩, ⟨some 15, .mv (.t 1), some (10, true), 0⟩, ⟨some 16, .bin .eql (.t 14) (.t 15), some (10, true), 0⟩, ⟨some 17,
  .pick (.t 10) (.t 16) (.c (.bool false)), none, 0⟩, ⟨some 4, .mv (.t 17), none, 0⟩] 0 false []) .ret)
def B94 := bB94
theorem wB94 : Wp O B94 Q σ h = Wp O bB94 Q σ h := rfl
def F94 : AF := ⟨B94, [.tmp 4], false⟩
theorem tab94 : T 94 = some F94 := by kernel_rfl
/-- internal/stringslite.Index -/
abbrev bL101_0 : AC :=
  .seq (.seq (.region [⟨some 57, .mv (.t 8), none, 0⟩, ⟨some 58, .mv (.t 9), none, 0⟩, ⟨some 59, .bin .lss (.t 57) (.t 58), none, 0⟩] 0 false []) (.cond (.t 59) .skip (.exit 1))) (.block 2 (.seq (.seq
  (.region [⟨some 60, .mv (.t 0), none, 0⟩, ⟨some 61, .mv (.t 8), none, 0⟩, ⟨some 62, .indexS (.t 60) (.t 61), none, 0⟩, ⟨some 63, .mv (.t 6), none, 0⟩, ⟨some 64, .bin .neq (.t 62) (.t 63), none, 0⟩] 0
  false []) (.cond (.t 64) (.seq (.region [⟨some 65, .mv (.t 0), none, 0⟩, ⟨some 66, .mv (.t 8), none, 0⟩, ⟨some 67, .bin .add (.t 66) (.c (.int .i64 1)), none, 0⟩, ⟨some 68, .mv (.t 9), none, 0⟩, ⟨some
  69, .sliceS (.t 65) (some (.t 67)) (some (.t 68)), none, 0⟩, ⟨some 70, .mv (.t 6), none, 0⟩, ⟨some 71, .call (.c (.fn 123 [])) [.t 69, .t 70], none, 0⟩, ⟨some 11, .mv (.t 71), none, 0⟩] 0 false [])
  (.seq (.seq (.region [⟨some 72, .mv (.t 11), none, 0⟩, ⟨some 73, .bin .lss (.t 72) (.c (.int .i64 0)), none, 0⟩] 0 false []) (.cond (.t 73) (.seq (.region [⟨some 4, .mv (.c (.int .i64 (-1))), none, 0⟩]
  0 false []) .ret) .skip)) (.region [⟨some 74, .mv (.t 8), none, 0⟩, ⟨some 75, .mv (.t 11), none, 0⟩, ⟨some 76, .bin .add (.t 75) (.c (.int .i64 1)), none, 0⟩, ⟨some 77, .bin .add (.t 74) (.t 76), none,
  0⟩, ⟨some 8, .mv (.t 77), none, 0⟩] 0 false []))) .skip)) (.seq (.seq (.region [⟨some 78, .mv (.t 0), none, 0⟩, ⟨some 79, .mv (.t 8), none, 0⟩, ⟨some 80, .bin .add (.t 79) (.c (.int .i64 1)), none, 0⟩,
  ⟨some 81, .indexS (.t 78) (.t 80), none, 0⟩, ⟨some 82, .mv (.t 7), none, 0⟩, ⟨some 83, .bin .eql (.t 81) (.t 82), none, 0⟩, ⟨some 84, .mv (.t 83), none, 0⟩, ⟨some 85, .mv (.t 0), some (84, true), 0⟩,
  ⟨some 86, .mv (.t 8), some (84, true), 0⟩, ⟨some 87, .mv (.t 8), some (84, true), 0⟩, ⟨some 88, .mv (.t 5), some (84, true), 0⟩, ⟨some 89, .bin .add (.t 87) (.t 88), some (84, true), 0⟩, ⟨some 90,
  .sliceS (.t 85) (some (.t 86)) (some (.t 89)), some (84, true), 0⟩, ⟨some 91, .mv (.t 1), some (84, true), 0⟩, ⟨some 92, .bin .eql (.t 90) (.t 91), some (84, true), 0⟩, ⟨some 93, .pick (.t 84) (.t 92)
  (.c (.bool false)), none, 0⟩] 0 false []) (.cond (.t 93) (.seq (.region [⟨some 94, .mv (.t 8), none, 0⟩, ⟨some 4, .mv (.t 94), none, 0⟩] 0 false []) .ret) .skip)) (.seq (.region [⟨some 95, .mv (.t 8),
  none, 0⟩, ⟨some 96, .bin .add (.t 95) (.c (.int .i64 1)), none, 0⟩, ⟨some 8, .mv (.t 96), none, 0⟩] 0 false []) (.seq (.region [⟨some 97, .mv (.t 10), none, 0⟩, ⟨some 98, .bin .add (.t 97) (.c (.int
  .i64 1)), none, 0⟩, ⟨some 10, .mv (.t 98), none, 0⟩] 0 false []) (.seq (.region [⟨some 99, .mv (.t 5), none, 0⟩, ⟨some 100, .fail, none, 0⟩, ⟨some 101, .bin .leq (.t 99) (.t 100), none, 0⟩, ⟨some 102,
  .mv (.t 101), none, 0⟩, ⟨some 103, .mv (.t 10), some (102, true), 0⟩, ⟨some 104, .mv (.t 8), some (102, true), 0⟩, ⟨some 105, .call (.c (.fn 125 [])) [.t 104], some (102, true), 0⟩, ⟨some 106, .bin
  .gtr (.t 103) (.t 105), some (102, true), 0⟩, ⟨some 107, .pick (.t 102) (.t 106) (.c (.bool false)), none, 0⟩] 0 false []) (.cond (.t 107) (.seq (.region [⟨some 108, .mv (.t 0), none, 0⟩, ⟨some 109,
  .mv (.t 8), none, 0⟩, ⟨some 110, .sliceS (.t 108) (some (.t 109)) none, none, 0⟩, ⟨some 111, .mv (.t 1), none, 0⟩, ⟨some 112, .call (.c (.fn 124 [])) [.t 110, .t 111], none, 0⟩, ⟨some 12, .mv (.t 112),
  none, 0⟩] 0 false []) (.seq (.seq (.region [⟨some 113, .mv (.t 12), none, 0⟩, ⟨some 114, .bin .geq (.t 113) (.c (.int .i64 0)), none, 0⟩] 0 false []) (.cond (.t 114) (.seq (.region [⟨some 115, .mv (.t
  12), none, 0⟩, ⟨some 116, .mv (.t 8), none, 0⟩, ⟨some 117, .bin .add (.t 115) (.t 116), none, 0⟩, ⟨some 4, .mv (.t 117), none, 0⟩] 0 false []) .ret) .skip)) (.seq (.region [⟨some 4, .mv (.c (.int .i64
  (-1))), none, 0⟩] 0 false []) .ret))) (.seq (.region [⟨some 118, .mv (.t 5), none, 0⟩, ⟨some 119, .fail, none, 0⟩, ⟨some 120, .bin .gtr (.t 118) (.t 119), none, 0⟩, ⟨some 121, .mv (.t 120), none, 0⟩,
  ⟨some 122, .mv (.t 10), some (121, true), 0⟩, ⟨some 123, .mv (.t 8), some (121, true), 0⟩, ⟨some 124, .bin .shr (.t 123) (.c (.int .u64 4)), some (121, true), 0⟩, ⟨some 125, .bin .add (.c (.int .i64
  4)) (.t 124), some (121, true), 0⟩, ⟨some 126, .bin .geq (.t 122) (.t 125), some (121, true), 0⟩, ⟨some 127, .pick (.t 121) (.t 126) (.c (.bool false)), none, 0⟩, ⟨some 128, .mv (.t 127), none, 0⟩,
  ⟨some 129, .mv (.t 8), some (128, true), 0⟩, ⟨some 130, .mv (.t 9), some (128, true), 0⟩, ⟨some 131, .bin .lss (.t 129) (.t 130), some (128, true), 0⟩, ⟨some 132, .pick (.t 128) (.t 131) (.c (.bool
  false)), none, 0⟩] 0 false []) (.cond (.t 132) (.seq (.region [⟨some 133, .mv (.t 0), none, 0⟩, ⟨some 134, .mv (.t 8), none, 0⟩, ⟨some 135, .sliceS (.t 133) (some (.t 134)) none, none, 0⟩, ⟨some 136,
  .mv (.t 1), none, 0⟩, ⟨some 137, .call (.c (.fn 126 [])) [.t 135, .t 136], none, 0⟩, ⟨some 13, .mv (.t 137), none, 0⟩] 0 false []) (.seq (.seq (.region [⟨some 138, .mv (.t 13), none, 0⟩, ⟨some 139,
  .bin .lss (.t 138) (.c (.int .i64 0)), none, 0⟩] 0 false []) (.cond (.t 139) (.seq (.region [⟨some 4, .mv (.c (.int .i64 (-1))), none, 0⟩] 0 false []) .ret) .skip)) (.seq (.region [⟨some 140, .mv (.t
  8), none, 0⟩, ⟨some 141, .mv (.t 13), none, 0⟩, ⟨some 142, .bin .add (.t 140) (.t 141), none, 0⟩, ⟨some 4, .mv (.t 142), none, 0⟩] 0 false []) .ret))) .skip)))))))))
def L101_0 := bL101_0
theorem wL101_0 : Wp O L101_0 Q σ h = Wp O bL101_0 Q σ h := rfl
abbrev bK101_0 : AC :=
  .seq (.region [⟨some 4, .mv (.c (.int .i64 (-1))), none, 0⟩] 0 false []) .ret
def K101_0 := bK101_0
theorem wK101_0 : Wp O K101_0 Q σ h = Wp O bK101_0 Q σ h := rfl
abbrev bB101 : AC :=
  .seq (.region [⟨some 4, .mv (.c (.int .i64 0)), none, 0⟩] 0 false []) (.seq (.region [⟨some 14, .mv (.t 1), none, 0⟩, ⟨some 15, .lenS (.t 14), none, 0⟩, ⟨some 5, .mv (.t 15), none, 0⟩] 0 false [])
  (.seq (.block 0 (.seq (.region [⟨some 17, .mv (.t 5), none, 0⟩, ⟨some 18, .bin .eql (.t 17) (.c (.int .i64 0)), none, 0⟩, ⟨some 19, .mv (.t 18), none, 0⟩, ⟨some 20, .mv (.t 1), some (19, false), 0⟩,
  ⟨some 21, .mv (.t 0), some (19, false), 0⟩, ⟨some 22, .bin .eql (.t 20) (.t 21), some (19, false), 0⟩, ⟨some 23, .pick (.t 19) (.c (.bool true)) (.t 22), none, 0⟩, ⟨some 16, .mv (.t 23), none, 0⟩] 0
  false []) (.cond (.t 16) (.seq (.region [⟨some 4, .mv (.c (.int .i64 0)), none, 0⟩] 0 false []) .ret) (.seq (.region [⟨some 25, .mv (.t 5), none, 0⟩, ⟨some 26, .bin .eql (.t 25) (.c (.int .i64 1)),
  none, 0⟩, ⟨some 24, .mv (.t 26), none, 0⟩] 0 false []) (.cond (.t 24) (.seq (.region [⟨some 27, .mv (.t 0), none, 0⟩, ⟨some 28, .mv (.t 1), none, 0⟩, ⟨some 29, .indexS (.t 28) (.c (.int .i64 0)), none,
  0⟩, ⟨some 30, .call (.c (.fn 123 [])) [.t 27, .t 29], none, 0⟩, ⟨some 4, .mv (.t 30), none, 0⟩] 0 false []) .ret) (.seq (.region [⟨some 32, .mv (.t 5), none, 0⟩, ⟨some 33, .mv (.t 0), none, 0⟩, ⟨some
  34, .lenS (.t 33), none, 0⟩, ⟨some 35, .bin .geq (.t 32) (.t 34), none, 0⟩, ⟨some 31, .mv (.t 35), none, 0⟩] 0 false []) (.cond (.t 31) (.seq (.region [⟨some 4, .mv (.c (.int .i64 (-1))), none, 0⟩] 0
  false []) .ret) (.seq (.region [⟨some 37, .mv (.t 5), none, 0⟩, ⟨some 38, .fail, none, 0⟩, ⟨some 39, .bin .leq (.t 37) (.t 38), none, 0⟩, ⟨some 40, .mv (.t 39), none, 0⟩, ⟨some 41, .mv (.t 0), some
  (40, true), 0⟩, ⟨some 42, .lenS (.t 41), some (40, true), 0⟩, ⟨some 43, .bin .leq (.t 42) (.c (.int .i64 64)), some (40, true), 0⟩, ⟨some 44, .pick (.t 40) (.t 43) (.c (.bool false)), none, 0⟩, ⟨some
  36, .mv (.t 44), none, 0⟩] 0 false []) (.cond (.t 36) (.seq (.region [⟨some 45, .mv (.t 0), none, 0⟩, ⟨some 46, .mv (.t 1), none, 0⟩, ⟨some 47, .call (.c (.fn 124 [])) [.t 45, .t 46], none, 0⟩, ⟨some
  4, .mv (.t 47), none, 0⟩] 0 false []) .ret) .skip))))))))) (.seq (.region [⟨some 48, .mv (.t 1), none, 0⟩, ⟨some 49, .indexS (.t 48) (.c (.int .i64 0)), none, 0⟩, ⟨some 6, .mv (.t 49), none, 0⟩] 0
  false []) (.seq (.region [⟨some 50, .mv (.t 1), none, 0⟩, ⟨some 51, .indexS (.t 50) (.c (.int .i64 1)), none, 0⟩, ⟨some 7, .mv (.t 51), none, 0⟩] 0 false []) (.seq (.region [⟨some 8, .mv (.c (.int .i64
  0)), none, 0⟩] 0 false []) (.seq (.region [⟨some 52, .mv (.t 0), none, 0⟩, ⟨some 53, .lenS (.t 52), none, 0⟩, ⟨some 54, .mv (.t 5), none, 0⟩, ⟨some 55, .bin .sub (.t 53) (.t 54), none, 0⟩, ⟨some 56,
  .bin .add (.t 55) (.c (.int .i64 1)), none, 0⟩, ⟨some 9, .mv (.t 56), none, 0⟩] 0 false []) (.seq (.region [⟨some 10, .mv (.c (.int .i64 0)), none, 0⟩] 0 false []) (.seq (.block 1 (.loop L101_0))
  K101_0))))))))
def B101 := bB101
theorem wB101 : Wp O B101 Q σ h = Wp O bB101 Q σ h := rfl
def F101 : AF := ⟨B101, [.tmp 4], false⟩
theorem tab101 : T 101 = some F101 := by kernel_rfl
/-- franking/lex.name$1 -/
abbrev bB107 : AC :=
  .seq (.region [⟨some 2, .mv (.c (.bool false)), none, 0⟩] 0 false []) (.seq (.region [⟨some 3, .mv (.t 0), none, 0⟩, ⟨some 4, .call (.c (.fn 34 [])) [.t 3], none, 0⟩, ⟨some 5, .mv (.t 4), none, 0⟩,
  ⟨some 6, .mv (.t 0), some (5, false), 0⟩, ⟨some 7, .call (.c (.fn 68 [])) [.t 6], some (5, false), 0⟩, ⟨some 8, .pick (.t 5) (.c (.bool true)) (.t 7), none, 0⟩, ⟨some 9, .mv (.t 8), none, 0⟩, ⟨some 10,
  .mv (.t 0), some (9, false), 0⟩, ⟨some 11, .bin .eql (.t 10) (.c (.int .u8 45)), some (9, false), 0⟩, ⟨some 12, .pick (.t 9) (.c (.bool true)) (.t 11), none, 0⟩, ⟨some 2, .mv (.t 12), none, 0⟩] 0 false
  []) .ret)
def B107 := bB107
theorem wB107 : Wp O B107 Q σ h = Wp O bB107 Q σ h := rfl
def F107 : AF := ⟨B107, [.tmp 2], false⟩
theorem tab107 : T 107 = some F107 := by kernel_rfl
/-- franking/lex.sign$1 -/
abbrev bB108 : AC :=
  .seq (.region [⟨some 3, .alloc [.int .u8 0, .int .i64 0, .str [], .int .i64 0, .int .i64 0, .int .u8 0, .int .u8 0, .int .i64 0, .int .i64 0], none, 0⟩] 1 false []) (.seq (.region [⟨some 4, .load none
  (.t 1), none, 0⟩, ⟨some 5, .build [.int .u8 0, .int .i64 0, .str [], .int .i64 0, .int .i64 0, .int .u8 0, .int .u8 0] [(0, 1, .t 4)], none, 0⟩, ⟨some 6, .build [.int .u8 0, .int .i64 0, .str [], .int
  .i64 0, .int .i64 0, .int .u8 0, .int .u8 0, .int .i64 0, .int .i64 0] [(0, 7, .t 5), (7, 1, .c (.int .i64 1))], none, 0⟩, ⟨none, .store 9 (.t 3) (.t 6), none, 0⟩] 0 false []) .ret)
def B108 := bB108
theorem wB108 : Wp O B108 Q σ h = Wp O bB108 Q σ h := rfl
def F108 : AF := ⟨B108, [.cell 3 (some 9)], false⟩
theorem tab108 : T 108 = some F108 := by kernel_rfl
/-- franking/lex.number -/
abbrev bL109_0 : AC :=
  .seq (.region [⟨some 10, .bin .lss (.t 9) (.t 8), none, 0⟩] 0 false []) (.seq (.cond (.t 10) .skip (.exit 0)) (.seq (.block 1 (.seq (.region [⟨some 11, .mv (.t 9), none, 0⟩, ⟨some 6, .mv (.t 11), none,
  0⟩] 0 false []) (.region [⟨some 12, .mv (.t 5), none, 0⟩, ⟨some 13, .mv (.t 1), none, 0⟩, ⟨some 14, .bin .mul (.t 12) (.t 13), none, 0⟩, ⟨some 15, .mv (.t 0), none, 0⟩, ⟨some 16, .mv (.t 6), none, 0⟩,
  ⟨some 17, .indexS (.t 15) (.t 16), none, 0⟩, ⟨some 18, .call (.c (.fn 113 [])) [.t 17], none, 0⟩, ⟨some 19, .bin .add (.t 14) (.t 18), none, 0⟩, ⟨some 5, .mv (.t 19), none, 0⟩] 0 false []))) (.region
  [⟨some 20, .bin .add (.t 9) (.c (.int .i64 1)), none, 0⟩, ⟨some 9, .mv (.t 20), none, 0⟩] 0 false [])))
def L109_0 := bL109_0
theorem wL109_0 : Wp O L109_0 Q σ h = Wp O bL109_0 Q σ h := rfl
abbrev bK109_0 : AC :=
  .seq (.region [⟨some 21, .mv (.t 5), none, 0⟩, ⟨some 4, .mv (.t 21), none, 0⟩] 0 false []) .ret
def K109_0 := bK109_0
theorem wK109_0 : Wp O K109_0 Q σ h = Wp O bK109_0 Q σ h := rfl
abbrev bB109 : AC :=
  .seq (.region [⟨some 4, .mv (.c (.int .i64 0)), none, 0⟩] 0 false []) (.seq (.region [⟨some 5, .mv (.c (.int .i64 0)), none, 0⟩] 0 false []) (.seq (.seq (.region [⟨some 7, .mv (.t 0), none, 0⟩, ⟨some
  8, .lenS (.t 7), none, 0⟩, ⟨some 9, .mv (.c (.int .i64 0)), none, 0⟩] 0 false []) (.block 0 (.loop L109_0))) K109_0))
def B109 := bB109
theorem wB109 : Wp O B109 Q σ h = Wp O bB109 Q σ h := rfl
def F109 : AF := ⟨B109, [.tmp 4], false⟩
theorem tab109 : T 109 = some F109 := by kernel_rfl
/-- franking/lex.base -/
abbrev bB110 : AC :=
  .seq (.region [⟨some 2, .mv (.c (.int .i64 0)), none, 0⟩] 0 false []) (.seq (.seq (.region [⟨some 3, .mv (.t 0), none, 0⟩, ⟨some 4, .bin .eql (.t 3) (.c (.str [])), none, 0⟩] 0 false []) (.cond (.t 4)
  (.seq (.region [⟨some 2, .mv (.c (.int .i64 0)), none, 0⟩] 0 false []) .ret) .skip)) (.seq (.seq (.region [⟨some 5, .mv (.t 0), none, 0⟩, ⟨some 6, .indexS (.t 5) (.c (.int .i64 0)), none, 0⟩, ⟨some 7,
  .bin .or (.t 6) (.c (.int .u8 32)), none, 0⟩] 0 false []) (.block 0 (.seq (.region [⟨some 9, .bin .eql (.t 7) (.c (.int .u8 120)), none, 0⟩, ⟨some 8, .mv (.t 9), none, 0⟩] 0 false []) (.cond (.t 8)
  (.seq (.region [⟨some 2, .mv (.c (.int .i64 16)), none, 0⟩] 0 false []) .ret) (.seq (.region [⟨some 11, .bin .eql (.t 7) (.c (.int .u8 100)), none, 0⟩, ⟨some 10, .mv (.t 11), none, 0⟩] 0 false [])
  (.cond (.t 10) (.seq (.region [⟨some 2, .mv (.c (.int .i64 10)), none, 0⟩] 0 false []) .ret) (.seq (.region [⟨some 13, .bin .eql (.t 7) (.c (.int .u8 98)), none, 0⟩, ⟨some 12, .mv (.t 13), none, 0⟩] 0
  false []) (.cond (.t 12) (.seq (.region [⟨some 2, .mv (.c (.int .i64 2)), none, 0⟩] 0 false []) .ret) .skip)))))))) (.seq (.region [⟨some 2, .mv (.c (.int .i64 0)), none, 0⟩] 0 false []) .ret)))
def B110 := bB110
theorem wB110 : Wp O B110 Q σ h = Wp O bB110 Q σ h := rfl
def F110 : AF := ⟨B110, [.tmp 2], false⟩
theorem tab110 : T 110 = some F110 := by kernel_rfl
/-- franking/lex.value$1 -/
abbrev bB111 : AC :=
  .seq (.region [⟨some 3, .mv (.c (.int .u8 0)), none, 0⟩, ⟨some 4, .mv (.c (.bool false)), none, 0⟩] 0 false []) (.seq (.region [⟨some 7, .load none (.t 0), none, 0⟩, ⟨some 8, .load none (.t 1), none,
  0⟩, ⟨some 9, .load none (.t 0), none, 0⟩, ⟨some 10, .lenS (.t 9), none, 0⟩, ⟨some 11, .min (.t 8) (.t 10), none, 0⟩, ⟨some 12, .sliceS (.t 7) (some (.t 11)) none, none, 0⟩, ⟨some 13, .mkfn 112 [.t 2],
  none, 0⟩, ⟨some 14, .call (.c (.fn 32 [])) [.t 12, .t 13], none, 0⟩, ⟨some 5, .mv (.t 14), none, 0⟩] 0 false []) (.seq (.seq (.region [⟨some 15, .mv (.t 5), none, 0⟩, ⟨some 16, .bin .eql (.t 15) (.c
  (.int .i64 0)), none, 0⟩, ⟨some 17, .mv (.t 16), none, 0⟩, ⟨some 18, .mv (.t 5), some (17, false), 0⟩, ⟨some 19, .bin .gtr (.t 18) (.c (.int .i64 8)), some (17, false), 0⟩, ⟨some 20, .pick (.t 17) (.c
  (.bool true)) (.t 19), none, 0⟩] 0 false []) (.cond (.t 20) (.seq (.region [⟨some 3, .mv (.c (.int .u8 0)), none, 0⟩, ⟨some 4, .mv (.c (.bool false)), none, 0⟩] 0 false []) .ret) .skip)) (.seq (.region
  [⟨some 21, .load none (.t 0), none, 0⟩, ⟨some 22, .load none (.t 1), none, 0⟩, ⟨some 23, .load none (.t 1), none, 0⟩, ⟨some 24, .mv (.t 5), none, 0⟩, ⟨some 25, .bin .add (.t 23) (.t 24), none, 0⟩,
  ⟨some 26, .sliceS (.t 21) (some (.t 22)) (some (.t 25)), none, 0⟩, ⟨some 27, .load none (.t 2), none, 0⟩, ⟨some 28, .call (.c (.fn 109 [])) [.t 26, .t 27], none, 0⟩, ⟨some 6, .mv (.t 28), none, 0⟩] 0
  true []) (.seq (.region [⟨some 29, .load none (.t 1), none, 0⟩, ⟨some 30, .mv (.t 5), none, 0⟩, ⟨some 31, .bin .add (.t 29) (.t 30), none, 0⟩, ⟨none, .store 1 (.t 1) (.t 31), none, 0⟩] 0 false [])
  (.seq (.region [⟨some 32, .mv (.t 6), none, 0⟩, ⟨some 33, .cvInt .u8 (.t 32), none, 0⟩, ⟨some 34, .mv (.t 6), none, 0⟩, ⟨some 35, .bin .leq (.t 34) (.c (.int .i64 255)), none, 0⟩, ⟨some 3, .mv (.t 33),
  none, 0⟩, ⟨some 4, .mv (.t 35), none, 0⟩] 0 false []) .ret)))))
def B111 := bB111
theorem wB111 : Wp O B111 Q σ h = Wp O bB111 Q σ h := rfl
def F111 : AF := ⟨B111, [.tmp 3, .tmp 4], true⟩
theorem tab111 : T 111 = some F111 := by kernel_rfl
/-- franking/lex.value$1$1 -/
abbrev bB112 : AC :=
  .seq (.region [⟨some 3, .mv (.c (.bool false)), none, 0⟩] 0 false []) (.seq (.region [⟨some 4, .mv (.t 0), none, 0⟩, ⟨some 5, .call (.c (.fn 113 [])) [.t 4], none, 0⟩, ⟨some 6, .load none (.t 1), none,
  0⟩, ⟨some 7, .bin .lss (.t 5) (.t 6), none, 0⟩, ⟨some 3, .mv (.t 7), none, 0⟩] 0 true [(1, 2)]) .ret)
def B112 := bB112
theorem wB112 : Wp O B112 Q σ h = Wp O bB112 Q σ h := rfl
def F112 : AF := ⟨B112, [.tmp 3], false⟩
theorem tab112 : T 112 = some F112 := by kernel_rfl
/-- franking/lex.nibble -/
abbrev bB113 : AC :=
  .seq (.region [⟨some 2, .mv (.c (.int .i64 0)), none, 0⟩] 0 false []) (.seq (.block 0 (.seq (.region [⟨some 4, .mv (.t 0), none, 0⟩, ⟨some 5, .call (.c (.fn 68 [])) [.t 4], none, 0⟩, ⟨some 3, .mv (.t
  5), none, 0⟩] 0 false []) (.cond (.t 3) (.seq (.region [⟨some 6, .mv (.t 0), none, 0⟩, ⟨some 7, .bin .sub (.t 6) (.c (.int .u8 48)), none, 0⟩, ⟨some 8, .cvInt .i64 (.t 7), none, 0⟩, ⟨some 2, .mv (.t
  8), none, 0⟩] 0 false []) .ret) (.seq (.region [⟨some 10, .mv (.t 0), none, 0⟩, ⟨some 11, .bin .or (.t 10) (.c (.int .u8 32)), none, 0⟩, ⟨some 12, .bin .geq (.t 11) (.c (.int .u8 97)), none, 0⟩, ⟨some
  13, .mv (.t 12), none, 0⟩, ⟨some 14, .mv (.t 0), some (13, true), 0⟩, ⟨some 15, .bin .or (.t 14) (.c (.int .u8 32)), some (13, true), 0⟩, ⟨some 16, .bin .leq (.t 15) (.c (.int .u8 102)), some (13,
  true), 0⟩, ⟨some 17, .pick (.t 13) (.t 16) (.c (.bool false)), none, 0⟩, ⟨some 9, .mv (.t 17), none, 0⟩] 0 false []) (.cond (.t 9) (.seq (.region [⟨some 18, .mv (.t 0), none, 0⟩, ⟨some 19, .bin .or (.t
  18) (.c (.int .u8 32)), none, 0⟩, ⟨some 20, .bin .sub (.t 19) (.c (.int .u8 97)), none, 0⟩, ⟨some 21, .cvInt .i64 (.t 20), none, 0⟩, ⟨some 22, .bin .add (.t 21) (.c (.int .i64 10)), none, 0⟩, ⟨some 2,
  .mv (.t 22), none, 0⟩] 0 false []) .ret) .skip))))) (.seq (.region [⟨some 2, .mv (.c (.int .i64 16)), none, 0⟩] 0 false []) .ret))
def B113 := bB113
theorem wB113 : Wp O B113 Q σ h = Wp O bB113 Q σ h := rfl
def F113 : AF := ⟨B113, [.tmp 2], false⟩
theorem tab113 : T 113 = some F113 := by kernel_rfl
/-- internal/stringslite.HasSuffix -/
abbrev bB114 : AC :=
  .seq (.region [⟨some 4, .mv (.c (.bool false)), none, 0⟩] 0 false []) (.seq (.region [⟨some 5, .mv (.t 0), none, 0⟩, ⟨some 6, .lenS (.t 5), none, 0⟩, ⟨some 7, .mv (.t 1), none, 0⟩, ⟨some 8, .lenS (.t
  7), none, 0⟩, ⟨some 9, .bin .geq (.t 6) (.t 8), none, 0⟩, ⟨some 10, .mv (.t 9), none, 0⟩, ⟨some 11, .mv (.t 0), some (10, true), 0⟩, ⟨some 12, .mv (.t 0), some (10, true), 0⟩, ⟨some 13, .lenS (.t 12),
  some (10, true), 0⟩, ⟨some 14, .mv (.t 1), some (10, true), 0⟩, ⟨some 15, .lenS (.t 14), some (10, true), 0⟩, ⟨some 16, .bin .sub (.t 13) (.t 15), some (10, true), 0⟩, ⟨some 17, .sliceS (.t 11) (some
  (.t 16)) none, some (10, true), 0⟩, ⟨some 18, .mv (.t 1), some (10, true), 0⟩, ⟨some 19, .bin .eql (.t 17) (.t 18), some (10, true), 0⟩, ⟨some 20, .pick (.t 10) (.t 19) (.c (.bool false)), none, 0⟩,
  ⟨some 4, .mv (.t 20), none, 0⟩] 0 false []) .ret)
def B114 := bB114
theorem wB114 : Wp O B114 Q σ h = Wp O bB114 Q σ h := rfl
def F114 : AF := ⟨B114, [.tmp 4], false⟩
theorem tab114 : T 114 = some F114 := by kernel_rfl
/-- internal/stringslite.IndexByte -/
abbrev bB123 : AC :=
  .seq (.region [⟨some 4, .mv (.c (.int .i64 0)), none, 0⟩] 0 false []) (.seq (.region [⟨some 5, .mv (.t 0), none, 0⟩, ⟨some 6, .mv (.t 1), none, 0⟩, ⟨some 7, .call (.c (.fn 134 [])) [.t 5, .t 6], none,
  0⟩, ⟨some 4, .mv (.t 7), none, 0⟩] 0 false []) .ret)
def B123 := bB123
theorem wB123 : Wp O B123 Q σ h = Wp O bB123 Q σ h := rfl
def F123 : AF := ⟨B123, [.tmp 4], false⟩
theorem tab123 : T 123 = some F123 := by kernel_rfl
/-- franking/abnf.Parse -/
abbrev bL11_0 : AC :=
  .seq (.seq (.region [⟨some 13, .mv (.t 5), none, 0⟩, ⟨some 14, .nilchk (.t 13), none, 0⟩, ⟨some 15, .off 1 (.t 14), none, 0⟩, ⟨some 16, .load none (.t 15), none, 0⟩, ⟨some 17, .mv (.t 0), none, 0⟩,
  ⟨some 18, .len (.t 17), none, 0⟩, ⟨some 19, .bin .lss (.t 16) (.t 18), none, 0⟩] 0 false []) (.cond (.t 19) .skip (.exit 0))) (.block 1 (.seq (.region [⟨some 20, .mv (.t 5), none, 0⟩, ⟨some 21,
  .cvStrBytes 5 (.c (.str [1])), none, 0⟩, ⟨some 22, .call (.c (.fn 36 [])) [.t 20, .t 21], none, 1⟩, ⟨some 7, .alloc [.int .u8 0, .int .i64 0, .str [], .int .i64 0, .int .i64 0, .int .u8 0, .int .u8 0],
  none, 1⟩, ⟨none, .store 7 (.t 7) (.t 22), none, 2⟩] 2 false []) (.seq (.region [⟨some 23, .mv (.t 5), none, 0⟩, ⟨some 24, .off 2 (.t 7), none, 0⟩, ⟨some 25, .load none (.t 24), none, 0⟩, ⟨some 26,
  .call (.c (.fn 38 [])) [.t 25], none, 0⟩, ⟨some 27, .build [.int .u8 0, .str [], .int .u8 0, .int .u8 0, .int .i64 0, .int .i64 0, .list 7 [] .full] [(0, 1, .c (.int .u8 1)), (1, 1, .t 26)], none, 0⟩,
  ⟨some 28, .call (.c (.fn 37 [])) [.t 23, .t 27], none, 0⟩] 0 false []) (.seq (.region [⟨some 29, .mv (.t 5), none, 0⟩, ⟨some 30, .cvStrBytes 5 (.c (.str [2, 3])), none, 0⟩, ⟨some 31, .call (.c (.fn 36
  [])) [.t 29, .t 30], none, 1⟩, ⟨some 8, .alloc [.int .u8 0, .int .i64 0, .str [], .int .i64 0, .int .i64 0, .int .u8 0, .int .u8 0], none, 1⟩, ⟨none, .store 7 (.t 8) (.t 31), none, 2⟩] 2 false [])
  (.seq (.region [⟨some 32, .mv (.t 5), none, 0⟩, ⟨some 33, .call (.c (.fn 39 [])) [.t 32], none, 0⟩, ⟨some 9, .alloc [.int .u8 0, .str [], .int .u8 0, .int .u8 0, .int .i64 0, .int .i64 0, .list 7 []
  .full], none, 0⟩, ⟨none, .store 7 (.t 9) (.t 33), none, 1⟩] 1 false []) (.seq (.region [⟨some 34, .mv (.t 5), none, 0⟩, ⟨some 35, .cvStrBytes 5 (.c (.str [13])), none, 0⟩, ⟨some 36, .call (.c (.fn 36
  [])) [.t 34, .t 35], none, 1⟩] 1 false []) (.seq (.block 2 (.seq (.region [⟨some 38, .mv (.t 5), none, 0⟩, ⟨some 39, .nilchk (.t 38), none, 0⟩, ⟨some 40, .off 2 (.t 39), none, 0⟩, ⟨some 41, .load none
  (.t 40), none, 0⟩, ⟨some 37, .mv (.t 41), none, 0⟩] 0 false []) (.cond (.t 37) (.seq (.region [⟨some 42, .mv (.t 0), none, 0⟩, ⟨some 43, .mv (.t 5), none, 0⟩, ⟨some 44, .nilchk (.t 43), none, 0⟩, ⟨some
  45, .off 1 (.t 44), none, 0⟩, ⟨some 46, .load none (.t 45), none, 0⟩, ⟨some 47, .mv (.t 0), none, 0⟩, ⟨some 48, .len (.t 47), none, 0⟩, ⟨some 49, .bin .sub (.t 48) (.c (.int .i64 1)), none, 0⟩, ⟨some
  50, .min (.t 46) (.t 49), none, 0⟩, ⟨some 51, .idx 7 (.t 42) (.t 50), none, 0⟩, ⟨some 52, .off 1 (.t 51), none, 0⟩, ⟨some 53, .load none (.t 52), none, 0⟩, ⟨some 2, .mv (.c (.list 10 [] .full)), none,
  0⟩, ⟨some 3, .mv (.t 53), none, 0⟩, ⟨some 4, .mv (.c (.int .i64 20)), none, 0⟩] 0 true []) .ret) (.seq (.region [⟨some 55, .load (some 7) (.t 9), none, 0⟩, ⟨some 56, .call (.c (.fn 14 [])) [.t 55],
  none, 0⟩, ⟨some 57, .not (.t 56), none, 0⟩, ⟨some 54, .mv (.t 57), none, 0⟩] 0 false []) (.cond (.t 54) (.seq (.region [⟨some 58, .off 1 (.t 7), none, 0⟩, ⟨some 59, .load none (.t 58), none, 0⟩, ⟨some
  2, .mv (.c (.list 10 [] .full)), none, 0⟩, ⟨some 3, .mv (.t 59), none, 0⟩, ⟨some 4, .mv (.c (.int .i64 21)), none, 0⟩] 0 true []) .ret) .skip))))) (.region [⟨some 60, .mv (.t 6), none, 0⟩, ⟨some 61,
  .off 2 (.t 7), none, 0⟩, ⟨some 62, .load none (.t 61), none, 0⟩, ⟨some 63, .call (.c (.fn 38 [])) [.t 62], none, 0⟩, ⟨some 64, .off 1 (.t 7), none, 0⟩, ⟨some 65, .load none (.t 64), none, 0⟩, ⟨some 66,
  .off 0 (.t 8), none, 0⟩, ⟨some 67, .load none (.t 66), none, 0⟩, ⟨some 68, .bin .eql (.t 67) (.c (.int .u8 3)), none, 0⟩, ⟨some 69, .load (some 7) (.t 9), none, 0⟩, ⟨some 70, .build [.str [], .int .i64
  0, .bool false, .int .u8 0, .str [], .int .u8 0, .int .u8 0, .int .i64 0, .int .i64 0, .list 7 [] .full] [(0, 1, .t 63), (1, 1, .t 65), (2, 1, .t 68), (3, 7, .t 69)], none, 0⟩, ⟨some 71, .bslice 10 [.t
  70], none, 0⟩, ⟨some 72, .append 10 104 27 (.t 60) (.t 71), none, 0⟩, ⟨some 6, .mv (.t 72), none, 1⟩] 1 true [(3, 5), (3, 7), (3, 9)]))))))))
def L11_0 := bL11_0
theorem wL11_0 : Wp O L11_0 Q σ h = Wp O bL11_0 Q σ h := rfl
abbrev bK11_0 : AC :=
  .seq (.region [⟨some 73, .mv (.t 6), none, 0⟩, ⟨some 2, .mv (.t 73), none, 0⟩, ⟨some 3, .mv (.c (.int .i64 0)), none, 0⟩, ⟨some 4, .mv (.c (.int .i64 0)), none, 0⟩] 0 false []) .ret
def K11_0 := bK11_0
theorem wK11_0 : Wp O K11_0 Q σ h = Wp O bK11_0 Q σ h := rfl
abbrev bB11 : AC :=
  .seq (.region [⟨some 2, .mv (.c (.list 10 [] .full)), none, 0⟩, ⟨some 3, .mv (.c (.int .i64 0)), none, 0⟩, ⟨some 4, .mv (.c (.int .i64 0)), none, 0⟩] 0 false []) (.seq (.region [⟨some 10, .mv (.t 0),
  none, 0⟩, ⟨some 11, .build [.list 7 [] .full, .int .i64 0, .bool false] [(0, 1, .t 10)], none, 0⟩, ⟨some 12, .box 3 (.t 11), none, 0⟩, ⟨some 5, .mv (.t 12), none, 1⟩] 1 false []) (.seq (.region [⟨some
  6, .mv (.c (.list 10 [] .full)), none, 0⟩] 0 false []) (.seq (.block 0 (.loop L11_0)) K11_0)))
def B11 := bB11
theorem wB11 : Wp O B11 Q σ h = Wp O bB11 Q σ h := rfl
def F11 : AF := ⟨B11, [.tmp 2, .tmp 3, .tmp 4], false⟩
theorem tab11 : T 11 = some F11 := by kernel_rfl
/-- franking/abnf.Right -/
abbrev bB14 : AC :=
  .seq (.region [⟨some 1, .box 7 (.t 0), none, 0⟩, ⟨some 2, .mv (.c (.bool false)), none, 1⟩] 1 false []) (.seq (.region [⟨some 3, .load (some 7) (.t 1), none, 0⟩, ⟨some 4, .call (.c (.fn 42 [])) [.t 3,
  .c (.int .i64 100)], none, 0⟩, ⟨some 2, .mv (.t 4), none, 0⟩] 0 false []) .ret)
def B14 := bB14
theorem wB14 : Wp O B14 Q σ h = Wp O bB14 Q σ h := rfl
def F14 : AF := ⟨B14, [.tmp 2], false⟩
theorem tab14 : T 14 = some F14 := by kernel_rfl
/-- franking/abnf.Print -/
abbrev bJ16_0 : AC :=
  .seq (.region [⟨some 17, .off 0 (.t 1), none, 0⟩, ⟨some 18, .load none (.t 17), none, 0⟩, ⟨some 19, .mv (.t 4), none, 0⟩, ⟨some 20, .bin .add (.t 18) (.t 19), none, 0⟩, ⟨some 21, .off 3 (.t 1), none,
  0⟩, ⟨some 22, .load (some 7) (.t 21), none, 0⟩, ⟨some 23, .call (.c (.fn 45 [])) [.t 22], none, 0⟩, ⟨some 24, .bin .add (.t 20) (.t 23), none, 0⟩, ⟨some 2, .mv (.t 24), none, 0⟩, ⟨some 3, .mv (.c (.int
  .i64 0)), none, 0⟩] 0 true [(1, 6)]) .ret
def J16_0 := bJ16_0
theorem wJ16_0 : Wp O J16_0 Q σ h = Wp O bJ16_0 Q σ h := rfl
abbrev bB16 : AC :=
  .seq (.region [⟨some 1, .box 10 (.t 0), none, 0⟩, ⟨some 2, .mv (.c (.str [])), none, 1⟩, ⟨some 3, .mv (.c (.int .i64 0)), none, 1⟩] 1 false []) (.seq (.seq (.region [⟨some 5, .off 0 (.t 1), none, 0⟩,
  ⟨some 6, .load none (.t 5), none, 0⟩, ⟨some 7, .call (.c (.fn 44 [])) [.t 6], none, 0⟩, ⟨some 8, .not (.t 7), none, 0⟩, ⟨some 9, .mv (.t 8), none, 0⟩, ⟨some 10, .off 3 (.t 1), some (9, false), 0⟩,
  ⟨some 11, .load (some 7) (.t 10), some (9, false), 0⟩, ⟨some 12, .call (.c (.fn 14 [])) [.t 11], some (9, false), 0⟩, ⟨some 13, .not (.t 12), some (9, false), 0⟩, ⟨some 14, .pick (.t 9) (.c (.bool
  true)) (.t 13), none, 0⟩] 0 false []) (.cond (.t 14) (.seq (.region [⟨some 2, .mv (.c (.str [])), none, 0⟩, ⟨some 3, .mv (.c (.int .i64 2)), none, 0⟩] 0 false []) .ret) .skip)) (.seq (.region [⟨some 4,
  .mv (.c (.str [32, 61, 32])), none, 0⟩] 0 false []) (.seq (.seq (.region [⟨some 15, .off 2 (.t 1), none, 0⟩, ⟨some 16, .load none (.t 15), none, 0⟩] 0 false []) (.cond (.t 16) (.region [⟨some 4, .mv
  (.c (.str [32, 61, 47, 32])), none, 0⟩] 0 false []) .skip)) J16_0)))
def B16 := bB16
theorem wB16 : Wp O B16 Q σ h = Wp O bB16 Q σ h := rfl
def F16 : AF := ⟨B16, [.tmp 2, .tmp 3], false⟩
theorem tab16 : T 16 = some F16 := by kernel_rfl
/-- (*franking/abnf.reader).take -/
abbrev bB36 : AC :=
  .seq (.region [⟨some 4, .alloc [.int .u8 0, .int .i64 0, .str [], .int .i64 0, .int .i64 0, .int .u8 0, .int .u8 0], none, 0⟩] 1 false []) (.seq (.seq (.region [⟨some 5, .mv (.t 0), none, 0⟩, ⟨some 6,
  .mv (.t 1), none, 0⟩, ⟨some 7, .call (.c (.fn 77 [])) [.t 5, .t 6], none, 0⟩, ⟨some 8, .not (.t 7), none, 0⟩] 0 false []) (.cond (.t 8) (.seq (.region [⟨some 9, .mv (.t 0), none, 0⟩, ⟨some 10, .nilchk
  (.t 9), none, 0⟩, ⟨some 11, .off 2 (.t 10), none, 0⟩, ⟨none, .store 1 (.t 11) (.c (.bool true)), none, 0⟩] 0 false []) (.seq (.region [⟨some 12, .build [.int .u8 0, .int .i64 0, .str [], .int .i64 0,
  .int .i64 0, .int .u8 0, .int .u8 0] [], none, 0⟩, ⟨none, .store 7 (.t 4) (.t 12), none, 0⟩] 0 false []) .ret)) .skip)) (.seq (.region [⟨some 13, .mv (.t 0), none, 0⟩, ⟨some 14, .nilchk (.t 13), none,
  0⟩, ⟨some 15, .off 1 (.t 14), none, 0⟩, ⟨some 16, .load none (.t 15), none, 0⟩, ⟨some 17, .bin .add (.t 16) (.c (.int .i64 1)), none, 0⟩, ⟨some 18, .nilchk (.t 13), none, 0⟩, ⟨some 19, .off 1 (.t 18),
  none, 0⟩, ⟨none, .store 1 (.t 19) (.t 17), none, 0⟩] 0 false []) (.seq (.region [⟨some 20, .mv (.t 0), none, 0⟩, ⟨some 21, .nilchk (.t 20), none, 0⟩, ⟨some 22, .off 0 (.t 21), none, 0⟩, ⟨some 23, .load
  none (.t 22), none, 0⟩, ⟨some 24, .mv (.t 0), none, 0⟩, ⟨some 25, .nilchk (.t 24), none, 0⟩, ⟨some 26, .off 1 (.t 25), none, 0⟩, ⟨some 27, .load none (.t 26), none, 0⟩, ⟨some 28, .bin .sub (.t 27) (.c
  (.int .i64 1)), none, 0⟩, ⟨some 29, .idx 7 (.t 23) (.t 28), none, 0⟩, ⟨some 30, .load (some 7) (.t 29), none, 0⟩, ⟨none, .store 7 (.t 4) (.t 30), none, 0⟩] 0 true []) .ret)))
def B36 := bB36
theorem wB36 : Wp O B36 Q σ h = Wp O bB36 Q σ h := rfl
def F36 : AF := ⟨B36, [.cell 4 (some 7)], false⟩
theorem tab36 : T 36 = some F36 := by kernel_rfl
/-- (*franking/abnf.reader).made -/
abbrev bB37 : AC :=
  .seq (.region [⟨some 3, .box 7 (.t 1), none, 0⟩, ⟨some 4, .alloc [.int .u8 0, .str [], .int .u8 0, .int .u8 0, .int .i64 0, .int .i64 0, .list 7 [] .full], none, 1⟩] 2 false []) (.seq (.seq (.region
  [⟨some 5, .mv (.t 0), none, 0⟩, ⟨some 6, .nilchk (.t 5), none, 0⟩, ⟨some 7, .off 2 (.t 6), none, 0⟩, ⟨some 8, .load none (.t 7), none, 0⟩, ⟨some 9, .not (.t 8), none, 0⟩, ⟨some 10, .mv (.t 9), none,
  0⟩, ⟨some 11, .load (some 7) (.t 3), some (10, true), 0⟩, ⟨some 12, .call (.c (.fn 78 [])) [.t 11], some (10, true), 0⟩, ⟨some 13, .not (.t 12), some (10, true), 0⟩, ⟨some 14, .pick (.t 10) (.t 13) (.c
  (.bool false)), none, 0⟩] 0 false []) (.cond (.t 14) (.seq (.region [⟨some 15, .mv (.t 0), none, 0⟩, ⟨some 16, .nilchk (.t 15), none, 0⟩, ⟨some 17, .off 2 (.t 16), none, 0⟩, ⟨none, .store 1 (.t 17) (.c
  (.bool true)), none, 0⟩] 0 false []) (.region [⟨some 18, .mv (.t 0), none, 0⟩, ⟨some 19, .nilchk (.t 18), none, 0⟩, ⟨some 20, .off 1 (.t 19), none, 0⟩, ⟨some 21, .load none (.t 20), none, 0⟩, ⟨some 22,
  .bin .sub (.t 21) (.c (.int .i64 1)), none, 0⟩, ⟨some 23, .nilchk (.t 18), none, 0⟩, ⟨some 24, .off 1 (.t 23), none, 0⟩, ⟨none, .store 1 (.t 24) (.t 22), none, 0⟩] 0 false [])) .skip)) (.seq (.region
  [⟨some 25, .load (some 7) (.t 3), none, 0⟩, ⟨none, .store 7 (.t 4) (.t 25), none, 0⟩] 0 false []) .ret))
def B37 := bB37
theorem wB37 : Wp O B37 Q σ h = Wp O bB37 Q σ h := rfl
def F37 : AF := ⟨B37, [.cell 4 (some 7)], false⟩
theorem tab37 : T 37 = some F37 := by kernel_rfl
/-- franking/abnf.small -/
abbrev bL38_0 : AC :=
  .seq (.region [⟨some 11, .bin .lss (.t 10) (.t 9), none, 0⟩] 0 false []) (.seq (.cond (.t 11) .skip (.exit 0)) (.seq (.block 1 (.seq (.region [⟨some 12, .mv (.t 10), none, 0⟩, ⟨some 13, .idx 1 (.t 8)
  (.t 10), none, 0⟩, ⟨some 14, .load none (.t 13), none, 0⟩, ⟨some 4, .mv (.t 12), none, 0⟩, ⟨some 5, .mv (.t 14), none, 0⟩] 0 false []) (.seq (.region [⟨some 15, .mv (.t 5), none, 0⟩, ⟨some 16, .bin
  .geq (.t 15) (.c (.int .u8 65)), none, 0⟩, ⟨some 17, .mv (.t 16), none, 0⟩, ⟨some 18, .mv (.t 5), some (17, true), 0⟩, ⟨some 19, .bin .leq (.t 18) (.c (.int .u8 90)), some (17, true), 0⟩, ⟨some 20,
  .pick (.t 17) (.t 19) (.c (.bool false)), none, 0⟩] 0 false []) (.cond (.t 20) (.region [⟨some 21, .mv (.t 3), none, 0⟩, ⟨some 22, .mv (.t 4), none, 0⟩, ⟨some 23, .mv (.t 5), none, 0⟩, ⟨some 24, .bin
  .or (.t 23) (.c (.int .u8 32)), none, 0⟩, ⟨some 25, .idx 1 (.t 21) (.t 22), none, 0⟩, ⟨none, .store 1 (.t 25) (.t 24), none, 0⟩] 0 false []) .skip)))) (.region [⟨some 26, .bin .add (.t 10) (.c (.int
  .i64 1)), none, 0⟩, ⟨some 10, .mv (.t 26), none, 0⟩] 0 false [])))
def L38_0 := bL38_0
theorem wL38_0 : Wp O L38_0 Q σ h = Wp O bL38_0 Q σ h := rfl
abbrev bK38_0 : AC :=
  .seq (.region [⟨some 27, .mv (.t 3), none, 0⟩, ⟨some 28, .cvBytesStr (.t 27), none, 0⟩, ⟨some 2, .mv (.t 28), none, 0⟩] 0 false []) .ret
def K38_0 := bK38_0
theorem wK38_0 : Wp O K38_0 Q σ h = Wp O bK38_0 Q σ h := rfl
abbrev bB38 : AC :=
  .seq (.region [⟨some 2, .mv (.c (.str [])), none, 0⟩] 0 false []) (.seq (.region [⟨some 6, .mv (.t 0), none, 0⟩, ⟨some 7, .cvStrBytesM (.t 6), none, 0⟩, ⟨some 3, .mv (.t 7), none, 1⟩] 1 false []) (.seq
  (.seq (.region [⟨some 8, .mv (.t 3), none, 0⟩, ⟨some 9, .len (.t 8), none, 0⟩, ⟨some 10, .mv (.c (.int .i64 0)), none, 0⟩] 0 false []) (.block 0 (.loop L38_0))) K38_0))
def B38 := bB38
theorem wB38 : Wp O B38 Q σ h = Wp O bB38 Q σ h := rfl
def F38 : AF := ⟨B38, [.tmp 2], false⟩
theorem tab38 : T 38 = some F38 := by kernel_rfl
/-- (*franking/abnf.reader).choices -/
abbrev bL39_0 : AC :=
  .seq (.seq (.region [⟨some 7, .mv (.t 0), none, 0⟩, ⟨some 8, .cvStrBytes 5 (.c (.str [4])), none, 0⟩, ⟨some 9, .call (.c (.fn 77 [])) [.t 7, .t 8], none, 1⟩] 1 false []) (.cond (.t 9) .skip (.exit 0)))
  (.block 1 (.seq (.region [⟨some 10, .mv (.t 0), none, 0⟩, ⟨some 11, .cvStrBytes 5 (.c (.str [4])), none, 0⟩, ⟨some 12, .call (.c (.fn 36 [])) [.t 10, .t 11], none, 1⟩] 1 false []) (.region [⟨some 13,
  .mv (.t 3), none, 0⟩, ⟨some 14, .mv (.t 0), none, 0⟩, ⟨some 15, .call (.c (.fn 79 [])) [.t 14], none, 0⟩, ⟨some 16, .bslice 7 [.t 15], none, 0⟩, ⟨some 17, .append 7 72 25 (.t 13) (.t 16), none, 0⟩,
  ⟨some 3, .mv (.t 17), none, 1⟩] 1 false [])))
def L39_0 := bL39_0
theorem wL39_0 : Wp O L39_0 Q σ h = Wp O bL39_0 Q σ h := rfl
abbrev bK39_0 : AC :=
  .seq (.region [⟨some 18, .mv (.t 3), none, 0⟩, ⟨some 19, .call (.c (.fn 80 [])) [.c (.int .u8 6), .t 18], none, 0⟩, ⟨none, .store 7 (.t 2) (.t 19), none, 0⟩] 0 false []) .ret
def K39_0 := bK39_0
theorem wK39_0 : Wp O K39_0 Q σ h = Wp O bK39_0 Q σ h := rfl
abbrev bB39 : AC :=
  .seq (.region [⟨some 2, .alloc [.int .u8 0, .str [], .int .u8 0, .int .u8 0, .int .i64 0, .int .i64 0, .list 7 [] .full], none, 0⟩] 1 false []) (.seq (.region [⟨some 4, .mv (.t 0), none, 0⟩, ⟨some 5,
  .call (.c (.fn 79 [])) [.t 4], none, 0⟩, ⟨some 6, .bslice 7 [.t 5], none, 0⟩, ⟨some 3, .mv (.t 6), none, 0⟩] 0 false []) (.seq (.block 0 (.loop L39_0)) K39_0))
def B39 := bB39
theorem wB39 : Wp O B39 Q σ h = Wp O bB39 Q σ h := rfl
def F39 : AF := ⟨B39, [.cell 2 (some 7)], false⟩
theorem tab39 : T 39 = some F39 := by kernel_rfl
/-- franking/abnf.fits -/
abbrev bL42_0 : AC :=
  .seq (.region [⟨some 18, .bin .lss (.t 17) (.t 16), none, 0⟩] 0 false []) (.seq (.cond (.t 18) .skip (.exit 0)) (.seq (.block 1 (.seq (.region [⟨some 19, .idx 7 (.t 15) (.t 17), none, 0⟩, ⟨some 20,
  .load (some 7) (.t 19), none, 0⟩, ⟨some 6, .alloc [.int .u8 0, .str [], .int .u8 0, .int .u8 0, .int .i64 0, .int .i64 0, .list 7 [] .full], none, 0⟩, ⟨none, .store 7 (.t 6) (.t 20), none, 1⟩] 1 false
  []) (.seq (.region [⟨some 21, .load (some 7) (.t 6), none, 0⟩, ⟨some 22, .mv (.t 1), none, 0⟩, ⟨some 23, .bin .sub (.t 22) (.c (.int .i64 1)), none, 0⟩, ⟨some 24, .call (.c (.fn 42 [])) [.t 21, .t 23],
  none, 0⟩, ⟨some 25, .not (.t 24), none, 0⟩] 0 false []) (.cond (.t 25) (.seq (.region [⟨some 4, .mv (.c (.bool false)), none, 0⟩] 0 false []) .ret) .skip)))) (.region [⟨some 26, .bin .add (.t 17) (.c
  (.int .i64 1)), none, 0⟩, ⟨some 17, .mv (.t 26), none, 0⟩] 0 false [])))
def L42_0 := bL42_0
theorem wL42_0 : Wp O L42_0 Q σ h = Wp O bL42_0 Q σ h := rfl
abbrev bK42_0 : AC :=
  .seq (.region [⟨some 4, .mv (.c (.bool true)), none, 0⟩] 0 false []) .ret
def K42_0 := bK42_0
theorem wK42_0 : Wp O K42_0 Q σ h = Wp O bK42_0 Q σ h := rfl
abbrev bB42 : AC :=
  .seq (.region [⟨some 2, .box 7 (.t 0), none, 0⟩, ⟨some 4, .mv (.c (.bool false)), none, 1⟩] 1 false []) (.seq (.seq (.region [⟨some 7, .mv (.t 1), none, 0⟩, ⟨some 8, .bin .lss (.t 7) (.c (.int .i64
  1)), none, 0⟩, ⟨some 9, .mv (.t 8), none, 0⟩, ⟨some 10, .load (some 7) (.t 2), some (9, false), 0⟩, ⟨some 11, .call (.c (.fn 78 [])) [.t 10], some (9, false), 0⟩, ⟨some 12, .not (.t 11), some (9,
  false), 0⟩, ⟨some 13, .pick (.t 9) (.c (.bool true)) (.t 12), none, 0⟩] 0 false []) (.cond (.t 13) (.seq (.region [⟨some 4, .mv (.c (.bool false)), none, 0⟩] 0 false []) .ret) .skip)) (.seq (.seq
  (.region [⟨some 14, .off 6 (.t 2), none, 0⟩, ⟨some 15, .load none (.t 14), none, 0⟩, ⟨some 16, .len (.t 15), none, 0⟩, ⟨some 17, .mv (.c (.int .i64 0)), none, 0⟩] 0 false []) (.block 0 (.loop L42_0)))
  K42_0))
def B42 := bB42
theorem wB42 : Wp O B42 Q σ h = Wp O bB42 Q σ h := rfl
def F42 : AF := ⟨B42, [.tmp 4], false⟩
theorem tab42 : T 42 = some F42 := by kernel_rfl
/-- franking/abnf.named -/
abbrev bL44_0 : AC :=
  .seq (.region [⟨some 8, .bin .lss (.t 7) (.t 6), none, 0⟩] 0 false []) (.seq (.cond (.t 8) .skip (.exit 0)) (.seq (.block 1 (.seq (.region [⟨some 9, .mv (.t 7), none, 0⟩, ⟨some 3, .mv (.t 9), none, 0⟩]
  0 false []) (.seq (.region [⟨some 10, .mv (.t 0), none, 0⟩, ⟨some 11, .mv (.t 3), none, 0⟩, ⟨some 12, .indexS (.t 10) (.t 11), none, 0⟩, ⟨some 13, .bin .geq (.t 12) (.c (.int .u8 97)), none, 0⟩, ⟨some
  14, .mv (.t 13), none, 0⟩, ⟨some 15, .mv (.t 0), some (14, true), 0⟩, ⟨some 16, .mv (.t 3), some (14, true), 0⟩, ⟨some 17, .indexS (.t 15) (.t 16), some (14, true), 0⟩, ⟨some 18, .bin .leq (.t 17) (.c
  (.int .u8 122)), some (14, true), 0⟩, ⟨some 19, .pick (.t 14) (.t 18) (.c (.bool false)), none, 0⟩, ⟨some 4, .mv (.t 19), none, 0⟩] 0 false []) (.seq (.region [⟨some 20, .mv (.t 4), none, 0⟩, ⟨some 21,
  .not (.t 20), none, 0⟩, ⟨some 22, .mv (.t 21), none, 0⟩, ⟨some 23, .mv (.t 3), some (22, true), 0⟩, ⟨some 24, .bin .eql (.t 23) (.c (.int .i64 0)), some (22, true), 0⟩, ⟨some 25, .mv (.t 24), some (22,
  true), 0⟩, ⟨some 26, .mv (.t 0), some (25, false), 0⟩, ⟨some 27, .mv (.t 3), some (25, false), 0⟩, ⟨some 28, .indexS (.t 26) (.t 27), some (25, false), 0⟩, ⟨some 29, .bin .neq (.t 28) (.c (.int .u8
  45)), some (25, false), 0⟩, ⟨some 30, .mv (.t 29), some (25, false), 0⟩, ⟨some 31, .mv (.t 0), some (30, true), 0⟩, ⟨some 32, .mv (.t 3), some (30, true), 0⟩, ⟨some 33, .indexS (.t 31) (.t 32), some
  (30, true), 0⟩, ⟨some 34, .bin .lss (.t 33) (.c (.int .u8 48)), some (30, true), 0⟩, ⟨some 35, .mv (.t 34), some (30, true), 0⟩, ⟨some 36, .mv (.t 0), some (35, false), 0⟩, ⟨some 37, .mv (.t 3), some
  (35, false), 0⟩, ⟨some 38, .indexS (.t 36) (.t 37), some (35, false), 0⟩, ⟨some 39, .bin .gtr (.t 38) (.c (.int .u8 57)), some (35, false), 0⟩, ⟨some 40, .pick (.t 35) (.c (.bool true)) (.t 39), some
  (30, true), 0⟩, ⟨some 41, .pick (.t 30) (.t 40) (.c (.bool false)), some (25, false), 0⟩, ⟨some 42, .pick (.t 25) (.c (.bool true)) (.t 41), some (22, true), 0⟩, ⟨some 43, .pick (.t 22) (.t 42) (.c
  (.bool false)), none, 0⟩] 0 false []) (.cond (.t 43) (.seq (.region [⟨some 2, .mv (.c (.bool false)), none, 0⟩] 0 false []) .ret) .skip))))) (.region [⟨some 44, .bin .add (.t 7) (.c (.int .i64 1)),
  none, 0⟩, ⟨some 7, .mv (.t 44), none, 0⟩] 0 false [])))
def L44_0 := bL44_0
theorem wL44_0 : Wp O L44_0 Q σ h = Wp O bL44_0 Q σ h := rfl
abbrev bK44_0 : AC :=
  .seq (.region [⟨some 45, .mv (.t 0), none, 0⟩, ⟨some 46, .bin .neq (.t 45) (.c (.str [])), none, 0⟩, ⟨some 2, .mv (.t 46), none, 0⟩] 0 false []) .ret
def K44_0 := bK44_0
theorem wK44_0 : Wp O K44_0 Q σ h = Wp O bK44_0 Q σ h := rfl
abbrev bB44 : AC :=
  .seq (.region [⟨some 2, .mv (.c (.bool false)), none, 0⟩] 0 false []) (.seq (.seq (.region [⟨some 5, .mv (.t 0), none, 0⟩, ⟨some 6, .lenS (.t 5), none, 0⟩, ⟨some 7, .mv (.c (.int .i64 0)), none, 0⟩] 0
  false []) (.block 0 (.loop L44_0))) K44_0)
def B44 := bB44
theorem wB44 : Wp O B44 Q σ h = Wp O bB44 Q σ h := rfl
def F44 : AF := ⟨B44, [.tmp 2], false⟩
theorem tab44 : T 44 = some F44 := by kernel_rfl
/-- franking/abnf.text -/
abbrev bL45_0 : AC :=
  .seq (.region [⟨some 27, .bin .lss (.t 26) (.t 25), none, 0⟩] 0 false []) (.seq (.cond (.t 27) .skip (.exit 1)) (.seq (.block 2 (.seq (.region [⟨some 28, .mv (.t 26), none, 0⟩, ⟨some 4, .mv (.t 28),
  none, 0⟩] 0 false []) (.region [⟨some 29, .mv (.t 3), none, 0⟩, ⟨some 30, .off 1 (.t 1), none, 0⟩, ⟨some 31, .load none (.t 30), none, 0⟩, ⟨some 32, .mv (.t 4), none, 0⟩, ⟨some 33, .indexS (.t 31) (.t
  32), none, 0⟩, ⟨some 34, .call (.c (.fn 85 [])) [.t 33], none, 0⟩, ⟨some 35, .bslice 1 [.t 34], none, 0⟩, ⟨some 36, .append 1 16 9 (.t 29) (.t 35), none, 0⟩, ⟨some 3, .mv (.t 36), none, 1⟩] 1 false
  []))) (.region [⟨some 37, .bin .add (.t 26) (.c (.int .i64 1)), none, 0⟩, ⟨some 26, .mv (.t 37), none, 0⟩] 0 false [])))
def L45_0 := bL45_0
theorem wL45_0 : Wp O L45_0 Q σ h = Wp O bL45_0 Q σ h := rfl
abbrev bK45_0 : AC :=
  .seq (.region [⟨some 38, .mv (.t 3), none, 0⟩, ⟨some 39, .call (.c (.fn 86 [])) [.t 38, .c (.str [46])], none, 0⟩, ⟨some 40, .bin .add (.c (.str [37, 120])) (.t 39), none, 0⟩, ⟨some 2, .mv (.t 40),
  none, 0⟩] 0 false []) .ret
def K45_0 := bK45_0
theorem wK45_0 : Wp O K45_0 Q σ h = Wp O bK45_0 Q σ h := rfl
abbrev bL45_1 : AC :=
  .seq (.region [⟨some 72, .bin .lss (.t 71) (.t 70), none, 0⟩] 0 false []) (.seq (.cond (.t 72) .skip (.exit 3)) (.seq (.block 4 (.seq (.region [⟨some 73, .idx 7 (.t 69) (.t 71), none, 0⟩, ⟨some 74,
  .load (some 7) (.t 73), none, 0⟩, ⟨some 6, .alloc [.int .u8 0, .str [], .int .u8 0, .int .u8 0, .int .i64 0, .int .i64 0, .list 7 [] .full], none, 0⟩, ⟨none, .store 7 (.t 6) (.t 74), none, 1⟩] 1 false
  []) (.region [⟨some 75, .mv (.t 3), none, 0⟩, ⟨some 76, .load (some 7) (.t 6), none, 0⟩, ⟨some 77, .cvStrBytes 5 (.c (.str [5, 6])), none, 0⟩, ⟨some 78, .call (.c (.fn 88 [])) [.t 76, .t 77], none, 1⟩,
  ⟨some 79, .bslice 1 [.t 78], none, 1⟩, ⟨some 80, .append 1 16 9 (.t 75) (.t 79), none, 1⟩, ⟨some 3, .mv (.t 80), none, 2⟩] 2 false []))) (.region [⟨some 81, .bin .add (.t 71) (.c (.int .i64 1)), none,
  0⟩, ⟨some 71, .mv (.t 81), none, 0⟩] 0 false [])))
def L45_1 := bL45_1
theorem wL45_1 : Wp O L45_1 Q σ h = Wp O bL45_1 Q σ h := rfl
abbrev bK45_1 : AC :=
  .seq (.region [⟨some 82, .mv (.t 3), none, 0⟩, ⟨some 83, .call (.c (.fn 86 [])) [.t 82, .c (.str [32])], none, 0⟩, ⟨some 2, .mv (.t 83), none, 0⟩] 0 false []) .ret
def K45_1 := bK45_1
theorem wK45_1 : Wp O K45_1 Q σ h = Wp O bK45_1 Q σ h := rfl
abbrev bL45_2 : AC :=
  .seq (.region [⟨some 88, .bin .lss (.t 87) (.t 86), none, 0⟩] 0 false []) (.seq (.cond (.t 88) .skip (.exit 5)) (.seq (.block 6 (.seq (.region [⟨some 89, .idx 7 (.t 85) (.t 87), none, 0⟩, ⟨some 90,
  .load (some 7) (.t 89), none, 0⟩, ⟨some 8, .alloc [.int .u8 0, .str [], .int .u8 0, .int .u8 0, .int .i64 0, .int .i64 0, .list 7 [] .full], none, 0⟩, ⟨none, .store 7 (.t 8) (.t 90), none, 1⟩] 1 false
  []) (.region [⟨some 91, .mv (.t 3), none, 0⟩, ⟨some 92, .load (some 7) (.t 8), none, 0⟩, ⟨some 93, .cvStrBytes 5 (.c (.str [6])), none, 0⟩, ⟨some 94, .call (.c (.fn 88 [])) [.t 92, .t 93], none, 1⟩,
  ⟨some 95, .bslice 1 [.t 94], none, 1⟩, ⟨some 96, .append 1 16 9 (.t 91) (.t 95), none, 1⟩, ⟨some 3, .mv (.t 96), none, 2⟩] 2 false []))) (.region [⟨some 97, .bin .add (.t 87) (.c (.int .i64 1)), none,
  0⟩, ⟨some 87, .mv (.t 97), none, 0⟩] 0 false [])))
def L45_2 := bL45_2
theorem wL45_2 : Wp O L45_2 Q σ h = Wp O bL45_2 Q σ h := rfl
abbrev bK45_2 : AC :=
  .seq (.region [⟨some 98, .mv (.t 3), none, 0⟩, ⟨some 99, .call (.c (.fn 86 [])) [.t 98, .c (.str [32, 47, 32])], none, 0⟩, ⟨some 2, .mv (.t 99), none, 0⟩] 0 false []) .ret
def K45_2 := bK45_2
theorem wK45_2 : Wp O K45_2 Q σ h = Wp O bK45_2 Q σ h := rfl
abbrev bK45_3 : AC :=
  .seq (.seq (.region [⟨some 84, .off 6 (.t 1), none, 0⟩, ⟨some 85, .load none (.t 84), none, 0⟩, ⟨some 86, .len (.t 85), none, 0⟩, ⟨some 87, .mv (.c (.int .i64 0)), none, 0⟩] 0 false []) (.block 5
  (.loop L45_2))) K45_2
def K45_3 := bK45_3
theorem wK45_3 : Wp O K45_3 Q σ h = Wp O bK45_3 Q σ h := rfl
abbrev bB45 : AC :=
  .seq (.region [⟨some 1, .box 7 (.t 0), none, 0⟩, ⟨some 2, .mv (.c (.str [])), none, 1⟩] 1 false []) (.seq (.region [⟨some 3, .mv (.c (.list 1 [] .full)), none, 0⟩] 0 false []) (.seq (.seq (.region
  [⟨some 9, .off 0 (.t 1), none, 0⟩, ⟨some 10, .load none (.t 9), none, 0⟩] 0 false []) (.block 0 (.seq (.region [⟨some 12, .bin .eql (.t 10) (.c (.int .u8 1)), none, 0⟩, ⟨some 11, .mv (.t 12), none, 0⟩]
  0 false []) (.cond (.t 11) (.seq (.region [⟨some 13, .off 1 (.t 1), none, 0⟩, ⟨some 14, .load none (.t 13), none, 0⟩, ⟨some 2, .mv (.t 14), none, 0⟩] 0 false []) .ret) (.seq (.region [⟨some 16, .bin
  .eql (.t 10) (.c (.int .u8 2)), none, 0⟩, ⟨some 15, .mv (.t 16), none, 0⟩] 0 false []) (.cond (.t 15) (.seq (.region [⟨some 17, .off 1 (.t 1), none, 0⟩, ⟨some 18, .load none (.t 17), none, 0⟩, ⟨some
  19, .bin .add (.c (.str [34])) (.t 18), none, 0⟩, ⟨some 20, .bin .add (.t 19) (.c (.str [34])), none, 0⟩, ⟨some 2, .mv (.t 20), none, 0⟩] 0 false []) .ret) (.seq (.region [⟨some 22, .bin .eql (.t 10)
  (.c (.int .u8 3)), none, 0⟩, ⟨some 21, .mv (.t 22), none, 0⟩] 0 false []) (.cond (.t 21) (.seq (.seq (.region [⟨some 23, .off 1 (.t 1), none, 0⟩, ⟨some 24, .load none (.t 23), none, 0⟩, ⟨some 25, .lenS
  (.t 24), none, 0⟩, ⟨some 26, .mv (.c (.int .i64 0)), none, 0⟩] 0 false []) (.block 1 (.loop L45_0))) K45_0) (.seq (.region [⟨some 42, .bin .eql (.t 10) (.c (.int .u8 4)), none, 0⟩, ⟨some 41, .mv (.t
  42), none, 0⟩] 0 false []) (.cond (.t 41) (.seq (.region [⟨some 43, .off 2 (.t 1), none, 0⟩, ⟨some 44, .load none (.t 43), none, 0⟩, ⟨some 45, .call (.c (.fn 85 [])) [.t 44], none, 0⟩, ⟨some 46, .bin
  .add (.c (.str [37, 120])) (.t 45), none, 0⟩, ⟨some 47, .bin .add (.t 46) (.c (.str [45])), none, 0⟩, ⟨some 48, .off 3 (.t 1), none, 0⟩, ⟨some 49, .load none (.t 48), none, 0⟩, ⟨some 50, .call (.c (.fn
  85 [])) [.t 49], none, 0⟩, ⟨some 51, .bin .add (.t 47) (.t 50), none, 0⟩, ⟨some 2, .mv (.t 51), none, 0⟩] 0 true [(2, 6)]) .ret) (.seq (.region [⟨some 53, .bin .eql (.t 10) (.c (.int .u8 7)), none, 0⟩,
  ⟨some 52, .mv (.t 53), none, 0⟩] 0 false []) (.cond (.t 52) (.seq (.region [⟨some 54, .off 4 (.t 1), none, 0⟩, ⟨some 55, .load none (.t 54), none, 0⟩, ⟨some 56, .off 5 (.t 1), none, 0⟩, ⟨some 57, .load
  none (.t 56), none, 0⟩, ⟨some 58, .call (.c (.fn 87 [])) [.t 55, .t 57], none, 0⟩, ⟨some 59, .off 6 (.t 1), none, 0⟩, ⟨some 60, .load none (.t 59), none, 0⟩, ⟨some 61, .idx 7 (.t 60) (.c (.int .i64
  0)), none, 0⟩, ⟨some 62, .load (some 7) (.t 61), none, 0⟩, ⟨some 63, .cvStrBytes 5 (.c (.str [7, 5, 6])), none, 0⟩, ⟨some 64, .call (.c (.fn 88 [])) [.t 62, .t 63], none, 1⟩, ⟨some 65, .bin .add (.t
  58) (.t 64), none, 1⟩, ⟨some 2, .mv (.t 65), none, 1⟩] 1 true [(4, 6), (4, 8), (1, 9), (3, 9), (4, 9), (6, 9), (8, 9)]) .ret) (.seq (.region [⟨some 67, .bin .eql (.t 10) (.c (.int .u8 5)), none, 0⟩,
  ⟨some 66, .mv (.t 67), none, 0⟩] 0 false []) (.cond (.t 66) (.seq (.seq (.region [⟨some 68, .off 6 (.t 1), none, 0⟩, ⟨some 69, .load none (.t 68), none, 0⟩, ⟨some 70, .len (.t 69), none, 0⟩, ⟨some 71,
  .mv (.c (.int .i64 0)), none, 0⟩] 0 false []) (.block 3 (.loop L45_1))) K45_1) .skip)))))))))))))) K45_3))
def B45 := bB45
theorem wB45 : Wp O B45 Q σ h = Wp O bB45 Q σ h := rfl
def F45 : AF := ⟨B45, [.tmp 2], false⟩
theorem tab45 : T 45 = some F45 := by kernel_rfl
/-- (*franking/abnf.reader).next -/
abbrev bL77_0 : AC :=
  .seq (.region [⟨some 26, .bin .lss (.t 25) (.t 24), none, 0⟩] 0 false []) (.seq (.cond (.t 26) .skip (.exit 0)) (.seq (.block 1 (.seq (.region [⟨some 27, .idx 1 (.t 23) (.t 25), none, 0⟩, ⟨some 28,
  .load none (.t 27), none, 0⟩, ⟨some 6, .mv (.t 28), none, 0⟩] 0 false []) (.seq (.region [⟨some 29, .mv (.t 0), none, 0⟩, ⟨some 30, .nilchk (.t 29), none, 0⟩, ⟨some 31, .off 0 (.t 30), none, 0⟩, ⟨some
  32, .load none (.t 31), none, 0⟩, ⟨some 33, .mv (.t 0), none, 0⟩, ⟨some 34, .nilchk (.t 33), none, 0⟩, ⟨some 35, .off 1 (.t 34), none, 0⟩, ⟨some 36, .load none (.t 35), none, 0⟩, ⟨some 37, .idx 7 (.t
  32) (.t 36), none, 0⟩, ⟨some 38, .off 0 (.t 37), none, 0⟩, ⟨some 39, .load none (.t 38), none, 0⟩, ⟨some 40, .mv (.t 6), none, 0⟩, ⟨some 41, .bin .eql (.t 39) (.t 40), none, 0⟩] 0 true []) (.cond (.t
  41) (.seq (.region [⟨some 4, .mv (.c (.bool true)), none, 0⟩] 0 false []) .ret) .skip)))) (.region [⟨some 42, .bin .add (.t 25) (.c (.int .i64 1)), none, 0⟩, ⟨some 25, .mv (.t 42), none, 0⟩] 0 false
  [])))
def L77_0 := bL77_0
theorem wL77_0 : Wp O L77_0 Q σ h = Wp O bL77_0 Q σ h := rfl
abbrev bK77_0 : AC :=
  .seq (.region [⟨some 4, .mv (.c (.bool false)), none, 0⟩] 0 false []) .ret
def K77_0 := bK77_0
theorem wK77_0 : Wp O K77_0 Q σ h = Wp O bK77_0 Q σ h := rfl
abbrev bB77 : AC :=
  .seq (.region [⟨some 4, .mv (.c (.bool false)), none, 0⟩] 0 false []) (.seq (.seq (.region [⟨some 7, .mv (.t 0), none, 0⟩, ⟨some 8, .nilchk (.t 7), none, 0⟩, ⟨some 9, .off 2 (.t 8), none, 0⟩, ⟨some 10,
  .load none (.t 9), none, 0⟩, ⟨some 11, .mv (.t 10), none, 0⟩, ⟨some 12, .mv (.t 0), some (11, false), 0⟩, ⟨some 13, .nilchk (.t 12), some (11, false), 0⟩, ⟨some 14, .off 1 (.t 13), some (11, false),
  0⟩, ⟨some 15, .load none (.t 14), some (11, false), 0⟩, ⟨some 16, .mv (.t 0), some (11, false), 0⟩, ⟨some 17, .nilchk (.t 16), some (11, false), 0⟩, ⟨some 18, .off 0 (.t 17), some (11, false), 0⟩,
  ⟨some 19, .load none (.t 18), some (11, false), 0⟩, ⟨some 20, .len (.t 19), some (11, false), 0⟩, ⟨some 21, .bin .geq (.t 15) (.t 20), some (11, false), 0⟩, ⟨some 22, .pick (.t 11) (.c (.bool true))
  (.t 21), none, 0⟩] 0 true []) (.cond (.t 22) (.seq (.region [⟨some 4, .mv (.c (.bool false)), none, 0⟩] 0 false []) .ret) .skip)) (.seq (.seq (.region [⟨some 23, .mv (.t 1), none, 0⟩, ⟨some 24, .len
  (.t 23), none, 0⟩, ⟨some 25, .mv (.c (.int .i64 0)), none, 0⟩] 0 false []) (.block 0 (.loop L77_0))) K77_0))
def B77 := bB77
theorem wB77 : Wp O B77 Q σ h = Wp O bB77 Q σ h := rfl
def F77 : AF := ⟨B77, [.tmp 4], false⟩
theorem tab77 : T 77 = some F77 := by kernel_rfl
/-- franking/abnf.alone -/
abbrev bJ78_0 : AC :=
  .cond (.t 47) (.seq (.region [⟨some 50, .off 1 (.t 3), none, 0⟩, ⟨none, .store 1 (.t 50) (.c (.str [])), none, 0⟩] 0 false []) (.region [⟨some 51, .off 6 (.t 1), none, 0⟩, ⟨some 52, .load none (.t 51),
  none, 0⟩, ⟨some 53, .len (.t 52), none, 0⟩, ⟨some 54, .bin .geq (.t 53) (.c (.int .i64 2)), none, 0⟩, ⟨some 4, .mv (.t 54), none, 0⟩, ⟨some 5, .mv (.c (.bool true)), none, 0⟩] 0 false [])) (.seq
  (.region [⟨some 56, .bin .eql (.t 16) (.c (.int .u8 7)), none, 0⟩, ⟨some 55, .mv (.t 56), none, 0⟩] 0 false []) (.cond (.t 55) (.seq (.region [⟨some 57, .off 4 (.t 1), none, 0⟩, ⟨some 58, .load none
  (.t 57), none, 0⟩, ⟨some 59, .off 5 (.t 1), none, 0⟩, ⟨some 60, .load none (.t 59), none, 0⟩, ⟨some 61, .off 4 (.t 3), none, 0⟩, ⟨none, .store 1 (.t 61) (.t 58), none, 0⟩, ⟨some 62, .off 5 (.t 3),
  none, 0⟩, ⟨none, .store 1 (.t 62) (.t 60), none, 0⟩, ⟨some 63, .off 1 (.t 3), none, 0⟩, ⟨none, .store 1 (.t 63) (.c (.str [])), none, 0⟩] 0 true [(3, 5)]) (.region [⟨some 64, .off 6 (.t 1), none, 0⟩,
  ⟨some 65, .load none (.t 64), none, 0⟩, ⟨some 66, .len (.t 65), none, 0⟩, ⟨some 67, .bin .eql (.t 66) (.c (.int .i64 1)), none, 0⟩, ⟨some 68, .off 4 (.t 1), none, 0⟩, ⟨some 69, .load none (.t 68),
  none, 0⟩, ⟨some 70, .bin .geq (.t 69) (.c (.int .i64 0)), none, 0⟩, ⟨some 71, .mv (.t 70), none, 0⟩, ⟨some 72, .off 4 (.t 1), some (71, true), 0⟩, ⟨some 73, .load none (.t 72), some (71, true), 0⟩,
  ⟨some 74, .bin .leq (.t 73) (.c (.int .i64 9999)), some (71, true), 0⟩, ⟨some 75, .pick (.t 71) (.t 74) (.c (.bool false)), none, 0⟩, ⟨some 76, .mv (.t 75), none, 0⟩, ⟨some 77, .off 5 (.t 1), some (76,
  true), 0⟩, ⟨some 78, .load none (.t 77), some (76, true), 0⟩, ⟨some 79, .bin .eql (.t 78) (.c (.int .i64 (-1))), some (76, true), 0⟩, ⟨some 80, .mv (.t 79), some (76, true), 0⟩, ⟨some 81, .off 5 (.t
  1), some (80, false), 0⟩, ⟨some 82, .load none (.t 81), some (80, false), 0⟩, ⟨some 83, .off 4 (.t 1), some (80, false), 0⟩, ⟨some 84, .load none (.t 83), some (80, false), 0⟩, ⟨some 85, .bin .geq (.t
  82) (.t 84), some (80, false), 0⟩, ⟨some 86, .mv (.t 85), some (80, false), 0⟩, ⟨some 87, .off 5 (.t 1), some (86, true), 0⟩, ⟨some 88, .load none (.t 87), some (86, true), 0⟩, ⟨some 89, .bin .leq (.t
  88) (.c (.int .i64 9999)), some (86, true), 0⟩, ⟨some 90, .pick (.t 86) (.t 89) (.c (.bool false)), some (80, false), 0⟩, ⟨some 91, .pick (.t 80) (.c (.bool true)) (.t 90), some (76, true), 0⟩, ⟨some
  92, .pick (.t 76) (.t 91) (.c (.bool false)), none, 0⟩, ⟨some 4, .mv (.t 67), none, 0⟩, ⟨some 5, .mv (.t 92), none, 0⟩] 0 true [])) .skip))
def J78_0 := bJ78_0
theorem wJ78_0 : Wp O J78_0 Q σ h = Wp O bJ78_0 Q σ h := rfl
abbrev bJ78_1 : AC :=
  .seq (.region [⟨some 93, .mv (.t 5), none, 0⟩, ⟨some 94, .mv (.t 93), none, 0⟩, ⟨some 95, .mv (.t 4), some (94, true), 0⟩, ⟨some 96, .pick (.t 94) (.t 95) (.c (.bool false)), none, 0⟩, ⟨some 97, .mv
  (.t 96), none, 0⟩, ⟨some 98, .off 1 (.t 3), some (97, true), 0⟩, ⟨some 99, .load none (.t 98), some (97, true), 0⟩, ⟨some 100, .off 1 (.t 1), some (97, true), 0⟩, ⟨some 101, .load none (.t 100), some
  (97, true), 0⟩, ⟨some 102, .bin .eql (.t 99) (.t 101), some (97, true), 0⟩, ⟨some 103, .pick (.t 97) (.t 102) (.c (.bool false)), none, 0⟩, ⟨some 104, .mv (.t 103), none, 0⟩, ⟨some 105, .off 2 (.t 3),
  some (104, true), 0⟩, ⟨some 106, .load none (.t 105), some (104, true), 0⟩, ⟨some 107, .off 2 (.t 1), some (104, true), 0⟩, ⟨some 108, .load none (.t 107), some (104, true), 0⟩, ⟨some 109, .bin .eql
  (.t 106) (.t 108), some (104, true), 0⟩, ⟨some 110, .pick (.t 104) (.t 109) (.c (.bool false)), none, 0⟩, ⟨some 111, .mv (.t 110), none, 0⟩, ⟨some 112, .off 3 (.t 3), some (111, true), 0⟩, ⟨some 113,
  .load none (.t 112), some (111, true), 0⟩, ⟨some 114, .off 3 (.t 1), some (111, true), 0⟩, ⟨some 115, .load none (.t 114), some (111, true), 0⟩, ⟨some 116, .bin .eql (.t 113) (.t 115), some (111,
  true), 0⟩, ⟨some 117, .pick (.t 111) (.t 116) (.c (.bool false)), none, 0⟩, ⟨some 118, .mv (.t 117), none, 0⟩, ⟨some 119, .off 4 (.t 3), some (118, true), 0⟩, ⟨some 120, .load none (.t 119), some (118,
  true), 0⟩, ⟨some 121, .off 4 (.t 1), some (118, true), 0⟩, ⟨some 122, .load none (.t 121), some (118, true), 0⟩, ⟨some 123, .bin .eql (.t 120) (.t 122), some (118, true), 0⟩, ⟨some 124, .pick (.t 118)
  (.t 123) (.c (.bool false)), none, 0⟩, ⟨some 125, .mv (.t 124), none, 0⟩, ⟨some 126, .off 5 (.t 3), some (125, true), 0⟩, ⟨some 127, .load none (.t 126), some (125, true), 0⟩, ⟨some 128, .off 5 (.t 1),
  some (125, true), 0⟩, ⟨some 129, .load none (.t 128), some (125, true), 0⟩, ⟨some 130, .bin .eql (.t 127) (.t 129), some (125, true), 0⟩, ⟨some 131, .pick (.t 125) (.t 130) (.c (.bool false)), none,
  0⟩, ⟨some 2, .mv (.t 131), none, 0⟩] 0 false []) .ret
def J78_1 := bJ78_1
theorem wJ78_1 : Wp O J78_1 Q σ h = Wp O bJ78_1 Q σ h := rfl
abbrev bB78 : AC :=
  .seq (.region [⟨some 1, .box 7 (.t 0), none, 0⟩, ⟨some 2, .mv (.c (.bool false)), none, 1⟩] 1 false []) (.seq (.region [⟨some 6, .off 0 (.t 1), none, 0⟩, ⟨some 7, .load none (.t 6), none, 0⟩, ⟨some 8,
  .off 1 (.t 1), none, 0⟩, ⟨some 9, .load none (.t 8), none, 0⟩, ⟨some 10, .build [.int .u8 0, .str [], .int .u8 0, .int .u8 0, .int .i64 0, .int .i64 0, .list 7 [] .full] [(0, 1, .t 7), (1, 1, .t 9)],
  none, 0⟩, ⟨some 3, .alloc [.int .u8 0, .str [], .int .u8 0, .int .u8 0, .int .i64 0, .int .i64 0, .list 7 [] .full], none, 0⟩, ⟨none, .store 7 (.t 3) (.t 10), none, 1⟩] 1 false []) (.seq (.region
  [⟨some 11, .off 6 (.t 1), none, 0⟩, ⟨some 12, .load none (.t 11), none, 0⟩, ⟨some 13, .len (.t 12), none, 0⟩, ⟨some 14, .bin .eql (.t 13) (.c (.int .i64 0)), none, 0⟩, ⟨some 4, .mv (.t 14), none, 0⟩,
  ⟨some 5, .mv (.c (.bool false)), none, 0⟩] 0 false []) (.seq (.seq (.region [⟨some 15, .off 0 (.t 1), none, 0⟩, ⟨some 16, .load none (.t 15), none, 0⟩] 0 false []) (.block 0 (.seq (.region [⟨some 18,
  .bin .eql (.t 16) (.c (.int .u8 1)), none, 0⟩, ⟨some 17, .mv (.t 18), none, 0⟩] 0 false []) (.cond (.t 17) (.region [⟨some 19, .off 1 (.t 1), none, 0⟩, ⟨some 20, .load none (.t 19), none, 0⟩, ⟨some 21,
  .call (.c (.fn 44 [])) [.t 20], none, 0⟩, ⟨some 5, .mv (.t 21), none, 0⟩] 0 false []) (.seq (.region [⟨some 23, .bin .eql (.t 16) (.c (.int .u8 2)), none, 0⟩, ⟨some 22, .mv (.t 23), none, 0⟩] 0 false
  []) (.cond (.t 22) (.region [⟨some 24, .off 1 (.t 1), none, 0⟩, ⟨some 25, .load none (.t 24), none, 0⟩, ⟨some 26, .call (.c (.fn 115 [])) [.t 25, .c (.fn 116 [])], none, 0⟩, ⟨some 27, .bin .lss (.t 26)
  (.c (.int .i64 0)), none, 0⟩, ⟨some 5, .mv (.t 27), none, 0⟩] 0 false []) (.seq (.region [⟨some 29, .bin .eql (.t 16) (.c (.int .u8 3)), none, 0⟩, ⟨some 28, .mv (.t 29), none, 0⟩] 0 false []) (.cond
  (.t 28) (.region [⟨some 30, .off 1 (.t 1), none, 0⟩, ⟨some 31, .load none (.t 30), none, 0⟩, ⟨some 32, .bin .neq (.t 31) (.c (.str [])), none, 0⟩, ⟨some 5, .mv (.t 32), none, 0⟩] 0 false []) (.seq
  (.region [⟨some 34, .bin .eql (.t 16) (.c (.int .u8 4)), none, 0⟩, ⟨some 33, .mv (.t 34), none, 0⟩] 0 false []) (.cond (.t 33) (.seq (.region [⟨some 35, .off 2 (.t 1), none, 0⟩, ⟨some 36, .load none
  (.t 35), none, 0⟩, ⟨some 37, .off 3 (.t 1), none, 0⟩, ⟨some 38, .load none (.t 37), none, 0⟩, ⟨some 39, .off 2 (.t 3), none, 0⟩, ⟨none, .store 1 (.t 39) (.t 36), none, 0⟩, ⟨some 40, .off 3 (.t 3),
  none, 0⟩, ⟨none, .store 1 (.t 40) (.t 38), none, 0⟩, ⟨some 41, .off 1 (.t 3), none, 0⟩, ⟨none, .store 1 (.t 41) (.c (.str [])), none, 0⟩] 0 true [(3, 5)]) (.region [⟨some 42, .off 2 (.t 1), none, 0⟩,
  ⟨some 43, .load none (.t 42), none, 0⟩, ⟨some 44, .off 3 (.t 1), none, 0⟩, ⟨some 45, .load none (.t 44), none, 0⟩, ⟨some 46, .bin .leq (.t 43) (.t 45), none, 0⟩, ⟨some 5, .mv (.t 46), none, 0⟩] 0 false
  [])) (.seq (.seq (.region [⟨some 48, .bin .eql (.t 16) (.c (.int .u8 5)), none, 0⟩, ⟨some 47, .mv (.t 48), none, 0⟩] 0 false []) (.cond (.t 47) .skip (.region [⟨some 49, .bin .eql (.t 16) (.c (.int .u8
  6)), none, 0⟩, ⟨some 47, .mv (.t 49), none, 0⟩] 0 false []))) J78_0))))))))))) J78_1)))
def B78 := bB78
theorem wB78 : Wp O B78 Q σ h = Wp O bB78 Q σ h := rfl
def F78 : AF := ⟨B78, [.tmp 2], false⟩
theorem tab78 : T 78 = some F78 := by kernel_rfl
/-- (*franking/abnf.reader).row -/
abbrev bL79_0 : AC :=
  .seq (.seq (.region [⟨some 7, .mv (.t 0), none, 0⟩, ⟨some 8, .cvStrBytes 5 (.c (.str [9, 1, 10, 11, 12, 5, 7])), none, 0⟩, ⟨some 9, .call (.c (.fn 77 [])) [.t 7, .t 8], none, 1⟩] 1 false []) (.cond (.t
  9) .skip (.exit 0))) (.block 1 (.region [⟨some 10, .mv (.t 3), none, 0⟩, ⟨some 11, .mv (.t 0), none, 0⟩, ⟨some 12, .call (.c (.fn 117 [])) [.t 11], none, 0⟩, ⟨some 13, .bslice 7 [.t 12], none, 0⟩,
  ⟨some 14, .append 7 72 25 (.t 10) (.t 13), none, 0⟩, ⟨some 3, .mv (.t 14), none, 1⟩] 1 false []))
def L79_0 := bL79_0
theorem wL79_0 : Wp O L79_0 Q σ h = Wp O bL79_0 Q σ h := rfl
abbrev bK79_0 : AC :=
  .seq (.region [⟨some 15, .mv (.t 3), none, 0⟩, ⟨some 16, .call (.c (.fn 80 [])) [.c (.int .u8 5), .t 15], none, 0⟩, ⟨none, .store 7 (.t 2) (.t 16), none, 0⟩] 0 false []) .ret
def K79_0 := bK79_0
theorem wK79_0 : Wp O K79_0 Q σ h = Wp O bK79_0 Q σ h := rfl
abbrev bB79 : AC :=
  .seq (.region [⟨some 2, .alloc [.int .u8 0, .str [], .int .u8 0, .int .u8 0, .int .i64 0, .int .i64 0, .list 7 [] .full], none, 0⟩] 1 false []) (.seq (.region [⟨some 4, .mv (.t 0), none, 0⟩, ⟨some 5,
  .call (.c (.fn 117 [])) [.t 4], none, 0⟩, ⟨some 6, .bslice 7 [.t 5], none, 0⟩, ⟨some 3, .mv (.t 6), none, 0⟩] 0 false []) (.seq (.block 0 (.loop L79_0)) K79_0))
def B79 := bB79
theorem wB79 : Wp O B79 Q σ h = Wp O bB79 Q σ h := rfl
def F79 : AF := ⟨B79, [.cell 2 (some 7)], false⟩
theorem tab79 : T 79 = some F79 := by kernel_rfl
/-- franking/abnf.joined -/
abbrev bB80 : AC :=
  .seq (.region [⟨some 4, .alloc [.int .u8 0, .str [], .int .u8 0, .int .u8 0, .int .i64 0, .int .i64 0, .list 7 [] .full], none, 0⟩] 1 false []) (.seq (.seq (.region [⟨some 5, .mv (.t 1), none, 0⟩,
  ⟨some 6, .len (.t 5), none, 0⟩, ⟨some 7, .bin .eql (.t 6) (.c (.int .i64 1)), none, 0⟩] 0 false []) (.cond (.t 7) (.seq (.region [⟨some 8, .mv (.t 1), none, 0⟩, ⟨some 9, .idx 7 (.t 8) (.c (.int .i64
  0)), none, 0⟩, ⟨some 10, .load (some 7) (.t 9), none, 0⟩, ⟨none, .store 7 (.t 4) (.t 10), none, 0⟩] 0 false []) .ret) .skip)) (.seq (.region [⟨some 11, .mv (.t 0), none, 0⟩, ⟨some 12, .mv (.t 1), none,
  0⟩, ⟨some 13, .build [.int .u8 0, .str [], .int .u8 0, .int .u8 0, .int .i64 0, .int .i64 0, .list 7 [] .full] [(0, 1, .t 11), (6, 1, .t 12)], none, 0⟩, ⟨none, .store 7 (.t 4) (.t 13), none, 0⟩] 0
  false []) .ret))
def B80 := bB80
theorem wB80 : Wp O B80 Q σ h = Wp O bB80 Q σ h := rfl
def F80 : AF := ⟨B80, [.cell 4 (some 7)], false⟩
theorem tab80 : T 80 = some F80 := by kernel_rfl
/-- franking/abnf.hex -/
abbrev bB85 : AC :=
  .seq (.region [⟨some 2, .mv (.c (.str [])), none, 0⟩] 0 false []) (.seq (.region [⟨some 3, .mv (.t 0), none, 0⟩, ⟨some 4, .bin .shr (.t 3) (.c (.int .u64 4)), none, 0⟩, ⟨some 5, .indexS (.c (.str [48,
  49, 50, 51, 52, 53, 54, 55, 56, 57, 65, 66, 67, 68, 69, 70])) (.t 4), none, 0⟩, ⟨some 6, .mv (.t 0), none, 0⟩, ⟨some 7, .bin .and (.t 6) (.c (.int .u8 15)), none, 0⟩, ⟨some 8, .indexS (.c (.str [48,
  49, 50, 51, 52, 53, 54, 55, 56, 57, 65, 66, 67, 68, 69, 70])) (.t 7), none, 0⟩, ⟨some 9, .bslice 1 [.t 5, .t 8], none, 0⟩, ⟨some 10, .cvBytesStr (.t 9), none, 0⟩, ⟨some 2, .mv (.t 10), none, 0⟩] 0 true
  []) .ret)
def B85 := bB85
theorem wB85 : Wp O B85 Q σ h = Wp O bB85 Q σ h := rfl
def F85 : AF := ⟨B85, [.tmp 2], false⟩
theorem tab85 : T 85 = some F85 := by kernel_rfl
/-- franking/abnf.times -/
abbrev bJ87_0 : AC :=
  .seq (.region [⟨some 25, .mv (.t 5), none, 0⟩, ⟨some 4, .mv (.t 25), none, 0⟩] 0 false []) .ret
def J87_0 := bJ87_0
theorem wJ87_0 : Wp O J87_0 Q σ h = Wp O bJ87_0 Q σ h := rfl
abbrev bJ87_1 : AC :=
  .seq (.block 0 (.seq (.region [⟨some 13, .mv (.t 0), none, 0⟩, ⟨some 14, .mv (.t 1), none, 0⟩, ⟨some 15, .bin .eql (.t 13) (.t 14), none, 0⟩, ⟨some 12, .mv (.t 15), none, 0⟩] 0 false []) (.cond (.t 12)
  (.seq (.region [⟨some 16, .mv (.t 0), none, 0⟩, ⟨some 17, .call (.c (.fn 120 [])) [.t 16], none, 0⟩, ⟨some 4, .mv (.t 17), none, 0⟩] 0 false []) .ret) (.seq (.region [⟨some 19, .mv (.t 1), none, 0⟩,
  ⟨some 20, .bin .geq (.t 19) (.c (.int .i64 0)), none, 0⟩, ⟨some 18, .mv (.t 20), none, 0⟩] 0 false []) (.cond (.t 18) (.region [⟨some 21, .mv (.t 5), none, 0⟩, ⟨some 22, .mv (.t 1), none, 0⟩, ⟨some 23,
  .call (.c (.fn 120 [])) [.t 22], none, 0⟩, ⟨some 24, .bin .add (.t 21) (.t 23), none, 0⟩, ⟨some 5, .mv (.t 24), none, 0⟩] 0 false []) .skip))))) J87_0
def J87_1 := bJ87_1
theorem wJ87_1 : Wp O J87_1 Q σ h = Wp O bJ87_1 Q σ h := rfl
abbrev bB87 : AC :=
  .seq (.region [⟨some 4, .mv (.c (.str [])), none, 0⟩] 0 false []) (.seq (.region [⟨some 5, .mv (.c (.str [42])), none, 0⟩] 0 false []) (.seq (.seq (.region [⟨some 6, .mv (.t 0), none, 0⟩, ⟨some 7, .bin
  .gtr (.t 6) (.c (.int .i64 0)), none, 0⟩] 0 false []) (.cond (.t 7) (.region [⟨some 8, .mv (.t 0), none, 0⟩, ⟨some 9, .call (.c (.fn 120 [])) [.t 8], none, 0⟩, ⟨some 10, .mv (.t 5), none, 0⟩, ⟨some 11,
  .bin .add (.t 9) (.t 10), none, 0⟩, ⟨some 5, .mv (.t 11), none, 0⟩] 0 false []) .skip)) J87_1))
def B87 := bB87
theorem wB87 : Wp O B87 Q σ h = Wp O bB87 Q σ h := rfl
def F87 : AF := ⟨B87, [.tmp 4], false⟩
theorem tab87 : T 87 = some F87 := by kernel_rfl
/-- franking/abnf.bracketed -/
abbrev bL88_0 : AC :=
  .seq (.region [⟨some 10, .bin .lss (.t 9) (.t 8), none, 0⟩] 0 false []) (.seq (.cond (.t 10) .skip (.exit 0)) (.seq (.block 1 (.seq (.region [⟨some 11, .idx 1 (.t 7) (.t 9), none, 0⟩, ⟨some 12, .load
  none (.t 11), none, 0⟩, ⟨some 6, .mv (.t 12), none, 0⟩] 0 false []) (.seq (.region [⟨some 13, .off 0 (.t 2), none, 0⟩, ⟨some 14, .load none (.t 13), none, 0⟩, ⟨some 15, .mv (.t 6), none, 0⟩, ⟨some 16,
  .bin .eql (.t 14) (.t 15), none, 0⟩] 0 false []) (.cond (.t 16) (.seq (.region [⟨some 17, .load (some 7) (.t 2), none, 0⟩, ⟨some 18, .call (.c (.fn 45 [])) [.t 17], none, 0⟩, ⟨some 19, .bin .add (.c
  (.str [40])) (.t 18), none, 0⟩, ⟨some 20, .bin .add (.t 19) (.c (.str [41])), none, 0⟩, ⟨some 4, .mv (.t 20), none, 0⟩] 0 false []) .ret) .skip)))) (.region [⟨some 21, .bin .add (.t 9) (.c (.int .i64
  1)), none, 0⟩, ⟨some 9, .mv (.t 21), none, 0⟩] 0 false [])))
def L88_0 := bL88_0
theorem wL88_0 : Wp O L88_0 Q σ h = Wp O bL88_0 Q σ h := rfl
abbrev bK88_0 : AC :=
  .seq (.region [⟨some 22, .load (some 7) (.t 2), none, 0⟩, ⟨some 23, .call (.c (.fn 45 [])) [.t 22], none, 0⟩, ⟨some 4, .mv (.t 23), none, 0⟩] 0 false []) .ret
def K88_0 := bK88_0
theorem wK88_0 : Wp O K88_0 Q σ h = Wp O bK88_0 Q σ h := rfl
abbrev bB88 : AC :=
  .seq (.region [⟨some 2, .box 7 (.t 0), none, 0⟩, ⟨some 4, .mv (.c (.str [])), none, 1⟩] 1 false []) (.seq (.seq (.region [⟨some 7, .mv (.t 1), none, 0⟩, ⟨some 8, .len (.t 7), none, 0⟩, ⟨some 9, .mv (.c
  (.int .i64 0)), none, 0⟩] 0 false []) (.block 0 (.loop L88_0))) K88_0)
def B88 := bB88
theorem wB88 : Wp O B88 Q σ h = Wp O bB88 Q σ h := rfl
def F88 : AF := ⟨B88, [.tmp 4], false⟩
theorem tab88 : T 88 = some F88 := by kernel_rfl
/-- strings.IndexFunc -/
abbrev bB115 : AC :=
  .seq (.region [⟨some 4, .mv (.c (.int .i64 0)), none, 0⟩] 0 false []) (.seq (.region [⟨some 5, .mv (.t 0), none, 0⟩, ⟨some 6, .mv (.t 1), none, 0⟩, ⟨some 7, .call (.c (.fn 129 [])) [.t 5, .t 6, .c
  (.bool true)], none, 0⟩, ⟨some 4, .mv (.t 7), none, 0⟩] 0 false []) .ret)
def B115 := bB115
theorem wB115 : Wp O B115 Q σ h = Wp O bB115 Q σ h := rfl
def F115 : AF := ⟨B115, [.tmp 4], false⟩
theorem tab115 : T 115 = some F115 := by kernel_rfl
/-- franking/abnf.alone$1 -/
abbrev bB116 : AC :=
  .seq (.region [⟨some 2, .mv (.c (.bool false)), none, 0⟩] 0 false []) (.seq (.region [⟨some 3, .mv (.t 0), none, 0⟩, ⟨some 4, .bin .lss (.t 3) (.c (.int .i32 32)), none, 0⟩, ⟨some 5, .mv (.t 4), none,
  0⟩, ⟨some 6, .mv (.t 0), some (5, false), 0⟩, ⟨some 7, .bin .gtr (.t 6) (.c (.int .i32 126)), some (5, false), 0⟩, ⟨some 8, .pick (.t 5) (.c (.bool true)) (.t 7), none, 0⟩, ⟨some 9, .mv (.t 8), none,
  0⟩, ⟨some 10, .mv (.t 0), some (9, false), 0⟩, ⟨some 11, .bin .eql (.t 10) (.c (.int .i32 34)), some (9, false), 0⟩, ⟨some 12, .pick (.t 9) (.c (.bool true)) (.t 11), none, 0⟩, ⟨some 2, .mv (.t 12),
  none, 0⟩] 0 false []) .ret)
def B116 := bB116
theorem wB116 : Wp O B116 Q σ h = Wp O bB116 Q σ h := rfl
def F116 : AF := ⟨B116, [.tmp 2], false⟩
theorem tab116 : T 116 = some F116 := by kernel_rfl
/-- (*franking/abnf.reader).part -/
abbrev bB117 : AC :=
  .seq (.region [⟨some 2, .alloc [.int .u8 0, .str [], .int .u8 0, .int .u8 0, .int .i64 0, .int .i64 0, .list 7 [] .full], none, 0⟩] 1 false []) (.seq (.seq (.region [⟨some 5, .mv (.t 0), none, 0⟩,
  ⟨some 6, .cvStrBytes 5 (.c (.str [9])), none, 0⟩, ⟨some 7, .call (.c (.fn 77 [])) [.t 5, .t 6], none, 1⟩, ⟨some 8, .not (.t 7), none, 1⟩] 1 false []) (.cond (.t 8) (.seq (.region [⟨some 9, .mv (.t 0),
  none, 0⟩, ⟨some 10, .call (.c (.fn 130 [])) [.t 9], none, 0⟩, ⟨none, .store 7 (.t 2) (.t 10), none, 0⟩] 0 false []) .ret) .skip)) (.seq (.region [⟨some 11, .mv (.t 0), none, 0⟩, ⟨some 12, .cvStrBytes 5
  (.c (.str [9])), none, 0⟩, ⟨some 13, .call (.c (.fn 36 [])) [.t 11, .t 12], none, 1⟩, ⟨some 3, .alloc [.int .u8 0, .int .i64 0, .str [], .int .i64 0, .int .i64 0, .int .u8 0, .int .u8 0], none, 1⟩,
  ⟨none, .store 7 (.t 3) (.t 13), none, 2⟩] 2 false []) (.seq (.region [⟨some 14, .mv (.t 0), none, 0⟩, ⟨some 15, .off 3 (.t 3), none, 0⟩, ⟨some 16, .load none (.t 15), none, 0⟩, ⟨some 17, .off 4 (.t 3),
  none, 0⟩, ⟨some 18, .load none (.t 17), none, 0⟩, ⟨some 19, .mksliceM [.int .u8 0, .str [], .int .u8 0, .int .u8 0, .int .i64 0, .int .i64 0, .list 7 [] .full] 7 72 (.c (.int .i64 1)) (.c (.int .i64
  1)), none, 0⟩, ⟨some 20, .build [.int .u8 0, .str [], .int .u8 0, .int .u8 0, .int .i64 0, .int .i64 0, .list 7 [] .full] [(0, 1, .c (.int .u8 7)), (4, 1, .t 16), (5, 1, .t 18), (6, 1, .t 19)], none,
  1⟩, ⟨some 21, .call (.c (.fn 37 [])) [.t 14, .t 20], none, 1⟩, ⟨some 4, .alloc [.int .u8 0, .str [], .int .u8 0, .int .u8 0, .int .i64 0, .int .i64 0, .list 7 [] .full], none, 1⟩, ⟨none, .store 7 (.t
  4) (.t 21), none, 2⟩] 2 true [(2, 5), (4, 5), (2, 8), (4, 8), (5, 8), (7, 8)]) (.seq (.region [⟨some 22, .off 6 (.t 4), none, 0⟩, ⟨some 23, .load none (.t 22), none, 0⟩, ⟨some 24, .mv (.t 0), none, 0⟩,
  ⟨some 25, .call (.c (.fn 130 [])) [.t 24], none, 0⟩, ⟨some 26, .idx 7 (.t 23) (.c (.int .i64 0)), none, 0⟩, ⟨none, .store 7 (.t 26) (.t 25), none, 0⟩] 0 true [(1, 3)]) (.seq (.region [⟨some 27, .load
  (some 7) (.t 4), none, 0⟩, ⟨none, .store 7 (.t 2) (.t 27), none, 0⟩] 0 false []) .ret)))))
def B117 := bB117
theorem wB117 : Wp O B117 Q σ h = Wp O bB117 Q σ h := rfl
def F117 : AF := ⟨B117, [.cell 2 (some 7)], false⟩
theorem tab117 : T 117 = some F117 := by kernel_rfl
/-- strings.indexFunc -/
abbrev bL129_0 : AC :=
  .seq (.region [⟨some 11, .next (.t 10), none, 0⟩, ⟨some 12, .ext (.t 11) 0, none, 0⟩] 0 false []) (.seq (.cond (.t 12) .skip (.exit 0)) (.block 1 (.seq (.region [⟨some 13, .ext (.t 11) 1, none, 0⟩,
  ⟨some 14, .ext (.t 11) 2, none, 0⟩, ⟨some 7, .mv (.t 13), none, 0⟩, ⟨some 8, .mv (.t 14), none, 0⟩] 0 false []) (.seq (.region [⟨some 15, .mv (.t 1), none, 0⟩, ⟨some 16, .mv (.t 8), none, 0⟩, ⟨some 17,
  .call (.t 15) [.t 16], none, 0⟩, ⟨some 18, .mv (.t 2), none, 0⟩, ⟨some 19, .eq false none [(0, LK.bool)] (.t 17) (.t 18), none, 0⟩] 0 false []) (.cond (.t 19) (.seq (.region [⟨some 20, .mv (.t 7),
  none, 0⟩, ⟨some 6, .mv (.t 20), none, 0⟩] 0 false []) .ret) .skip)))))
def L129_0 := bL129_0
theorem wL129_0 : Wp O L129_0 Q σ h = Wp O bL129_0 Q σ h := rfl
abbrev bK129_0 : AC :=
  .seq (.region [⟨some 6, .mv (.c (.int .i64 (-1))), none, 0⟩] 0 false []) .ret
def K129_0 := bK129_0
theorem wK129_0 : Wp O K129_0 Q σ h = Wp O bK129_0 Q σ h := rfl
abbrev bB129 : AC :=
  .seq (.region [⟨some 6, .mv (.c (.int .i64 0)), none, 0⟩] 0 false []) (.seq (.seq (.region [⟨some 9, .mv (.t 0), none, 0⟩, ⟨some 10, .rangeS (.t 9), none, 0⟩] 1 false []) (.block 0 (.loop L129_0)))
  K129_0)
def B129 := bB129
theorem wB129 : Wp O B129 Q σ h = Wp O bB129 Q σ h := rfl
def F129 : AF := ⟨B129, [.tmp 6], false⟩
theorem tab129 : T 129 = some F129 := by kernel_rfl
/-- (*franking/abnf.reader).thing -/
abbrev bB130 : AC :=
  .seq (.region [⟨some 2, .alloc [.int .u8 0, .str [], .int .u8 0, .int .u8 0, .int .i64 0, .int .i64 0, .list 7 [] .full], none, 0⟩] 1 false []) (.seq (.region [⟨some 8, .mv (.t 0), none, 0⟩, ⟨some 9,
  .cvStrBytes 5 (.c (.str [1, 10, 11, 12, 5, 7])), none, 0⟩, ⟨some 10, .call (.c (.fn 36 [])) [.t 8, .t 9], none, 1⟩, ⟨some 3, .alloc [.int .u8 0, .int .i64 0, .str [], .int .i64 0, .int .i64 0, .int .u8
  0, .int .u8 0], none, 1⟩, ⟨none, .store 7 (.t 3) (.t 10), none, 2⟩] 2 false []) (.seq (.region [⟨some 11, .build [.int .u8 0, .int .u8 0, .int .u8 0, .int .u8 0, .int .u8 0, .int .u8 0, .int .u8 0,
  .int .u8 0, .int .u8 0, .int .u8 0, .int .u8 0, .int .u8 0, .int .u8 0] [(1, 1, .c (.int .u8 1)), (10, 1, .c (.int .u8 2)), (11, 1, .c (.int .u8 3)), (12, 1, .c (.int .u8 4))], none, 0⟩, ⟨some 4,
  .alloc [.int .u8 0, .int .u8 0, .int .u8 0, .int .u8 0, .int .u8 0, .int .u8 0, .int .u8 0, .int .u8 0, .int .u8 0, .int .u8 0, .int .u8 0, .int .u8 0, .int .u8 0], none, 0⟩, ⟨none, .store 13 (.t 4)
  (.t 11), none, 1⟩] 1 false []) (.seq (.seq (.region [⟨some 12, .off 0 (.t 3), none, 0⟩, ⟨some 13, .load none (.t 12), none, 0⟩] 0 false []) (.block 0 (.seq (.region [⟨some 15, .bin .eql (.t 13) (.c
  (.int .u8 5)), none, 0⟩, ⟨some 14, .mv (.t 15), none, 0⟩] 0 false []) (.cond (.t 14) (.seq (.region [⟨some 16, .mv (.t 0), none, 0⟩, ⟨some 17, .call (.c (.fn 39 [])) [.t 16], none, 0⟩, ⟨some 5, .alloc
  [.int .u8 0, .str [], .int .u8 0, .int .u8 0, .int .i64 0, .int .i64 0, .list 7 [] .full], none, 0⟩, ⟨none, .store 7 (.t 5) (.t 17), none, 1⟩] 1 false []) (.seq (.region [⟨some 18, .mv (.t 0), none,
  0⟩, ⟨some 19, .cvStrBytes 5 (.c (.str [6])), none, 0⟩, ⟨some 20, .call (.c (.fn 36 [])) [.t 18, .t 19], none, 1⟩] 1 false []) (.seq (.region [⟨some 21, .load (some 7) (.t 5), none, 0⟩, ⟨none, .store 7
  (.t 2) (.t 21), none, 0⟩] 0 false []) .ret))) (.seq (.region [⟨some 23, .bin .eql (.t 13) (.c (.int .u8 7)), none, 0⟩, ⟨some 22, .mv (.t 23), none, 0⟩] 0 false []) (.cond (.t 22) (.seq (.region [⟨some
  24, .mv (.t 0), none, 0⟩, ⟨some 25, .call (.c (.fn 39 [])) [.t 24], none, 0⟩, ⟨some 6, .alloc [.int .u8 0, .str [], .int .u8 0, .int .u8 0, .int .i64 0, .int .i64 0, .list 7 [] .full], none, 0⟩, ⟨none,
  .store 7 (.t 6) (.t 25), none, 1⟩] 1 false []) (.seq (.region [⟨some 26, .mv (.t 0), none, 0⟩, ⟨some 27, .cvStrBytes 5 (.c (.str [8])), none, 0⟩, ⟨some 28, .call (.c (.fn 36 [])) [.t 26, .t 27], none,
  1⟩] 1 false []) (.seq (.region [⟨some 29, .load (some 7) (.t 6), none, 0⟩, ⟨some 30, .bslice 7 [.t 29], none, 0⟩, ⟨some 31, .build [.int .u8 0, .str [], .int .u8 0, .int .u8 0, .int .i64 0, .int .i64
  0, .list 7 [] .full] [(0, 1, .c (.int .u8 7)), (5, 1, .c (.int .i64 1)), (6, 1, .t 30)], none, 0⟩, ⟨none, .store 7 (.t 2) (.t 31), none, 0⟩] 0 false []) .ret))) (.seq (.region [⟨some 33, .bin .eql (.t
  13) (.c (.int .u8 1)), none, 0⟩, ⟨some 32, .mv (.t 33), none, 0⟩] 0 false []) (.cond (.t 32) (.seq (.region [⟨some 34, .mv (.t 0), none, 0⟩, ⟨some 35, .off 2 (.t 3), none, 0⟩, ⟨some 36, .load none (.t
  35), none, 0⟩, ⟨some 37, .call (.c (.fn 38 [])) [.t 36], none, 0⟩, ⟨some 38, .build [.int .u8 0, .str [], .int .u8 0, .int .u8 0, .int .i64 0, .int .i64 0, .list 7 [] .full] [(0, 1, .c (.int .u8 1)),
  (1, 1, .t 37)], none, 0⟩, ⟨some 39, .call (.c (.fn 37 [])) [.t 34, .t 38], none, 0⟩, ⟨none, .store 7 (.t 2) (.t 39), none, 0⟩] 0 false []) .ret) .skip)))))))) (.seq (.region [⟨some 40, .off 0 (.t 3),
  none, 0⟩, ⟨some 41, .load none (.t 40), none, 0⟩, ⟨some 42, .idxA 1 13 (.t 4) (.t 41), none, 0⟩, ⟨some 43, .load none (.t 42), none, 0⟩, ⟨some 44, .off 2 (.t 3), none, 0⟩, ⟨some 45, .load none (.t 44),
  none, 0⟩, ⟨some 46, .build [.int .u8 0, .str [], .int .u8 0, .int .u8 0, .int .i64 0, .int .i64 0, .list 7 [] .full] [(0, 1, .t 43), (1, 1, .t 45)], none, 0⟩, ⟨some 7, .alloc [.int .u8 0, .str [], .int
  .u8 0, .int .u8 0, .int .i64 0, .int .i64 0, .list 7 [] .full], none, 0⟩, ⟨none, .store 7 (.t 7) (.t 46), none, 1⟩] 1 true [(1, 7), (3, 7), (5, 7)]) (.seq (.seq (.region [⟨some 47, .off 0 (.t 3), none,
  0⟩, ⟨some 48, .load none (.t 47), none, 0⟩, ⟨some 49, .bin .eql (.t 48) (.c (.int .u8 12)), none, 0⟩] 0 false []) (.cond (.t 49) (.region [⟨some 50, .off 5 (.t 3), none, 0⟩, ⟨some 51, .load none (.t
  50), none, 0⟩, ⟨some 52, .off 6 (.t 3), none, 0⟩, ⟨some 53, .load none (.t 52), none, 0⟩, ⟨some 54, .off 1 (.t 7), none, 0⟩, ⟨none, .store 1 (.t 54) (.c (.str [])), none, 0⟩, ⟨some 55, .off 2 (.t 7),
  none, 0⟩, ⟨none, .store 1 (.t 55) (.t 51), none, 0⟩, ⟨some 56, .off 3 (.t 7), none, 0⟩, ⟨none, .store 1 (.t 56) (.t 53), none, 0⟩] 0 true [(1, 5), (3, 5), (3, 7)]) .skip)) (.seq (.region [⟨some 57, .mv
  (.t 0), none, 0⟩, ⟨some 58, .load (some 7) (.t 7), none, 0⟩, ⟨some 59, .call (.c (.fn 37 [])) [.t 57, .t 58], none, 0⟩, ⟨none, .store 7 (.t 2) (.t 59), none, 0⟩] 0 false []) .ret))))))
def B130 := bB130
theorem wB130 : Wp O B130 Q σ h = Wp O bB130 Q σ h := rfl
def F130 : AF := ⟨B130, [.cell 2 (some 7)], false⟩
theorem tab130 : T 130 = some F130 := by kernel_rfl
/-- franking/frankingref02.Parse -/
abbrev bL12_0 : AC :=
  .seq (.seq (.region [⟨some 10, .mv (.t 6), none, 0⟩, ⟨some 11, .mv (.t 0), none, 0⟩, ⟨some 12, .len (.t 11), none, 0⟩, ⟨some 13, .bin .lss (.t 10) (.t 12), none, 0⟩] 0 false []) (.cond (.t 13) .skip
  (.exit 0))) (.block 1 (.seq (.region [⟨some 15, .mv (.t 0), none, 0⟩, ⟨some 16, .mv (.t 6), none, 0⟩, ⟨some 17, .call (.c (.fn 40 [])) [.t 15, .t 16], none, 0⟩, ⟨some 14, .mv (.t 17), none, 0⟩, ⟨some
  18, .ext (.t 14) 0, none, 0⟩, ⟨some 19, .ext (.t 14) 1, none, 0⟩, ⟨some 7, .alloc [.str [], .int .i64 0, .bool false, .int .u8 0, .str [], .int .u8 0, .int .u8 0, .int .i64 0, .int .i64 0, .list 7 []
  .full], none, 0⟩, ⟨none, .store 10 (.t 7) (.t 18), none, 1⟩, ⟨some 8, .mv (.t 19), none, 1⟩] 1 false []) (.seq (.seq (.region [⟨some 20, .mv (.t 8), none, 0⟩, ⟨some 21, .bin .lss (.t 20) (.c (.int .i64
  0)), none, 0⟩] 0 false []) (.cond (.t 21) (.seq (.region [⟨some 22, .mv (.t 8), none, 0⟩, ⟨some 23, .bin .sub (.c (.int .i64 (-1))) (.t 22), none, 0⟩, ⟨some 9, .mv (.t 23), none, 0⟩] 0 false []) (.seq
  (.seq (.region [⟨some 24, .mv (.t 9), none, 0⟩, ⟨some 25, .mv (.t 0), none, 0⟩, ⟨some 26, .len (.t 25), none, 0⟩, ⟨some 27, .bin .geq (.t 24) (.t 26), none, 0⟩] 0 false []) (.cond (.t 27) (.region
  [⟨some 28, .mv (.t 0), none, 0⟩, ⟨some 29, .len (.t 28), none, 0⟩, ⟨some 30, .bin .sub (.t 29) (.c (.int .i64 1)), none, 0⟩, ⟨some 9, .mv (.t 30), none, 0⟩] 0 false []) .skip)) (.seq (.region [⟨some
  31, .mv (.t 0), none, 0⟩, ⟨some 32, .mv (.t 9), none, 0⟩, ⟨some 33, .idx 7 (.t 31) (.t 32), none, 0⟩, ⟨some 34, .off 1 (.t 33), none, 0⟩, ⟨some 35, .load none (.t 34), none, 0⟩, ⟨some 2, .mv (.c (.list
  10 [] .full)), none, 0⟩, ⟨some 3, .mv (.t 35), none, 0⟩, ⟨some 4, .mv (.c (.int .i64 20)), none, 0⟩] 0 true []) .ret))) .skip)) (.seq (.seq (.region [⟨some 36, .off 3 (.t 7), none, 0⟩, ⟨some 37, .load
  (some 7) (.t 36), none, 0⟩, ⟨some 38, .call (.c (.fn 15 [])) [.t 37], none, 0⟩, ⟨some 39, .not (.t 38), none, 0⟩] 0 false []) (.cond (.t 39) (.seq (.region [⟨some 40, .off 1 (.t 7), none, 0⟩, ⟨some 41,
  .load none (.t 40), none, 0⟩, ⟨some 2, .mv (.c (.list 10 [] .full)), none, 0⟩, ⟨some 3, .mv (.t 41), none, 0⟩, ⟨some 4, .mv (.c (.int .i64 21)), none, 0⟩] 0 true []) .ret) .skip)) (.seq (.region [⟨some
  42, .mv (.t 5), none, 0⟩, ⟨some 43, .load (some 10) (.t 7), none, 0⟩, ⟨some 44, .bslice 10 [.t 43], none, 0⟩, ⟨some 45, .append 10 104 27 (.t 42) (.t 44), none, 0⟩, ⟨some 5, .mv (.t 45), none, 1⟩] 1
  false []) (.region [⟨some 46, .mv (.t 8), none, 0⟩, ⟨some 6, .mv (.t 46), none, 0⟩] 0 false []))))))
def L12_0 := bL12_0
theorem wL12_0 : Wp O L12_0 Q σ h = Wp O bL12_0 Q σ h := rfl
abbrev bK12_0 : AC :=
  .seq (.region [⟨some 47, .mv (.t 5), none, 0⟩, ⟨some 2, .mv (.t 47), none, 0⟩, ⟨some 3, .mv (.c (.int .i64 0)), none, 0⟩, ⟨some 4, .mv (.c (.int .i64 0)), none, 0⟩] 0 false []) .ret
def K12_0 := bK12_0
theorem wK12_0 : Wp O K12_0 Q σ h = Wp O bK12_0 Q σ h := rfl
abbrev bB12 : AC :=
  .seq (.region [⟨some 2, .mv (.c (.list 10 [] .full)), none, 0⟩, ⟨some 3, .mv (.c (.int .i64 0)), none, 0⟩, ⟨some 4, .mv (.c (.int .i64 0)), none, 0⟩] 0 false []) (.seq (.region [⟨some 5, .mv (.c (.list
  10 [] .full)), none, 0⟩] 0 false []) (.seq (.seq (.region [⟨some 6, .mv (.c (.int .i64 0)), none, 0⟩] 0 false []) (.block 0 (.loop L12_0))) K12_0))
def B12 := bB12
theorem wB12 : Wp O B12 Q σ h = Wp O bB12 Q σ h := rfl
def F12 : AF := ⟨B12, [.tmp 2, .tmp 3, .tmp 4], false⟩
theorem tab12 : T 12 = some F12 := by kernel_rfl
/-- franking/frankingref02.Right -/
abbrev bB15 : AC :=
  .seq (.region [⟨some 1, .box 7 (.t 0), none, 0⟩, ⟨some 2, .mv (.c (.bool false)), none, 1⟩] 1 false []) (.seq (.region [⟨some 3, .load (some 7) (.t 1), none, 0⟩, ⟨some 4, .call (.c (.fn 43 [])) [.t 3,
  .c (.int .i64 100)], none, 0⟩, ⟨some 2, .mv (.t 4), none, 0⟩] 0 false []) .ret)
def B15 := bB15
theorem wB15 : Wp O B15 Q σ h = Wp O bB15 Q σ h := rfl
def F15 : AF := ⟨B15, [.tmp 2], false⟩
theorem tab15 : T 15 = some F15 := by kernel_rfl
/-- franking/frankingref02.Print -/
abbrev bB17 : AC :=
  .seq (.region [⟨some 1, .box 10 (.t 0), none, 0⟩, ⟨some 2, .mv (.c (.str [])), none, 1⟩, ⟨some 3, .mv (.c (.int .i64 0)), none, 1⟩] 1 false []) (.seq (.seq (.region [⟨some 4, .off 0 (.t 1), none, 0⟩,
  ⟨some 5, .load none (.t 4), none, 0⟩, ⟨some 6, .call (.c (.fn 46 [])) [.t 5], none, 0⟩, ⟨some 7, .not (.t 6), none, 0⟩, ⟨some 8, .mv (.t 7), none, 0⟩, ⟨some 9, .off 3 (.t 1), some (8, false), 0⟩, ⟨some
  10, .load (some 7) (.t 9), some (8, false), 0⟩, ⟨some 11, .call (.c (.fn 15 [])) [.t 10], some (8, false), 0⟩, ⟨some 12, .not (.t 11), some (8, false), 0⟩, ⟨some 13, .pick (.t 8) (.c (.bool true)) (.t
  12), none, 0⟩] 0 false []) (.cond (.t 13) (.seq (.region [⟨some 2, .mv (.c (.str [])), none, 0⟩, ⟨some 3, .mv (.c (.int .i64 2)), none, 0⟩] 0 false []) .ret) .skip)) (.seq (.seq (.region [⟨some 14,
  .off 2 (.t 1), none, 0⟩, ⟨some 15, .load none (.t 14), none, 0⟩] 0 false []) (.cond (.t 15) (.seq (.region [⟨some 16, .off 0 (.t 1), none, 0⟩, ⟨some 17, .load none (.t 16), none, 0⟩, ⟨some 18, .bin
  .add (.t 17) (.c (.str [32, 61, 47, 32])), none, 0⟩, ⟨some 19, .off 3 (.t 1), none, 0⟩, ⟨some 20, .load (some 7) (.t 19), none, 0⟩, ⟨some 21, .call (.c (.fn 47 [])) [.t 20], none, 0⟩, ⟨some 22, .bin
  .add (.t 18) (.t 21), none, 0⟩, ⟨some 2, .mv (.t 22), none, 0⟩, ⟨some 3, .mv (.c (.int .i64 0)), none, 0⟩] 0 true [(1, 5)]) .ret) .skip)) (.seq (.region [⟨some 23, .off 0 (.t 1), none, 0⟩, ⟨some 24,
  .load none (.t 23), none, 0⟩, ⟨some 25, .bin .add (.t 24) (.c (.str [32, 61, 32])), none, 0⟩, ⟨some 26, .off 3 (.t 1), none, 0⟩, ⟨some 27, .load (some 7) (.t 26), none, 0⟩, ⟨some 28, .call (.c (.fn 47
  [])) [.t 27], none, 0⟩, ⟨some 29, .bin .add (.t 25) (.t 28), none, 0⟩, ⟨some 2, .mv (.t 29), none, 0⟩, ⟨some 3, .mv (.c (.int .i64 0)), none, 0⟩] 0 true [(1, 5)]) .ret)))
def B17 := bB17
theorem wB17 : Wp O B17 Q σ h = Wp O bB17 Q σ h := rfl
def F17 : AF := ⟨B17, [.tmp 2, .tmp 3], false⟩
theorem tab17 : T 17 = some F17 := by kernel_rfl
/-- franking/frankingref02.rule -/
abbrev bB40 : AC :=
  .seq (.region [⟨some 4, .alloc [.str [], .int .i64 0, .bool false, .int .u8 0, .str [], .int .u8 0, .int .u8 0, .int .i64 0, .int .i64 0, .list 7 [] .full], none, 0⟩, ⟨some 5, .mv (.c (.int .i64 0)),
  none, 1⟩] 1 false []) (.seq (.region [⟨some 11, .mv (.t 0), none, 0⟩, ⟨some 12, .mv (.t 1), none, 0⟩, ⟨some 13, .idx 7 (.t 11) (.t 12), none, 0⟩, ⟨some 14, .load (some 7) (.t 13), none, 0⟩, ⟨some 15,
  .call (.c (.fn 81 [])) [.t 14], none, 0⟩, ⟨some 10, .mv (.t 15), none, 0⟩, ⟨some 16, .ext (.t 10) 0, none, 0⟩, ⟨some 17, .ext (.t 10) 1, none, 0⟩, ⟨some 6, .alloc [.int .u8 0, .str [], .int .u8 0, .int
  .u8 0, .int .i64 0, .int .i64 0, .list 7 [] .full], none, 0⟩, ⟨none, .store 7 (.t 6) (.t 16), none, 1⟩, ⟨some 7, .mv (.t 17), none, 1⟩] 1 false []) (.seq (.seq (.region [⟨some 18, .mv (.t 0), none, 0⟩,
  ⟨some 19, .mv (.t 1), none, 0⟩, ⟨some 20, .idx 7 (.t 18) (.t 19), none, 0⟩, ⟨some 21, .off 0 (.t 20), none, 0⟩, ⟨some 22, .load none (.t 21), none, 0⟩, ⟨some 23, .bin .neq (.t 22) (.c (.int .u8 1)),
  none, 0⟩, ⟨some 24, .mv (.t 23), none, 0⟩, ⟨some 25, .mv (.t 7), some (24, false), 0⟩, ⟨some 26, .not (.t 25), some (24, false), 0⟩, ⟨some 27, .pick (.t 24) (.c (.bool true)) (.t 26), none, 0⟩] 0 false
  []) (.cond (.t 27) (.seq (.region [⟨some 28, .build [.str [], .int .i64 0, .bool false, .int .u8 0, .str [], .int .u8 0, .int .u8 0, .int .i64 0, .int .i64 0, .list 7 [] .full] [], none, 0⟩, ⟨some 29,
  .mv (.t 1), none, 0⟩, ⟨some 30, .bin .sub (.c (.int .i64 (-1))) (.t 29), none, 0⟩, ⟨none, .store 10 (.t 4) (.t 28), none, 0⟩, ⟨some 5, .mv (.t 30), none, 0⟩] 0 false []) .ret) .skip)) (.seq (.seq
  (.region [⟨some 31, .mv (.t 0), none, 0⟩, ⟨some 32, .mv (.t 1), none, 0⟩, ⟨some 33, .bin .add (.t 32) (.c (.int .i64 1)), none, 0⟩, ⟨some 34, .call (.c (.fn 82 [])) [.t 31, .t 33], none, 0⟩, ⟨some 35,
  .bin .neq (.t 34) (.c (.int .u8 2)), none, 0⟩, ⟨some 36, .mv (.t 35), none, 0⟩, ⟨some 37, .mv (.t 0), some (36, true), 0⟩, ⟨some 38, .mv (.t 1), some (36, true), 0⟩, ⟨some 39, .bin .add (.t 38) (.c
  (.int .i64 1)), some (36, true), 0⟩, ⟨some 40, .call (.c (.fn 82 [])) [.t 37, .t 39], some (36, true), 0⟩, ⟨some 41, .bin .neq (.t 40) (.c (.int .u8 3)), some (36, true), 0⟩, ⟨some 42, .pick (.t 36)
  (.t 41) (.c (.bool false)), none, 0⟩] 0 false []) (.cond (.t 42) (.seq (.region [⟨some 43, .build [.str [], .int .i64 0, .bool false, .int .u8 0, .str [], .int .u8 0, .int .u8 0, .int .i64 0, .int .i64
  0, .list 7 [] .full] [], none, 0⟩, ⟨some 44, .mv (.t 1), none, 0⟩, ⟨some 45, .bin .sub (.c (.int .i64 (-2))) (.t 44), none, 0⟩, ⟨none, .store 10 (.t 4) (.t 43), none, 0⟩, ⟨some 5, .mv (.t 45), none,
  0⟩] 0 false []) .ret) .skip)) (.seq (.region [⟨some 47, .mv (.t 0), none, 0⟩, ⟨some 48, .mv (.t 1), none, 0⟩, ⟨some 49, .bin .add (.t 48) (.c (.int .i64 2)), none, 0⟩, ⟨some 50, .call (.c (.fn 83 []))
  [.t 47, .t 49], none, 0⟩, ⟨some 46, .mv (.t 50), none, 0⟩, ⟨some 51, .ext (.t 46) 0, none, 0⟩, ⟨some 52, .ext (.t 46) 1, none, 0⟩, ⟨some 8, .alloc [.int .u8 0, .str [], .int .u8 0, .int .u8 0, .int
  .i64 0, .int .i64 0, .list 7 [] .full], none, 0⟩, ⟨none, .store 7 (.t 8) (.t 51), none, 1⟩, ⟨some 9, .mv (.t 52), none, 1⟩] 1 false []) (.seq (.seq (.region [⟨some 53, .mv (.t 9), none, 0⟩, ⟨some 54,
  .bin .lss (.t 53) (.c (.int .i64 0)), none, 0⟩] 0 false []) (.cond (.t 54) (.seq (.region [⟨some 55, .build [.str [], .int .i64 0, .bool false, .int .u8 0, .str [], .int .u8 0, .int .u8 0, .int .i64 0,
  .int .i64 0, .list 7 [] .full] [], none, 0⟩, ⟨some 56, .mv (.t 9), none, 0⟩, ⟨none, .store 10 (.t 4) (.t 55), none, 0⟩, ⟨some 5, .mv (.t 56), none, 0⟩] 0 false []) .ret) .skip)) (.seq (.seq (.region
  [⟨some 57, .mv (.t 0), none, 0⟩, ⟨some 58, .mv (.t 9), none, 0⟩, ⟨some 59, .call (.c (.fn 82 [])) [.t 57, .t 58], none, 0⟩, ⟨some 60, .bin .neq (.t 59) (.c (.int .u8 13)), none, 0⟩] 0 false []) (.cond
  (.t 60) (.seq (.region [⟨some 61, .build [.str [], .int .i64 0, .bool false, .int .u8 0, .str [], .int .u8 0, .int .u8 0, .int .i64 0, .int .i64 0, .list 7 [] .full] [], none, 0⟩, ⟨some 62, .mv (.t 9),
  none, 0⟩, ⟨some 63, .bin .sub (.c (.int .i64 (-1))) (.t 62), none, 0⟩, ⟨none, .store 10 (.t 4) (.t 61), none, 0⟩, ⟨some 5, .mv (.t 63), none, 0⟩] 0 false []) .ret) .skip)) (.seq (.region [⟨some 64,
  .off 1 (.t 6), none, 0⟩, ⟨some 65, .load none (.t 64), none, 0⟩, ⟨some 66, .mv (.t 0), none, 0⟩, ⟨some 67, .mv (.t 1), none, 0⟩, ⟨some 68, .idx 7 (.t 66) (.t 67), none, 0⟩, ⟨some 69, .off 1 (.t 68),
  none, 0⟩, ⟨some 70, .load none (.t 69), none, 0⟩, ⟨some 71, .mv (.t 0), none, 0⟩, ⟨some 72, .mv (.t 1), none, 0⟩, ⟨some 73, .bin .add (.t 72) (.c (.int .i64 1)), none, 0⟩, ⟨some 74, .idx 7 (.t 71) (.t
  73), none, 0⟩, ⟨some 75, .off 0 (.t 74), none, 0⟩, ⟨some 76, .load none (.t 75), none, 0⟩, ⟨some 77, .bin .eql (.t 76) (.c (.int .u8 3)), none, 0⟩, ⟨some 78, .load (some 7) (.t 8), none, 0⟩, ⟨some 79,
  .build [.str [], .int .i64 0, .bool false, .int .u8 0, .str [], .int .u8 0, .int .u8 0, .int .i64 0, .int .i64 0, .list 7 [] .full] [(0, 1, .t 65), (1, 1, .t 70), (2, 1, .t 77), (3, 7, .t 78)], none,
  0⟩, ⟨some 80, .mv (.t 9), none, 0⟩, ⟨some 81, .bin .add (.t 80) (.c (.int .i64 1)), none, 0⟩, ⟨none, .store 10 (.t 4) (.t 79), none, 0⟩, ⟨some 5, .mv (.t 81), none, 0⟩] 0 true []) .ret)))))))
def B40 := bB40
theorem wB40 : Wp O B40 Q σ h = Wp O bB40 Q σ h := rfl
def F40 : AF := ⟨B40, [.cell 4 (some 10), .tmp 5], false⟩
theorem tab40 : T 40 = some F40 := by kernel_rfl
/-- franking/frankingref02.within -/
abbrev bL43_0 : AC :=
  .seq (.seq (.region [⟨some 13, .mv (.t 5), none, 0⟩, ⟨some 14, .off 6 (.t 2), none, 0⟩, ⟨some 15, .load none (.t 14), none, 0⟩, ⟨some 16, .len (.t 15), none, 0⟩, ⟨some 17, .bin .lss (.t 13) (.t 16),
  none, 0⟩] 0 false []) (.cond (.t 17) .skip (.exit 0))) (.seq (.block 1 (.seq (.region [⟨some 20, .off 6 (.t 2), none, 0⟩, ⟨some 21, .load none (.t 20), none, 0⟩, ⟨some 22, .mv (.t 5), none, 0⟩, ⟨some
  23, .idx 7 (.t 21) (.t 22), none, 0⟩, ⟨some 24, .load (some 7) (.t 23), none, 0⟩, ⟨some 25, .mv (.t 1), none, 0⟩, ⟨some 26, .bin .sub (.t 25) (.c (.int .i64 1)), none, 0⟩, ⟨some 27, .call (.c (.fn 43
  [])) [.t 24, .t 26], none, 0⟩, ⟨some 28, .not (.t 27), none, 0⟩] 0 false []) (.cond (.t 28) (.seq (.region [⟨some 4, .mv (.c (.bool false)), none, 0⟩] 0 false []) .ret) .skip))) (.region [⟨some 18, .mv
  (.t 5), none, 0⟩, ⟨some 19, .bin .add (.t 18) (.c (.int .i64 1)), none, 0⟩, ⟨some 5, .mv (.t 19), none, 0⟩] 0 false []))
def L43_0 := bL43_0
theorem wL43_0 : Wp O L43_0 Q σ h = Wp O bL43_0 Q σ h := rfl
abbrev bK43_0 : AC :=
  .seq (.region [⟨some 4, .mv (.c (.bool true)), none, 0⟩] 0 false []) .ret
def K43_0 := bK43_0
theorem wK43_0 : Wp O K43_0 Q σ h = Wp O bK43_0 Q σ h := rfl
abbrev bB43 : AC :=
  .seq (.region [⟨some 2, .box 7 (.t 0), none, 0⟩, ⟨some 4, .mv (.c (.bool false)), none, 1⟩] 1 false []) (.seq (.seq (.region [⟨some 6, .mv (.t 1), none, 0⟩, ⟨some 7, .bin .eql (.t 6) (.c (.int .i64
  0)), none, 0⟩, ⟨some 8, .mv (.t 7), none, 0⟩, ⟨some 9, .load (some 7) (.t 2), some (8, false), 0⟩, ⟨some 10, .call (.c (.fn 84 [])) [.t 9], some (8, false), 0⟩, ⟨some 11, .not (.t 10), some (8, false),
  0⟩, ⟨some 12, .pick (.t 8) (.c (.bool true)) (.t 11), none, 0⟩] 0 false []) (.cond (.t 12) (.seq (.region [⟨some 4, .mv (.c (.bool false)), none, 0⟩] 0 false []) .ret) .skip)) (.seq (.seq (.region
  [⟨some 5, .mv (.c (.int .i64 0)), none, 0⟩] 0 false []) (.block 0 (.loop L43_0))) K43_0))
def B43 := bB43
theorem wB43 : Wp O B43 Q σ h = Wp O bB43 Q σ h := rfl
def F43 : AF := ⟨B43, [.tmp 4], false⟩
theorem tab43 : T 43 = some F43 := by kernel_rfl
/-- franking/frankingref02.Named -/
abbrev bL46_0 : AC :=
  .seq (.seq (.region [⟨some 17, .mv (.t 3), none, 0⟩, ⟨some 18, .mv (.t 0), none, 0⟩, ⟨some 19, .lenS (.t 18), none, 0⟩, ⟨some 20, .bin .lss (.t 17) (.t 19), none, 0⟩] 0 false []) (.cond (.t 20) .skip
  (.exit 0))) (.seq (.block 1 (.seq (.region [⟨some 23, .mv (.t 0), none, 0⟩, ⟨some 24, .mv (.t 3), none, 0⟩, ⟨some 25, .indexS (.t 23) (.t 24), none, 0⟩, ⟨some 26, .bin .lss (.t 25) (.c (.int .u8 97)),
  none, 0⟩, ⟨some 27, .mv (.t 26), none, 0⟩, ⟨some 28, .mv (.t 0), some (27, false), 0⟩, ⟨some 29, .mv (.t 3), some (27, false), 0⟩, ⟨some 30, .indexS (.t 28) (.t 29), some (27, false), 0⟩, ⟨some 31,
  .bin .gtr (.t 30) (.c (.int .u8 122)), some (27, false), 0⟩, ⟨some 32, .pick (.t 27) (.c (.bool true)) (.t 31), none, 0⟩, ⟨some 33, .mv (.t 32), none, 0⟩, ⟨some 34, .mv (.t 0), some (33, true), 0⟩,
  ⟨some 35, .mv (.t 3), some (33, true), 0⟩, ⟨some 36, .indexS (.t 34) (.t 35), some (33, true), 0⟩, ⟨some 37, .call (.c (.fn 89 [])) [.t 36], some (33, true), 0⟩, ⟨some 38, .not (.t 37), some (33,
  true), 0⟩, ⟨some 39, .pick (.t 33) (.t 38) (.c (.bool false)), none, 0⟩, ⟨some 40, .mv (.t 39), none, 0⟩, ⟨some 41, .mv (.t 0), some (40, true), 0⟩, ⟨some 42, .mv (.t 3), some (40, true), 0⟩, ⟨some 43,
  .indexS (.t 41) (.t 42), some (40, true), 0⟩, ⟨some 44, .bin .neq (.t 43) (.c (.int .u8 45)), some (40, true), 0⟩, ⟨some 45, .pick (.t 40) (.t 44) (.c (.bool false)), none, 0⟩] 0 false []) (.cond (.t
  45) (.seq (.region [⟨some 2, .mv (.c (.bool false)), none, 0⟩] 0 false []) .ret) .skip))) (.region [⟨some 21, .mv (.t 3), none, 0⟩, ⟨some 22, .bin .add (.t 21) (.c (.int .i64 1)), none, 0⟩, ⟨some 3,
  .mv (.t 22), none, 0⟩] 0 false []))
def L46_0 := bL46_0
theorem wL46_0 : Wp O L46_0 Q σ h = Wp O bL46_0 Q σ h := rfl
abbrev bK46_0 : AC :=
  .seq (.region [⟨some 2, .mv (.c (.bool true)), none, 0⟩] 0 false []) .ret
def K46_0 := bK46_0
theorem wK46_0 : Wp O K46_0 Q σ h = Wp O bK46_0 Q σ h := rfl
abbrev bB46 : AC :=
  .seq (.region [⟨some 2, .mv (.c (.bool false)), none, 0⟩] 0 false []) (.seq (.seq (.region [⟨some 4, .mv (.t 0), none, 0⟩, ⟨some 5, .lenS (.t 4), none, 0⟩, ⟨some 6, .bin .eql (.t 5) (.c (.int .i64 0)),
  none, 0⟩, ⟨some 7, .mv (.t 6), none, 0⟩, ⟨some 8, .mv (.t 0), some (7, false), 0⟩, ⟨some 9, .indexS (.t 8) (.c (.int .i64 0)), some (7, false), 0⟩, ⟨some 10, .bin .lss (.t 9) (.c (.int .u8 97)), some
  (7, false), 0⟩, ⟨some 11, .pick (.t 7) (.c (.bool true)) (.t 10), none, 0⟩, ⟨some 12, .mv (.t 11), none, 0⟩, ⟨some 13, .mv (.t 0), some (12, false), 0⟩, ⟨some 14, .indexS (.t 13) (.c (.int .i64 0)),
  some (12, false), 0⟩, ⟨some 15, .bin .gtr (.t 14) (.c (.int .u8 122)), some (12, false), 0⟩, ⟨some 16, .pick (.t 12) (.c (.bool true)) (.t 15), none, 0⟩] 0 false []) (.cond (.t 16) (.seq (.region
  [⟨some 2, .mv (.c (.bool false)), none, 0⟩] 0 false []) .ret) .skip)) (.seq (.seq (.region [⟨some 3, .mv (.c (.int .i64 1)), none, 0⟩] 0 false []) (.block 0 (.loop L46_0))) K46_0))
def B46 := bB46
theorem wB46 : Wp O B46 Q σ h = Wp O bB46 Q σ h := rfl
def F46 : AF := ⟨B46, [.tmp 2], false⟩
theorem tab46 : T 46 = some F46 := by kernel_rfl
/-- franking/frankingref02.Text -/
abbrev bJ47_0 : AC :=
  .region [⟨some 36, .mv (.t 3), none, 0⟩, ⟨some 37, .off 1 (.t 1), none, 0⟩, ⟨some 38, .load none (.t 37), none, 0⟩, ⟨some 39, .mv (.t 4), none, 0⟩, ⟨some 40, .indexS (.t 38) (.t 39), none, 0⟩, ⟨some
  41, .call (.c (.fn 90 [])) [.t 40], none, 0⟩, ⟨some 42, .bin .add (.t 36) (.t 41), none, 0⟩, ⟨some 3, .mv (.t 42), none, 0⟩] 0 false []
def J47_0 := bJ47_0
theorem wJ47_0 : Wp O J47_0 Q σ h = Wp O bJ47_0 Q σ h := rfl
abbrev bJ47_1 : AC :=
  .region [⟨some 30, .mv (.t 4), none, 0⟩, ⟨some 31, .bin .add (.t 30) (.c (.int .i64 1)), none, 0⟩, ⟨some 4, .mv (.t 31), none, 0⟩] 0 false []
def J47_1 := bJ47_1
theorem wJ47_1 : Wp O J47_1 Q σ h = Wp O bJ47_1 Q σ h := rfl
abbrev bL47_0 : AC :=
  .seq (.seq (.region [⟨some 25, .mv (.t 4), none, 0⟩, ⟨some 26, .off 1 (.t 1), none, 0⟩, ⟨some 27, .load none (.t 26), none, 0⟩, ⟨some 28, .lenS (.t 27), none, 0⟩, ⟨some 29, .bin .lss (.t 25) (.t 28),
  none, 0⟩] 0 false []) (.cond (.t 29) .skip (.exit 1))) (.seq (.block 2 (.seq (.seq (.region [⟨some 32, .mv (.t 4), none, 0⟩, ⟨some 33, .bin .gtr (.t 32) (.c (.int .i64 0)), none, 0⟩] 0 false []) (.cond
  (.t 33) (.region [⟨some 34, .mv (.t 3), none, 0⟩, ⟨some 35, .bin .add (.t 34) (.c (.str [46])), none, 0⟩, ⟨some 3, .mv (.t 35), none, 0⟩] 0 false []) .skip)) J47_0)) J47_1)
def L47_0 := bL47_0
theorem wL47_0 : Wp O L47_0 Q σ h = Wp O bL47_0 Q σ h := rfl
abbrev bK47_0 : AC :=
  .seq (.region [⟨some 43, .mv (.t 3), none, 0⟩, ⟨some 44, .bin .add (.c (.str [37, 120])) (.t 43), none, 0⟩, ⟨some 2, .mv (.t 44), none, 0⟩] 0 false []) .ret
def K47_0 := bK47_0
theorem wK47_0 : Wp O K47_0 Q σ h = Wp O bK47_0 Q σ h := rfl
abbrev bJ47_2 : AC :=
  .seq (.seq (.region [⟨some 84, .off 6 (.t 1), none, 0⟩, ⟨some 85, .load none (.t 84), none, 0⟩, ⟨some 86, .idx 7 (.t 85) (.c (.int .i64 0)), none, 0⟩, ⟨some 87, .off 0 (.t 86), none, 0⟩, ⟨some 88,
  .load none (.t 87), none, 0⟩, ⟨some 89, .bin .geq (.t 88) (.c (.int .u8 5)), none, 0⟩] 0 false []) (.cond (.t 89) (.seq (.region [⟨some 90, .mv (.t 3), none, 0⟩, ⟨some 91, .bin .add (.t 90) (.c (.str
  [40])), none, 0⟩, ⟨some 92, .off 6 (.t 1), none, 0⟩, ⟨some 93, .load none (.t 92), none, 0⟩, ⟨some 94, .idx 7 (.t 93) (.c (.int .i64 0)), none, 0⟩, ⟨some 95, .load (some 7) (.t 94), none, 0⟩, ⟨some 96,
  .call (.c (.fn 47 [])) [.t 95], none, 0⟩, ⟨some 97, .bin .add (.t 91) (.t 96), none, 0⟩, ⟨some 98, .bin .add (.t 97) (.c (.str [41])), none, 0⟩, ⟨some 2, .mv (.t 98), none, 0⟩] 0 false []) .ret)
  .skip)) (.seq (.region [⟨some 99, .mv (.t 3), none, 0⟩, ⟨some 100, .off 6 (.t 1), none, 0⟩, ⟨some 101, .load none (.t 100), none, 0⟩, ⟨some 102, .idx 7 (.t 101) (.c (.int .i64 0)), none, 0⟩, ⟨some 103,
  .load (some 7) (.t 102), none, 0⟩, ⟨some 104, .call (.c (.fn 47 [])) [.t 103], none, 0⟩, ⟨some 105, .bin .add (.t 99) (.t 104), none, 0⟩, ⟨some 2, .mv (.t 105), none, 0⟩] 0 false []) .ret)
def J47_2 := bJ47_2
theorem wJ47_2 : Wp O J47_2 Q σ h = Wp O bJ47_2 Q σ h := rfl
abbrev bJ47_3 : AC :=
  .seq (.seq (.region [⟨some 69, .off 4 (.t 1), none, 0⟩, ⟨some 70, .load none (.t 69), none, 0⟩, ⟨some 71, .off 5 (.t 1), none, 0⟩, ⟨some 72, .load none (.t 71), none, 0⟩, ⟨some 73, .bin .neq (.t 70)
  (.t 72), none, 0⟩] 0 false []) (.cond (.t 73) (.seq (.region [⟨some 74, .mv (.t 3), none, 0⟩, ⟨some 75, .bin .add (.t 74) (.c (.str [42])), none, 0⟩, ⟨some 3, .mv (.t 75), none, 0⟩] 0 false []) (.seq
  (.region [⟨some 76, .off 5 (.t 1), none, 0⟩, ⟨some 77, .load none (.t 76), none, 0⟩, ⟨some 78, .bin .geq (.t 77) (.c (.int .i64 0)), none, 0⟩] 0 false []) (.cond (.t 78) (.region [⟨some 79, .mv (.t 3),
  none, 0⟩, ⟨some 80, .off 5 (.t 1), none, 0⟩, ⟨some 81, .load none (.t 80), none, 0⟩, ⟨some 82, .call (.c (.fn 91 [])) [.t 81], none, 0⟩, ⟨some 83, .bin .add (.t 79) (.t 82), none, 0⟩, ⟨some 3, .mv (.t
  83), none, 0⟩] 0 false []) .skip))) .skip)) J47_2
def J47_3 := bJ47_3
theorem wJ47_3 : Wp O J47_3 Q σ h = Wp O bJ47_3 Q σ h := rfl
abbrev bJ47_4 : AC :=
  .seq (.region [⟨some 136, .off 0 (.t 6), none, 0⟩, ⟨some 137, .load none (.t 136), none, 0⟩, ⟨some 138, .bin .eql (.t 137) (.c (.int .u8 6)), none, 0⟩, ⟨some 139, .mv (.t 138), none, 0⟩, ⟨some 140,
  .off 0 (.t 6), some (139, false), 0⟩, ⟨some 141, .load none (.t 140), some (139, false), 0⟩, ⟨some 142, .bin .eql (.t 141) (.c (.int .u8 5)), some (139, false), 0⟩, ⟨some 143, .mv (.t 142), some (139,
  false), 0⟩, ⟨some 144, .off 0 (.t 1), some (143, true), 0⟩, ⟨some 145, .load none (.t 144), some (143, true), 0⟩, ⟨some 146, .bin .eql (.t 145) (.c (.int .u8 5)), some (143, true), 0⟩, ⟨some 147, .pick
  (.t 143) (.t 146) (.c (.bool false)), some (139, false), 0⟩, ⟨some 148, .pick (.t 139) (.c (.bool true)) (.t 147), none, 0⟩] 0 false []) (.cond (.t 148) (.region [⟨some 149, .mv (.t 3), none, 0⟩, ⟨some
  150, .bin .add (.t 149) (.c (.str [40])), none, 0⟩, ⟨some 151, .load (some 7) (.t 6), none, 0⟩, ⟨some 152, .call (.c (.fn 47 [])) [.t 151], none, 0⟩, ⟨some 153, .bin .add (.t 150) (.t 152), none, 0⟩,
  ⟨some 154, .bin .add (.t 153) (.c (.str [41])), none, 0⟩, ⟨some 3, .mv (.t 154), none, 0⟩] 0 false []) (.region [⟨some 155, .mv (.t 3), none, 0⟩, ⟨some 156, .load (some 7) (.t 6), none, 0⟩, ⟨some 157,
  .call (.c (.fn 47 [])) [.t 156], none, 0⟩, ⟨some 158, .bin .add (.t 155) (.t 157), none, 0⟩, ⟨some 3, .mv (.t 158), none, 0⟩] 0 false []))
def J47_4 := bJ47_4
theorem wJ47_4 : Wp O J47_4 Q σ h = Wp O bJ47_4 Q σ h := rfl
abbrev bJ47_5 : AC :=
  .seq (.seq (.region [⟨some 127, .mv (.t 5), none, 0⟩, ⟨some 128, .bin .gtr (.t 127) (.c (.int .i64 0)), none, 0⟩, ⟨some 129, .mv (.t 128), none, 0⟩, ⟨some 130, .off 0 (.t 1), some (129, true), 0⟩,
  ⟨some 131, .load none (.t 130), some (129, true), 0⟩, ⟨some 132, .bin .eql (.t 131) (.c (.int .u8 6)), some (129, true), 0⟩, ⟨some 133, .pick (.t 129) (.t 132) (.c (.bool false)), none, 0⟩] 0 false [])
  (.cond (.t 133) (.region [⟨some 134, .mv (.t 3), none, 0⟩, ⟨some 135, .bin .add (.t 134) (.c (.str [32, 47, 32])), none, 0⟩, ⟨some 3, .mv (.t 135), none, 0⟩] 0 false []) .skip)) J47_4
def J47_5 := bJ47_5
theorem wJ47_5 : Wp O J47_5 Q σ h = Wp O bJ47_5 Q σ h := rfl
abbrev bJ47_6 : AC :=
  .region [⟨some 111, .mv (.t 5), none, 0⟩, ⟨some 112, .bin .add (.t 111) (.c (.int .i64 1)), none, 0⟩, ⟨some 5, .mv (.t 112), none, 0⟩] 0 false []
def J47_6 := bJ47_6
theorem wJ47_6 : Wp O J47_6 Q σ h = Wp O bJ47_6 Q σ h := rfl
abbrev bL47_1 : AC :=
  .seq (.seq (.region [⟨some 106, .mv (.t 5), none, 0⟩, ⟨some 107, .off 6 (.t 1), none, 0⟩, ⟨some 108, .load none (.t 107), none, 0⟩, ⟨some 109, .len (.t 108), none, 0⟩, ⟨some 110, .bin .lss (.t 106) (.t
  109), none, 0⟩] 0 false []) (.cond (.t 110) .skip (.exit 3))) (.seq (.block 4 (.seq (.region [⟨some 113, .off 6 (.t 1), none, 0⟩, ⟨some 114, .load none (.t 113), none, 0⟩, ⟨some 115, .mv (.t 5), none,
  0⟩, ⟨some 116, .idx 7 (.t 114) (.t 115), none, 0⟩, ⟨some 117, .load (some 7) (.t 116), none, 0⟩, ⟨some 6, .alloc [.int .u8 0, .str [], .int .u8 0, .int .u8 0, .int .i64 0, .int .i64 0, .list 7 []
  .full], none, 0⟩, ⟨none, .store 7 (.t 6) (.t 117), none, 1⟩] 1 false []) (.seq (.seq (.region [⟨some 118, .mv (.t 5), none, 0⟩, ⟨some 119, .bin .gtr (.t 118) (.c (.int .i64 0)), none, 0⟩, ⟨some 120,
  .mv (.t 119), none, 0⟩, ⟨some 121, .off 0 (.t 1), some (120, true), 0⟩, ⟨some 122, .load none (.t 121), some (120, true), 0⟩, ⟨some 123, .bin .eql (.t 122) (.c (.int .u8 5)), some (120, true), 0⟩,
  ⟨some 124, .pick (.t 120) (.t 123) (.c (.bool false)), none, 0⟩] 0 false []) (.cond (.t 124) (.region [⟨some 125, .mv (.t 3), none, 0⟩, ⟨some 126, .bin .add (.t 125) (.c (.str [32])), none, 0⟩, ⟨some
  3, .mv (.t 126), none, 0⟩] 0 false []) .skip)) J47_5))) J47_6)
def L47_1 := bL47_1
theorem wL47_1 : Wp O L47_1 Q σ h = Wp O bL47_1 Q σ h := rfl
abbrev bK47_1 : AC :=
  .seq (.region [⟨some 159, .mv (.t 3), none, 0⟩, ⟨some 2, .mv (.t 159), none, 0⟩] 0 false []) .ret
def K47_1 := bK47_1
theorem wK47_1 : Wp O K47_1 Q σ h = Wp O bK47_1 Q σ h := rfl
abbrev bK47_2 : AC :=
  .seq (.seq (.region [⟨some 5, .mv (.c (.int .i64 0)), none, 0⟩] 0 false []) (.block 3 (.loop L47_1))) K47_1
def K47_2 := bK47_2
theorem wK47_2 : Wp O K47_2 Q σ h = Wp O bK47_2 Q σ h := rfl
abbrev bB47 : AC :=
  .seq (.region [⟨some 1, .box 7 (.t 0), none, 0⟩, ⟨some 2, .mv (.c (.str [])), none, 1⟩] 1 false []) (.seq (.region [⟨some 3, .mv (.c (.str [])), none, 0⟩] 0 false []) (.seq (.seq (.region [⟨some 7,
  .off 0 (.t 1), none, 0⟩, ⟨some 8, .load none (.t 7), none, 0⟩] 0 false []) (.block 0 (.seq (.region [⟨some 10, .bin .eql (.t 8) (.c (.int .u8 1)), none, 0⟩, ⟨some 9, .mv (.t 10), none, 0⟩] 0 false [])
  (.cond (.t 9) (.seq (.region [⟨some 11, .off 1 (.t 1), none, 0⟩, ⟨some 12, .load none (.t 11), none, 0⟩, ⟨some 2, .mv (.t 12), none, 0⟩] 0 false []) .ret) (.seq (.region [⟨some 14, .bin .eql (.t 8) (.c
  (.int .u8 2)), none, 0⟩, ⟨some 13, .mv (.t 14), none, 0⟩] 0 false []) (.cond (.t 13) (.seq (.region [⟨some 15, .cvStrBytes 5 (.c (.str [34])), none, 0⟩, ⟨some 16, .cvBytesStr (.t 15), none, 1⟩, ⟨some
  17, .off 1 (.t 1), none, 1⟩, ⟨some 18, .load none (.t 17), none, 1⟩, ⟨some 19, .bin .add (.t 16) (.t 18), none, 1⟩, ⟨some 20, .cvStrBytes 5 (.c (.str [34])), none, 1⟩, ⟨some 21, .cvBytesStr (.t 20),
  none, 2⟩, ⟨some 22, .bin .add (.t 19) (.t 21), none, 2⟩, ⟨some 2, .mv (.t 22), none, 2⟩] 2 false []) .ret) (.seq (.region [⟨some 24, .bin .eql (.t 8) (.c (.int .u8 3)), none, 0⟩, ⟨some 23, .mv (.t 24),
  none, 0⟩] 0 false []) (.cond (.t 23) (.seq (.seq (.region [⟨some 4, .mv (.c (.int .i64 0)), none, 0⟩] 0 false []) (.block 1 (.loop L47_0))) K47_0) (.seq (.region [⟨some 46, .bin .eql (.t 8) (.c (.int
  .u8 4)), none, 0⟩, ⟨some 45, .mv (.t 46), none, 0⟩] 0 false []) (.cond (.t 45) (.seq (.region [⟨some 47, .off 2 (.t 1), none, 0⟩, ⟨some 48, .load none (.t 47), none, 0⟩, ⟨some 49, .call (.c (.fn 90
  [])) [.t 48], none, 0⟩, ⟨some 50, .bin .add (.c (.str [37, 120])) (.t 49), none, 0⟩, ⟨some 51, .bin .add (.t 50) (.c (.str [45])), none, 0⟩, ⟨some 52, .off 3 (.t 1), none, 0⟩, ⟨some 53, .load none (.t
  52), none, 0⟩, ⟨some 54, .call (.c (.fn 90 [])) [.t 53], none, 0⟩, ⟨some 55, .bin .add (.t 51) (.t 54), none, 0⟩, ⟨some 2, .mv (.t 55), none, 0⟩] 0 true [(2, 6)]) .ret) (.seq (.region [⟨some 57, .bin
  .eql (.t 8) (.c (.int .u8 7)), none, 0⟩, ⟨some 56, .mv (.t 57), none, 0⟩] 0 false []) (.cond (.t 56) (.seq (.seq (.region [⟨some 58, .off 4 (.t 1), none, 0⟩, ⟨some 59, .load none (.t 58), none, 0⟩,
  ⟨some 60, .bin .gtr (.t 59) (.c (.int .i64 0)), none, 0⟩, ⟨some 61, .mv (.t 60), none, 0⟩, ⟨some 62, .off 5 (.t 1), some (61, false), 0⟩, ⟨some 63, .load none (.t 62), some (61, false), 0⟩, ⟨some 64,
  .bin .eql (.t 63) (.c (.int .i64 0)), some (61, false), 0⟩, ⟨some 65, .pick (.t 61) (.c (.bool true)) (.t 64), none, 0⟩] 0 false []) (.cond (.t 65) (.region [⟨some 66, .off 4 (.t 1), none, 0⟩, ⟨some
  67, .load none (.t 66), none, 0⟩, ⟨some 68, .call (.c (.fn 91 [])) [.t 67], none, 0⟩, ⟨some 3, .mv (.t 68), none, 0⟩] 0 false []) .skip)) J47_3) .skip)))))))))))) K47_2))
def B47 := bB47
theorem wB47 : Wp O B47 Q σ h = Wp O bB47 Q σ h := rfl
def F47 : AF := ⟨B47, [.tmp 2], false⟩
theorem tab47 : T 47 = some F47 := by kernel_rfl
/-- franking/frankingref02.leaf -/
abbrev bJ81_0 : AC :=
  .seq (.region [⟨some 30, .load (some 7) (.t 4), none, 0⟩, ⟨some 31, .load (some 7) (.t 4), none, 0⟩, ⟨some 32, .call (.c (.fn 84 [])) [.t 31], none, 0⟩, ⟨none, .store 7 (.t 2) (.t 30), none, 0⟩, ⟨some
  3, .mv (.t 32), none, 0⟩] 0 true [(0, 2)]) .ret
def J81_0 := bJ81_0
theorem wJ81_0 : Wp O J81_0 Q σ h = Wp O bJ81_0 Q σ h := rfl
abbrev bB81 : AC :=
  .seq (.region [⟨some 1, .box 7 (.t 0), none, 0⟩, ⟨some 2, .alloc [.int .u8 0, .str [], .int .u8 0, .int .u8 0, .int .i64 0, .int .i64 0, .list 7 [] .full], none, 1⟩, ⟨some 3, .mv (.c (.bool false)),
  none, 2⟩] 2 false []) (.seq (.region [⟨some 4, .alloc [.int .u8 0, .str [], .int .u8 0, .int .u8 0, .int .i64 0, .int .i64 0, .list 7 [] .full], none, 0⟩] 1 false []) (.seq (.seq (.region [⟨some 5,
  .off 0 (.t 1), none, 0⟩, ⟨some 6, .load none (.t 5), none, 0⟩] 0 false []) (.block 0 (.seq (.region [⟨some 8, .bin .eql (.t 6) (.c (.int .u8 1)), none, 0⟩, ⟨some 7, .mv (.t 8), none, 0⟩] 0 false [])
  (.cond (.t 7) (.region [⟨some 9, .off 2 (.t 1), none, 0⟩, ⟨some 10, .load none (.t 9), none, 0⟩, ⟨some 11, .call (.c (.fn 118 [])) [.t 10], none, 0⟩, ⟨some 12, .build [.int .u8 0, .str [], .int .u8 0,
  .int .u8 0, .int .i64 0, .int .i64 0, .list 7 [] .full] [(0, 1, .c (.int .u8 1)), (1, 1, .t 11)], none, 0⟩, ⟨none, .store 7 (.t 4) (.t 12), none, 0⟩] 0 false []) (.seq (.region [⟨some 14, .bin .eql (.t
  6) (.c (.int .u8 10)), none, 0⟩, ⟨some 13, .mv (.t 14), none, 0⟩] 0 false []) (.cond (.t 13) (.region [⟨some 15, .off 2 (.t 1), none, 0⟩, ⟨some 16, .load none (.t 15), none, 0⟩, ⟨some 17, .build [.int
  .u8 0, .str [], .int .u8 0, .int .u8 0, .int .i64 0, .int .i64 0, .list 7 [] .full] [(0, 1, .c (.int .u8 2)), (1, 1, .t 16)], none, 0⟩, ⟨none, .store 7 (.t 4) (.t 17), none, 0⟩] 0 false []) (.seq
  (.region [⟨some 19, .bin .eql (.t 6) (.c (.int .u8 11)), none, 0⟩, ⟨some 18, .mv (.t 19), none, 0⟩] 0 false []) (.cond (.t 18) (.region [⟨some 20, .off 2 (.t 1), none, 0⟩, ⟨some 21, .load none (.t 20),
  none, 0⟩, ⟨some 22, .build [.int .u8 0, .str [], .int .u8 0, .int .u8 0, .int .i64 0, .int .i64 0, .list 7 [] .full] [(0, 1, .c (.int .u8 3)), (1, 1, .t 21)], none, 0⟩, ⟨none, .store 7 (.t 4) (.t 22),
  none, 0⟩] 0 false []) (.seq (.region [⟨some 24, .bin .eql (.t 6) (.c (.int .u8 12)), none, 0⟩, ⟨some 23, .mv (.t 24), none, 0⟩] 0 false []) (.cond (.t 23) (.region [⟨some 25, .off 5 (.t 1), none, 0⟩,
  ⟨some 26, .load none (.t 25), none, 0⟩, ⟨some 27, .off 6 (.t 1), none, 0⟩, ⟨some 28, .load none (.t 27), none, 0⟩, ⟨some 29, .build [.int .u8 0, .str [], .int .u8 0, .int .u8 0, .int .i64 0, .int .i64
  0, .list 7 [] .full] [(0, 1, .c (.int .u8 4)), (2, 1, .t 26), (3, 1, .t 28)], none, 0⟩, ⟨none, .store 7 (.t 4) (.t 29), none, 0⟩] 0 false []) .skip)))))))))) J81_0))
def B81 := bB81
theorem wB81 : Wp O B81 Q σ h = Wp O bB81 Q σ h := rfl
def F81 : AF := ⟨B81, [.cell 2 (some 7), .tmp 3], false⟩
theorem tab81 : T 81 = some F81 := by kernel_rfl
/-- franking/frankingref02.kind -/
abbrev bB82 : AC :=
  .seq (.region [⟨some 4, .mv (.c (.int .u8 0)), none, 0⟩] 0 false []) (.seq (.seq (.region [⟨some 5, .mv (.t 1), none, 0⟩, ⟨some 6, .mv (.t 0), none, 0⟩, ⟨some 7, .len (.t 6), none, 0⟩, ⟨some 8, .bin
  .lss (.t 5) (.t 7), none, 0⟩] 0 false []) (.cond (.t 8) (.seq (.region [⟨some 9, .mv (.t 0), none, 0⟩, ⟨some 10, .mv (.t 1), none, 0⟩, ⟨some 11, .idx 7 (.t 9) (.t 10), none, 0⟩, ⟨some 12, .off 0 (.t
  11), none, 0⟩, ⟨some 13, .load none (.t 12), none, 0⟩, ⟨some 4, .mv (.t 13), none, 0⟩] 0 false []) .ret) .skip)) (.seq (.region [⟨some 4, .mv (.c (.int .u8 0)), none, 0⟩] 0 false []) .ret))
def B82 := bB82
theorem wB82 : Wp O B82 Q σ h = Wp O bB82 Q σ h := rfl
def F82 : AF := ⟨B82, [.tmp 4], false⟩
theorem tab82 : T 82 = some F82 := by kernel_rfl
/-- franking/frankingref02.choices -/
abbrev bL83_0 : AC :=
  .seq (.seq (.region [⟨some 17, .mv (.t 7), none, 0⟩, ⟨some 18, .bin .geq (.t 17) (.c (.int .i64 0)), none, 0⟩, ⟨some 19, .mv (.t 18), none, 0⟩, ⟨some 20, .mv (.t 0), some (19, true), 0⟩, ⟨some 21, .mv
  (.t 7), some (19, true), 0⟩, ⟨some 22, .call (.c (.fn 82 [])) [.t 20, .t 21], some (19, true), 0⟩, ⟨some 23, .bin .eql (.t 22) (.c (.int .u8 4)), some (19, true), 0⟩, ⟨some 24, .pick (.t 19) (.t 23)
  (.c (.bool false)), none, 0⟩] 0 false []) (.cond (.t 24) .skip (.exit 0))) (.block 1 (.seq (.region [⟨some 26, .mv (.t 0), none, 0⟩, ⟨some 27, .mv (.t 7), none, 0⟩, ⟨some 28, .bin .add (.t 27) (.c
  (.int .i64 1)), none, 0⟩, ⟨some 29, .call (.c (.fn 119 [])) [.t 26, .t 28], none, 0⟩, ⟨some 25, .mv (.t 29), none, 0⟩, ⟨some 30, .ext (.t 25) 0, none, 0⟩, ⟨some 31, .ext (.t 25) 1, none, 0⟩, ⟨none,
  .store 7 (.t 6) (.t 30), none, 0⟩, ⟨some 7, .mv (.t 31), none, 0⟩] 0 false []) (.region [⟨some 32, .mv (.t 8), none, 0⟩, ⟨some 33, .load (some 7) (.t 6), none, 0⟩, ⟨some 34, .bslice 7 [.t 33], none,
  0⟩, ⟨some 35, .append 7 72 25 (.t 32) (.t 34), none, 0⟩, ⟨some 8, .mv (.t 35), none, 1⟩] 1 false [])))
def L83_0 := bL83_0
theorem wL83_0 : Wp O L83_0 Q σ h = Wp O bL83_0 Q σ h := rfl
abbrev bK83_0 : AC :=
  .seq (.seq (.region [⟨some 36, .mv (.t 8), none, 0⟩, ⟨some 37, .len (.t 36), none, 0⟩, ⟨some 38, .bin .eql (.t 37) (.c (.int .i64 1)), none, 0⟩] 0 false []) (.cond (.t 38) (.seq (.region [⟨some 39, .mv
  (.t 8), none, 0⟩, ⟨some 40, .idx 7 (.t 39) (.c (.int .i64 0)), none, 0⟩, ⟨some 41, .load (some 7) (.t 40), none, 0⟩, ⟨some 42, .mv (.t 7), none, 0⟩, ⟨none, .store 7 (.t 4) (.t 41), none, 0⟩, ⟨some 5,
  .mv (.t 42), none, 0⟩] 0 false []) .ret) .skip)) (.seq (.region [⟨some 43, .mv (.t 8), none, 0⟩, ⟨some 44, .build [.int .u8 0, .str [], .int .u8 0, .int .u8 0, .int .i64 0, .int .i64 0, .list 7 []
  .full] [(0, 1, .c (.int .u8 6)), (6, 1, .t 43)], none, 0⟩, ⟨some 45, .mv (.t 7), none, 0⟩, ⟨none, .store 7 (.t 4) (.t 44), none, 0⟩, ⟨some 5, .mv (.t 45), none, 0⟩] 0 false []) .ret)
def K83_0 := bK83_0
theorem wK83_0 : Wp O K83_0 Q σ h = Wp O bK83_0 Q σ h := rfl
abbrev bB83 : AC :=
  .seq (.region [⟨some 4, .alloc [.int .u8 0, .str [], .int .u8 0, .int .u8 0, .int .i64 0, .int .i64 0, .list 7 [] .full], none, 0⟩, ⟨some 5, .mv (.c (.int .i64 0)), none, 1⟩] 1 false []) (.seq (.region
  [⟨some 10, .mv (.t 0), none, 0⟩, ⟨some 11, .mv (.t 1), none, 0⟩, ⟨some 12, .call (.c (.fn 119 [])) [.t 10, .t 11], none, 0⟩, ⟨some 9, .mv (.t 12), none, 0⟩, ⟨some 13, .ext (.t 9) 0, none, 0⟩, ⟨some 14,
  .ext (.t 9) 1, none, 0⟩, ⟨some 6, .alloc [.int .u8 0, .str [], .int .u8 0, .int .u8 0, .int .i64 0, .int .i64 0, .list 7 [] .full], none, 0⟩, ⟨none, .store 7 (.t 6) (.t 13), none, 1⟩, ⟨some 7, .mv (.t
  14), none, 1⟩] 1 false []) (.seq (.region [⟨some 15, .load (some 7) (.t 6), none, 0⟩, ⟨some 16, .bslice 7 [.t 15], none, 0⟩, ⟨some 8, .mv (.t 16), none, 0⟩] 0 false []) (.seq (.block 0 (.loop L83_0))
  K83_0)))
def B83 := bB83
theorem wB83 : Wp O B83 Q σ h = Wp O bB83 Q σ h := rfl
def F83 : AF := ⟨B83, [.cell 4 (some 7), .tmp 5], false⟩
theorem tab83 : T 83 = some F83 := by kernel_rfl
/-- franking/frankingref02.one -/
abbrev bL84_0 : AC :=
  .seq (.seq (.region [⟨some 67, .mv (.t 3), none, 0⟩, ⟨some 68, .off 1 (.t 1), none, 0⟩, ⟨some 69, .load none (.t 68), none, 0⟩, ⟨some 70, .lenS (.t 69), none, 0⟩, ⟨some 71, .bin .lss (.t 67) (.t 70),
  none, 0⟩] 0 false []) (.cond (.t 71) .skip (.exit 1))) (.seq (.block 2 (.seq (.region [⟨some 74, .off 1 (.t 1), none, 0⟩, ⟨some 75, .load none (.t 74), none, 0⟩, ⟨some 76, .mv (.t 3), none, 0⟩, ⟨some
  77, .indexS (.t 75) (.t 76), none, 0⟩, ⟨some 78, .bin .lss (.t 77) (.c (.int .u8 32)), none, 0⟩, ⟨some 79, .mv (.t 78), none, 0⟩, ⟨some 80, .off 1 (.t 1), some (79, false), 0⟩, ⟨some 81, .load none (.t
  80), some (79, false), 0⟩, ⟨some 82, .mv (.t 3), some (79, false), 0⟩, ⟨some 83, .indexS (.t 81) (.t 82), some (79, false), 0⟩, ⟨some 84, .bin .gtr (.t 83) (.c (.int .u8 126)), some (79, false), 0⟩,
  ⟨some 85, .pick (.t 79) (.c (.bool true)) (.t 84), none, 0⟩, ⟨some 86, .mv (.t 85), none, 0⟩, ⟨some 87, .off 1 (.t 1), some (86, false), 0⟩, ⟨some 88, .load none (.t 87), some (86, false), 0⟩, ⟨some
  89, .mv (.t 3), some (86, false), 0⟩, ⟨some 90, .indexS (.t 88) (.t 89), some (86, false), 0⟩, ⟨some 91, .bin .eql (.t 90) (.c (.int .u8 34)), some (86, false), 0⟩, ⟨some 92, .pick (.t 86) (.c (.bool
  true)) (.t 91), none, 0⟩] 0 false []) (.cond (.t 92) (.seq (.region [⟨some 2, .mv (.c (.bool false)), none, 0⟩] 0 false []) .ret) .skip))) (.region [⟨some 72, .mv (.t 3), none, 0⟩, ⟨some 73, .bin .add
  (.t 72) (.c (.int .i64 1)), none, 0⟩, ⟨some 3, .mv (.t 73), none, 0⟩] 0 false []))
def L84_0 := bL84_0
theorem wL84_0 : Wp O L84_0 Q σ h = Wp O bL84_0 Q σ h := rfl
abbrev bK84_0 : AC :=
  .seq (.region [⟨some 93, .off 6 (.t 1), none, 0⟩, ⟨some 94, .load none (.t 93), none, 0⟩, ⟨some 95, .len (.t 94), none, 0⟩, ⟨some 96, .bin .eql (.t 95) (.c (.int .i64 0)), none, 0⟩, ⟨some 2, .mv (.t
  96), none, 0⟩] 0 false []) .ret
def K84_0 := bK84_0
theorem wK84_0 : Wp O K84_0 Q σ h = Wp O bK84_0 Q σ h := rfl
abbrev bK84_1 : AC :=
  .seq (.region [⟨some 2, .mv (.c (.bool false)), none, 0⟩] 0 false []) .ret
def K84_1 := bK84_1
theorem wK84_1 : Wp O K84_1 Q σ h = Wp O bK84_1 Q σ h := rfl
abbrev bB84 : AC :=
  .seq (.region [⟨some 1, .box 7 (.t 0), none, 0⟩, ⟨some 2, .mv (.c (.bool false)), none, 1⟩] 1 false []) (.seq (.seq (.region [⟨some 4, .off 0 (.t 1), none, 0⟩, ⟨some 5, .load none (.t 4), none, 0⟩,
  ⟨some 6, .bin .neq (.t 5) (.c (.int .u8 1)), none, 0⟩, ⟨some 7, .mv (.t 6), none, 0⟩, ⟨some 8, .off 0 (.t 1), some (7, true), 0⟩, ⟨some 9, .load none (.t 8), some (7, true), 0⟩, ⟨some 10, .bin .neq (.t
  9) (.c (.int .u8 2)), some (7, true), 0⟩, ⟨some 11, .pick (.t 7) (.t 10) (.c (.bool false)), none, 0⟩, ⟨some 12, .mv (.t 11), none, 0⟩, ⟨some 13, .off 0 (.t 1), some (12, true), 0⟩, ⟨some 14, .load
  none (.t 13), some (12, true), 0⟩, ⟨some 15, .bin .neq (.t 14) (.c (.int .u8 3)), some (12, true), 0⟩, ⟨some 16, .pick (.t 12) (.t 15) (.c (.bool false)), none, 0⟩, ⟨some 17, .mv (.t 16), none, 0⟩,
  ⟨some 18, .off 1 (.t 1), some (17, true), 0⟩, ⟨some 19, .load none (.t 18), some (17, true), 0⟩, ⟨some 20, .bin .neq (.t 19) (.c (.str [])), some (17, true), 0⟩, ⟨some 21, .pick (.t 17) (.t 20) (.c
  (.bool false)), none, 0⟩, ⟨some 22, .mv (.t 21), none, 0⟩, ⟨some 23, .off 0 (.t 1), some (22, false), 0⟩, ⟨some 24, .load none (.t 23), some (22, false), 0⟩, ⟨some 25, .bin .neq (.t 24) (.c (.int .u8
  4)), some (22, false), 0⟩, ⟨some 26, .mv (.t 25), some (22, false), 0⟩, ⟨some 27, .off 2 (.t 1), some (26, true), 0⟩, ⟨some 28, .load none (.t 27), some (26, true), 0⟩, ⟨some 29, .bin .neq (.t 28) (.c
  (.int .u8 0)), some (26, true), 0⟩, ⟨some 30, .mv (.t 29), some (26, true), 0⟩, ⟨some 31, .off 3 (.t 1), some (30, false), 0⟩, ⟨some 32, .load none (.t 31), some (30, false), 0⟩, ⟨some 33, .bin .neq
  (.t 32) (.c (.int .u8 0)), some (30, false), 0⟩, ⟨some 34, .pick (.t 30) (.c (.bool true)) (.t 33), some (26, true), 0⟩, ⟨some 35, .pick (.t 26) (.t 34) (.c (.bool false)), some (22, false), 0⟩, ⟨some
  36, .pick (.t 22) (.c (.bool true)) (.t 35), none, 0⟩, ⟨some 37, .mv (.t 36), none, 0⟩, ⟨some 38, .off 0 (.t 1), some (37, false), 0⟩, ⟨some 39, .load none (.t 38), some (37, false), 0⟩, ⟨some 40, .bin
  .neq (.t 39) (.c (.int .u8 7)), some (37, false), 0⟩, ⟨some 41, .mv (.t 40), some (37, false), 0⟩, ⟨some 42, .off 4 (.t 1), some (41, true), 0⟩, ⟨some 43, .load none (.t 42), some (41, true), 0⟩, ⟨some
  44, .bin .neq (.t 43) (.c (.int .i64 0)), some (41, true), 0⟩, ⟨some 45, .mv (.t 44), some (41, true), 0⟩, ⟨some 46, .off 5 (.t 1), some (45, false), 0⟩, ⟨some 47, .load none (.t 46), some (45, false),
  0⟩, ⟨some 48, .bin .neq (.t 47) (.c (.int .i64 0)), some (45, false), 0⟩, ⟨some 49, .pick (.t 45) (.c (.bool true)) (.t 48), some (41, true), 0⟩, ⟨some 50, .pick (.t 41) (.t 49) (.c (.bool false)),
  some (37, false), 0⟩, ⟨some 51, .pick (.t 37) (.c (.bool true)) (.t 50), none, 0⟩] 0 false []) (.cond (.t 51) (.seq (.region [⟨some 2, .mv (.c (.bool false)), none, 0⟩] 0 false []) .ret) .skip)) (.seq
  (.seq (.region [⟨some 52, .off 0 (.t 1), none, 0⟩, ⟨some 53, .load none (.t 52), none, 0⟩] 0 false []) (.block 0 (.seq (.region [⟨some 55, .bin .eql (.t 53) (.c (.int .u8 1)), none, 0⟩, ⟨some 54, .mv
  (.t 55), none, 0⟩] 0 false []) (.cond (.t 54) (.seq (.region [⟨some 56, .off 1 (.t 1), none, 0⟩, ⟨some 57, .load none (.t 56), none, 0⟩, ⟨some 58, .call (.c (.fn 46 [])) [.t 57], none, 0⟩, ⟨some 59,
  .mv (.t 58), none, 0⟩, ⟨some 60, .off 6 (.t 1), some (59, true), 0⟩, ⟨some 61, .load none (.t 60), some (59, true), 0⟩, ⟨some 62, .len (.t 61), some (59, true), 0⟩, ⟨some 63, .bin .eql (.t 62) (.c
  (.int .i64 0)), some (59, true), 0⟩, ⟨some 64, .pick (.t 59) (.t 63) (.c (.bool false)), none, 0⟩, ⟨some 2, .mv (.t 64), none, 0⟩] 0 false []) .ret) (.seq (.region [⟨some 66, .bin .eql (.t 53) (.c
  (.int .u8 2)), none, 0⟩, ⟨some 65, .mv (.t 66), none, 0⟩] 0 false []) (.cond (.t 65) (.seq (.seq (.region [⟨some 3, .mv (.c (.int .i64 0)), none, 0⟩] 0 false []) (.block 1 (.loop L84_0))) K84_0) (.seq
  (.region [⟨some 98, .bin .eql (.t 53) (.c (.int .u8 3)), none, 0⟩, ⟨some 97, .mv (.t 98), none, 0⟩] 0 false []) (.cond (.t 97) (.seq (.region [⟨some 99, .off 1 (.t 1), none, 0⟩, ⟨some 100, .load none
  (.t 99), none, 0⟩, ⟨some 101, .bin .neq (.t 100) (.c (.str [])), none, 0⟩, ⟨some 102, .mv (.t 101), none, 0⟩, ⟨some 103, .off 6 (.t 1), some (102, true), 0⟩, ⟨some 104, .load none (.t 103), some (102,
  true), 0⟩, ⟨some 105, .len (.t 104), some (102, true), 0⟩, ⟨some 106, .bin .eql (.t 105) (.c (.int .i64 0)), some (102, true), 0⟩, ⟨some 107, .pick (.t 102) (.t 106) (.c (.bool false)), none, 0⟩, ⟨some
  2, .mv (.t 107), none, 0⟩] 0 false []) .ret) (.seq (.region [⟨some 109, .bin .eql (.t 53) (.c (.int .u8 4)), none, 0⟩, ⟨some 108, .mv (.t 109), none, 0⟩] 0 false []) (.cond (.t 108) (.seq (.region
  [⟨some 110, .off 2 (.t 1), none, 0⟩, ⟨some 111, .load none (.t 110), none, 0⟩, ⟨some 112, .off 3 (.t 1), none, 0⟩, ⟨some 113, .load none (.t 112), none, 0⟩, ⟨some 114, .bin .leq (.t 111) (.t 113),
  none, 0⟩, ⟨some 115, .mv (.t 114), none, 0⟩, ⟨some 116, .off 6 (.t 1), some (115, true), 0⟩, ⟨some 117, .load none (.t 116), some (115, true), 0⟩, ⟨some 118, .len (.t 117), some (115, true), 0⟩, ⟨some
  119, .bin .eql (.t 118) (.c (.int .i64 0)), some (115, true), 0⟩, ⟨some 120, .pick (.t 115) (.t 119) (.c (.bool false)), none, 0⟩, ⟨some 2, .mv (.t 120), none, 0⟩] 0 false []) .ret) (.seq (.seq
  (.region [⟨some 122, .bin .eql (.t 53) (.c (.int .u8 5)), none, 0⟩, ⟨some 121, .mv (.t 122), none, 0⟩] 0 false []) (.cond (.t 121) .skip (.region [⟨some 123, .bin .eql (.t 53) (.c (.int .u8 6)), none,
  0⟩, ⟨some 121, .mv (.t 123), none, 0⟩] 0 false []))) (.cond (.t 121) (.seq (.region [⟨some 124, .off 6 (.t 1), none, 0⟩, ⟨some 125, .load none (.t 124), none, 0⟩, ⟨some 126, .len (.t 125), none, 0⟩,
  ⟨some 127, .bin .gtr (.t 126) (.c (.int .i64 1)), none, 0⟩, ⟨some 2, .mv (.t 127), none, 0⟩] 0 false []) .ret) (.seq (.region [⟨some 129, .bin .eql (.t 53) (.c (.int .u8 7)), none, 0⟩, ⟨some 128, .mv
  (.t 129), none, 0⟩] 0 false []) (.cond (.t 128) (.seq (.region [⟨some 130, .off 6 (.t 1), none, 0⟩, ⟨some 131, .load none (.t 130), none, 0⟩, ⟨some 132, .len (.t 131), none, 0⟩, ⟨some 133, .bin .eql
  (.t 132) (.c (.int .i64 1)), none, 0⟩, ⟨some 134, .mv (.t 133), none, 0⟩, ⟨some 135, .off 4 (.t 1), some (134, true), 0⟩, ⟨some 136, .load none (.t 135), some (134, true), 0⟩, ⟨some 137, .bin .geq (.t
  136) (.c (.int .i64 0)), some (134, true), 0⟩, ⟨some 138, .pick (.t 134) (.t 137) (.c (.bool false)), none, 0⟩, ⟨some 139, .mv (.t 138), none, 0⟩, ⟨some 140, .off 4 (.t 1), some (139, true), 0⟩, ⟨some
  141, .load none (.t 140), some (139, true), 0⟩, ⟨some 142, .bin .leq (.t 141) (.c (.int .i64 9999)), some (139, true), 0⟩, ⟨some 143, .pick (.t 139) (.t 142) (.c (.bool false)), none, 0⟩, ⟨some 144,
  .mv (.t 143), none, 0⟩, ⟨some 145, .off 5 (.t 1), some (144, true), 0⟩, ⟨some 146, .load none (.t 145), some (144, true), 0⟩, ⟨some 147, .bin .leq (.t 146) (.c (.int .i64 9999)), some (144, true), 0⟩,
  ⟨some 148, .pick (.t 144) (.t 147) (.c (.bool false)), none, 0⟩, ⟨some 149, .mv (.t 148), none, 0⟩, ⟨some 150, .off 5 (.t 1), some (149, true), 0⟩, ⟨some 151, .load none (.t 150), some (149, true), 0⟩,
  ⟨some 152, .bin .eql (.t 151) (.c (.int .i64 (-1))), some (149, true), 0⟩, ⟨some 153, .mv (.t 152), some (149, true), 0⟩, ⟨some 154, .off 5 (.t 1), some (153, false), 0⟩, ⟨some 155, .load none (.t
  154), some (153, false), 0⟩, ⟨some 156, .off 4 (.t 1), some (153, false), 0⟩, ⟨some 157, .load none (.t 156), some (153, false), 0⟩, ⟨some 158, .bin .geq (.t 155) (.t 157), some (153, false), 0⟩, ⟨some
  159, .pick (.t 153) (.c (.bool true)) (.t 158), some (149, true), 0⟩, ⟨some 160, .pick (.t 149) (.t 159) (.c (.bool false)), none, 0⟩, ⟨some 2, .mv (.t 160), none, 0⟩] 0 false []) .ret)
  .skip)))))))))))))) K84_1))
def B84 := bB84
theorem wB84 : Wp O B84 Q σ h = Wp O bB84 Q σ h := rfl
def F84 : AF := ⟨B84, [.tmp 2], false⟩
theorem tab84 : T 84 = some F84 := by kernel_rfl
/-- franking/frankingref01.Digit -/
abbrev bB89 : AC :=
  .seq (.region [⟨some 2, .mv (.c (.bool false)), none, 0⟩] 0 false []) (.seq (.region [⟨some 3, .mv (.t 0), none, 0⟩, ⟨some 4, .bin .geq (.t 3) (.c (.int .u8 48)), none, 0⟩, ⟨some 5, .mv (.t 4), none,
  0⟩, ⟨some 6, .mv (.t 0), some (5, true), 0⟩, ⟨some 7, .bin .leq (.t 6) (.c (.int .u8 57)), some (5, true), 0⟩, ⟨some 8, .pick (.t 5) (.t 7) (.c (.bool false)), none, 0⟩, ⟨some 2, .mv (.t 8), none, 0⟩]
  0 false []) .ret)
def B89 := bB89
theorem wB89 : Wp O B89 Q σ h = Wp O bB89 Q σ h := rfl
def F89 : AF := ⟨B89, [.tmp 2], false⟩
theorem tab89 : T 89 = some F89 := by kernel_rfl
/-- franking/frankingref02.pair -/
abbrev bB90 : AC :=
  .seq (.region [⟨some 2, .mv (.c (.str [])), none, 0⟩] 0 false []) (.seq (.region [⟨some 3, .mv (.c (.str [48, 49, 50, 51, 52, 53, 54, 55, 56, 57, 65, 66, 67, 68, 69, 70])), none, 0⟩] 0 false []) (.seq
  (.region [⟨some 4, .mv (.t 3), none, 0⟩, ⟨some 5, .mv (.t 0), none, 0⟩, ⟨some 6, .bin .quo (.t 5) (.c (.int .u8 16)), none, 0⟩, ⟨some 7, .mv (.t 0), none, 0⟩, ⟨some 8, .bin .quo (.t 7) (.c (.int .u8
  16)), none, 0⟩, ⟨some 9, .bin .add (.t 8) (.c (.int .u8 1)), none, 0⟩, ⟨some 10, .sliceS (.t 4) (some (.t 6)) (some (.t 9)), none, 0⟩, ⟨some 11, .mv (.t 3), none, 0⟩, ⟨some 12, .mv (.t 0), none, 0⟩,
  ⟨some 13, .bin .rem (.t 12) (.c (.int .u8 16)), none, 0⟩, ⟨some 14, .mv (.t 0), none, 0⟩, ⟨some 15, .bin .rem (.t 14) (.c (.int .u8 16)), none, 0⟩, ⟨some 16, .bin .add (.t 15) (.c (.int .u8 1)), none,
  0⟩, ⟨some 17, .sliceS (.t 11) (some (.t 13)) (some (.t 16)), none, 0⟩, ⟨some 18, .bin .add (.t 10) (.t 17), none, 0⟩, ⟨some 2, .mv (.t 18), none, 0⟩] 0 true []) .ret))
def B90 := bB90
theorem wB90 : Wp O B90 Q σ h = Wp O bB90 Q σ h := rfl
def F90 : AF := ⟨B90, [.tmp 2], false⟩
theorem tab90 : T 90 = some F90 := by kernel_rfl
/-- franking/frankingref02.Digits -/
abbrev bL91_0 : AC :=
  .seq (.seq (.region [⟨some 4, .mv (.t 0), none, 0⟩, ⟨some 5, .bin .gtr (.t 4) (.c (.int .i64 9)), none, 0⟩] 0 false []) (.cond (.t 5) .skip (.exit 0))) (.block 1 (.seq (.region [⟨some 6, .mv (.t 0),
  none, 0⟩, ⟨some 7, .bin .rem (.t 6) (.c (.int .i64 10)), none, 0⟩, ⟨some 8, .bin .add (.c (.int .i64 48)) (.t 7), none, 0⟩, ⟨some 9, .cvInt .u8 (.t 8), none, 0⟩, ⟨some 10, .bslice 1 [.t 9], none, 0⟩,
  ⟨some 11, .cvBytesStr (.t 10), none, 0⟩, ⟨some 12, .mv (.t 3), none, 0⟩, ⟨some 13, .bin .add (.t 11) (.t 12), none, 0⟩, ⟨some 3, .mv (.t 13), none, 0⟩] 0 false []) (.region [⟨some 14, .mv (.t 0), none,
  0⟩, ⟨some 15, .bin .quo (.t 14) (.c (.int .i64 10)), none, 0⟩, ⟨some 0, .mv (.t 15), none, 0⟩] 0 false [])))
def L91_0 := bL91_0
theorem wL91_0 : Wp O L91_0 Q σ h = Wp O bL91_0 Q σ h := rfl
abbrev bK91_0 : AC :=
  .seq (.region [⟨some 16, .mv (.t 0), none, 0⟩, ⟨some 17, .bin .add (.c (.int .i64 48)) (.t 16), none, 0⟩, ⟨some 18, .cvInt .u8 (.t 17), none, 0⟩, ⟨some 19, .bslice 1 [.t 18], none, 0⟩, ⟨some 20,
  .cvBytesStr (.t 19), none, 0⟩, ⟨some 21, .mv (.t 3), none, 0⟩, ⟨some 22, .bin .add (.t 20) (.t 21), none, 0⟩, ⟨some 2, .mv (.t 22), none, 0⟩] 0 false []) .ret
def K91_0 := bK91_0
theorem wK91_0 : Wp O K91_0 Q σ h = Wp O bK91_0 Q σ h := rfl
abbrev bB91 : AC :=
  .seq (.region [⟨some 2, .mv (.c (.str [])), none, 0⟩] 0 false []) (.seq (.region [⟨some 3, .mv (.c (.str [])), none, 0⟩] 0 false []) (.seq (.block 0 (.loop L91_0)) K91_0))
def B91 := bB91
theorem wB91 : Wp O B91 Q σ h = Wp O bB91 Q σ h := rfl
def F91 : AF := ⟨B91, [.tmp 2], false⟩
theorem tab91 : T 91 = some F91 := by kernel_rfl
/-- franking/frankingref02.Small -/
abbrev bJ118_0 : AC :=
  .region [⟨some 24, .mv (.t 3), none, 0⟩, ⟨some 25, .mv (.t 5), none, 0⟩, ⟨some 26, .bslice 1 [.t 25], none, 0⟩, ⟨some 27, .append 1 1 5 (.t 24) (.t 26), none, 0⟩, ⟨some 3, .mv (.t 27), none, 1⟩] 1
  false []
def J118_0 := bJ118_0
theorem wJ118_0 : Wp O J118_0 Q σ h = Wp O bJ118_0 Q σ h := rfl
abbrev bJ118_1 : AC :=
  .region [⟨some 10, .mv (.t 4), none, 0⟩, ⟨some 11, .bin .add (.t 10) (.c (.int .i64 1)), none, 0⟩, ⟨some 4, .mv (.t 11), none, 0⟩] 0 false []
def J118_1 := bJ118_1
theorem wJ118_1 : Wp O J118_1 Q σ h = Wp O bJ118_1 Q σ h := rfl
abbrev bL118_0 : AC :=
  .seq (.seq (.region [⟨some 6, .mv (.t 4), none, 0⟩, ⟨some 7, .mv (.t 0), none, 0⟩, ⟨some 8, .lenS (.t 7), none, 0⟩, ⟨some 9, .bin .lss (.t 6) (.t 8), none, 0⟩] 0 false []) (.cond (.t 9) .skip (.exit
  0))) (.seq (.block 1 (.seq (.region [⟨some 12, .mv (.t 0), none, 0⟩, ⟨some 13, .mv (.t 4), none, 0⟩, ⟨some 14, .indexS (.t 12) (.t 13), none, 0⟩, ⟨some 5, .mv (.t 14), none, 0⟩] 0 false []) (.seq (.seq
  (.region [⟨some 15, .mv (.t 5), none, 0⟩, ⟨some 16, .bin .geq (.t 15) (.c (.int .u8 65)), none, 0⟩, ⟨some 17, .mv (.t 16), none, 0⟩, ⟨some 18, .mv (.t 5), some (17, true), 0⟩, ⟨some 19, .bin .leq (.t
  18) (.c (.int .u8 90)), some (17, true), 0⟩, ⟨some 20, .pick (.t 17) (.t 19) (.c (.bool false)), none, 0⟩] 0 false []) (.cond (.t 20) (.region [⟨some 21, .mv (.t 5), none, 0⟩, ⟨some 22, .bin .sub (.t
  21) (.c (.int .u8 65)), none, 0⟩, ⟨some 23, .bin .add (.t 22) (.c (.int .u8 97)), none, 0⟩, ⟨some 5, .mv (.t 23), none, 0⟩] 0 false []) .skip)) J118_0))) J118_1)
def L118_0 := bL118_0
theorem wL118_0 : Wp O L118_0 Q σ h = Wp O bL118_0 Q σ h := rfl
abbrev bK118_0 : AC :=
  .seq (.region [⟨some 28, .mv (.t 3), none, 0⟩, ⟨some 29, .cvBytesStr (.t 28), none, 0⟩, ⟨some 2, .mv (.t 29), none, 0⟩] 0 false []) .ret
def K118_0 := bK118_0
theorem wK118_0 : Wp O K118_0 Q σ h = Wp O bK118_0 Q σ h := rfl
abbrev bB118 : AC :=
  .seq (.region [⟨some 2, .mv (.c (.str [])), none, 0⟩] 0 false []) (.seq (.region [⟨some 3, .mv (.c (.list 1 [] .full)), none, 0⟩] 0 false []) (.seq (.seq (.region [⟨some 4, .mv (.c (.int .i64 0)),
  none, 0⟩] 0 false []) (.block 0 (.loop L118_0))) K118_0))
def B118 := bB118
theorem wB118 : Wp O B118 Q σ h = Wp O bB118 Q σ h := rfl
def F118 : AF := ⟨B118, [.tmp 2], false⟩
theorem tab118 : T 118 = some F118 := by kernel_rfl
/-- franking/frankingref02.row -/
abbrev bL119_0 : AC :=
  .seq (.seq (.region [⟨some 9, .mv (.t 6), none, 0⟩, ⟨some 10, .len (.t 9), none, 0⟩, ⟨some 11, .bin .eql (.t 10) (.c (.int .i64 0)), none, 0⟩, ⟨some 12, .mv (.t 11), none, 0⟩, ⟨some 13, .mv (.t 0),
  some (12, false), 0⟩, ⟨some 14, .mv (.t 1), some (12, false), 0⟩, ⟨some 15, .call (.c (.fn 82 [])) [.t 13, .t 14], some (12, false), 0⟩, ⟨some 16, .call (.c (.fn 131 [])) [.t 15], some (12, false), 0⟩,
  ⟨some 17, .pick (.t 12) (.c (.bool true)) (.t 16), none, 0⟩] 0 false []) (.cond (.t 17) .skip (.exit 0))) (.block 1 (.seq (.region [⟨some 19, .mv (.t 0), none, 0⟩, ⟨some 20, .mv (.t 1), none, 0⟩, ⟨some
  21, .call (.c (.fn 132 [])) [.t 19, .t 20], none, 0⟩, ⟨some 18, .mv (.t 21), none, 0⟩, ⟨some 22, .ext (.t 18) 0, none, 0⟩, ⟨some 23, .ext (.t 18) 1, none, 0⟩, ⟨some 7, .alloc [.int .u8 0, .str [], .int
  .u8 0, .int .u8 0, .int .i64 0, .int .i64 0, .list 7 [] .full], none, 0⟩, ⟨none, .store 7 (.t 7) (.t 22), none, 1⟩, ⟨some 8, .mv (.t 23), none, 1⟩] 1 false []) (.seq (.seq (.region [⟨some 24, .mv (.t
  8), none, 0⟩, ⟨some 25, .bin .lss (.t 24) (.c (.int .i64 0)), none, 0⟩] 0 false []) (.cond (.t 25) (.seq (.region [⟨some 26, .load (some 7) (.t 7), none, 0⟩, ⟨some 27, .mv (.t 8), none, 0⟩, ⟨none,
  .store 7 (.t 4) (.t 26), none, 0⟩, ⟨some 5, .mv (.t 27), none, 0⟩] 0 false []) .ret) .skip)) (.seq (.region [⟨some 28, .mv (.t 6), none, 0⟩, ⟨some 29, .load (some 7) (.t 7), none, 0⟩, ⟨some 30, .bslice
  7 [.t 29], none, 0⟩, ⟨some 31, .append 7 72 25 (.t 28) (.t 30), none, 0⟩, ⟨some 6, .mv (.t 31), none, 1⟩] 1 false []) (.region [⟨some 32, .mv (.t 8), none, 0⟩, ⟨some 1, .mv (.t 32), none, 0⟩] 0 false
  [])))))
def L119_0 := bL119_0
theorem wL119_0 : Wp O L119_0 Q σ h = Wp O bL119_0 Q σ h := rfl
abbrev bK119_0 : AC :=
  .seq (.seq (.region [⟨some 33, .mv (.t 6), none, 0⟩, ⟨some 34, .len (.t 33), none, 0⟩, ⟨some 35, .bin .eql (.t 34) (.c (.int .i64 1)), none, 0⟩] 0 false []) (.cond (.t 35) (.seq (.region [⟨some 36, .mv
  (.t 6), none, 0⟩, ⟨some 37, .idx 7 (.t 36) (.c (.int .i64 0)), none, 0⟩, ⟨some 38, .load (some 7) (.t 37), none, 0⟩, ⟨some 39, .mv (.t 1), none, 0⟩, ⟨none, .store 7 (.t 4) (.t 38), none, 0⟩, ⟨some 5,
  .mv (.t 39), none, 0⟩] 0 false []) .ret) .skip)) (.seq (.region [⟨some 40, .mv (.t 6), none, 0⟩, ⟨some 41, .build [.int .u8 0, .str [], .int .u8 0, .int .u8 0, .int .i64 0, .int .i64 0, .list 7 []
  .full] [(0, 1, .c (.int .u8 5)), (6, 1, .t 40)], none, 0⟩, ⟨some 42, .mv (.t 1), none, 0⟩, ⟨none, .store 7 (.t 4) (.t 41), none, 0⟩, ⟨some 5, .mv (.t 42), none, 0⟩] 0 false []) .ret)
def K119_0 := bK119_0
theorem wK119_0 : Wp O K119_0 Q σ h = Wp O bK119_0 Q σ h := rfl
abbrev bB119 : AC :=
  .seq (.region [⟨some 4, .alloc [.int .u8 0, .str [], .int .u8 0, .int .u8 0, .int .i64 0, .int .i64 0, .list 7 [] .full], none, 0⟩, ⟨some 5, .mv (.c (.int .i64 0)), none, 1⟩] 1 false []) (.seq (.region
  [⟨some 6, .mv (.c (.list 7 [] .full)), none, 0⟩] 0 false []) (.seq (.block 0 (.loop L119_0)) K119_0))
def B119 := bB119
theorem wB119 : Wp O B119 Q σ h = Wp O bB119 Q σ h := rfl
def F119 : AF := ⟨B119, [.cell 4 (some 7), .tmp 5], false⟩
theorem tab119 : T 119 = some F119 := by kernel_rfl
/-- franking/frankingref02.begins -/
abbrev bB131 : AC :=
  .seq (.region [⟨some 2, .mv (.c (.bool false)), none, 0⟩] 0 false []) (.seq (.region [⟨some 3, .mv (.t 0), none, 0⟩, ⟨some 4, .bin .eql (.t 3) (.c (.int .u8 1)), none, 0⟩, ⟨some 5, .mv (.t 4), none,
  0⟩, ⟨some 6, .mv (.t 0), some (5, false), 0⟩, ⟨some 7, .bin .eql (.t 6) (.c (.int .u8 5)), some (5, false), 0⟩, ⟨some 8, .pick (.t 5) (.c (.bool true)) (.t 7), none, 0⟩, ⟨some 9, .mv (.t 8), none, 0⟩,
  ⟨some 10, .mv (.t 0), some (9, false), 0⟩, ⟨some 11, .bin .eql (.t 10) (.c (.int .u8 7)), some (9, false), 0⟩, ⟨some 12, .pick (.t 9) (.c (.bool true)) (.t 11), none, 0⟩, ⟨some 13, .mv (.t 12), none,
  0⟩, ⟨some 14, .mv (.t 0), some (13, false), 0⟩, ⟨some 15, .bin .geq (.t 14) (.c (.int .u8 9)), some (13, false), 0⟩, ⟨some 16, .mv (.t 15), some (13, false), 0⟩, ⟨some 17, .mv (.t 0), some (16, true),
  0⟩, ⟨some 18, .bin .leq (.t 17) (.c (.int .u8 12)), some (16, true), 0⟩, ⟨some 19, .pick (.t 16) (.t 18) (.c (.bool false)), some (13, false), 0⟩, ⟨some 20, .pick (.t 13) (.c (.bool true)) (.t 19),
  none, 0⟩, ⟨some 2, .mv (.t 20), none, 0⟩] 0 false []) .ret)
def B131 := bB131
theorem wB131 : Wp O B131 Q σ h = Wp O bB131 Q σ h := rfl
def F131 : AF := ⟨B131, [.tmp 2], false⟩
theorem tab131 : T 131 = some F131 := by kernel_rfl
/-- franking/frankingref02.part -/
abbrev bB132 : AC :=
  .seq (.region [⟨some 4, .alloc [.int .u8 0, .str [], .int .u8 0, .int .u8 0, .int .i64 0, .int .i64 0, .list 7 [] .full], none, 0⟩, ⟨some 5, .mv (.c (.int .i64 0)), none, 1⟩] 1 false []) (.seq (.seq
  (.region [⟨some 9, .mv (.t 0), none, 0⟩, ⟨some 10, .mv (.t 1), none, 0⟩, ⟨some 11, .call (.c (.fn 82 [])) [.t 9, .t 10], none, 0⟩, ⟨some 12, .bin .neq (.t 11) (.c (.int .u8 9)), none, 0⟩] 0 false [])
  (.cond (.t 12) (.seq (.region [⟨some 13, .mv (.t 0), none, 0⟩, ⟨some 14, .mv (.t 1), none, 0⟩, ⟨some 15, .call (.c (.fn 139 [])) [.t 13, .t 14], none, 0⟩, ⟨some 16, .ext (.t 15) 0, none, 0⟩, ⟨some 17,
  .ext (.t 15) 1, none, 0⟩, ⟨none, .store 7 (.t 4) (.t 16), none, 0⟩, ⟨some 5, .mv (.t 17), none, 0⟩] 0 false []) .ret) .skip)) (.seq (.region [⟨some 18, .mv (.t 0), none, 0⟩, ⟨some 19, .mv (.t 1), none,
  0⟩, ⟨some 20, .idx 7 (.t 18) (.t 19), none, 0⟩, ⟨some 21, .off 3 (.t 20), none, 0⟩, ⟨some 22, .load none (.t 21), none, 0⟩, ⟨some 23, .mv (.t 0), none, 0⟩, ⟨some 24, .mv (.t 1), none, 0⟩, ⟨some 25,
  .idx 7 (.t 23) (.t 24), none, 0⟩, ⟨some 26, .off 4 (.t 25), none, 0⟩, ⟨some 27, .load none (.t 26), none, 0⟩, ⟨some 28, .mksliceM [.int .u8 0, .str [], .int .u8 0, .int .u8 0, .int .i64 0, .int .i64 0,
  .list 7 [] .full] 7 72 (.c (.int .i64 1)) (.c (.int .i64 1)), none, 0⟩, ⟨some 29, .build [.int .u8 0, .str [], .int .u8 0, .int .u8 0, .int .i64 0, .int .i64 0, .list 7 [] .full] [(0, 1, .c (.int .u8
  7)), (4, 1, .t 22), (5, 1, .t 27), (6, 1, .t 28)], none, 1⟩, ⟨some 6, .alloc [.int .u8 0, .str [], .int .u8 0, .int .u8 0, .int .i64 0, .int .i64 0, .list 7 [] .full], none, 1⟩, ⟨none, .store 7 (.t 6)
  (.t 29), none, 2⟩] 2 true [(4, 10), (9, 10), (4, 12), (9, 12), (10, 12)]) (.seq (.seq (.region [⟨some 30, .load (some 7) (.t 6), none, 0⟩, ⟨some 31, .call (.c (.fn 84 [])) [.t 30], none, 0⟩, ⟨some 32,
  .not (.t 31), none, 0⟩] 0 false []) (.cond (.t 32) (.seq (.region [⟨some 33, .load (some 7) (.t 6), none, 0⟩, ⟨some 34, .mv (.t 1), none, 0⟩, ⟨some 35, .bin .sub (.c (.int .i64 (-1))) (.t 34), none,
  0⟩, ⟨none, .store 7 (.t 4) (.t 33), none, 0⟩, ⟨some 5, .mv (.t 35), none, 0⟩] 0 false []) .ret) .skip)) (.seq (.region [⟨some 37, .mv (.t 0), none, 0⟩, ⟨some 38, .mv (.t 1), none, 0⟩, ⟨some 39, .bin
  .add (.t 38) (.c (.int .i64 1)), none, 0⟩, ⟨some 40, .call (.c (.fn 139 [])) [.t 37, .t 39], none, 0⟩, ⟨some 36, .mv (.t 40), none, 0⟩, ⟨some 41, .ext (.t 36) 0, none, 0⟩, ⟨some 42, .ext (.t 36) 1,
  none, 0⟩, ⟨some 7, .alloc [.int .u8 0, .str [], .int .u8 0, .int .u8 0, .int .i64 0, .int .i64 0, .list 7 [] .full], none, 0⟩, ⟨none, .store 7 (.t 7) (.t 41), none, 1⟩, ⟨some 8, .mv (.t 42), none, 1⟩]
  1 false []) (.seq (.region [⟨some 43, .off 6 (.t 6), none, 0⟩, ⟨some 44, .load none (.t 43), none, 0⟩, ⟨some 45, .load (some 7) (.t 7), none, 0⟩, ⟨some 46, .idx 7 (.t 44) (.c (.int .i64 0)), none, 0⟩,
  ⟨none, .store 7 (.t 46) (.t 45), none, 0⟩] 0 false []) (.seq (.region [⟨some 47, .load (some 7) (.t 6), none, 0⟩, ⟨some 48, .mv (.t 8), none, 0⟩, ⟨none, .store 7 (.t 4) (.t 47), none, 0⟩, ⟨some 5, .mv
  (.t 48), none, 0⟩] 0 false []) .ret))))))
def B132 := bB132
theorem wB132 : Wp O B132 Q σ h = Wp O bB132 Q σ h := rfl
def F132 : AF := ⟨B132, [.cell 4 (some 7), .tmp 5], false⟩
theorem tab132 : T 132 = some F132 := by kernel_rfl
/-- franking/frankingref02.thing -/
abbrev bB139 : AC :=
  .seq (.region [⟨some 4, .alloc [.int .u8 0, .str [], .int .u8 0, .int .u8 0, .int .i64 0, .int .i64 0, .list 7 [] .full], none, 0⟩, ⟨some 5, .mv (.c (.int .i64 0)), none, 1⟩] 1 false []) (.seq (.region
  [⟨some 11, .mv (.t 0), none, 0⟩, ⟨some 12, .mv (.t 1), none, 0⟩, ⟨some 13, .call (.c (.fn 82 [])) [.t 11, .t 12], none, 0⟩, ⟨some 6, .mv (.t 13), none, 0⟩] 0 false []) (.seq (.seq (.region [⟨some 14,
  .mv (.t 6), none, 0⟩, ⟨some 15, .bin .eql (.t 14) (.c (.int .u8 5)), none, 0⟩, ⟨some 16, .mv (.t 15), none, 0⟩, ⟨some 17, .mv (.t 6), some (16, false), 0⟩, ⟨some 18, .bin .eql (.t 17) (.c (.int .u8
  7)), some (16, false), 0⟩, ⟨some 19, .pick (.t 16) (.c (.bool true)) (.t 18), none, 0⟩] 0 false []) (.cond (.t 19) (.seq (.region [⟨some 21, .mv (.t 0), none, 0⟩, ⟨some 22, .mv (.t 1), none, 0⟩, ⟨some
  23, .bin .add (.t 22) (.c (.int .i64 1)), none, 0⟩, ⟨some 24, .call (.c (.fn 83 [])) [.t 21, .t 23], none, 0⟩, ⟨some 20, .mv (.t 24), none, 0⟩, ⟨some 25, .ext (.t 20) 0, none, 0⟩, ⟨some 26, .ext (.t
  20) 1, none, 0⟩, ⟨some 7, .alloc [.int .u8 0, .str [], .int .u8 0, .int .u8 0, .int .i64 0, .int .i64 0, .list 7 [] .full], none, 0⟩, ⟨none, .store 7 (.t 7) (.t 25), none, 1⟩, ⟨some 8, .mv (.t 26),
  none, 1⟩] 1 false []) (.seq (.seq (.region [⟨some 27, .mv (.t 8), none, 0⟩, ⟨some 28, .bin .lss (.t 27) (.c (.int .i64 0)), none, 0⟩] 0 false []) (.cond (.t 28) (.seq (.region [⟨some 29, .load (some 7)
  (.t 7), none, 0⟩, ⟨some 30, .mv (.t 8), none, 0⟩, ⟨none, .store 7 (.t 4) (.t 29), none, 0⟩, ⟨some 5, .mv (.t 30), none, 0⟩] 0 false []) .ret) .skip)) (.seq (.seq (.region [⟨some 31, .mv (.t 0), none,
  0⟩, ⟨some 32, .mv (.t 8), none, 0⟩, ⟨some 33, .call (.c (.fn 82 [])) [.t 31, .t 32], none, 0⟩, ⟨some 34, .mv (.t 6), none, 0⟩, ⟨some 35, .bin .add (.t 34) (.c (.int .u8 1)), none, 0⟩, ⟨some 36, .bin
  .neq (.t 33) (.t 35), none, 0⟩] 0 false []) (.cond (.t 36) (.seq (.region [⟨some 37, .load (some 7) (.t 7), none, 0⟩, ⟨some 38, .mv (.t 8), none, 0⟩, ⟨some 39, .bin .sub (.c (.int .i64 (-1))) (.t 38),
  none, 0⟩, ⟨none, .store 7 (.t 4) (.t 37), none, 0⟩, ⟨some 5, .mv (.t 39), none, 0⟩] 0 false []) .ret) .skip)) (.seq (.seq (.region [⟨some 40, .mv (.t 6), none, 0⟩, ⟨some 41, .bin .eql (.t 40) (.c (.int
  .u8 7)), none, 0⟩] 0 false []) (.cond (.t 41) (.region [⟨some 42, .load (some 7) (.t 7), none, 0⟩, ⟨some 43, .bslice 7 [.t 42], none, 0⟩, ⟨some 44, .build [.int .u8 0, .str [], .int .u8 0, .int .u8 0,
  .int .i64 0, .int .i64 0, .list 7 [] .full] [(0, 1, .c (.int .u8 7)), (5, 1, .c (.int .i64 1)), (6, 1, .t 43)], none, 0⟩, ⟨none, .store 7 (.t 7) (.t 44), none, 0⟩] 0 false []) .skip)) (.seq (.region
  [⟨some 45, .load (some 7) (.t 7), none, 0⟩, ⟨some 46, .mv (.t 8), none, 0⟩, ⟨some 47, .bin .add (.t 46) (.c (.int .i64 1)), none, 0⟩, ⟨none, .store 7 (.t 4) (.t 45), none, 0⟩, ⟨some 5, .mv (.t 47),
  none, 0⟩] 0 false []) .ret))))) .skip)) (.seq (.seq (.region [⟨some 48, .mv (.t 6), none, 0⟩, ⟨some 49, .bin .eql (.t 48) (.c (.int .u8 0)), none, 0⟩] 0 false []) (.cond (.t 49) (.seq (.region [⟨some
  50, .build [.int .u8 0, .str [], .int .u8 0, .int .u8 0, .int .i64 0, .int .i64 0, .list 7 [] .full] [], none, 0⟩, ⟨some 51, .mv (.t 1), none, 0⟩, ⟨some 52, .bin .sub (.c (.int .i64 (-1))) (.t 51),
  none, 0⟩, ⟨none, .store 7 (.t 4) (.t 50), none, 0⟩, ⟨some 5, .mv (.t 52), none, 0⟩] 0 false []) .ret) .skip)) (.seq (.region [⟨some 54, .mv (.t 0), none, 0⟩, ⟨some 55, .mv (.t 1), none, 0⟩, ⟨some 56,
  .idx 7 (.t 54) (.t 55), none, 0⟩, ⟨some 57, .load (some 7) (.t 56), none, 0⟩, ⟨some 58, .call (.c (.fn 81 [])) [.t 57], none, 0⟩, ⟨some 53, .mv (.t 58), none, 0⟩, ⟨some 59, .ext (.t 53) 0, none, 0⟩,
  ⟨some 60, .ext (.t 53) 1, none, 0⟩, ⟨some 9, .alloc [.int .u8 0, .str [], .int .u8 0, .int .u8 0, .int .i64 0, .int .i64 0, .list 7 [] .full], none, 0⟩, ⟨none, .store 7 (.t 9) (.t 59), none, 1⟩, ⟨some
  10, .mv (.t 60), none, 1⟩] 1 false []) (.seq (.seq (.region [⟨some 61, .mv (.t 10), none, 0⟩, ⟨some 62, .not (.t 61), none, 0⟩] 0 false []) (.cond (.t 62) (.seq (.region [⟨some 63, .load (some 7) (.t
  9), none, 0⟩, ⟨some 64, .mv (.t 1), none, 0⟩, ⟨some 65, .bin .sub (.c (.int .i64 (-1))) (.t 64), none, 0⟩, ⟨none, .store 7 (.t 4) (.t 63), none, 0⟩, ⟨some 5, .mv (.t 65), none, 0⟩] 0 false []) .ret)
  .skip)) (.seq (.region [⟨some 66, .load (some 7) (.t 9), none, 0⟩, ⟨some 67, .mv (.t 1), none, 0⟩, ⟨some 68, .bin .add (.t 67) (.c (.int .i64 1)), none, 0⟩, ⟨none, .store 7 (.t 4) (.t 66), none, 0⟩,
  ⟨some 5, .mv (.t 68), none, 0⟩] 0 false []) .ret))))))
def B139 := bB139
theorem wB139 : Wp O B139 Q σ h = Wp O bB139 Q σ h := rfl
def F139 : AF := ⟨B139, [.cell 4 (some 7), .tmp 5], false⟩
theorem tab139 : T 139 = some F139 := by kernel_rfl
/-- franking/frankinglow.Nodes -/
abbrev bB8 : AC :=
  .seq (.region [⟨some 2, .box 7 (.t 0), none, 0⟩, ⟨some 4, .mv (.c (.int .i64 0)), none, 1⟩] 1 false []) (.seq (.region [⟨some 5, .load (some 7) (.t 2), none, 0⟩, ⟨some 6, .mv (.t 1), none, 0⟩, ⟨some 7,
  .call (.c (.fn 27 [])) [.t 5, .t 6, .c (.int .i64 0)], none, 0⟩, ⟨some 4, .mv (.t 7), none, 0⟩] 0 false []) .ret)
def B8 := bB8
theorem wB8 : Wp O B8 Q σ h = Wp O bB8 Q σ h := rfl
def F8 : AF := ⟨B8, [.tmp 4], false⟩
theorem tab8 : T 8 = some F8 := by kernel_rfl
/-- franking/frankinglow.Rules -/
abbrev bL13_0 : AC :=
  .seq (.region [⟨some 16, .bin .lss (.t 15) (.t 14), none, 0⟩] 0 false []) (.seq (.cond (.t 16) .skip (.exit 0)) (.seq (.block 1 (.seq (.region [⟨some 17, .mv (.t 15), none, 0⟩, ⟨some 7, .mv (.t 17),
  none, 0⟩] 0 false []) (.seq (.region [⟨some 18, .mv (.t 0), none, 0⟩, ⟨some 19, .mv (.t 7), none, 0⟩, ⟨some 20, .idx 10 (.t 18) (.t 19), none, 0⟩, ⟨some 21, .off 0 (.t 20), none, 0⟩, ⟨some 22, .load
  none (.t 21), none, 0⟩, ⟨some 23, .mv (.t 1), none, 0⟩, ⟨some 24, .mv (.t 7), none, 0⟩, ⟨some 25, .idx 10 (.t 23) (.t 24), none, 0⟩, ⟨some 26, .off 0 (.t 25), none, 0⟩, ⟨some 27, .load none (.t 26),
  none, 0⟩, ⟨some 28, .bin .neq (.t 22) (.t 27), none, 0⟩, ⟨some 29, .mv (.t 28), none, 0⟩, ⟨some 30, .mv (.t 0), some (29, false), 0⟩, ⟨some 31, .mv (.t 7), some (29, false), 0⟩, ⟨some 32, .idx 10 (.t
  30) (.t 31), some (29, false), 0⟩, ⟨some 33, .off 2 (.t 32), some (29, false), 0⟩, ⟨some 34, .load none (.t 33), some (29, false), 0⟩, ⟨some 35, .mv (.t 1), some (29, false), 0⟩, ⟨some 36, .mv (.t 7),
  some (29, false), 0⟩, ⟨some 37, .idx 10 (.t 35) (.t 36), some (29, false), 0⟩, ⟨some 38, .off 2 (.t 37), some (29, false), 0⟩, ⟨some 39, .load none (.t 38), some (29, false), 0⟩, ⟨some 40, .eq true
  none [(0, LK.bool)] (.t 34) (.t 39), some (29, false), 0⟩, ⟨some 41, .pick (.t 29) (.c (.bool true)) (.t 40), none, 0⟩, ⟨some 42, .mv (.t 41), none, 0⟩, ⟨some 43, .mv (.t 2), some (42, false), 0⟩,
  ⟨some 44, .mv (.t 43), some (42, false), 0⟩, ⟨some 45, .mv (.t 0), some (44, true), 0⟩, ⟨some 46, .mv (.t 7), some (44, true), 0⟩, ⟨some 47, .idx 10 (.t 45) (.t 46), some (44, true), 0⟩, ⟨some 48, .off
  1 (.t 47), some (44, true), 0⟩, ⟨some 49, .load none (.t 48), some (44, true), 0⟩, ⟨some 50, .mv (.t 1), some (44, true), 0⟩, ⟨some 51, .mv (.t 7), some (44, true), 0⟩, ⟨some 52, .idx 10 (.t 50) (.t
  51), some (44, true), 0⟩, ⟨some 53, .off 1 (.t 52), some (44, true), 0⟩, ⟨some 54, .load none (.t 53), some (44, true), 0⟩, ⟨some 55, .bin .neq (.t 49) (.t 54), some (44, true), 0⟩, ⟨some 56, .pick (.t
  44) (.t 55) (.c (.bool false)), some (42, false), 0⟩, ⟨some 57, .pick (.t 42) (.c (.bool true)) (.t 56), none, 0⟩, ⟨some 58, .mv (.t 57), none, 0⟩, ⟨some 59, .mv (.t 0), some (58, false), 0⟩, ⟨some 60,
  .mv (.t 7), some (58, false), 0⟩, ⟨some 61, .idx 10 (.t 59) (.t 60), some (58, false), 0⟩, ⟨some 62, .off 3 (.t 61), some (58, false), 0⟩, ⟨some 63, .load (some 7) (.t 62), some (58, false), 0⟩, ⟨some
  64, .mv (.t 1), some (58, false), 0⟩, ⟨some 65, .mv (.t 7), some (58, false), 0⟩, ⟨some 66, .idx 10 (.t 64) (.t 65), some (58, false), 0⟩, ⟨some 67, .off 3 (.t 66), some (58, false), 0⟩, ⟨some 68,
  .load (some 7) (.t 67), some (58, false), 0⟩, ⟨some 69, .call (.c (.fn 41 [])) [.t 63, .t 68], some (58, false), 0⟩, ⟨some 70, .not (.t 69), some (58, false), 0⟩, ⟨some 71, .pick (.t 58) (.c (.bool
  true)) (.t 70), none, 0⟩] 0 true []) (.cond (.t 71) (.seq (.region [⟨some 6, .mv (.c (.bool false)), none, 0⟩] 0 false []) .ret) .skip)))) (.region [⟨some 72, .bin .add (.t 15) (.c (.int .i64 1)),
  none, 0⟩, ⟨some 15, .mv (.t 72), none, 0⟩] 0 false [])))
def L13_0 := bL13_0
theorem wL13_0 : Wp O L13_0 Q σ h = Wp O bL13_0 Q σ h := rfl
abbrev bK13_0 : AC :=
  .seq (.region [⟨some 6, .mv (.c (.bool true)), none, 0⟩] 0 false []) .ret
def K13_0 := bK13_0
theorem wK13_0 : Wp O K13_0 Q σ h = Wp O bK13_0 Q σ h := rfl
abbrev bB13 : AC :=
  .seq (.region [⟨some 6, .mv (.c (.bool false)), none, 0⟩] 0 false []) (.seq (.seq (.region [⟨some 8, .mv (.t 0), none, 0⟩, ⟨some 9, .len (.t 8), none, 0⟩, ⟨some 10, .mv (.t 1), none, 0⟩, ⟨some 11, .len
  (.t 10), none, 0⟩, ⟨some 12, .bin .neq (.t 9) (.t 11), none, 0⟩] 0 false []) (.cond (.t 12) (.seq (.region [⟨some 6, .mv (.c (.bool false)), none, 0⟩] 0 false []) .ret) .skip)) (.seq (.seq (.region
  [⟨some 13, .mv (.t 0), none, 0⟩, ⟨some 14, .len (.t 13), none, 0⟩, ⟨some 15, .mv (.c (.int .i64 0)), none, 0⟩] 0 false []) (.block 0 (.loop L13_0))) K13_0))
def B13 := bB13
theorem wB13 : Wp O B13 Q σ h = Wp O bB13 Q σ h := rfl
def F13 : AF := ⟨B13, [.tmp 6], false⟩
theorem tab13 : T 13 = some F13 := by kernel_rfl
/-- franking/frankinglow.nodes -/
abbrev bL27_0 : AC :=
  .seq (.region [⟨some 13, .bin .lss (.t 12) (.t 11), none, 0⟩] 0 false []) (.seq (.cond (.t 13) .skip (.exit 0)) (.seq (.block 1 (.seq (.region [⟨some 14, .mv (.t 12), none, 0⟩, ⟨some 8, .mv (.t 14),
  none, 0⟩] 0 false []) (.seq (.seq (.region [⟨some 15, .mv (.t 7), none, 0⟩, ⟨some 16, .mv (.t 1), none, 0⟩, ⟨some 17, .bin .gtr (.t 15) (.t 16), none, 0⟩, ⟨some 18, .mv (.t 17), none, 0⟩, ⟨some 19, .mv
  (.t 2), some (18, false), 0⟩, ⟨some 20, .bin .gtr (.t 19) (.c (.int .i64 200)), some (18, false), 0⟩, ⟨some 21, .pick (.t 18) (.c (.bool true)) (.t 20), none, 0⟩] 0 false []) (.cond (.t 21) (.seq
  (.region [⟨some 22, .mv (.t 1), none, 0⟩, ⟨some 23, .bin .add (.t 22) (.c (.int .i64 1)), none, 0⟩, ⟨some 6, .mv (.t 23), none, 0⟩] 0 false []) .ret) .skip)) (.region [⟨some 24, .mv (.t 7), none, 0⟩,
  ⟨some 25, .off 6 (.t 3), none, 0⟩, ⟨some 26, .load none (.t 25), none, 0⟩, ⟨some 27, .mv (.t 8), none, 0⟩, ⟨some 28, .idx 7 (.t 26) (.t 27), none, 0⟩, ⟨some 29, .load (some 7) (.t 28), none, 0⟩, ⟨some
  30, .mv (.t 1), none, 0⟩, ⟨some 31, .mv (.t 7), none, 0⟩, ⟨some 32, .bin .sub (.t 30) (.t 31), none, 0⟩, ⟨some 33, .mv (.t 2), none, 0⟩, ⟨some 34, .bin .add (.t 33) (.c (.int .i64 1)), none, 0⟩, ⟨some
  35, .call (.c (.fn 27 [])) [.t 29, .t 32, .t 34], none, 0⟩, ⟨some 36, .bin .add (.t 24) (.t 35), none, 0⟩, ⟨some 7, .mv (.t 36), none, 0⟩] 0 false [])))) (.region [⟨some 37, .bin .add (.t 12) (.c (.int
  .i64 1)), none, 0⟩, ⟨some 12, .mv (.t 37), none, 0⟩] 0 false [])))
def L27_0 := bL27_0
theorem wL27_0 : Wp O L27_0 Q σ h = Wp O bL27_0 Q σ h := rfl
abbrev bK27_0 : AC :=
  .seq (.region [⟨some 38, .mv (.t 7), none, 0⟩, ⟨some 6, .mv (.t 38), none, 0⟩] 0 false []) .ret
def K27_0 := bK27_0
theorem wK27_0 : Wp O K27_0 Q σ h = Wp O bK27_0 Q σ h := rfl
abbrev bB27 : AC :=
  .seq (.region [⟨some 3, .box 7 (.t 0), none, 0⟩, ⟨some 6, .mv (.c (.int .i64 0)), none, 1⟩] 1 false []) (.seq (.region [⟨some 7, .mv (.c (.int .i64 1)), none, 0⟩] 0 false []) (.seq (.seq (.region
  [⟨some 9, .off 6 (.t 3), none, 0⟩, ⟨some 10, .load none (.t 9), none, 0⟩, ⟨some 11, .len (.t 10), none, 0⟩, ⟨some 12, .mv (.c (.int .i64 0)), none, 0⟩] 0 false []) (.block 0 (.loop L27_0))) K27_0))
def B27 := bB27
theorem wB27 : Wp O B27 Q σ h = Wp O bB27 Q σ h := rfl
def F27 : AF := ⟨B27, [.tmp 6], false⟩
theorem tab27 : T 27 = some F27 := by kernel_rfl
/-- franking/frankinglow.Trees -/
abbrev bL41_0 : AC :=
  .seq (.region [⟨some 59, .bin .lss (.t 58) (.t 57), none, 0⟩] 0 false []) (.seq (.cond (.t 59) .skip (.exit 0)) (.seq (.block 1 (.seq (.region [⟨some 60, .mv (.t 58), none, 0⟩, ⟨some 5, .mv (.t 60),
  none, 0⟩] 0 false []) (.seq (.region [⟨some 61, .off 6 (.t 2), none, 0⟩, ⟨some 62, .load none (.t 61), none, 0⟩, ⟨some 63, .mv (.t 5), none, 0⟩, ⟨some 64, .idx 7 (.t 62) (.t 63), none, 0⟩, ⟨some 65,
  .load (some 7) (.t 64), none, 0⟩, ⟨some 66, .off 6 (.t 3), none, 0⟩, ⟨some 67, .load none (.t 66), none, 0⟩, ⟨some 68, .mv (.t 5), none, 0⟩, ⟨some 69, .idx 7 (.t 67) (.t 68), none, 0⟩, ⟨some 70, .load
  (some 7) (.t 69), none, 0⟩, ⟨some 71, .call (.c (.fn 41 [])) [.t 65, .t 70], none, 0⟩, ⟨some 72, .not (.t 71), none, 0⟩] 0 true []) (.cond (.t 72) (.seq (.region [⟨some 4, .mv (.c (.bool false)), none,
  0⟩] 0 false []) .ret) .skip)))) (.region [⟨some 73, .bin .add (.t 58) (.c (.int .i64 1)), none, 0⟩, ⟨some 58, .mv (.t 73), none, 0⟩] 0 false [])))
def L41_0 := bL41_0
theorem wL41_0 : Wp O L41_0 Q σ h = Wp O bL41_0 Q σ h := rfl
abbrev bK41_0 : AC :=
  .seq (.region [⟨some 4, .mv (.c (.bool true)), none, 0⟩] 0 false []) .ret
def K41_0 := bK41_0
theorem wK41_0 : Wp O K41_0 Q σ h = Wp O bK41_0 Q σ h := rfl
abbrev bB41 : AC :=
  .seq (.region [⟨some 2, .box 7 (.t 0), none, 0⟩, ⟨some 3, .box 7 (.t 1), none, 1⟩, ⟨some 4, .mv (.c (.bool false)), none, 2⟩] 2 false []) (.seq (.seq (.region [⟨some 6, .off 0 (.t 2), none, 0⟩, ⟨some
  7, .load none (.t 6), none, 0⟩, ⟨some 8, .off 0 (.t 3), none, 0⟩, ⟨some 9, .load none (.t 8), none, 0⟩, ⟨some 10, .bin .neq (.t 7) (.t 9), none, 0⟩, ⟨some 11, .mv (.t 10), none, 0⟩, ⟨some 12, .off 1
  (.t 2), some (11, false), 0⟩, ⟨some 13, .load none (.t 12), some (11, false), 0⟩, ⟨some 14, .off 1 (.t 3), some (11, false), 0⟩, ⟨some 15, .load none (.t 14), some (11, false), 0⟩, ⟨some 16, .bin .neq
  (.t 13) (.t 15), some (11, false), 0⟩, ⟨some 17, .pick (.t 11) (.c (.bool true)) (.t 16), none, 0⟩, ⟨some 18, .mv (.t 17), none, 0⟩, ⟨some 19, .off 2 (.t 2), some (18, false), 0⟩, ⟨some 20, .load none
  (.t 19), some (18, false), 0⟩, ⟨some 21, .off 2 (.t 3), some (18, false), 0⟩, ⟨some 22, .load none (.t 21), some (18, false), 0⟩, ⟨some 23, .bin .neq (.t 20) (.t 22), some (18, false), 0⟩, ⟨some 24,
  .pick (.t 18) (.c (.bool true)) (.t 23), none, 0⟩, ⟨some 25, .mv (.t 24), none, 0⟩, ⟨some 26, .off 3 (.t 2), some (25, false), 0⟩, ⟨some 27, .load none (.t 26), some (25, false), 0⟩, ⟨some 28, .off 3
  (.t 3), some (25, false), 0⟩, ⟨some 29, .load none (.t 28), some (25, false), 0⟩, ⟨some 30, .bin .neq (.t 27) (.t 29), some (25, false), 0⟩, ⟨some 31, .pick (.t 25) (.c (.bool true)) (.t 30), none, 0⟩,
  ⟨some 32, .mv (.t 31), none, 0⟩, ⟨some 33, .off 4 (.t 2), some (32, false), 0⟩, ⟨some 34, .load none (.t 33), some (32, false), 0⟩, ⟨some 35, .off 4 (.t 3), some (32, false), 0⟩, ⟨some 36, .load none
  (.t 35), some (32, false), 0⟩, ⟨some 37, .bin .neq (.t 34) (.t 36), some (32, false), 0⟩, ⟨some 38, .pick (.t 32) (.c (.bool true)) (.t 37), none, 0⟩, ⟨some 39, .mv (.t 38), none, 0⟩, ⟨some 40, .off 5
  (.t 2), some (39, false), 0⟩, ⟨some 41, .load none (.t 40), some (39, false), 0⟩, ⟨some 42, .off 5 (.t 3), some (39, false), 0⟩, ⟨some 43, .load none (.t 42), some (39, false), 0⟩, ⟨some 44, .bin .neq
  (.t 41) (.t 43), some (39, false), 0⟩, ⟨some 45, .pick (.t 39) (.c (.bool true)) (.t 44), none, 0⟩, ⟨some 46, .mv (.t 45), none, 0⟩, ⟨some 47, .off 6 (.t 2), some (46, false), 0⟩, ⟨some 48, .load none
  (.t 47), some (46, false), 0⟩, ⟨some 49, .len (.t 48), some (46, false), 0⟩, ⟨some 50, .off 6 (.t 3), some (46, false), 0⟩, ⟨some 51, .load none (.t 50), some (46, false), 0⟩, ⟨some 52, .len (.t 51),
  some (46, false), 0⟩, ⟨some 53, .bin .neq (.t 49) (.t 52), some (46, false), 0⟩, ⟨some 54, .pick (.t 46) (.c (.bool true)) (.t 53), none, 0⟩] 0 false []) (.cond (.t 54) (.seq (.region [⟨some 4, .mv (.c
  (.bool false)), none, 0⟩] 0 false []) .ret) .skip)) (.seq (.seq (.region [⟨some 55, .off 6 (.t 2), none, 0⟩, ⟨some 56, .load none (.t 55), none, 0⟩, ⟨some 57, .len (.t 56), none, 0⟩, ⟨some 58, .mv (.c
  (.int .i64 0)), none, 0⟩] 0 false []) (.block 0 (.loop L41_0))) K41_0))
def B41 := bB41
theorem wB41 : Wp O B41 Q σ h = Wp O bB41 Q σ h := rfl
def F41 : AF := ⟨B41, [.tmp 4], false⟩
theorem tab41 : T 41 = some F41 := by kernel_rfl
/-- franking/frankinglaw02.AbnfTells -/
abbrev bL3_0 : AC :=
  .seq (.region [⟨some 48, .bin .lss (.t 47) (.t 46), none, 0⟩] 0 false []) (.seq (.cond (.t 48) .skip (.exit 0)) (.seq (.block 1 (.seq (.region [⟨some 49, .idx 1 (.t 45) (.t 47), none, 0⟩, ⟨some 50,
  .load none (.t 49), none, 0⟩, ⟨some 11, .mv (.t 50), none, 0⟩] 0 false []) (.seq (.region [⟨some 52, .mv (.t 11), none, 0⟩, ⟨some 53, .call (.c (.fn 11 [])) [.t 52], none, 0⟩, ⟨some 51, .mv (.t 53),
  none, 0⟩, ⟨some 54, .ext (.t 51) 0, none, 0⟩, ⟨some 55, .ext (.t 51) 1, none, 0⟩, ⟨some 56, .ext (.t 51) 2, none, 0⟩, ⟨some 12, .mv (.t 54), none, 0⟩, ⟨some 13, .mv (.t 55), none, 0⟩, ⟨some 14, .mv (.t
  56), none, 0⟩] 0 false []) (.seq (.region [⟨some 58, .mv (.t 11), none, 0⟩, ⟨some 59, .call (.c (.fn 12 [])) [.t 58], none, 0⟩, ⟨some 57, .mv (.t 59), none, 0⟩, ⟨some 60, .ext (.t 57) 0, none, 0⟩,
  ⟨some 61, .ext (.t 57) 1, none, 0⟩, ⟨some 62, .ext (.t 57) 2, none, 0⟩, ⟨some 15, .mv (.t 60), none, 0⟩, ⟨some 16, .mv (.t 61), none, 0⟩, ⟨some 17, .mv (.t 62), none, 0⟩] 0 false []) (.seq (.region
  [⟨some 63, .mv (.t 12), none, 0⟩, ⟨some 64, .mv (.t 15), none, 0⟩, ⟨some 65, .call (.c (.fn 13 [])) [.t 63, .t 64, .c (.bool true)], none, 0⟩, ⟨some 66, .not (.t 65), none, 0⟩, ⟨some 67, .mv (.t 66),
  none, 0⟩, ⟨some 68, .mv (.t 13), some (67, false), 0⟩, ⟨some 69, .mv (.t 16), some (67, false), 0⟩, ⟨some 70, .bin .neq (.t 68) (.t 69), some (67, false), 0⟩, ⟨some 71, .pick (.t 67) (.c (.bool true))
  (.t 70), none, 0⟩, ⟨some 72, .mv (.t 71), none, 0⟩, ⟨some 73, .mv (.t 14), some (72, false), 0⟩, ⟨some 74, .mv (.t 17), some (72, false), 0⟩, ⟨some 75, .bin .neq (.t 73) (.t 74), some (72, false), 0⟩,
  ⟨some 76, .pick (.t 72) (.c (.bool true)) (.t 75), none, 0⟩] 0 false []) (.cond (.t 76) (.seq (.region [⟨some 6, .mv (.c (.bool false)), none, 0⟩] 0 false []) .ret) .skip)))))) (.region [⟨some 77, .bin
  .add (.t 47) (.c (.int .i64 1)), none, 0⟩, ⟨some 47, .mv (.t 77), none, 0⟩] 0 false [])))
def L3_0 := bL3_0
theorem wL3_0 : Wp O L3_0 Q σ h = Wp O bL3_0 Q σ h := rfl
abbrev bK3_0 : AC :=
  .seq (.seq (.region [⟨some 78, .off 3 (.t 4), none, 0⟩, ⟨some 79, .load (some 7) (.t 78), none, 0⟩, ⟨some 80, .call (.c (.fn 14 [])) [.t 79], none, 0⟩, ⟨some 81, .off 3 (.t 4), none, 0⟩, ⟨some 82,
  .load (some 7) (.t 81), none, 0⟩, ⟨some 83, .call (.c (.fn 15 [])) [.t 82], none, 0⟩, ⟨some 84, .eq true none [(0, LK.bool)] (.t 80) (.t 83), none, 0⟩] 0 true [(2, 4)]) (.cond (.t 84) (.seq (.region
  [⟨some 6, .mv (.c (.bool false)), none, 0⟩] 0 false []) .ret) .skip)) (.seq (.region [⟨some 86, .load (some 10) (.t 4), none, 0⟩, ⟨some 87, .call (.c (.fn 16 [])) [.t 86], none, 0⟩, ⟨some 85, .mv (.t
  87), none, 0⟩, ⟨some 88, .ext (.t 85) 0, none, 0⟩, ⟨some 89, .ext (.t 85) 1, none, 0⟩, ⟨some 18, .mv (.t 88), none, 0⟩, ⟨some 19, .mv (.t 89), none, 0⟩] 0 false []) (.seq (.region [⟨some 91, .load
  (some 10) (.t 4), none, 0⟩, ⟨some 92, .call (.c (.fn 17 [])) [.t 91], none, 0⟩, ⟨some 90, .mv (.t 92), none, 0⟩, ⟨some 93, .ext (.t 90) 0, none, 0⟩, ⟨some 94, .ext (.t 90) 1, none, 0⟩, ⟨some 20, .mv
  (.t 93), none, 0⟩, ⟨some 21, .mv (.t 94), none, 0⟩] 0 false []) (.seq (.region [⟨some 95, .mv (.t 18), none, 0⟩, ⟨some 96, .mv (.t 20), none, 0⟩, ⟨some 97, .bin .eql (.t 95) (.t 96), none, 0⟩, ⟨some
  98, .mv (.t 97), none, 0⟩, ⟨some 99, .mv (.t 19), some (98, true), 0⟩, ⟨some 100, .mv (.t 21), some (98, true), 0⟩, ⟨some 101, .bin .eql (.t 99) (.t 100), some (98, true), 0⟩, ⟨some 102, .pick (.t 98)
  (.t 101) (.c (.bool false)), none, 0⟩, ⟨some 103, .mv (.t 102), none, 0⟩, ⟨some 104, .call (.c (.fn 9 [])) [], some (103, true), 0⟩, ⟨some 105, .pick (.t 103) (.t 104) (.c (.bool false)), none, 0⟩,
  ⟨some 6, .mv (.t 105), none, 0⟩] 0 false []) .ret)))
def K3_0 := bK3_0
theorem wK3_0 : Wp O K3_0 Q σ h = Wp O bK3_0 Q σ h := rfl
abbrev bB3 : AC :=
  .seq (.region [⟨some 4, .box 10 (.t 1), none, 0⟩, ⟨some 6, .mv (.c (.bool false)), none, 1⟩] 1 false []) (.seq (.seq (.region [⟨some 22, .mv (.t 0), none, 0⟩, ⟨some 23, .call (.c (.fn 7 [])) [.t 22],
  none, 0⟩, ⟨some 24, .not (.t 23), none, 0⟩, ⟨some 25, .mv (.t 24), none, 0⟩, ⟨some 26, .off 3 (.t 4), some (25, false), 0⟩, ⟨some 27, .load (some 7) (.t 26), some (25, false), 0⟩, ⟨some 28, .call (.c
  (.fn 8 [])) [.t 27, .c (.int .i64 300)], some (25, false), 0⟩, ⟨some 29, .bin .gtr (.t 28) (.c (.int .i64 300)), some (25, false), 0⟩, ⟨some 30, .pick (.t 25) (.c (.bool true)) (.t 29), none, 0⟩, ⟨some
  31, .mv (.t 30), none, 0⟩, ⟨some 32, .mv (.t 2), some (31, false), 0⟩, ⟨some 33, .lenS (.t 32), some (31, false), 0⟩, ⟨some 34, .bin .gtr (.t 33) (.c (.int .i64 2000)), some (31, false), 0⟩, ⟨some 35,
  .pick (.t 31) (.c (.bool true)) (.t 34), none, 0⟩] 0 false []) (.cond (.t 35) (.seq (.region [⟨some 36, .call (.c (.fn 9 [])) [], none, 0⟩, ⟨some 6, .mv (.t 36), none, 0⟩] 0 false []) .ret) .skip))
  (.seq (.region [⟨some 38, .mv (.t 2), none, 0⟩, ⟨some 39, .call (.c (.fn 10 [])) [.t 38], none, 0⟩, ⟨some 37, .mv (.t 39), none, 0⟩, ⟨some 40, .ext (.t 37) 0, none, 0⟩, ⟨some 41, .ext (.t 37) 1, none,
  0⟩, ⟨some 42, .ext (.t 37) 2, none, 0⟩, ⟨some 7, .mv (.t 40), none, 0⟩, ⟨some 8, .mv (.t 41), none, 0⟩, ⟨some 9, .mv (.t 42), none, 0⟩] 0 false []) (.seq (.seq (.region [⟨some 43, .mv (.t 0), none, 0⟩,
  ⟨some 44, .mv (.t 7), none, 0⟩, ⟨some 45, .bslice 1 [.t 43, .t 44], none, 0⟩, ⟨some 46, .len (.t 45), none, 0⟩, ⟨some 47, .mv (.c (.int .i64 0)), none, 0⟩] 0 false []) (.block 0 (.loop L3_0))) K3_0)))
def B3 := bB3
theorem wB3 : Wp O B3 Q σ h = Wp O bB3 Q σ h := rfl
def F3 : AF := ⟨B3, [.tmp 6], false⟩
theorem tab3 : T 3 = some F3 := by kernel_rfl
/-- franking/frankinglaw02.AbnfLeaves -/
abbrev bL6_0 : AC :=
  .seq (.region [⟨some 60, .bin .lss (.t 59) (.t 58), none, 0⟩] 0 false []) (.seq (.cond (.t 60) .skip (.exit 0)) (.seq (.block 1 (.seq (.region [⟨some 61, .idx 7 (.t 57) (.t 59), none, 0⟩, ⟨some 62,
  .load (some 7) (.t 61), none, 0⟩, ⟨some 11, .alloc [.int .u8 0, .int .i64 0, .str [], .int .i64 0, .int .i64 0, .int .u8 0, .int .u8 0], none, 0⟩, ⟨none, .store 7 (.t 11) (.t 62), none, 1⟩] 1 false [])
  (.seq (.region [⟨some 63, .off 0 (.t 11), none, 0⟩, ⟨some 64, .load none (.t 63), none, 0⟩] 0 false []) (.block 2 (.seq (.seq (.region [⟨some 66, .bin .eql (.t 64) (.c (.int .u8 1)), none, 0⟩, ⟨some
  65, .mv (.t 66), none, 0⟩] 0 false []) (.cond (.t 65) .skip (.seq (.region [⟨some 67, .bin .eql (.t 64) (.c (.int .u8 10)), none, 0⟩, ⟨some 65, .mv (.t 67), none, 0⟩] 0 false []) (.cond (.t 65) .skip
  (.seq (.region [⟨some 68, .bin .eql (.t 64) (.c (.int .u8 11)), none, 0⟩, ⟨some 65, .mv (.t 68), none, 0⟩] 0 false []) (.cond (.t 65) .skip (.region [⟨some 69, .bin .eql (.t 64) (.c (.int .u8 12)),
  none, 0⟩, ⟨some 65, .mv (.t 69), none, 0⟩] 0 false []))))))) (.cond (.t 65) (.seq (.region [⟨some 70, .off 1 (.t 11), none, 0⟩, ⟨none, .store 1 (.t 70) (.c (.int .i64 0)), none, 0⟩] 0 false []) (.seq
  (.seq (.region [⟨some 71, .off 0 (.t 11), none, 0⟩, ⟨some 72, .load none (.t 71), none, 0⟩, ⟨some 73, .bin .eql (.t 72) (.c (.int .u8 1)), none, 0⟩] 0 false []) (.cond (.t 73) (.region [⟨some 74, .off
  2 (.t 11), none, 0⟩, ⟨some 75, .load none (.t 74), none, 0⟩, ⟨some 76, .call (.c (.fn 24 [])) [.t 75], none, 0⟩, ⟨some 77, .off 2 (.t 11), none, 0⟩, ⟨none, .store 1 (.t 77) (.t 76), none, 0⟩] 0 false
  []) .skip)) (.region [⟨some 78, .mv (.t 9), none, 0⟩, ⟨some 79, .load (some 7) (.t 11), none, 0⟩, ⟨some 80, .bslice 7 [.t 79], none, 0⟩, ⟨some 81, .append 7 56 57 (.t 78) (.t 80), none, 0⟩, ⟨some 9,
  .mv (.t 81), none, 1⟩] 1 false []))) .skip)))))) (.region [⟨some 82, .bin .add (.t 59) (.c (.int .i64 1)), none, 0⟩, ⟨some 59, .mv (.t 82), none, 0⟩] 0 false [])))
def L6_0 := bL6_0
theorem wL6_0 : Wp O L6_0 Q σ h = Wp O bL6_0 Q σ h := rfl
abbrev bL6_1 : AC :=
  .seq (.region [⟨some 86, .bin .lss (.t 85) (.t 84), none, 0⟩] 0 false []) (.seq (.cond (.t 86) .skip (.exit 3)) (.seq (.block 4 (.seq (.region [⟨some 87, .idx 10 (.t 83) (.t 85), none, 0⟩, ⟨some 88,
  .load (some 10) (.t 87), none, 0⟩, ⟨some 14, .alloc [.str [], .int .i64 0, .bool false, .int .u8 0, .str [], .int .u8 0, .int .u8 0, .int .i64 0, .int .i64 0, .list 7 [] .full], none, 0⟩, ⟨none, .store
  10 (.t 14) (.t 88), none, 1⟩] 1 false []) (.seq (.seq (.region [⟨some 89, .off 3 (.t 14), none, 0⟩, ⟨some 90, .load (some 7) (.t 89), none, 0⟩, ⟨some 91, .call (.c (.fn 14 [])) [.t 90], none, 0⟩, ⟨some
  92, .not (.t 91), none, 0⟩, ⟨some 93, .mv (.t 92), none, 0⟩, ⟨some 94, .off 1 (.t 14), some (93, false), 0⟩, ⟨some 95, .load none (.t 94), some (93, false), 0⟩, ⟨some 96, .bin .lss (.t 95) (.c (.int
  .i64 0)), some (93, false), 0⟩, ⟨some 97, .pick (.t 93) (.c (.bool true)) (.t 96), none, 0⟩, ⟨some 98, .mv (.t 97), none, 0⟩, ⟨some 99, .off 1 (.t 14), some (98, false), 0⟩, ⟨some 100, .load none (.t
  99), some (98, false), 0⟩, ⟨some 101, .off 0 (.t 14), some (98, false), 0⟩, ⟨some 102, .load none (.t 101), some (98, false), 0⟩, ⟨some 103, .lenS (.t 102), some (98, false), 0⟩, ⟨some 104, .bin .add
  (.t 100) (.t 103), some (98, false), 0⟩, ⟨some 105, .mv (.t 0), some (98, false), 0⟩, ⟨some 106, .lenS (.t 105), some (98, false), 0⟩, ⟨some 107, .bin .gtr (.t 104) (.t 106), some (98, false), 0⟩,
  ⟨some 108, .pick (.t 98) (.c (.bool true)) (.t 107), none, 0⟩, ⟨some 109, .mv (.t 108), none, 0⟩, ⟨some 110, .mv (.t 0), some (109, false), 0⟩, ⟨some 111, .off 1 (.t 14), some (109, false), 0⟩, ⟨some
  112, .load none (.t 111), some (109, false), 0⟩, ⟨some 113, .off 1 (.t 14), some (109, false), 0⟩, ⟨some 114, .load none (.t 113), some (109, false), 0⟩, ⟨some 115, .off 0 (.t 14), some (109, false),
  0⟩, ⟨some 116, .load none (.t 115), some (109, false), 0⟩, ⟨some 117, .lenS (.t 116), some (109, false), 0⟩, ⟨some 118, .bin .add (.t 114) (.t 117), some (109, false), 0⟩, ⟨some 119, .sliceS (.t 110)
  (some (.t 112)) (some (.t 118)), some (109, false), 0⟩, ⟨some 120, .call (.c (.fn 24 [])) [.t 119], some (109, false), 0⟩, ⟨some 121, .off 0 (.t 14), some (109, false), 0⟩, ⟨some 122, .load none (.t
  121), some (109, false), 0⟩, ⟨some 123, .bin .neq (.t 120) (.t 122), some (109, false), 0⟩, ⟨some 124, .pick (.t 109) (.c (.bool true)) (.t 123), none, 0⟩] 0 true [(31, 33)]) (.cond (.t 124) (.seq
  (.region [⟨some 2, .mv (.c (.bool false)), none, 0⟩] 0 false []) .ret) .skip)) (.region [⟨some 125, .off 3 (.t 14), none, 0⟩, ⟨some 126, .load (some 7) (.t 125), none, 0⟩, ⟨some 127, .mv (.t 12), none,
  0⟩, ⟨some 128, .off 0 (.t 14), none, 0⟩, ⟨some 129, .load none (.t 128), none, 0⟩, ⟨some 130, .build [.int .u8 0, .int .i64 0, .str [], .int .i64 0, .int .i64 0, .int .u8 0, .int .u8 0] [(0, 1, .c
  (.int .u8 1)), (2, 1, .t 129)], none, 0⟩, ⟨some 131, .bslice 7 [.t 130], none, 0⟩, ⟨some 132, .append 7 56 57 (.t 127) (.t 131), none, 0⟩, ⟨some 133, .call (.c (.fn 25 [])) [.t 126, .t 132], none, 1⟩,
  ⟨some 12, .mv (.t 133), none, 1⟩] 1 true [(1, 7)])))) (.region [⟨some 134, .bin .add (.t 85) (.c (.int .i64 1)), none, 0⟩, ⟨some 85, .mv (.t 134), none, 0⟩] 0 false [])))
def L6_1 := bL6_1
theorem wL6_1 : Wp O L6_1 Q σ h = Wp O bL6_1 Q σ h := rfl
abbrev bK6_0 : AC :=
  .seq (.region [⟨some 135, .mv (.t 12), none, 0⟩, ⟨some 136, .mv (.t 9), none, 0⟩, ⟨some 137, .call (.c (.fn 26 [])) [.t 135, .t 136], none, 0⟩, ⟨some 138, .mv (.t 137), none, 0⟩, ⟨some 139, .call (.c
  (.fn 9 [])) [], some (138, true), 0⟩, ⟨some 140, .pick (.t 138) (.t 139) (.c (.bool false)), none, 0⟩, ⟨some 2, .mv (.t 140), none, 0⟩] 0 false []) .ret
def K6_0 := bK6_0
theorem wK6_0 : Wp O K6_0 Q σ h = Wp O bK6_0 Q σ h := rfl
abbrev bK6_1 : AC :=
  .seq (.region [⟨some 12, .mv (.c (.list 7 [] .full)), none, 0⟩] 0 false []) (.seq (.seq (.region [⟨some 83, .mv (.t 6), none, 0⟩, ⟨some 84, .len (.t 83), none, 0⟩, ⟨some 85, .mv (.c (.int .i64 0)),
  none, 0⟩] 0 false []) (.block 3 (.loop L6_1))) K6_0)
def K6_1 := bK6_1
theorem wK6_1 : Wp O K6_1 Q σ h = Wp O bK6_1 Q σ h := rfl
abbrev bB6 : AC :=
  .seq (.region [⟨some 2, .mv (.c (.bool false)), none, 0⟩] 0 false []) (.seq (.seq (.region [⟨some 15, .mv (.t 0), none, 0⟩, ⟨some 16, .lenS (.t 15), none, 0⟩, ⟨some 17, .bin .gtr (.t 16) (.c (.int .i64
  3000)), none, 0⟩] 0 false []) (.cond (.t 17) (.seq (.region [⟨some 18, .call (.c (.fn 9 [])) [], none, 0⟩, ⟨some 2, .mv (.t 18), none, 0⟩] 0 false []) .ret) .skip)) (.seq (.region [⟨some 20, .mv (.t
  0), none, 0⟩, ⟨some 21, .call (.c (.fn 10 [])) [.t 20], none, 0⟩, ⟨some 19, .mv (.t 21), none, 0⟩, ⟨some 22, .ext (.t 19) 0, none, 0⟩, ⟨some 23, .ext (.t 19) 1, none, 0⟩, ⟨some 24, .ext (.t 19) 2,
  none, 0⟩, ⟨some 3, .mv (.t 22), none, 0⟩, ⟨some 4, .mv (.t 23), none, 0⟩, ⟨some 5, .mv (.t 24), none, 0⟩] 0 false []) (.seq (.region [⟨some 26, .mv (.t 3), none, 0⟩, ⟨some 27, .call (.c (.fn 11 []))
  [.t 26], none, 0⟩, ⟨some 25, .mv (.t 27), none, 0⟩, ⟨some 28, .ext (.t 25) 0, none, 0⟩, ⟨some 29, .ext (.t 25) 1, none, 0⟩, ⟨some 30, .ext (.t 25) 2, none, 0⟩, ⟨some 6, .mv (.t 28), none, 0⟩, ⟨some 7,
  .mv (.t 29), none, 0⟩, ⟨some 8, .mv (.t 30), none, 0⟩] 0 false []) (.seq (.seq (.region [⟨some 31, .mv (.t 5), none, 0⟩, ⟨some 32, .bin .neq (.t 31) (.c (.int .i64 0)), none, 0⟩, ⟨some 33, .mv (.t 32),
  none, 0⟩, ⟨some 34, .mv (.t 8), some (33, false), 0⟩, ⟨some 35, .bin .neq (.t 34) (.c (.int .i64 0)), some (33, false), 0⟩, ⟨some 36, .pick (.t 33) (.c (.bool true)) (.t 35), none, 0⟩] 0 false [])
  (.cond (.t 36) (.seq (.region [⟨some 37, .mv (.t 6), none, 0⟩, ⟨some 38, .len (.t 37), none, 0⟩, ⟨some 39, .bin .eql (.t 38) (.c (.int .i64 0)), none, 0⟩, ⟨some 40, .mv (.t 39), none, 0⟩, ⟨some 41, .mv
  (.t 8), some (40, true), 0⟩, ⟨some 42, .bin .eql (.t 41) (.c (.int .i64 0)), some (40, true), 0⟩, ⟨some 43, .mv (.t 42), some (40, true), 0⟩, ⟨some 44, .mv (.t 7), some (43, false), 0⟩, ⟨some 45, .bin
  .geq (.t 44) (.c (.int .i64 0)), some (43, false), 0⟩, ⟨some 46, .mv (.t 45), some (43, false), 0⟩, ⟨some 47, .mv (.t 7), some (46, true), 0⟩, ⟨some 48, .mv (.t 0), some (46, true), 0⟩, ⟨some 49, .lenS
  (.t 48), some (46, true), 0⟩, ⟨some 50, .bin .leq (.t 47) (.t 49), some (46, true), 0⟩, ⟨some 51, .pick (.t 46) (.t 50) (.c (.bool false)), some (43, false), 0⟩, ⟨some 52, .pick (.t 43) (.c (.bool
  true)) (.t 51), some (40, true), 0⟩, ⟨some 53, .pick (.t 40) (.t 52) (.c (.bool false)), none, 0⟩, ⟨some 54, .mv (.t 53), none, 0⟩, ⟨some 55, .call (.c (.fn 9 [])) [], some (54, true), 0⟩, ⟨some 56,
  .pick (.t 54) (.t 55) (.c (.bool false)), none, 0⟩, ⟨some 2, .mv (.t 56), none, 0⟩] 0 false []) .ret) .skip)) (.seq (.region [⟨some 9, .mv (.c (.list 7 [] .full)), none, 0⟩] 0 false []) (.seq (.seq
  (.region [⟨some 57, .mv (.t 3), none, 0⟩, ⟨some 58, .len (.t 57), none, 0⟩, ⟨some 59, .mv (.c (.int .i64 0)), none, 0⟩] 0 false []) (.block 0 (.loop L6_0))) K6_1))))))
def B6 := bB6
theorem wB6 : Wp O B6 Q σ h = Wp O bB6 Q σ h := rfl
def F6 : AF := ⟨B6, [.tmp 2], false⟩
theorem tab6 : T 6 = some F6 := by kernel_rfl
/-- franking/frankinglaw02.small -/
abbrev bB7 : AC :=
  .seq (.region [⟨some 2, .mv (.c (.bool false)), none, 0⟩] 0 false []) (.seq (.region [⟨some 3, .mv (.t 0), none, 0⟩, ⟨some 4, .len (.t 3), none, 0⟩, ⟨some 5, .bin .leq (.t 4) (.c (.int .i64 300)),
  none, 0⟩, ⟨some 2, .mv (.t 5), none, 0⟩] 0 false []) .ret)
def B7 := bB7
theorem wB7 : Wp O B7 Q σ h = Wp O bB7 Q σ h := rfl
def F7 : AF := ⟨B7, [.tmp 2], false⟩
theorem tab7 : T 7 = some F7 := by kernel_rfl
/-- franking/frankinglaw02.awake -/
abbrev bB9 : AC :=
  .seq (.region [⟨some 0, .mv (.c (.bool false)), none, 0⟩] 0 false []) (.seq (.region [⟨some 9, .build [.int .u8 0, .str [], .int .u8 0, .int .u8 0, .int .i64 0, .int .i64 0, .list 7 [] .full] [(0, 1,
  .c (.int .u8 1)), (1, 1, .c (.str [98]))], none, 0⟩, ⟨some 10, .build [.int .u8 0, .str [], .int .u8 0, .int .u8 0, .int .i64 0, .int .i64 0, .list 7 [] .full] [(0, 1, .c (.int .u8 1)), (1, 1, .c (.str
  [100]))], none, 0⟩, ⟨some 1, .alloc [.int .u8 0, .str [], .int .u8 0, .int .u8 0, .int .i64 0, .int .i64 0, .list 7 [] .full], none, 0⟩, ⟨some 2, .alloc [.int .u8 0, .str [], .int .u8 0, .int .u8 0,
  .int .i64 0, .int .i64 0, .list 7 [] .full], none, 1⟩, ⟨none, .store 7 (.t 1) (.t 9), none, 2⟩, ⟨none, .store 7 (.t 2) (.t 10), none, 2⟩] 2 false []) (.seq (.region [⟨some 11, .build [.int .u8 0, .str
  [], .int .u8 0, .int .u8 0, .int .i64 0, .int .i64 0, .list 7 [] .full] [(0, 1, .c (.int .u8 2)), (1, 1, .c (.str [120]))], none, 0⟩, ⟨some 12, .build [.int .u8 0, .str [], .int .u8 0, .int .u8 0, .int
  .i64 0, .int .i64 0, .list 7 [] .full] [(0, 1, .c (.int .u8 3)), (1, 1, .c (.str [65]))], none, 0⟩, ⟨some 13, .bslice 7 [.t 11, .t 12], none, 0⟩, ⟨some 14, .build [.int .u8 0, .str [], .int .u8 0, .int
  .u8 0, .int .i64 0, .int .i64 0, .list 7 [] .full] [(0, 1, .c (.int .u8 5)), (6, 1, .t 13)], none, 0⟩, ⟨some 3, .alloc [.int .u8 0, .str [], .int .u8 0, .int .u8 0, .int .i64 0, .int .i64 0, .list 7 []
  .full], none, 0⟩, ⟨none, .store 7 (.t 3) (.t 14), none, 1⟩] 1 false []) (.seq (.region [⟨some 15, .load (some 7) (.t 1), none, 0⟩, ⟨some 16, .bslice 7 [.t 15], none, 0⟩, ⟨some 17, .build [.int .u8 0,
  .str [], .int .u8 0, .int .u8 0, .int .i64 0, .int .i64 0, .list 7 [] .full] [(0, 1, .c (.int .u8 7)), (4, 1, .c (.int .i64 1)), (5, 1, .c (.int .i64 3)), (6, 1, .t 16)], none, 0⟩, ⟨some 18, .load
  (some 7) (.t 3), none, 0⟩, ⟨some 19, .bslice 7 [.t 18], none, 0⟩, ⟨some 20, .build [.int .u8 0, .str [], .int .u8 0, .int .u8 0, .int .i64 0, .int .i64 0, .list 7 [] .full] [(0, 1, .c (.int .u8 7)),
  (5, 1, .c (.int .i64 1)), (6, 1, .t 19)], none, 0⟩, ⟨some 21, .bslice 7 [.t 17, .t 20], none, 0⟩, ⟨some 22, .build [.int .u8 0, .str [], .int .u8 0, .int .u8 0, .int .i64 0, .int .i64 0, .list 7 []
  .full] [(0, 1, .c (.int .u8 6)), (6, 1, .t 21)], none, 0⟩, ⟨some 4, .alloc [.int .u8 0, .str [], .int .u8 0, .int .u8 0, .int .i64 0, .int .i64 0, .list 7 [] .full], none, 0⟩, ⟨none, .store 7 (.t 4)
  (.t 22), none, 1⟩] 1 false []) (.seq (.region [⟨some 23, .load (some 7) (.t 1), none, 0⟩, ⟨some 24, .build [.int .u8 0, .str [], .int .u8 0, .int .u8 0, .int .i64 0, .int .i64 0, .list 7 [] .full] [(0,
  1, .c (.int .u8 1)), (1, 1, .c (.str [99]))], none, 0⟩, ⟨some 25, .bslice 7 [.t 23, .t 24], none, 0⟩, ⟨some 26, .build [.int .u8 0, .str [], .int .u8 0, .int .u8 0, .int .i64 0, .int .i64 0, .list 7 []
  .full] [(0, 1, .c (.int .u8 6)), (6, 1, .t 25)], none, 0⟩, ⟨some 27, .load (some 7) (.t 2), none, 0⟩, ⟨some 28, .bslice 7 [.t 26, .t 27], none, 0⟩, ⟨some 29, .build [.int .u8 0, .str [], .int .u8 0,
  .int .u8 0, .int .i64 0, .int .i64 0, .list 7 [] .full] [(0, 1, .c (.int .u8 5)), (6, 1, .t 28)], none, 0⟩, ⟨some 5, .alloc [.int .u8 0, .str [], .int .u8 0, .int .u8 0, .int .i64 0, .int .i64 0, .list
  7 [] .full], none, 0⟩, ⟨none, .store 7 (.t 5) (.t 29), none, 1⟩] 1 false []) (.seq (.region [⟨some 31, .call (.c (.fn 21 [])) [.c (.str [97, 32, 61, 32, 49, 42, 51, 98, 32, 47, 32, 91, 34, 120, 34, 32,
  37, 120, 52, 49, 93, 10, 97, 32, 61, 32, 40, 98, 41, 10, 65, 32, 61, 32, 40, 40, 66, 32, 47, 32, 99, 41, 32, 100, 41, 10])], none, 0⟩, ⟨some 30, .mv (.t 31), none, 0⟩, ⟨some 32, .ext (.t 30) 0, none,
  0⟩, ⟨some 33, .ext (.t 30) 1, none, 0⟩, ⟨some 34, .ext (.t 30) 2, none, 0⟩, ⟨some 6, .mv (.t 32), none, 0⟩, ⟨some 7, .mv (.t 33), none, 0⟩, ⟨some 8, .mv (.t 34), none, 0⟩] 0 false []) (.seq (.seq
  (.region [⟨some 35, .mv (.t 8), none, 0⟩, ⟨some 36, .bin .neq (.t 35) (.c (.int .i64 0)), none, 0⟩, ⟨some 37, .mv (.t 36), none, 0⟩, ⟨some 38, .mv (.t 7), some (37, false), 0⟩, ⟨some 39, .bin .neq (.t
  38) (.c (.int .i64 0)), some (37, false), 0⟩, ⟨some 40, .pick (.t 37) (.c (.bool true)) (.t 39), none, 0⟩, ⟨some 41, .mv (.t 40), none, 0⟩, ⟨some 42, .mv (.t 6), some (41, false), 0⟩, ⟨some 43, .load
  (some 7) (.t 4), some (41, false), 0⟩, ⟨some 44, .build [.str [], .int .i64 0, .bool false, .int .u8 0, .str [], .int .u8 0, .int .u8 0, .int .i64 0, .int .i64 0, .list 7 [] .full] [(0, 1, .c (.str
  [97])), (3, 7, .t 43)], some (41, false), 0⟩, ⟨some 45, .load (some 7) (.t 1), some (41, false), 0⟩, ⟨some 46, .build [.str [], .int .i64 0, .bool false, .int .u8 0, .str [], .int .u8 0, .int .u8 0,
  .int .i64 0, .int .i64 0, .list 7 [] .full] [(0, 1, .c (.str [97])), (3, 7, .t 45)], some (41, false), 0⟩, ⟨some 47, .load (some 7) (.t 5), some (41, false), 0⟩, ⟨some 48, .build [.str [], .int .i64 0,
  .bool false, .int .u8 0, .str [], .int .u8 0, .int .u8 0, .int .i64 0, .int .i64 0, .list 7 [] .full] [(0, 1, .c (.str [97])), (3, 7, .t 47)], some (41, false), 0⟩, ⟨some 49, .bslice 10 [.t 44, .t 46,
  .t 48], some (41, false), 0⟩, ⟨some 50, .call (.c (.fn 13 [])) [.t 42, .t 49, .c (.bool false)], some (41, false), 0⟩, ⟨some 51, .not (.t 50), some (41, false), 0⟩, ⟨some 52, .pick (.t 41) (.c (.bool
  true)) (.t 51), none, 0⟩] 0 false []) (.cond (.t 52) (.seq (.region [⟨some 0, .mv (.c (.bool false)), none, 0⟩] 0 false []) .ret) .skip)) (.seq (.region [⟨some 53, .call (.c (.fn 28 [])) [.c (.str [97,
  32, 61, 32, 49, 42, 51, 98, 32, 47, 32, 91, 34, 120, 34, 32, 37, 120, 52, 49, 93]), .c (.str [97, 32, 61, 32, 49, 42, 51, 98, 32, 47, 32, 42, 49, 40, 34, 120, 34, 32, 37, 120, 52, 49, 41])], none, 0⟩,
  ⟨some 54, .mv (.t 53), none, 0⟩, ⟨some 55, .call (.c (.fn 28 [])) [.c (.str [97, 32, 61, 32, 40, 40, 98, 32, 47, 32, 99, 41, 32, 100, 41]), .c (.str [97, 32, 61, 32, 40, 98, 32, 47, 32, 99, 41, 32,
  100])], some (54, true), 0⟩, ⟨some 56, .pick (.t 54) (.t 55) (.c (.bool false)), none, 0⟩, ⟨some 57, .mv (.t 56), none, 0⟩, ⟨some 58, .call (.c (.fn 28 [])) [.c (.str [65, 32, 61, 32, 66]), .c (.str
  [97, 32, 61, 32, 98])], some (57, true), 0⟩, ⟨some 59, .pick (.t 57) (.t 58) (.c (.bool false)), none, 0⟩, ⟨some 60, .mv (.t 59), none, 0⟩, ⟨some 61, .call (.c (.fn 23 [])) [.c (.str [97, 32, 61, 32]),
  .c (.int .i64 4), .c (.int .i64 20)], some (60, true), 0⟩, ⟨some 62, .pick (.t 60) (.t 61) (.c (.bool false)), none, 0⟩, ⟨some 63, .mv (.t 62), none, 0⟩, ⟨some 64, .call (.c (.fn 23 [])) [.c (.str [97,
  32, 61, 32, 40, 98]), .c (.int .i64 6), .c (.int .i64 20)], some (63, true), 0⟩, ⟨some 65, .pick (.t 63) (.t 64) (.c (.bool false)), none, 0⟩, ⟨some 66, .mv (.t 65), none, 0⟩, ⟨some 67, .call (.c (.fn
  23 [])) [.c (.str [97, 32, 98]), .c (.int .i64 2), .c (.int .i64 20)], some (66, true), 0⟩, ⟨some 68, .pick (.t 66) (.t 67) (.c (.bool false)), none, 0⟩, ⟨some 0, .mv (.t 68), none, 0⟩] 0 false [])
  .ret)))))))
def B9 := bB9
theorem wB9 : Wp O B9 Q σ h = Wp O bB9 Q σ h := rfl
def F9 : AF := ⟨B9, [.tmp 0], false⟩
theorem tab9 : T 9 = some F9 := by kernel_rfl
/-- franking/frankinglaw02.Of -/
abbrev bB21 : AC :=
  .seq (.region [⟨some 2, .mv (.c (.list 10 [] .full)), none, 0⟩, ⟨some 3, .mv (.c (.int .i64 0)), none, 0⟩, ⟨some 4, .mv (.c (.int .i64 0)), none, 0⟩] 0 false []) (.seq (.region [⟨some 9, .mv (.t 0),
  none, 0⟩, ⟨some 10, .call (.c (.fn 10 [])) [.t 9], none, 0⟩, ⟨some 8, .mv (.t 10), none, 0⟩, ⟨some 11, .ext (.t 8) 0, none, 0⟩, ⟨some 12, .ext (.t 8) 1, none, 0⟩, ⟨some 13, .ext (.t 8) 2, none, 0⟩,
  ⟨some 5, .mv (.t 11), none, 0⟩, ⟨some 6, .mv (.t 12), none, 0⟩, ⟨some 7, .mv (.t 13), none, 0⟩] 0 false []) (.seq (.seq (.region [⟨some 14, .mv (.t 7), none, 0⟩, ⟨some 15, .bin .neq (.t 14) (.c (.int
  .i64 0)), none, 0⟩] 0 false []) (.cond (.t 15) (.seq (.region [⟨some 16, .mv (.t 6), none, 0⟩, ⟨some 17, .mv (.t 7), none, 0⟩, ⟨some 2, .mv (.c (.list 10 [] .full)), none, 0⟩, ⟨some 3, .mv (.t 16),
  none, 0⟩, ⟨some 4, .mv (.t 17), none, 0⟩] 0 false []) .ret) .skip)) (.seq (.region [⟨some 18, .mv (.t 5), none, 0⟩, ⟨some 19, .call (.c (.fn 11 [])) [.t 18], none, 0⟩, ⟨some 20, .ext (.t 19) 0, none,
  0⟩, ⟨some 21, .ext (.t 19) 1, none, 0⟩, ⟨some 22, .ext (.t 19) 2, none, 0⟩, ⟨some 2, .mv (.t 20), none, 0⟩, ⟨some 3, .mv (.t 21), none, 0⟩, ⟨some 4, .mv (.t 22), none, 0⟩] 0 false []) .ret)))
def B21 := bB21
theorem wB21 : Wp O B21 Q σ h = Wp O bB21 Q σ h := rfl
def F21 : AF := ⟨B21, [.tmp 2, .tmp 3, .tmp 4], false⟩
theorem tab21 : T 21 = some F21 := by kernel_rfl
/-- franking/frankinglaw02.fails -/
abbrev bB23 : AC :=
  .seq (.region [⟨some 6, .mv (.c (.bool false)), none, 0⟩] 0 false []) (.seq (.region [⟨some 11, .mv (.t 0), none, 0⟩, ⟨some 12, .call (.c (.fn 21 [])) [.t 11], none, 0⟩, ⟨some 10, .mv (.t 12), none,
  0⟩, ⟨some 13, .ext (.t 10) 0, none, 0⟩, ⟨some 14, .ext (.t 10) 1, none, 0⟩, ⟨some 15, .ext (.t 10) 2, none, 0⟩, ⟨some 7, .mv (.t 13), none, 0⟩, ⟨some 8, .mv (.t 14), none, 0⟩, ⟨some 9, .mv (.t 15),
  none, 0⟩] 0 false []) (.seq (.region [⟨some 16, .mv (.t 9), none, 0⟩, ⟨some 17, .mv (.t 2), none, 0⟩, ⟨some 18, .bin .eql (.t 16) (.t 17), none, 0⟩, ⟨some 19, .mv (.t 18), none, 0⟩, ⟨some 20, .mv (.t
  8), some (19, true), 0⟩, ⟨some 21, .mv (.t 1), some (19, true), 0⟩, ⟨some 22, .bin .eql (.t 20) (.t 21), some (19, true), 0⟩, ⟨some 23, .pick (.t 19) (.t 22) (.c (.bool false)), none, 0⟩, ⟨some 24, .mv
  (.t 23), none, 0⟩, ⟨some 25, .mv (.t 7), some (24, true), 0⟩, ⟨some 26, .len (.t 25), some (24, true), 0⟩, ⟨some 27, .bin .eql (.t 26) (.c (.int .i64 0)), some (24, true), 0⟩, ⟨some 28, .pick (.t 24)
  (.t 27) (.c (.bool false)), none, 0⟩, ⟨some 6, .mv (.t 28), none, 0⟩] 0 false []) .ret))
def B23 := bB23
theorem wB23 : Wp O B23 Q σ h = Wp O bB23 Q σ h := rfl
def F23 : AF := ⟨B23, [.tmp 6], false⟩
theorem tab23 : T 23 = some F23 := by kernel_rfl
/-- franking/frankinglaw02.leaves -/
abbrev bL25_0 : AC :=
  .seq (.region [⟨some 47, .bin .lss (.t 46) (.t 45), none, 0⟩] 0 false []) (.seq (.cond (.t 47) .skip (.exit 1)) (.seq (.block 2 (.seq (.region [⟨some 48, .idx 7 (.t 44) (.t 46), none, 0⟩, ⟨some 49,
  .load (some 7) (.t 48), none, 0⟩, ⟨some 6, .alloc [.int .u8 0, .str [], .int .u8 0, .int .u8 0, .int .i64 0, .int .i64 0, .list 7 [] .full], none, 0⟩, ⟨none, .store 7 (.t 6) (.t 49), none, 1⟩] 1 false
  []) (.region [⟨some 50, .load (some 7) (.t 6), none, 0⟩, ⟨some 51, .mv (.t 1), none, 0⟩, ⟨some 52, .call (.c (.fn 25 [])) [.t 50, .t 51], none, 0⟩, ⟨some 1, .mv (.t 52), none, 0⟩] 0 false [])))
  (.region [⟨some 53, .bin .add (.t 46) (.c (.int .i64 1)), none, 0⟩, ⟨some 46, .mv (.t 53), none, 0⟩] 0 false [])))
def L25_0 := bL25_0
theorem wL25_0 : Wp O L25_0 Q σ h = Wp O bL25_0 Q σ h := rfl
abbrev bK25_0 : AC :=
  .seq (.region [⟨some 54, .mv (.t 1), none, 0⟩, ⟨some 4, .mv (.t 54), none, 0⟩] 0 false []) .ret
def K25_0 := bK25_0
theorem wK25_0 : Wp O K25_0 Q σ h = Wp O bK25_0 Q σ h := rfl
abbrev bB25 : AC :=
  .seq (.region [⟨some 2, .box 7 (.t 0), none, 0⟩, ⟨some 4, .mv (.c (.list 7 [] .full)), none, 1⟩] 1 false []) (.seq (.seq (.region [⟨some 7, .off 0 (.t 2), none, 0⟩, ⟨some 8, .load none (.t 7), none,
  0⟩] 0 false []) (.block 0 (.seq (.region [⟨some 10, .bin .eql (.t 8) (.c (.int .u8 1)), none, 0⟩, ⟨some 9, .mv (.t 10), none, 0⟩] 0 false []) (.cond (.t 9) (.seq (.region [⟨some 11, .mv (.t 1), none,
  0⟩, ⟨some 12, .off 1 (.t 2), none, 0⟩, ⟨some 13, .load none (.t 12), none, 0⟩, ⟨some 14, .build [.int .u8 0, .int .i64 0, .str [], .int .i64 0, .int .i64 0, .int .u8 0, .int .u8 0] [(0, 1, .c (.int .u8
  1)), (2, 1, .t 13)], none, 0⟩, ⟨some 15, .bslice 7 [.t 14], none, 0⟩, ⟨some 16, .append 7 56 57 (.t 11) (.t 15), none, 0⟩, ⟨some 4, .mv (.t 16), none, 1⟩] 1 false []) .ret) (.seq (.region [⟨some 18,
  .bin .eql (.t 8) (.c (.int .u8 2)), none, 0⟩, ⟨some 17, .mv (.t 18), none, 0⟩] 0 false []) (.cond (.t 17) (.seq (.region [⟨some 19, .mv (.t 1), none, 0⟩, ⟨some 20, .off 1 (.t 2), none, 0⟩, ⟨some 21,
  .load none (.t 20), none, 0⟩, ⟨some 22, .build [.int .u8 0, .int .i64 0, .str [], .int .i64 0, .int .i64 0, .int .u8 0, .int .u8 0] [(0, 1, .c (.int .u8 10)), (2, 1, .t 21)], none, 0⟩, ⟨some 23,
  .bslice 7 [.t 22], none, 0⟩, ⟨some 24, .append 7 56 57 (.t 19) (.t 23), none, 0⟩, ⟨some 4, .mv (.t 24), none, 1⟩] 1 false []) .ret) (.seq (.region [⟨some 26, .bin .eql (.t 8) (.c (.int .u8 3)), none,
  0⟩, ⟨some 25, .mv (.t 26), none, 0⟩] 0 false []) (.cond (.t 25) (.seq (.region [⟨some 27, .mv (.t 1), none, 0⟩, ⟨some 28, .off 1 (.t 2), none, 0⟩, ⟨some 29, .load none (.t 28), none, 0⟩, ⟨some 30,
  .build [.int .u8 0, .int .i64 0, .str [], .int .i64 0, .int .i64 0, .int .u8 0, .int .u8 0] [(0, 1, .c (.int .u8 11)), (2, 1, .t 29)], none, 0⟩, ⟨some 31, .bslice 7 [.t 30], none, 0⟩, ⟨some 32, .append
  7 56 57 (.t 27) (.t 31), none, 0⟩, ⟨some 4, .mv (.t 32), none, 1⟩] 1 false []) .ret) (.seq (.region [⟨some 34, .bin .eql (.t 8) (.c (.int .u8 4)), none, 0⟩, ⟨some 33, .mv (.t 34), none, 0⟩] 0 false [])
  (.cond (.t 33) (.seq (.region [⟨some 35, .mv (.t 1), none, 0⟩, ⟨some 36, .off 2 (.t 2), none, 0⟩, ⟨some 37, .load none (.t 36), none, 0⟩, ⟨some 38, .off 3 (.t 2), none, 0⟩, ⟨some 39, .load none (.t
  38), none, 0⟩, ⟨some 40, .build [.int .u8 0, .int .i64 0, .str [], .int .i64 0, .int .i64 0, .int .u8 0, .int .u8 0] [(0, 1, .c (.int .u8 12)), (5, 1, .t 37), (6, 1, .t 39)], none, 0⟩, ⟨some 41,
  .bslice 7 [.t 40], none, 0⟩, ⟨some 42, .append 7 56 57 (.t 35) (.t 41), none, 0⟩, ⟨some 4, .mv (.t 42), none, 1⟩] 1 false []) .ret) .skip)))))))))) (.seq (.seq (.region [⟨some 43, .off 6 (.t 2), none,
  0⟩, ⟨some 44, .load none (.t 43), none, 0⟩, ⟨some 45, .len (.t 44), none, 0⟩, ⟨some 46, .mv (.c (.int .i64 0)), none, 0⟩] 0 false []) (.block 1 (.loop L25_0))) K25_0))
def B25 := bB25
theorem wB25 : Wp O B25 Q σ h = Wp O bB25 Q σ h := rfl
def F25 : AF := ⟨B25, [.tmp 4], true⟩
theorem tab25 : T 25 = some F25 := by kernel_rfl
/-- franking/frankinglaw02.prints -/
abbrev bB28 : AC :=
  .seq (.region [⟨some 4, .mv (.c (.bool false)), none, 0⟩] 0 false []) (.seq (.region [⟨some 11, .mv (.t 0), none, 0⟩, ⟨some 12, .call (.c (.fn 21 [])) [.t 11], none, 0⟩, ⟨some 10, .mv (.t 12), none,
  0⟩, ⟨some 13, .ext (.t 10) 0, none, 0⟩, ⟨some 14, .ext (.t 10) 1, none, 0⟩, ⟨some 15, .ext (.t 10) 2, none, 0⟩, ⟨some 5, .mv (.t 13), none, 0⟩, ⟨some 6, .mv (.t 14), none, 0⟩, ⟨some 7, .mv (.t 15),
  none, 0⟩] 0 false []) (.seq (.seq (.region [⟨some 16, .mv (.t 7), none, 0⟩, ⟨some 17, .bin .neq (.t 16) (.c (.int .i64 0)), none, 0⟩, ⟨some 18, .mv (.t 17), none, 0⟩, ⟨some 19, .mv (.t 5), some (18,
  false), 0⟩, ⟨some 20, .len (.t 19), some (18, false), 0⟩, ⟨some 21, .bin .neq (.t 20) (.c (.int .i64 1)), some (18, false), 0⟩, ⟨some 22, .pick (.t 18) (.c (.bool true)) (.t 21), none, 0⟩] 0 false [])
  (.cond (.t 22) (.seq (.region [⟨some 4, .mv (.c (.bool false)), none, 0⟩] 0 false []) .ret) .skip)) (.seq (.region [⟨some 24, .mv (.t 5), none, 0⟩, ⟨some 25, .idx 10 (.t 24) (.c (.int .i64 0)), none,
  0⟩, ⟨some 26, .load (some 10) (.t 25), none, 0⟩, ⟨some 27, .call (.c (.fn 16 [])) [.t 26], none, 0⟩, ⟨some 23, .mv (.t 27), none, 0⟩, ⟨some 28, .ext (.t 23) 0, none, 0⟩, ⟨some 29, .ext (.t 23) 1, none,
  0⟩, ⟨some 8, .mv (.t 28), none, 0⟩, ⟨some 9, .mv (.t 29), none, 0⟩] 0 false []) (.seq (.region [⟨some 30, .mv (.t 9), none, 0⟩, ⟨some 31, .bin .eql (.t 30) (.c (.int .i64 0)), none, 0⟩, ⟨some 32, .mv
  (.t 31), none, 0⟩, ⟨some 33, .mv (.t 8), some (32, true), 0⟩, ⟨some 34, .mv (.t 1), some (32, true), 0⟩, ⟨some 35, .bin .eql (.t 33) (.t 34), some (32, true), 0⟩, ⟨some 36, .pick (.t 32) (.t 35) (.c
  (.bool false)), none, 0⟩, ⟨some 4, .mv (.t 36), none, 0⟩] 0 false []) .ret))))
def B28 := bB28
theorem wB28 : Wp O B28 Q σ h = Wp O bB28 Q σ h := rfl
def F28 : AF := ⟨B28, [.tmp 4], false⟩
theorem tab28 : T 28 = some F28 := by kernel_rfl
theorem mixed : Tryz.prog.follows .mixedOrders = true := by kernel_rfl
end Go.Proofs.YtmmapbhhkmchcaaGreatDoor
