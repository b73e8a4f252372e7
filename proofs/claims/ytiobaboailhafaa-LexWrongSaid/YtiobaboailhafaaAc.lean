/-
  The abstract code of the functions that the laws reach.
-/
import Derived.Test.YtiobaboailhafaaProg
import Derived.Test.YtiobaboailhafaaAmC
import Derived.KernelRfl
set_option linter.unusedVariables false
set_option maxRecDepth 100000
namespace Go.Proofs.Ytiobaboailhafaa
open Go Go.Am
noncomputable def T : FuncId → Option AF := table Try.prog [] ["franking/lex.rows", "franking/lex.rows$1", "franking/lex.sign", "franking/lex.value$1"]
variable {O : Orc} {Q : Ex → Slots → Heap → Prop} {σ : Slots} {h : Heap}
/-- strings.HasPrefix -/
abbrev bB12 : AC :=
  .seq (.region [⟨some 4, .mv (.c (.bool false)), none, 0⟩] 0 false []) (.seq (.region [⟨some 5, .mv (.t 0), none, 0⟩, ⟨some 6, .mv (.t 1), none, 0⟩, ⟨some 7, .call (.c (.fn 31 [])) [.t 5, .t 6], none,
  0⟩, ⟨some 4, .mv (.t 7), none, 0⟩] 0 false []) .ret)
def B12 := bB12
theorem wB12 : Wp O B12 Q σ h = Wp O bB12 Q σ h := rfl
def F12 : AF := ⟨B12, [.tmp 4], false⟩
theorem tab12 : T 12 = some F12 := by kernel_rfl
/-- internal/stringslite.HasPrefix -/
abbrev bB31 : AC :=
  .seq (.region [⟨some 4, .mv (.c (.bool false)), none, 0⟩] 0 false []) (.seq (.region [⟨some 5, .mv (.t 0), none, 0⟩, ⟨some 6, .lenS (.t 5), none, 0⟩, ⟨some 7, .mv (.t 1), none, 0⟩, ⟨some 8, .lenS (.t
  7), none, 0⟩, ⟨some 9, .bin .geq (.t 6) (.t 8), none, 0⟩, ⟨some 10, .mv (.t 9), none, 0⟩, ⟨some 11, .mv (.t 0), some (10, true), 0⟩, ⟨some 12, .mv (.t 1), some (10, true), 0⟩, ⟨some 13, .lenS (.t 12),
  some (10, true), 0⟩, ⟨some 14, .sliceS (.t 11) none (some (.t 13)), some (10, true), 0⟩, ⟨some 15, .mv (.t 1), some (10, true), 0⟩, ⟨some 16, .bin .eql (.t 14) (.t 15), some (10, true), 0⟩, ⟨some 17,
  .pick (.t 10) (.t 16) (.c (.bool false)), none, 0⟩, ⟨some 4, .mv (.t 17), none, 0⟩] 0 false []) .ret)
def B31 := bB31
theorem wB31 : Wp O B31 Q σ h = Wp O bB31 Q σ h := rfl
def F31 : AF := ⟨B31, [.tmp 4], false⟩
theorem tab31 : T 31 = some F31 := by kernel_rfl
/-- strings.TrimSuffix -/
abbrev bB21 : AC :=
  .seq (.region [⟨some 4, .mv (.c (.str [])), none, 0⟩] 0 false []) (.seq (.region [⟨some 5, .mv (.t 0), none, 0⟩, ⟨some 6, .mv (.t 1), none, 0⟩, ⟨some 7, .call (.c (.fn 52 [])) [.t 5, .t 6], none, 0⟩,
  ⟨some 4, .mv (.t 7), none, 0⟩] 0 false []) .ret)
def B21 := bB21
theorem wB21 : Wp O B21 Q σ h = Wp O bB21 Q σ h := rfl
def F21 : AF := ⟨B21, [.tmp 4], false⟩
theorem tab21 : T 21 = some F21 := by kernel_rfl
/-- internal/stringslite.TrimSuffix -/
abbrev bB52 : AC :=
  .seq (.region [⟨some 4, .mv (.c (.str [])), none, 0⟩] 0 false []) (.seq (.seq (.region [⟨some 5, .mv (.t 0), none, 0⟩, ⟨some 6, .mv (.t 1), none, 0⟩, ⟨some 7, .call (.c (.fn 69 [])) [.t 5, .t 6], none,
  0⟩] 0 false []) (.cond (.t 7) (.seq (.region [⟨some 8, .mv (.t 0), none, 0⟩, ⟨some 9, .mv (.t 0), none, 0⟩, ⟨some 10, .lenS (.t 9), none, 0⟩, ⟨some 11, .mv (.t 1), none, 0⟩, ⟨some 12, .lenS (.t 11),
  none, 0⟩, ⟨some 13, .bin .sub (.t 10) (.t 12), none, 0⟩, ⟨some 14, .sliceS (.t 8) none (some (.t 13)), none, 0⟩, ⟨some 4, .mv (.t 14), none, 0⟩] 0 false []) .ret) .skip)) (.seq (.region [⟨some 15, .mv
  (.t 0), none, 0⟩, ⟨some 4, .mv (.t 15), none, 0⟩] 0 false []) .ret))
def B52 := bB52
theorem wB52 : Wp O B52 Q σ h = Wp O bB52 Q σ h := rfl
def F52 : AF := ⟨B52, [.tmp 4], false⟩
theorem tab52 : T 52 = some F52 := by kernel_rfl
/-- internal/stringslite.HasSuffix -/
abbrev bB69 : AC :=
  .seq (.region [⟨some 4, .mv (.c (.bool false)), none, 0⟩] 0 false []) (.seq (.region [⟨some 5, .mv (.t 0), none, 0⟩, ⟨some 6, .lenS (.t 5), none, 0⟩, ⟨some 7, .mv (.t 1), none, 0⟩, ⟨some 8, .lenS (.t
  7), none, 0⟩, ⟨some 9, .bin .geq (.t 6) (.t 8), none, 0⟩, ⟨some 10, .mv (.t 9), none, 0⟩, ⟨some 11, .mv (.t 0), some (10, true), 0⟩, ⟨some 12, .mv (.t 0), some (10, true), 0⟩, ⟨some 13, .lenS (.t 12),
  some (10, true), 0⟩, ⟨some 14, .mv (.t 1), some (10, true), 0⟩, ⟨some 15, .lenS (.t 14), some (10, true), 0⟩, ⟨some 16, .bin .sub (.t 13) (.t 15), some (10, true), 0⟩, ⟨some 17, .sliceS (.t 11) (some
  (.t 16)) none, some (10, true), 0⟩, ⟨some 18, .mv (.t 1), some (10, true), 0⟩, ⟨some 19, .bin .eql (.t 17) (.t 18), some (10, true), 0⟩, ⟨some 20, .pick (.t 10) (.t 19) (.c (.bool false)), none, 0⟩,
  ⟨some 4, .mv (.t 20), none, 0⟩] 0 false []) .ret)
def B69 := bB69
theorem wB69 : Wp O B69 Q σ h = Wp O bB69 Q σ h := rfl
def F69 : AF := ⟨B69, [.tmp 4], false⟩
theorem tab69 : T 69 = some F69 := by kernel_rfl
/-- strings.Contains -/
abbrev bB15 : AC :=
  .seq (.region [⟨some 4, .mv (.c (.bool false)), none, 0⟩] 0 false []) (.seq (.region [⟨some 5, .mv (.t 0), none, 0⟩, ⟨some 6, .mv (.t 1), none, 0⟩, ⟨some 7, .call (.c (.fn 32 [])) [.t 5, .t 6], none,
  0⟩, ⟨some 8, .bin .geq (.t 7) (.c (.int .i64 0)), none, 0⟩, ⟨some 4, .mv (.t 8), none, 0⟩] 0 false []) .ret)
def B15 := bB15
theorem wB15 : Wp O B15 Q σ h = Wp O bB15 Q σ h := rfl
def F15 : AF := ⟨B15, [.tmp 4], false⟩
theorem tab15 : T 15 = some F15 := by kernel_rfl
/-- strings.Index -/
abbrev bB32 : AC :=
  .seq (.region [⟨some 4, .mv (.c (.int .i64 0)), none, 0⟩] 0 false []) (.seq (.region [⟨some 5, .mv (.t 0), none, 0⟩, ⟨some 6, .mv (.t 1), none, 0⟩, ⟨some 7, .call (.c (.fn 57 [])) [.t 5, .t 6], none,
  0⟩, ⟨some 4, .mv (.t 7), none, 0⟩] 0 false []) .ret)
def B32 := bB32
theorem wB32 : Wp O B32 Q σ h = Wp O bB32 Q σ h := rfl
def F32 : AF := ⟨B32, [.tmp 4], false⟩
theorem tab32 : T 32 = some F32 := by kernel_rfl
/-- internal/stringslite.Index -/
abbrev bL57_0 : AC :=
  .seq (.seq (.region [⟨some 57, .mv (.t 8), none, 0⟩, ⟨some 58, .mv (.t 9), none, 0⟩, ⟨some 59, .bin .lss (.t 57) (.t 58), none, 0⟩] 0 false []) (.cond (.t 59) .skip (.exit 1))) (.block 2 (.seq (.seq
  (.region [⟨some 60, .mv (.t 0), none, 0⟩, ⟨some 61, .mv (.t 8), none, 0⟩, ⟨some 62, .indexS (.t 60) (.t 61), none, 0⟩, ⟨some 63, .mv (.t 6), none, 0⟩, ⟨some 64, .bin .neq (.t 62) (.t 63), none, 0⟩] 0
  false []) (.cond (.t 64) (.seq (.region [⟨some 65, .mv (.t 0), none, 0⟩, ⟨some 66, .mv (.t 8), none, 0⟩, ⟨some 67, .bin .add (.t 66) (.c (.int .i64 1)), none, 0⟩, ⟨some 68, .mv (.t 9), none, 0⟩, ⟨some
  69, .sliceS (.t 65) (some (.t 67)) (some (.t 68)), none, 0⟩, ⟨some 70, .mv (.t 6), none, 0⟩, ⟨some 71, .call (.c (.fn 71 [])) [.t 69, .t 70], none, 0⟩, ⟨some 11, .mv (.t 71), none, 0⟩] 0 false [])
  (.seq (.seq (.region [⟨some 72, .mv (.t 11), none, 0⟩, ⟨some 73, .bin .lss (.t 72) (.c (.int .i64 0)), none, 0⟩] 0 false []) (.cond (.t 73) (.seq (.region [⟨some 4, .mv (.c (.int .i64 (-1))), none, 0⟩]
  0 false []) .ret) .skip)) (.region [⟨some 74, .mv (.t 8), none, 0⟩, ⟨some 75, .mv (.t 11), none, 0⟩, ⟨some 76, .bin .add (.t 75) (.c (.int .i64 1)), none, 0⟩, ⟨some 77, .bin .add (.t 74) (.t 76), none,
  0⟩, ⟨some 8, .mv (.t 77), none, 0⟩] 0 false []))) .skip)) (.seq (.seq (.region [⟨some 78, .mv (.t 0), none, 0⟩, ⟨some 79, .mv (.t 8), none, 0⟩, ⟨some 80, .bin .add (.t 79) (.c (.int .i64 1)), none, 0⟩,
  ⟨some 81, .indexS (.t 78) (.t 80), none, 0⟩, ⟨some 82, .mv (.t 7), none, 0⟩, ⟨some 83, .bin .eql (.t 81) (.t 82), none, 0⟩, ⟨some 84, .mv (.t 83), none, 0⟩, ⟨some 85, .mv (.t 0), some (84, true), 0⟩,
  ⟨some 86, .mv (.t 8), some (84, true), 0⟩, ⟨some 87, .mv (.t 8), some (84, true), 0⟩, ⟨some 88, .mv (.t 5), some (84, true), 0⟩, ⟨some 89, .bin .add (.t 87) (.t 88), some (84, true), 0⟩, ⟨some 90,
  .sliceS (.t 85) (some (.t 86)) (some (.t 89)), some (84, true), 0⟩, ⟨some 91, .mv (.t 1), some (84, true), 0⟩, ⟨some 92, .bin .eql (.t 90) (.t 91), some (84, true), 0⟩, ⟨some 93, .pick (.t 84) (.t 92)
  (.c (.bool false)), none, 0⟩] 0 false []) (.cond (.t 93) (.seq (.region [⟨some 94, .mv (.t 8), none, 0⟩, ⟨some 4, .mv (.t 94), none, 0⟩] 0 false []) .ret) .skip)) (.seq (.region [⟨some 95, .mv (.t 8),
  none, 0⟩, ⟨some 96, .bin .add (.t 95) (.c (.int .i64 1)), none, 0⟩, ⟨some 8, .mv (.t 96), none, 0⟩] 0 false []) (.seq (.region [⟨some 97, .mv (.t 10), none, 0⟩, ⟨some 98, .bin .add (.t 97) (.c (.int
  .i64 1)), none, 0⟩, ⟨some 10, .mv (.t 98), none, 0⟩] 0 false []) (.seq (.region [⟨some 99, .mv (.t 5), none, 0⟩, ⟨some 100, .fail, none, 0⟩, ⟨some 101, .bin .leq (.t 99) (.t 100), none, 0⟩, ⟨some 102,
  .mv (.t 101), none, 0⟩, ⟨some 103, .mv (.t 10), some (102, true), 0⟩, ⟨some 104, .mv (.t 8), some (102, true), 0⟩, ⟨some 105, .call (.c (.fn 73 [])) [.t 104], some (102, true), 0⟩, ⟨some 106, .bin .gtr
  (.t 103) (.t 105), some (102, true), 0⟩, ⟨some 107, .pick (.t 102) (.t 106) (.c (.bool false)), none, 0⟩] 0 false []) (.cond (.t 107) (.seq (.region [⟨some 108, .mv (.t 0), none, 0⟩, ⟨some 109, .mv (.t
  8), none, 0⟩, ⟨some 110, .sliceS (.t 108) (some (.t 109)) none, none, 0⟩, ⟨some 111, .mv (.t 1), none, 0⟩, ⟨some 112, .call (.c (.fn 72 [])) [.t 110, .t 111], none, 0⟩, ⟨some 12, .mv (.t 112), none,
  0⟩] 0 false []) (.seq (.seq (.region [⟨some 113, .mv (.t 12), none, 0⟩, ⟨some 114, .bin .geq (.t 113) (.c (.int .i64 0)), none, 0⟩] 0 false []) (.cond (.t 114) (.seq (.region [⟨some 115, .mv (.t 12),
  none, 0⟩, ⟨some 116, .mv (.t 8), none, 0⟩, ⟨some 117, .bin .add (.t 115) (.t 116), none, 0⟩, ⟨some 4, .mv (.t 117), none, 0⟩] 0 false []) .ret) .skip)) (.seq (.region [⟨some 4, .mv (.c (.int .i64
  (-1))), none, 0⟩] 0 false []) .ret))) (.seq (.region [⟨some 118, .mv (.t 5), none, 0⟩, ⟨some 119, .fail, none, 0⟩, ⟨some 120, .bin .gtr (.t 118) (.t 119), none, 0⟩, ⟨some 121, .mv (.t 120), none, 0⟩,
  ⟨some 122, .mv (.t 10), some (121, true), 0⟩, ⟨some 123, .mv (.t 8), some (121, true), 0⟩, ⟨some 124, .bin .shr (.t 123) (.c (.int .u64 4)), some (121, true), 0⟩, ⟨some 125, .bin .add (.c (.int .i64
  4)) (.t 124), some (121, true), 0⟩, ⟨some 126, .bin .geq (.t 122) (.t 125), some (121, true), 0⟩, ⟨some 127, .pick (.t 121) (.t 126) (.c (.bool false)), none, 0⟩, ⟨some 128, .mv (.t 127), none, 0⟩,
  ⟨some 129, .mv (.t 8), some (128, true), 0⟩, ⟨some 130, .mv (.t 9), some (128, true), 0⟩, ⟨some 131, .bin .lss (.t 129) (.t 130), some (128, true), 0⟩, ⟨some 132, .pick (.t 128) (.t 131) (.c (.bool
  false)), none, 0⟩] 0 false []) (.cond (.t 132) (.seq (.region [⟨some 133, .mv (.t 0), none, 0⟩, ⟨some 134, .mv (.t 8), none, 0⟩, ⟨some 135, .sliceS (.t 133) (some (.t 134)) none, none, 0⟩, ⟨some 136,
  .mv (.t 1), none, 0⟩, ⟨some 137, .call (.c (.fn 74 [])) [.t 135, .t 136], none, 0⟩, ⟨some 13, .mv (.t 137), none, 0⟩] 0 false []) (.seq (.seq (.region [⟨some 138, .mv (.t 13), none, 0⟩, ⟨some 139, .bin
  .lss (.t 138) (.c (.int .i64 0)), none, 0⟩] 0 false []) (.cond (.t 139) (.seq (.region [⟨some 4, .mv (.c (.int .i64 (-1))), none, 0⟩] 0 false []) .ret) .skip)) (.seq (.region [⟨some 140, .mv (.t 8),
  none, 0⟩, ⟨some 141, .mv (.t 13), none, 0⟩, ⟨some 142, .bin .add (.t 140) (.t 141), none, 0⟩, ⟨some 4, .mv (.t 142), none, 0⟩] 0 false []) .ret))) .skip)))))))))
def L57_0 := bL57_0
theorem wL57_0 : Wp O L57_0 Q σ h = Wp O bL57_0 Q σ h := rfl
abbrev bK57_0 : AC :=
  .seq (.region [⟨some 4, .mv (.c (.int .i64 (-1))), none, 0⟩] 0 false []) .ret
def K57_0 := bK57_0
theorem wK57_0 : Wp O K57_0 Q σ h = Wp O bK57_0 Q σ h := rfl
abbrev bB57 : AC :=
  .seq (.region [⟨some 4, .mv (.c (.int .i64 0)), none, 0⟩] 0 false []) (.seq (.region [⟨some 14, .mv (.t 1), none, 0⟩, ⟨some 15, .lenS (.t 14), none, 0⟩, ⟨some 5, .mv (.t 15), none, 0⟩] 0 false [])
  (.seq (.block 0 (.seq (.region [⟨some 17, .mv (.t 5), none, 0⟩, ⟨some 18, .bin .eql (.t 17) (.c (.int .i64 0)), none, 0⟩, ⟨some 19, .mv (.t 18), none, 0⟩, ⟨some 20, .mv (.t 1), some (19, false), 0⟩,
  ⟨some 21, .mv (.t 0), some (19, false), 0⟩, ⟨some 22, .bin .eql (.t 20) (.t 21), some (19, false), 0⟩, ⟨some 23, .pick (.t 19) (.c (.bool true)) (.t 22), none, 0⟩, ⟨some 16, .mv (.t 23), none, 0⟩] 0
  false []) (.cond (.t 16) (.seq (.region [⟨some 4, .mv (.c (.int .i64 0)), none, 0⟩] 0 false []) .ret) (.seq (.region [⟨some 25, .mv (.t 5), none, 0⟩, ⟨some 26, .bin .eql (.t 25) (.c (.int .i64 1)),
  none, 0⟩, ⟨some 24, .mv (.t 26), none, 0⟩] 0 false []) (.cond (.t 24) (.seq (.region [⟨some 27, .mv (.t 0), none, 0⟩, ⟨some 28, .mv (.t 1), none, 0⟩, ⟨some 29, .indexS (.t 28) (.c (.int .i64 0)), none,
  0⟩, ⟨some 30, .call (.c (.fn 71 [])) [.t 27, .t 29], none, 0⟩, ⟨some 4, .mv (.t 30), none, 0⟩] 0 false []) .ret) (.seq (.region [⟨some 32, .mv (.t 5), none, 0⟩, ⟨some 33, .mv (.t 0), none, 0⟩, ⟨some
  34, .lenS (.t 33), none, 0⟩, ⟨some 35, .bin .geq (.t 32) (.t 34), none, 0⟩, ⟨some 31, .mv (.t 35), none, 0⟩] 0 false []) (.cond (.t 31) (.seq (.region [⟨some 4, .mv (.c (.int .i64 (-1))), none, 0⟩] 0
  false []) .ret) (.seq (.region [⟨some 37, .mv (.t 5), none, 0⟩, ⟨some 38, .fail, none, 0⟩, ⟨some 39, .bin .leq (.t 37) (.t 38), none, 0⟩, ⟨some 40, .mv (.t 39), none, 0⟩, ⟨some 41, .mv (.t 0), some
  (40, true), 0⟩, ⟨some 42, .lenS (.t 41), some (40, true), 0⟩, ⟨some 43, .bin .leq (.t 42) (.c (.int .i64 64)), some (40, true), 0⟩, ⟨some 44, .pick (.t 40) (.t 43) (.c (.bool false)), none, 0⟩, ⟨some
  36, .mv (.t 44), none, 0⟩] 0 false []) (.cond (.t 36) (.seq (.region [⟨some 45, .mv (.t 0), none, 0⟩, ⟨some 46, .mv (.t 1), none, 0⟩, ⟨some 47, .call (.c (.fn 72 [])) [.t 45, .t 46], none, 0⟩, ⟨some 4,
  .mv (.t 47), none, 0⟩] 0 false []) .ret) .skip))))))))) (.seq (.region [⟨some 48, .mv (.t 1), none, 0⟩, ⟨some 49, .indexS (.t 48) (.c (.int .i64 0)), none, 0⟩, ⟨some 6, .mv (.t 49), none, 0⟩] 0 false
  []) (.seq (.region [⟨some 50, .mv (.t 1), none, 0⟩, ⟨some 51, .indexS (.t 50) (.c (.int .i64 1)), none, 0⟩, ⟨some 7, .mv (.t 51), none, 0⟩] 0 false []) (.seq (.region [⟨some 8, .mv (.c (.int .i64 0)),
  none, 0⟩] 0 false []) (.seq (.region [⟨some 52, .mv (.t 0), none, 0⟩, ⟨some 53, .lenS (.t 52), none, 0⟩, ⟨some 54, .mv (.t 5), none, 0⟩, ⟨some 55, .bin .sub (.t 53) (.t 54), none, 0⟩, ⟨some 56, .bin
  .add (.t 55) (.c (.int .i64 1)), none, 0⟩, ⟨some 9, .mv (.t 56), none, 0⟩] 0 false []) (.seq (.region [⟨some 10, .mv (.c (.int .i64 0)), none, 0⟩] 0 false []) (.seq (.block 1 (.loop L57_0))
  K57_0))))))))
def B57 := bB57
theorem wB57 : Wp O B57 Q σ h = Wp O bB57 Q σ h := rfl
def F57 : AF := ⟨B57, [.tmp 4], false⟩
theorem tab57 : T 57 = some F57 := by kernel_rfl
/-- internal/stringslite.IndexByte -/
abbrev bB71 : AC :=
  .seq (.region [⟨some 4, .mv (.c (.int .i64 0)), none, 0⟩] 0 false []) (.seq (.region [⟨some 5, .mv (.t 0), none, 0⟩, ⟨some 6, .mv (.t 1), none, 0⟩, ⟨some 7, .call (.c (.fn 78 [])) [.t 5, .t 6], none,
  0⟩, ⟨some 4, .mv (.t 7), none, 0⟩] 0 false []) .ret)
def B71 := bB71
theorem wB71 : Wp O B71 Q σ h = Wp O bB71 Q σ h := rfl
def F71 : AF := ⟨B71, [.tmp 4], false⟩
theorem tab71 : T 71 = some F71 := by kernel_rfl
/-- strings.Cut -/
abbrev bB20 : AC :=
  .seq (.region [⟨some 4, .mv (.c (.str [])), none, 0⟩, ⟨some 5, .mv (.c (.str [])), none, 0⟩, ⟨some 6, .mv (.c (.bool false)), none, 0⟩] 0 false []) (.seq (.region [⟨some 7, .mv (.t 0), none, 0⟩, ⟨some
  8, .mv (.t 1), none, 0⟩, ⟨some 9, .call (.c (.fn 51 [])) [.t 7, .t 8], none, 0⟩, ⟨some 10, .ext (.t 9) 0, none, 0⟩, ⟨some 11, .ext (.t 9) 1, none, 0⟩, ⟨some 12, .ext (.t 9) 2, none, 0⟩, ⟨some 4, .mv
  (.t 10), none, 0⟩, ⟨some 5, .mv (.t 11), none, 0⟩, ⟨some 6, .mv (.t 12), none, 0⟩] 0 false []) .ret)
def B20 := bB20
theorem wB20 : Wp O B20 Q σ h = Wp O bB20 Q σ h := rfl
def F20 : AF := ⟨B20, [.tmp 4, .tmp 5, .tmp 6], false⟩
theorem tab20 : T 20 = some F20 := by kernel_rfl
/-- internal/stringslite.Cut -/
abbrev bB51 : AC :=
  .seq (.region [⟨some 4, .mv (.c (.str [])), none, 0⟩, ⟨some 5, .mv (.c (.str [])), none, 0⟩, ⟨some 6, .mv (.c (.bool false)), none, 0⟩] 0 false []) (.seq (.seq (.region [⟨some 8, .mv (.t 0), none, 0⟩,
  ⟨some 9, .mv (.t 1), none, 0⟩, ⟨some 10, .call (.c (.fn 57 [])) [.t 8, .t 9], none, 0⟩, ⟨some 7, .mv (.t 10), none, 0⟩] 0 false []) (.seq (.region [⟨some 11, .mv (.t 7), none, 0⟩, ⟨some 12, .bin .geq
  (.t 11) (.c (.int .i64 0)), none, 0⟩] 0 false []) (.cond (.t 12) (.seq (.region [⟨some 13, .mv (.t 0), none, 0⟩, ⟨some 14, .mv (.t 7), none, 0⟩, ⟨some 15, .sliceS (.t 13) none (some (.t 14)), none, 0⟩,
  ⟨some 16, .mv (.t 0), none, 0⟩, ⟨some 17, .mv (.t 7), none, 0⟩, ⟨some 18, .mv (.t 1), none, 0⟩, ⟨some 19, .lenS (.t 18), none, 0⟩, ⟨some 20, .bin .add (.t 17) (.t 19), none, 0⟩, ⟨some 21, .sliceS (.t
  16) (some (.t 20)) none, none, 0⟩, ⟨some 4, .mv (.t 15), none, 0⟩, ⟨some 5, .mv (.t 21), none, 0⟩, ⟨some 6, .mv (.c (.bool true)), none, 0⟩] 0 true []) .ret) .skip))) (.seq (.region [⟨some 22, .mv (.t
  0), none, 0⟩, ⟨some 4, .mv (.t 22), none, 0⟩, ⟨some 5, .mv (.c (.str [])), none, 0⟩, ⟨some 6, .mv (.c (.bool false)), none, 0⟩] 0 false []) .ret))
def B51 := bB51
theorem wB51 : Wp O B51 Q σ h = Wp O bB51 Q σ h := rfl
def F51 : AF := ⟨B51, [.tmp 4, .tmp 5, .tmp 6], false⟩
theorem tab51 : T 51 = some F51 := by kernel_rfl
/-- franking/lex.run -/
abbrev bL22_0 : AC :=
  .seq (.seq (.region [⟨some 6, .mv (.t 5), none, 0⟩, ⟨some 7, .mv (.t 0), none, 0⟩, ⟨some 8, .lenS (.t 7), none, 0⟩, ⟨some 9, .bin .lss (.t 6) (.t 8), none, 0⟩, ⟨some 10, .mv (.t 9), none, 0⟩, ⟨some 11,
  .mv (.t 1), some (10, true), 0⟩, ⟨some 12, .mv (.t 0), some (10, true), 0⟩, ⟨some 13, .mv (.t 5), some (10, true), 0⟩, ⟨some 14, .indexS (.t 12) (.t 13), some (10, true), 0⟩, ⟨some 15, .call (.t 11)
  [.t 14], some (10, true), 0⟩, ⟨some 16, .pick (.t 10) (.t 15) (.c (.bool false)), none, 0⟩] 0 false []) (.cond (.t 16) .skip (.exit 0))) (.block 1 (.region [⟨some 17, .mv (.t 5), none, 0⟩, ⟨some 18,
  .bin .add (.t 17) (.c (.int .i64 1)), none, 0⟩, ⟨some 5, .mv (.t 18), none, 0⟩] 0 false []))
def L22_0 := bL22_0
theorem wL22_0 : Wp O L22_0 Q σ h = Wp O bL22_0 Q σ h := rfl
abbrev bK22_0 : AC :=
  .seq (.region [⟨some 19, .mv (.t 5), none, 0⟩, ⟨some 4, .mv (.t 19), none, 0⟩] 0 false []) .ret
def K22_0 := bK22_0
theorem wK22_0 : Wp O K22_0 Q σ h = Wp O bK22_0 Q σ h := rfl
abbrev bB22 : AC :=
  .seq (.region [⟨some 4, .mv (.c (.int .i64 0)), none, 0⟩] 0 false []) (.seq (.region [⟨some 5, .mv (.c (.int .i64 0)), none, 0⟩] 0 false []) (.seq (.block 0 (.loop L22_0)) K22_0))
def B22 := bB22
theorem wB22 : Wp O B22 Q σ h = Wp O bB22 Q σ h := rfl
def F22 : AF := ⟨B22, [.tmp 4], false⟩
theorem tab22 : T 22 = some F22 := by kernel_rfl
/-- franking/lex.blank -/
abbrev bB23 : AC :=
  .seq (.region [⟨some 2, .mv (.c (.bool false)), none, 0⟩] 0 false []) (.seq (.region [⟨some 3, .mv (.t 0), none, 0⟩, ⟨some 4, .bin .eql (.t 3) (.c (.int .u8 32)), none, 0⟩, ⟨some 5, .mv (.t 4), none,
  0⟩, ⟨some 6, .mv (.t 0), some (5, false), 0⟩, ⟨some 7, .bin .eql (.t 6) (.c (.int .u8 9)), some (5, false), 0⟩, ⟨some 8, .pick (.t 5) (.c (.bool true)) (.t 7), none, 0⟩, ⟨some 2, .mv (.t 8), none, 0⟩]
  0 false []) .ret)
def B23 := bB23
theorem wB23 : Wp O B23 Q σ h = Wp O bB23 Q σ h := rfl
def F23 : AF := ⟨B23, [.tmp 2], false⟩
theorem tab23 : T 23 = some F23 := by kernel_rfl
/-- franking/lex.letter -/
abbrev bB24 : AC :=
  .seq (.region [⟨some 2, .mv (.c (.bool false)), none, 0⟩] 0 false []) (.seq (.region [⟨some 3, .mv (.t 0), none, 0⟩, ⟨some 4, .bin .or (.t 3) (.c (.int .u8 32)), none, 0⟩, ⟨some 5, .bin .geq (.t 4) (.c
  (.int .u8 97)), none, 0⟩, ⟨some 6, .mv (.t 5), none, 0⟩, ⟨some 7, .mv (.t 0), some (6, true), 0⟩, ⟨some 8, .bin .or (.t 7) (.c (.int .u8 32)), some (6, true), 0⟩, ⟨some 9, .bin .leq (.t 8) (.c (.int
  .u8 122)), some (6, true), 0⟩, ⟨some 10, .pick (.t 6) (.t 9) (.c (.bool false)), none, 0⟩, ⟨some 2, .mv (.t 10), none, 0⟩] 0 false []) .ret)
def B24 := bB24
theorem wB24 : Wp O B24 Q σ h = Wp O bB24 Q σ h := rfl
def F24 : AF := ⟨B24, [.tmp 2], false⟩
theorem tab24 : T 24 = some F24 := by kernel_rfl
/-- franking/lex.digit -/
abbrev bB44 : AC :=
  .seq (.region [⟨some 2, .mv (.c (.bool false)), none, 0⟩] 0 false []) (.seq (.region [⟨some 3, .mv (.t 0), none, 0⟩, ⟨some 4, .bin .geq (.t 3) (.c (.int .u8 48)), none, 0⟩, ⟨some 5, .mv (.t 4), none,
  0⟩, ⟨some 6, .mv (.t 0), some (5, true), 0⟩, ⟨some 7, .bin .leq (.t 6) (.c (.int .u8 57)), some (5, true), 0⟩, ⟨some 8, .pick (.t 5) (.t 7) (.c (.bool false)), none, 0⟩, ⟨some 2, .mv (.t 8), none, 0⟩]
  0 false []) .ret)
def B44 := bB44
theorem wB44 : Wp O B44 Q σ h = Wp O bB44 Q σ h := rfl
def F44 : AF := ⟨B44, [.tmp 2], false⟩
theorem tab44 : T 44 = some F44 := by kernel_rfl
/-- franking/lex.nibble -/
abbrev bB68 : AC :=
  .seq (.region [⟨some 2, .mv (.c (.int .i64 0)), none, 0⟩] 0 false []) (.seq (.block 0 (.seq (.region [⟨some 4, .mv (.t 0), none, 0⟩, ⟨some 5, .call (.c (.fn 44 [])) [.t 4], none, 0⟩, ⟨some 3, .mv (.t
  5), none, 0⟩] 0 false []) (.cond (.t 3) (.seq (.region [⟨some 6, .mv (.t 0), none, 0⟩, ⟨some 7, .bin .sub (.t 6) (.c (.int .u8 48)), none, 0⟩, ⟨some 8, .cvInt .i64 (.t 7), none, 0⟩, ⟨some 2, .mv (.t
  8), none, 0⟩] 0 false []) .ret) (.seq (.region [⟨some 10, .mv (.t 0), none, 0⟩, ⟨some 11, .bin .or (.t 10) (.c (.int .u8 32)), none, 0⟩, ⟨some 12, .bin .geq (.t 11) (.c (.int .u8 97)), none, 0⟩, ⟨some
  13, .mv (.t 12), none, 0⟩, ⟨some 14, .mv (.t 0), some (13, true), 0⟩, ⟨some 15, .bin .or (.t 14) (.c (.int .u8 32)), some (13, true), 0⟩, ⟨some 16, .bin .leq (.t 15) (.c (.int .u8 102)), some (13,
  true), 0⟩, ⟨some 17, .pick (.t 13) (.t 16) (.c (.bool false)), none, 0⟩, ⟨some 9, .mv (.t 17), none, 0⟩] 0 false []) (.cond (.t 9) (.seq (.region [⟨some 18, .mv (.t 0), none, 0⟩, ⟨some 19, .bin .or (.t
  18) (.c (.int .u8 32)), none, 0⟩, ⟨some 20, .bin .sub (.t 19) (.c (.int .u8 97)), none, 0⟩, ⟨some 21, .cvInt .i64 (.t 20), none, 0⟩, ⟨some 22, .bin .add (.t 21) (.c (.int .i64 10)), none, 0⟩, ⟨some 2,
  .mv (.t 22), none, 0⟩] 0 false []) .ret) .skip))))) (.seq (.region [⟨some 2, .mv (.c (.int .i64 16)), none, 0⟩] 0 false []) .ret))
def B68 := bB68
theorem wB68 : Wp O B68 Q σ h = Wp O bB68 Q σ h := rfl
def F68 : AF := ⟨B68, [.tmp 2], false⟩
theorem tab68 : T 68 = some F68 := by kernel_rfl
/-- franking/lex.number -/
abbrev bL64_0 : AC :=
  .seq (.region [⟨some 10, .bin .lss (.t 9) (.t 8), none, 0⟩] 0 false []) (.seq (.cond (.t 10) .skip (.exit 0)) (.seq (.block 1 (.seq (.region [⟨some 11, .mv (.t 9), none, 0⟩, ⟨some 6, .mv (.t 11), none,
  0⟩] 0 false []) (.region [⟨some 12, .mv (.t 5), none, 0⟩, ⟨some 13, .mv (.t 1), none, 0⟩, ⟨some 14, .bin .mul (.t 12) (.t 13), none, 0⟩, ⟨some 15, .mv (.t 0), none, 0⟩, ⟨some 16, .mv (.t 6), none, 0⟩,
  ⟨some 17, .indexS (.t 15) (.t 16), none, 0⟩, ⟨some 18, .call (.c (.fn 68 [])) [.t 17], none, 0⟩, ⟨some 19, .bin .add (.t 14) (.t 18), none, 0⟩, ⟨some 5, .mv (.t 19), none, 0⟩] 0 false []))) (.region
  [⟨some 20, .bin .add (.t 9) (.c (.int .i64 1)), none, 0⟩, ⟨some 9, .mv (.t 20), none, 0⟩] 0 false [])))
def L64_0 := bL64_0
theorem wL64_0 : Wp O L64_0 Q σ h = Wp O bL64_0 Q σ h := rfl
abbrev bK64_0 : AC :=
  .seq (.region [⟨some 21, .mv (.t 5), none, 0⟩, ⟨some 4, .mv (.t 21), none, 0⟩] 0 false []) .ret
def K64_0 := bK64_0
theorem wK64_0 : Wp O K64_0 Q σ h = Wp O bK64_0 Q σ h := rfl
abbrev bB64 : AC :=
  .seq (.region [⟨some 4, .mv (.c (.int .i64 0)), none, 0⟩] 0 false []) (.seq (.region [⟨some 5, .mv (.c (.int .i64 0)), none, 0⟩] 0 false []) (.seq (.seq (.region [⟨some 7, .mv (.t 0), none, 0⟩, ⟨some
  8, .lenS (.t 7), none, 0⟩, ⟨some 9, .mv (.c (.int .i64 0)), none, 0⟩] 0 false []) (.block 0 (.loop L64_0))) K64_0))
def B64 := bB64
theorem wB64 : Wp O B64 Q σ h = Wp O bB64 Q σ h := rfl
def F64 : AF := ⟨B64, [.tmp 4], false⟩
theorem tab64 : T 64 = some F64 := by kernel_rfl
/-- franking/lex.base -/
abbrev bB65 : AC :=
  .seq (.region [⟨some 2, .mv (.c (.int .i64 0)), none, 0⟩] 0 false []) (.seq (.seq (.region [⟨some 3, .mv (.t 0), none, 0⟩, ⟨some 4, .bin .eql (.t 3) (.c (.str [])), none, 0⟩] 0 false []) (.cond (.t 4)
  (.seq (.region [⟨some 2, .mv (.c (.int .i64 0)), none, 0⟩] 0 false []) .ret) .skip)) (.seq (.seq (.region [⟨some 5, .mv (.t 0), none, 0⟩, ⟨some 6, .indexS (.t 5) (.c (.int .i64 0)), none, 0⟩, ⟨some 7,
  .bin .or (.t 6) (.c (.int .u8 32)), none, 0⟩] 0 false []) (.block 0 (.seq (.region [⟨some 9, .bin .eql (.t 7) (.c (.int .u8 120)), none, 0⟩, ⟨some 8, .mv (.t 9), none, 0⟩] 0 false []) (.cond (.t 8)
  (.seq (.region [⟨some 2, .mv (.c (.int .i64 16)), none, 0⟩] 0 false []) .ret) (.seq (.region [⟨some 11, .bin .eql (.t 7) (.c (.int .u8 100)), none, 0⟩, ⟨some 10, .mv (.t 11), none, 0⟩] 0 false [])
  (.cond (.t 10) (.seq (.region [⟨some 2, .mv (.c (.int .i64 10)), none, 0⟩] 0 false []) .ret) (.seq (.region [⟨some 13, .bin .eql (.t 7) (.c (.int .u8 98)), none, 0⟩, ⟨some 12, .mv (.t 13), none, 0⟩] 0
  false []) (.cond (.t 12) (.seq (.region [⟨some 2, .mv (.c (.int .i64 2)), none, 0⟩] 0 false []) .ret) .skip)))))))) (.seq (.region [⟨some 2, .mv (.c (.int .i64 0)), none, 0⟩] 0 false []) .ret)))
def B65 := bB65
theorem wB65 : Wp O B65 Q σ h = Wp O bB65 Q σ h := rfl
def F65 : AF := ⟨B65, [.tmp 2], false⟩
theorem tab65 : T 65 = some F65 := by kernel_rfl
/-- franking/lex.rows$1 -/
abbrev bB38 : AC :=
  .seq (.region [⟨some 1, .box 1 (.t 0), none, 0⟩, ⟨some 2, .mv (.c (.nilf)), none, 1⟩] 1 false []) (.seq (.region [⟨some 3, .mkfn 39 [.t 1], none, 0⟩, ⟨some 2, .mv (.t 3), none, 0⟩] 0 false []) .ret)
def B38 := bB38
theorem wB38 : Wp O B38 Q σ h = Wp O bB38 Q σ h := rfl
def F38 : AF := ⟨B38, [.tmp 2], true⟩
theorem tab38 : T 38 = some F38 := by kernel_rfl
/-- franking/lex.rows$1$1 -/
abbrev bB39 : AC :=
  .seq (.region [⟨some 3, .mv (.c (.bool false)), none, 0⟩] 0 false []) (.seq (.region [⟨some 4, .load none (.t 1), none, 0⟩, ⟨some 5, .mv (.t 0), none, 0⟩, ⟨some 6, .bin .eql (.t 4) (.t 5), none, 0⟩,
  ⟨some 3, .mv (.t 6), none, 0⟩] 0 false []) .ret)
def B39 := bB39
theorem wB39 : Wp O B39 Q σ h = Wp O bB39 Q σ h := rfl
def F39 : AF := ⟨B39, [.tmp 3], false⟩
theorem tab39 : T 39 = some F39 := by kernel_rfl
/-- franking/lex.sign -/
abbrev bB42 : AC :=
  .seq (.region [⟨some 1, .box 1 (.t 0), none, 0⟩, ⟨some 2, .mv (.c (.nilf)), none, 1⟩] 1 false []) (.seq (.region [⟨some 3, .mkfn 63 [.t 1], none, 0⟩, ⟨some 2, .mv (.t 3), none, 0⟩] 0 false []) .ret)
def B42 := bB42
theorem wB42 : Wp O B42 Q σ h = Wp O bB42 Q σ h := rfl
def F42 : AF := ⟨B42, [.tmp 2], true⟩
theorem tab42 : T 42 = some F42 := by kernel_rfl
/-- franking/lex.sign$1 -/
abbrev bB63 : AC :=
  .seq (.region [⟨some 3, .alloc [.int .u8 0, .int .i64 0, .str [], .int .i64 0, .int .i64 0, .int .u8 0, .int .u8 0, .int .i64 0, .int .i64 0], none, 0⟩] 1 false []) (.seq (.region [⟨some 4, .load none
  (.t 1), none, 0⟩, ⟨some 5, .build [.int .u8 0, .int .i64 0, .str [], .int .i64 0, .int .i64 0, .int .u8 0, .int .u8 0] [(0, 1, .t 4)], none, 0⟩, ⟨some 6, .build [.int .u8 0, .int .i64 0, .str [], .int
  .i64 0, .int .i64 0, .int .u8 0, .int .u8 0, .int .i64 0, .int .i64 0] [(0, 7, .t 5), (7, 1, .c (.int .i64 1))], none, 0⟩, ⟨none, .store 9 (.t 3) (.t 6), none, 0⟩] 0 false []) .ret)
def B63 := bB63
theorem wB63 : Wp O B63 Q σ h = Wp O bB63 Q σ h := rfl
def F63 : AF := ⟨B63, [.cell 3 (some 9)], false⟩
theorem tab63 : T 63 = some F63 := by kernel_rfl
/-- franking/lex.rows$2 -/
abbrev bB43 : AC :=
  .seq (.region [⟨some 2, .mv (.c (.bool false)), none, 0⟩] 0 false []) (.seq (.region [⟨some 3, .mv (.t 0), none, 0⟩, ⟨some 4, .call (.c (.fn 44 [])) [.t 3], none, 0⟩, ⟨some 5, .mv (.t 4), none, 0⟩,
  ⟨some 6, .mv (.t 0), some (5, false), 0⟩, ⟨some 7, .bin .eql (.t 6) (.c (.int .u8 42)), some (5, false), 0⟩, ⟨some 8, .pick (.t 5) (.c (.bool true)) (.t 7), none, 0⟩, ⟨some 2, .mv (.t 8), none, 0⟩] 0
  false []) .ret)
def B43 := bB43
theorem wB43 : Wp O B43 Q σ h = Wp O bB43 Q σ h := rfl
def F43 : AF := ⟨B43, [.tmp 2], false⟩
theorem tab43 : T 43 = some F43 := by kernel_rfl
/-- franking/lex.rows$3 -/
abbrev bB48 : AC :=
  .seq (.region [⟨some 2, .alloc [.int .u8 0, .int .i64 0, .str [], .int .i64 0, .int .i64 0, .int .u8 0, .int .u8 0, .int .i64 0, .int .i64 0], none, 0⟩] 1 false []) (.seq (.region [⟨some 3, .build
  [.int .u8 0, .int .i64 0, .str [], .int .i64 0, .int .i64 0, .int .u8 0, .int .u8 0, .int .i64 0, .int .i64 0] [(8, 1, .c (.int .i64 16))], none, 0⟩, ⟨none, .store 9 (.t 2) (.t 3), none, 0⟩] 0 false
  []) .ret)
def B48 := bB48
theorem wB48 : Wp O B48 Q σ h = Wp O bB48 Q σ h := rfl
def F48 : AF := ⟨B48, [.cell 2 (some 9)], false⟩
theorem tab48 : T 48 = some F48 := by kernel_rfl
/-- franking/lex.rows$4 -/
abbrev bB49 : AC :=
  .seq (.region [⟨some 2, .mv (.c (.bool false)), none, 0⟩] 0 false []) (.seq (.region [⟨some 2, .mv (.c (.bool true)), none, 0⟩] 0 false []) .ret)
def B49 := bB49
theorem wB49 : Wp O B49 Q σ h = Wp O bB49 Q σ h := rfl
def F49 : AF := ⟨B49, [.tmp 2], false⟩
theorem tab49 : T 49 = some F49 := by kernel_rfl
/-- franking/lex.rows$5 -/
abbrev bB50 : AC :=
  .seq (.region [⟨some 2, .alloc [.int .u8 0, .int .i64 0, .str [], .int .i64 0, .int .i64 0, .int .u8 0, .int .u8 0, .int .i64 0, .int .i64 0], none, 0⟩] 1 false []) (.seq (.region [⟨some 3, .build
  [.int .u8 0, .int .i64 0, .str [], .int .i64 0, .int .i64 0, .int .u8 0, .int .u8 0, .int .i64 0, .int .i64 0] [(8, 1, .c (.int .i64 11))], none, 0⟩, ⟨none, .store 9 (.t 2) (.t 3), none, 0⟩] 0 false
  []) .ret)
def B50 := bB50
theorem wB50 : Wp O B50 Q σ h = Wp O bB50 Q σ h := rfl
def F50 : AF := ⟨B50, [.cell 2 (some 9)], false⟩
theorem tab50 : T 50 = some F50 := by kernel_rfl
/-- franking/lex.name -/
abbrev bB40 : AC :=
  .seq (.region [⟨some 2, .alloc [.int .u8 0, .int .i64 0, .str [], .int .i64 0, .int .i64 0, .int .u8 0, .int .u8 0, .int .i64 0, .int .i64 0], none, 0⟩] 1 false []) (.seq (.region [⟨some 4, .mv (.t 0),
  none, 0⟩, ⟨some 5, .call (.c (.fn 22 [])) [.t 4, .c (.fn 62 [])], none, 0⟩, ⟨some 3, .mv (.t 5), none, 0⟩] 0 false []) (.seq (.region [⟨some 6, .mv (.t 0), none, 0⟩, ⟨some 7, .mv (.t 3), none, 0⟩,
  ⟨some 8, .sliceS (.t 6) none (some (.t 7)), none, 0⟩, ⟨some 9, .build [.int .u8 0, .int .i64 0, .str [], .int .i64 0, .int .i64 0, .int .u8 0, .int .u8 0] [(0, 1, .c (.int .u8 1)), (2, 1, .t 8)], none,
  0⟩, ⟨some 10, .mv (.t 3), none, 0⟩, ⟨some 11, .build [.int .u8 0, .int .i64 0, .str [], .int .i64 0, .int .i64 0, .int .u8 0, .int .u8 0, .int .i64 0, .int .i64 0] [(0, 7, .t 9), (7, 1, .t 10)], none,
  0⟩, ⟨none, .store 9 (.t 2) (.t 11), none, 0⟩] 0 false []) .ret))
def B40 := bB40
theorem wB40 : Wp O B40 Q σ h = Wp O bB40 Q σ h := rfl
def F40 : AF := ⟨B40, [.cell 2 (some 9)], false⟩
theorem tab40 : T 40 = some F40 := by kernel_rfl
/-- franking/lex.name$1 -/
abbrev bB62 : AC :=
  .seq (.region [⟨some 2, .mv (.c (.bool false)), none, 0⟩] 0 false []) (.seq (.region [⟨some 3, .mv (.t 0), none, 0⟩, ⟨some 4, .call (.c (.fn 24 [])) [.t 3], none, 0⟩, ⟨some 5, .mv (.t 4), none, 0⟩,
  ⟨some 6, .mv (.t 0), some (5, false), 0⟩, ⟨some 7, .call (.c (.fn 44 [])) [.t 6], some (5, false), 0⟩, ⟨some 8, .pick (.t 5) (.c (.bool true)) (.t 7), none, 0⟩, ⟨some 9, .mv (.t 8), none, 0⟩, ⟨some 10,
  .mv (.t 0), some (9, false), 0⟩, ⟨some 11, .bin .eql (.t 10) (.c (.int .u8 45)), some (9, false), 0⟩, ⟨some 12, .pick (.t 9) (.c (.bool true)) (.t 11), none, 0⟩, ⟨some 2, .mv (.t 12), none, 0⟩] 0 false
  []) .ret)
def B62 := bB62
theorem wB62 : Wp O B62 Q σ h = Wp O bB62 Q σ h := rfl
def F62 : AF := ⟨B62, [.tmp 2], false⟩
theorem tab62 : T 62 = some F62 := by kernel_rfl
/-- franking/lex.is -/
abbrev bB41 : AC :=
  .seq (.region [⟨some 2, .alloc [.int .u8 0, .int .i64 0, .str [], .int .i64 0, .int .i64 0, .int .u8 0, .int .u8 0, .int .i64 0, .int .i64 0], none, 0⟩] 1 false []) (.seq (.seq (.region [⟨some 3, .mv
  (.t 0), none, 0⟩, ⟨some 4, .call (.c (.fn 12 [])) [.t 3, .c (.str [61, 47])], none, 0⟩] 0 false []) (.cond (.t 4) (.seq (.region [⟨some 5, .build [.int .u8 0, .int .i64 0, .str [], .int .i64 0, .int
  .i64 0, .int .u8 0, .int .u8 0] [(0, 1, .c (.int .u8 3))], none, 0⟩, ⟨some 6, .build [.int .u8 0, .int .i64 0, .str [], .int .i64 0, .int .i64 0, .int .u8 0, .int .u8 0, .int .i64 0, .int .i64 0] [(0,
  7, .t 5), (7, 1, .c (.int .i64 2))], none, 0⟩, ⟨none, .store 9 (.t 2) (.t 6), none, 0⟩] 0 false []) .ret) .skip)) (.seq (.region [⟨some 7, .build [.int .u8 0, .int .i64 0, .str [], .int .i64 0, .int
  .i64 0, .int .u8 0, .int .u8 0] [(0, 1, .c (.int .u8 2))], none, 0⟩, ⟨some 8, .build [.int .u8 0, .int .i64 0, .str [], .int .i64 0, .int .i64 0, .int .u8 0, .int .u8 0, .int .i64 0, .int .i64 0] [(0,
  7, .t 7), (7, 1, .c (.int .i64 1))], none, 0⟩, ⟨none, .store 9 (.t 2) (.t 8), none, 0⟩] 0 false []) .ret))
def B41 := bB41
theorem wB41 : Wp O B41 Q σ h = Wp O bB41 Q σ h := rfl
def F41 : AF := ⟨B41, [.cell 2 (some 9)], false⟩
theorem tab41 : T 41 = some F41 := by kernel_rfl
/-- franking/lex.rows -/
abbrev bB19 : AC :=
  .seq (.region [⟨some 0, .mv (.c (.list 2 [] .full)), none, 0⟩] 0 false []) (.seq (.region [⟨some 1, .mv (.c (.fn 38 [])), none, 0⟩] 0 false []) (.seq (.region [⟨some 2, .build [.nilf, .nilf] [(0, 1, .c
  (.fn 24 [])), (1, 1, .c (.fn 40 []))], none, 0⟩, ⟨some 3, .mv (.t 1), none, 0⟩, ⟨some 4, .call (.t 3) [.c (.int .u8 61)], none, 0⟩, ⟨some 5, .build [.nilf, .nilf] [(0, 1, .t 4), (1, 1, .c (.fn 41
  []))], none, 0⟩, ⟨some 6, .mv (.t 1), none, 0⟩, ⟨some 7, .call (.t 6) [.c (.int .u8 47)], none, 0⟩, ⟨some 8, .call (.c (.fn 42 [])) [.c (.int .u8 4)], none, 0⟩, ⟨some 9, .build [.nilf, .nilf] [(0, 1,
  .t 7), (1, 1, .t 8)], none, 0⟩, ⟨some 10, .mv (.t 1), none, 0⟩, ⟨some 11, .call (.t 10) [.c (.int .u8 40)], none, 0⟩, ⟨some 12, .call (.c (.fn 42 [])) [.c (.int .u8 5)], none, 0⟩, ⟨some 13, .build
  [.nilf, .nilf] [(0, 1, .t 11), (1, 1, .t 12)], none, 0⟩, ⟨some 14, .mv (.t 1), none, 0⟩, ⟨some 15, .call (.t 14) [.c (.int .u8 41)], none, 0⟩, ⟨some 16, .call (.c (.fn 42 [])) [.c (.int .u8 6)], none,
  0⟩, ⟨some 17, .build [.nilf, .nilf] [(0, 1, .t 15), (1, 1, .t 16)], none, 0⟩, ⟨some 18, .mv (.t 1), none, 0⟩, ⟨some 19, .call (.t 18) [.c (.int .u8 91)], none, 0⟩, ⟨some 20, .call (.c (.fn 42 [])) [.c
  (.int .u8 7)], none, 0⟩, ⟨some 21, .build [.nilf, .nilf] [(0, 1, .t 19), (1, 1, .t 20)], none, 0⟩, ⟨some 22, .mv (.t 1), none, 0⟩, ⟨some 23, .call (.t 22) [.c (.int .u8 93)], none, 0⟩, ⟨some 24, .call
  (.c (.fn 42 [])) [.c (.int .u8 8)], none, 0⟩, ⟨some 25, .build [.nilf, .nilf] [(0, 1, .t 23), (1, 1, .t 24)], none, 0⟩, ⟨some 26, .build [.nilf, .nilf] [(0, 1, .c (.fn 43 [])), (1, 1, .c (.fn 45 []))],
  none, 0⟩, ⟨some 27, .mv (.t 1), none, 0⟩, ⟨some 28, .call (.t 27) [.c (.int .u8 34)], none, 0⟩, ⟨some 29, .build [.nilf, .nilf] [(0, 1, .t 28), (1, 1, .c (.fn 46 []))], none, 0⟩, ⟨some 30, .mv (.t 1),
  none, 0⟩, ⟨some 31, .call (.t 30) [.c (.int .u8 37)], none, 0⟩, ⟨some 32, .build [.nilf, .nilf] [(0, 1, .t 31), (1, 1, .c (.fn 47 []))], none, 0⟩, ⟨some 33, .mv (.t 1), none, 0⟩, ⟨some 34, .call (.t
  33) [.c (.int .u8 60)], none, 0⟩, ⟨some 35, .build [.nilf, .nilf] [(0, 1, .t 34), (1, 1, .c (.fn 48 []))], none, 0⟩, ⟨some 36, .build [.nilf, .nilf] [(0, 1, .c (.fn 49 [])), (1, 1, .c (.fn 50 []))],
  none, 0⟩, ⟨some 37, .bslice 2 [.t 2, .t 5, .t 9, .t 13, .t 17, .t 21, .t 25, .t 26, .t 29, .t 32, .t 35, .t 36], none, 0⟩, ⟨some 0, .mv (.t 37), none, 0⟩] 0 false []) .ret))
def B19 := bB19
theorem wB19 : Wp O B19 Q σ h = Wp O bB19 Q σ h := rfl
def F19 : AF := ⟨B19, [.tmp 0], true⟩
theorem tab19 : T 19 = some F19 := by kernel_rfl
/-- franking/lex.times -/
abbrev bJ45_0 : AC :=
  .seq (.seq (.region [⟨some 60, .off 4 (.t 6), none, 0⟩, ⟨some 61, .load none (.t 60), none, 0⟩, ⟨some 62, .bin .geq (.t 61) (.c (.int .i64 0)), none, 0⟩, ⟨some 63, .mv (.t 62), none, 0⟩, ⟨some 64, .off
  4 (.t 6), some (63, true), 0⟩, ⟨some 65, .load none (.t 64), some (63, true), 0⟩, ⟨some 66, .off 3 (.t 6), some (63, true), 0⟩, ⟨some 67, .load none (.t 66), some (63, true), 0⟩, ⟨some 68, .bin .lss
  (.t 65) (.t 67), some (63, true), 0⟩, ⟨some 69, .pick (.t 63) (.t 68) (.c (.bool false)), none, 0⟩] 0 false []) (.cond (.t 69) (.seq (.region [⟨some 70, .build [.int .u8 0, .int .i64 0, .str [], .int
  .i64 0, .int .i64 0, .int .u8 0, .int .u8 0, .int .i64 0, .int .i64 0] [(8, 1, .c (.int .i64 13))], none, 0⟩, ⟨none, .store 9 (.t 2) (.t 70), none, 0⟩] 0 false []) .ret) .skip)) (.seq (.region [⟨some
  71, .load (some 7) (.t 6), none, 0⟩, ⟨some 72, .mv (.t 3), none, 0⟩, ⟨some 73, .bin .add (.t 72) (.c (.int .i64 1)), none, 0⟩, ⟨some 74, .mv (.t 5), none, 0⟩, ⟨some 75, .bin .add (.t 73) (.t 74), none,
  0⟩, ⟨some 76, .build [.int .u8 0, .int .i64 0, .str [], .int .i64 0, .int .i64 0, .int .u8 0, .int .u8 0, .int .i64 0, .int .i64 0] [(0, 7, .t 71), (7, 1, .t 75)], none, 0⟩, ⟨none, .store 9 (.t 2) (.t
  76), none, 0⟩] 0 false []) .ret)
def J45_0 := bJ45_0
theorem wJ45_0 : Wp O J45_0 Q σ h = Wp O bJ45_0 Q σ h := rfl
abbrev bJ45_1 : AC :=
  .seq (.block 0 (.seq (.region [⟨some 26, .mv (.t 3), none, 0⟩, ⟨some 27, .bin .gtr (.t 26) (.c (.int .i64 4)), none, 0⟩, ⟨some 25, .mv (.t 27), none, 0⟩] 0 false []) (.cond (.t 25) (.seq (.region
  [⟨some 28, .build [.int .u8 0, .int .i64 0, .str [], .int .i64 0, .int .i64 0, .int .u8 0, .int .u8 0, .int .i64 0, .int .i64 0] [(8, 1, .c (.int .i64 12))], none, 0⟩, ⟨none, .store 9 (.t 2) (.t 28),
  none, 0⟩] 0 false []) .ret) (.seq (.region [⟨some 30, .mv (.t 5), none, 0⟩, ⟨some 31, .bin .gtr (.t 30) (.c (.int .i64 4)), none, 0⟩, ⟨some 29, .mv (.t 31), none, 0⟩] 0 false []) (.cond (.t 29) (.seq
  (.region [⟨some 32, .mv (.t 3), none, 0⟩, ⟨some 33, .bin .add (.t 32) (.c (.int .i64 1)), none, 0⟩, ⟨some 34, .build [.int .u8 0, .int .i64 0, .str [], .int .i64 0, .int .i64 0, .int .u8 0, .int .u8 0,
  .int .i64 0, .int .i64 0] [(7, 1, .t 33), (8, 1, .c (.int .i64 12))], none, 0⟩, ⟨none, .store 9 (.t 2) (.t 34), none, 0⟩] 0 false []) .ret) .skip))))) (.seq (.region [⟨some 35, .mv (.t 0), none, 0⟩,
  ⟨some 36, .mv (.t 3), none, 0⟩, ⟨some 37, .sliceS (.t 35) none (some (.t 36)), none, 0⟩, ⟨some 38, .call (.c (.fn 64 [])) [.t 37, .c (.int .i64 10)], none, 0⟩, ⟨some 39, .build [.int .u8 0, .int .i64
  0, .str [], .int .i64 0, .int .i64 0, .int .u8 0, .int .u8 0] [(0, 1, .c (.int .u8 9)), (3, 1, .t 38), (4, 1, .c (.int .i64 (-1)))], none, 0⟩, ⟨some 6, .alloc [.int .u8 0, .int .i64 0, .str [], .int
  .i64 0, .int .i64 0, .int .u8 0, .int .u8 0], none, 0⟩, ⟨none, .store 7 (.t 6) (.t 39), none, 1⟩] 1 false []) (.seq (.seq (.region [⟨some 40, .mv (.t 4), none, 0⟩, ⟨some 41, .not (.t 40), none, 0⟩] 0
  false []) (.cond (.t 41) (.seq (.region [⟨some 42, .off 3 (.t 6), none, 0⟩, ⟨some 43, .load none (.t 42), none, 0⟩, ⟨some 44, .off 4 (.t 6), none, 0⟩, ⟨none, .store 1 (.t 44) (.t 43), none, 0⟩] 0 false
  []) (.seq (.region [⟨some 45, .load (some 7) (.t 6), none, 0⟩, ⟨some 46, .mv (.t 3), none, 0⟩, ⟨some 47, .build [.int .u8 0, .int .i64 0, .str [], .int .i64 0, .int .i64 0, .int .u8 0, .int .u8 0, .int
  .i64 0, .int .i64 0] [(0, 7, .t 45), (7, 1, .t 46)], none, 0⟩, ⟨none, .store 9 (.t 2) (.t 47), none, 0⟩] 0 false []) .ret)) .skip)) (.seq (.seq (.region [⟨some 48, .mv (.t 5), none, 0⟩, ⟨some 49, .bin
  .gtr (.t 48) (.c (.int .i64 0)), none, 0⟩] 0 false []) (.cond (.t 49) (.region [⟨some 50, .mv (.t 0), none, 0⟩, ⟨some 51, .mv (.t 3), none, 0⟩, ⟨some 52, .bin .add (.t 51) (.c (.int .i64 1)), none, 0⟩,
  ⟨some 53, .mv (.t 3), none, 0⟩, ⟨some 54, .bin .add (.t 53) (.c (.int .i64 1)), none, 0⟩, ⟨some 55, .mv (.t 5), none, 0⟩, ⟨some 56, .bin .add (.t 54) (.t 55), none, 0⟩, ⟨some 57, .sliceS (.t 50) (some
  (.t 52)) (some (.t 56)), none, 0⟩, ⟨some 58, .call (.c (.fn 64 [])) [.t 57, .c (.int .i64 10)], none, 0⟩, ⟨some 59, .off 4 (.t 6), none, 0⟩, ⟨none, .store 1 (.t 59) (.t 58), none, 0⟩] 0 false [])
  .skip)) J45_0)))
def J45_1 := bJ45_1
theorem wJ45_1 : Wp O J45_1 Q σ h = Wp O bJ45_1 Q σ h := rfl
abbrev bB45 : AC :=
  .seq (.region [⟨some 2, .alloc [.int .u8 0, .int .i64 0, .str [], .int .i64 0, .int .i64 0, .int .u8 0, .int .u8 0, .int .i64 0, .int .i64 0], none, 0⟩] 1 false []) (.seq (.region [⟨some 7, .mv (.t 0),
  none, 0⟩, ⟨some 8, .call (.c (.fn 22 [])) [.t 7, .c (.fn 44 [])], none, 0⟩, ⟨some 3, .mv (.t 8), none, 0⟩] 0 false []) (.seq (.region [⟨some 9, .mv (.t 3), none, 0⟩, ⟨some 10, .mv (.t 0), none, 0⟩,
  ⟨some 11, .lenS (.t 10), none, 0⟩, ⟨some 12, .bin .lss (.t 9) (.t 11), none, 0⟩, ⟨some 13, .mv (.t 12), none, 0⟩, ⟨some 14, .mv (.t 0), some (13, true), 0⟩, ⟨some 15, .mv (.t 3), some (13, true), 0⟩,
  ⟨some 16, .indexS (.t 14) (.t 15), some (13, true), 0⟩, ⟨some 17, .bin .eql (.t 16) (.c (.int .u8 42)), some (13, true), 0⟩, ⟨some 18, .pick (.t 13) (.t 17) (.c (.bool false)), none, 0⟩, ⟨some 4, .mv
  (.t 18), none, 0⟩] 0 false []) (.seq (.region [⟨some 5, .mv (.c (.int .i64 0)), none, 0⟩] 0 false []) (.seq (.seq (.region [⟨some 19, .mv (.t 4), none, 0⟩] 0 false []) (.cond (.t 19) (.region [⟨some
  20, .mv (.t 0), none, 0⟩, ⟨some 21, .mv (.t 3), none, 0⟩, ⟨some 22, .bin .add (.t 21) (.c (.int .i64 1)), none, 0⟩, ⟨some 23, .sliceS (.t 20) (some (.t 22)) none, none, 0⟩, ⟨some 24, .call (.c (.fn 22
  [])) [.t 23, .c (.fn 44 [])], none, 0⟩, ⟨some 5, .mv (.t 24), none, 0⟩] 0 false []) .skip)) J45_1))))
def B45 := bB45
theorem wB45 : Wp O B45 Q σ h = Wp O bB45 Q σ h := rfl
def F45 : AF := ⟨B45, [.cell 2 (some 9)], false⟩
theorem tab45 : T 45 = some F45 := by kernel_rfl
/-- franking/lex.chars -/
abbrev bL46_0 : AC :=
  .seq (.region [⟨some 17, .next (.t 16), none, 0⟩, ⟨some 18, .ext (.t 17) 0, none, 0⟩] 0 false []) (.seq (.cond (.t 18) .skip (.exit 0)) (.block 1 (.seq (.region [⟨some 19, .ext (.t 17) 2, none, 0⟩,
  ⟨some 7, .mv (.t 19), none, 0⟩] 0 false []) (.region [⟨some 20, .mv (.t 5), none, 0⟩, ⟨some 21, .mv (.t 20), none, 0⟩, ⟨some 22, .mv (.t 7), some (21, true), 0⟩, ⟨some 23, .bin .geq (.t 22) (.c (.int
  .i32 32)), some (21, true), 0⟩, ⟨some 24, .pick (.t 21) (.t 23) (.c (.bool false)), none, 0⟩, ⟨some 25, .mv (.t 24), none, 0⟩, ⟨some 26, .mv (.t 7), some (25, true), 0⟩, ⟨some 27, .bin .leq (.t 26) (.c
  (.int .i32 126)), some (25, true), 0⟩, ⟨some 28, .pick (.t 25) (.t 27) (.c (.bool false)), none, 0⟩, ⟨some 5, .mv (.t 28), none, 0⟩] 0 false []))))
def L46_0 := bL46_0
theorem wL46_0 : Wp O L46_0 Q σ h = Wp O bL46_0 Q σ h := rfl
abbrev bK46_0 : AC :=
  .seq (.seq (.region [⟨some 29, .mv (.t 5), none, 0⟩, ⟨some 30, .not (.t 29), none, 0⟩] 0 false []) (.cond (.t 30) (.seq (.region [⟨some 31, .build [.int .u8 0, .int .i64 0, .str [], .int .i64 0, .int
  .i64 0, .int .u8 0, .int .u8 0, .int .i64 0, .int .i64 0] [(8, 1, .c (.int .i64 14))], none, 0⟩, ⟨none, .store 9 (.t 2) (.t 31), none, 0⟩] 0 false []) .ret) .skip)) (.seq (.region [⟨some 32, .mv (.t
  3), none, 0⟩, ⟨some 33, .build [.int .u8 0, .int .i64 0, .str [], .int .i64 0, .int .i64 0, .int .u8 0, .int .u8 0] [(0, 1, .c (.int .u8 10)), (2, 1, .t 32)], none, 0⟩, ⟨some 34, .mv (.t 3), none, 0⟩,
  ⟨some 35, .lenS (.t 34), none, 0⟩, ⟨some 36, .bin .add (.t 35) (.c (.int .i64 2)), none, 0⟩, ⟨some 37, .build [.int .u8 0, .int .i64 0, .str [], .int .i64 0, .int .i64 0, .int .u8 0, .int .u8 0, .int
  .i64 0, .int .i64 0] [(0, 7, .t 33), (7, 1, .t 36)], none, 0⟩, ⟨none, .store 9 (.t 2) (.t 37), none, 0⟩] 0 false []) .ret)
def K46_0 := bK46_0
theorem wK46_0 : Wp O K46_0 Q σ h = Wp O bK46_0 Q σ h := rfl
abbrev bB46 : AC :=
  .seq (.region [⟨some 2, .alloc [.int .u8 0, .int .i64 0, .str [], .int .i64 0, .int .i64 0, .int .u8 0, .int .u8 0, .int .i64 0, .int .i64 0], none, 0⟩] 1 false []) (.seq (.region [⟨some 9, .mv (.t 0),
  none, 0⟩, ⟨some 10, .sliceS (.t 9) (some (.c (.int .i64 1))) none, none, 0⟩, ⟨some 11, .call (.c (.fn 20 [])) [.t 10, .c (.str [34])], none, 0⟩, ⟨some 8, .mv (.t 11), none, 0⟩, ⟨some 12, .ext (.t 8) 0,
  none, 0⟩, ⟨some 13, .ext (.t 8) 1, none, 0⟩, ⟨some 14, .ext (.t 8) 2, none, 0⟩, ⟨some 3, .mv (.t 12), none, 0⟩, ⟨some 4, .mv (.t 13), none, 0⟩, ⟨some 5, .mv (.t 14), none, 0⟩] 0 false []) (.seq (.seq
  (.region [⟨some 15, .mv (.t 3), none, 0⟩, ⟨some 16, .rangeS (.t 15), none, 0⟩] 1 false []) (.block 0 (.loop L46_0))) K46_0))
def B46 := bB46
theorem wB46 : Wp O B46 Q σ h = Wp O bB46 Q σ h := rfl
def F46 : AF := ⟨B46, [.cell 2 (some 9)], false⟩
theorem tab46 : T 46 = some F46 := by kernel_rfl
/-- franking/lex.value -/
abbrev bL47_0 : AC :=
  .seq (.seq (.region [⟨some 59, .load none (.t 4), none, 0⟩, ⟨some 60, .load none (.t 1), none, 0⟩, ⟨some 61, .lenS (.t 60), none, 0⟩, ⟨some 62, .bin .lss (.t 59) (.t 61), none, 0⟩, ⟨some 63, .mv (.t
  62), none, 0⟩, ⟨some 64, .load none (.t 1), some (63, true), 0⟩, ⟨some 65, .load none (.t 4), some (63, true), 0⟩, ⟨some 66, .indexS (.t 64) (.t 65), some (63, true), 0⟩, ⟨some 67, .bin .eql (.t 66)
  (.c (.int .u8 46)), some (63, true), 0⟩, ⟨some 68, .pick (.t 63) (.t 67) (.c (.bool false)), none, 0⟩] 0 false []) (.cond (.t 68) .skip (.exit 0))) (.block 1 (.seq (.region [⟨some 69, .load none (.t
  4), none, 0⟩, ⟨some 70, .bin .add (.t 69) (.c (.int .i64 1)), none, 0⟩, ⟨none, .store 1 (.t 4) (.t 70), none, 0⟩] 0 false []) (.seq (.region [⟨some 72, .mv (.t 5), none, 0⟩, ⟨some 73, .call (.t 72) [],
  none, 0⟩, ⟨some 71, .mv (.t 73), none, 0⟩, ⟨some 74, .ext (.t 71) 0, none, 0⟩, ⟨some 75, .ext (.t 71) 1, none, 0⟩, ⟨some 12, .mv (.t 74), none, 0⟩, ⟨some 13, .mv (.t 75), none, 0⟩] 0 false []) (.seq
  (.seq (.region [⟨some 76, .mv (.t 13), none, 0⟩, ⟨some 77, .not (.t 76), none, 0⟩] 0 false []) (.cond (.t 77) (.seq (.region [⟨some 78, .load (some 9) (.t 6), none, 0⟩, ⟨none, .store 9 (.t 2) (.t 78),
  none, 0⟩] 0 false []) .ret) .skip)) (.region [⟨some 79, .mv (.t 11), none, 0⟩, ⟨some 80, .mv (.t 12), none, 0⟩, ⟨some 81, .bslice 1 [.t 80], none, 0⟩, ⟨some 82, .append 1 1 5 (.t 79) (.t 81), none, 0⟩,
  ⟨some 11, .mv (.t 82), none, 1⟩] 1 false [])))))
def L47_0 := bL47_0
theorem wL47_0 : Wp O L47_0 Q σ h = Wp O bL47_0 Q σ h := rfl
abbrev bK47_0 : AC :=
  .seq (.region [⟨some 83, .mv (.t 11), none, 0⟩, ⟨some 84, .cvBytesStr (.t 83), none, 0⟩, ⟨some 85, .build [.int .u8 0, .int .i64 0, .str [], .int .i64 0, .int .i64 0, .int .u8 0, .int .u8 0] [(0, 1, .c
  (.int .u8 11)), (2, 1, .t 84)], none, 0⟩, ⟨some 86, .load none (.t 4), none, 0⟩, ⟨some 87, .build [.int .u8 0, .int .i64 0, .str [], .int .i64 0, .int .i64 0, .int .u8 0, .int .u8 0, .int .i64 0, .int
  .i64 0] [(0, 7, .t 85), (7, 1, .t 86)], none, 0⟩, ⟨none, .store 9 (.t 2) (.t 87), none, 0⟩] 0 false []) .ret
def K47_0 := bK47_0
theorem wK47_0 : Wp O K47_0 Q σ h = Wp O bK47_0 Q σ h := rfl
abbrev bB47 : AC :=
  .seq (.region [⟨some 1, .box 1 (.t 0), none, 0⟩, ⟨some 2, .alloc [.int .u8 0, .int .i64 0, .str [], .int .i64 0, .int .i64 0, .int .u8 0, .int .u8 0, .int .i64 0, .int .i64 0], none, 1⟩] 2 false [])
  (.seq (.region [⟨some 14, .load none (.t 1), none, 0⟩, ⟨some 15, .sliceS (.t 14) (some (.c (.int .i64 1))) none, none, 0⟩, ⟨some 16, .call (.c (.fn 65 [])) [.t 15], none, 0⟩, ⟨some 3, .alloc [.int .i64
  0], none, 0⟩, ⟨some 4, .alloc [.int .i64 0], none, 1⟩, ⟨none, .store 1 (.t 3) (.t 16), none, 2⟩, ⟨none, .store 1 (.t 4) (.c (.int .i64 2)), none, 2⟩] 2 false []) (.seq (.region [⟨some 17, .mkfn 66 [.t
  1, .t 4, .t 3], none, 0⟩, ⟨some 5, .mv (.t 17), none, 0⟩] 0 false []) (.seq (.region [⟨some 18, .build [.int .u8 0, .int .i64 0, .str [], .int .i64 0, .int .i64 0, .int .u8 0, .int .u8 0, .int .i64 0,
  .int .i64 0] [(8, 1, .c (.int .i64 15))], none, 0⟩, ⟨some 6, .alloc [.int .u8 0, .int .i64 0, .str [], .int .i64 0, .int .i64 0, .int .u8 0, .int .u8 0, .int .i64 0, .int .i64 0], none, 0⟩, ⟨none,
  .store 9 (.t 6) (.t 18), none, 1⟩] 1 false []) (.seq (.region [⟨some 20, .mv (.t 5), none, 0⟩, ⟨some 21, .call (.t 20) [], none, 0⟩, ⟨some 19, .mv (.t 21), none, 0⟩, ⟨some 22, .ext (.t 19) 0, none, 0⟩,
  ⟨some 23, .ext (.t 19) 1, none, 0⟩, ⟨some 7, .mv (.t 22), none, 0⟩, ⟨some 8, .mv (.t 23), none, 0⟩] 0 false []) (.seq (.seq (.region [⟨some 24, .mv (.t 8), none, 0⟩, ⟨some 25, .not (.t 24), none, 0⟩] 0
  false []) (.cond (.t 25) (.seq (.region [⟨some 26, .load (some 9) (.t 6), none, 0⟩, ⟨none, .store 9 (.t 2) (.t 26), none, 0⟩] 0 false []) .ret) .skip)) (.seq (.seq (.region [⟨some 27, .load none (.t
  4), none, 0⟩, ⟨some 28, .load none (.t 1), none, 0⟩, ⟨some 29, .lenS (.t 28), none, 0⟩, ⟨some 30, .bin .lss (.t 27) (.t 29), none, 0⟩, ⟨some 31, .mv (.t 30), none, 0⟩, ⟨some 32, .load none (.t 1), some
  (31, true), 0⟩, ⟨some 33, .load none (.t 4), some (31, true), 0⟩, ⟨some 34, .indexS (.t 32) (.t 33), some (31, true), 0⟩, ⟨some 35, .bin .eql (.t 34) (.c (.int .u8 45)), some (31, true), 0⟩, ⟨some 36,
  .pick (.t 31) (.t 35) (.c (.bool false)), none, 0⟩] 0 false []) (.cond (.t 36) (.seq (.region [⟨some 37, .load none (.t 4), none, 0⟩, ⟨some 38, .bin .add (.t 37) (.c (.int .i64 1)), none, 0⟩, ⟨none,
  .store 1 (.t 4) (.t 38), none, 0⟩] 0 false []) (.seq (.region [⟨some 40, .mv (.t 5), none, 0⟩, ⟨some 41, .call (.t 40) [], none, 0⟩, ⟨some 39, .mv (.t 41), none, 0⟩, ⟨some 42, .ext (.t 39) 0, none, 0⟩,
  ⟨some 43, .ext (.t 39) 1, none, 0⟩, ⟨some 9, .mv (.t 42), none, 0⟩, ⟨some 10, .mv (.t 43), none, 0⟩] 0 false []) (.seq (.seq (.region [⟨some 44, .mv (.t 10), none, 0⟩, ⟨some 45, .not (.t 44), none, 0⟩,
  ⟨some 46, .mv (.t 45), none, 0⟩, ⟨some 47, .mv (.t 7), some (46, false), 0⟩, ⟨some 48, .mv (.t 9), some (46, false), 0⟩, ⟨some 49, .bin .gtr (.t 47) (.t 48), some (46, false), 0⟩, ⟨some 50, .pick (.t
  46) (.c (.bool true)) (.t 49), none, 0⟩] 0 false []) (.cond (.t 50) (.seq (.region [⟨some 51, .load (some 9) (.t 6), none, 0⟩, ⟨none, .store 9 (.t 2) (.t 51), none, 0⟩] 0 false []) .ret) .skip)) (.seq
  (.region [⟨some 52, .mv (.t 7), none, 0⟩, ⟨some 53, .mv (.t 9), none, 0⟩, ⟨some 54, .build [.int .u8 0, .int .i64 0, .str [], .int .i64 0, .int .i64 0, .int .u8 0, .int .u8 0] [(0, 1, .c (.int .u8
  12)), (5, 1, .t 52), (6, 1, .t 53)], none, 0⟩, ⟨some 55, .load none (.t 4), none, 0⟩, ⟨some 56, .build [.int .u8 0, .int .i64 0, .str [], .int .i64 0, .int .i64 0, .int .u8 0, .int .u8 0, .int .i64 0,
  .int .i64 0] [(0, 7, .t 54), (7, 1, .t 55)], none, 0⟩, ⟨none, .store 9 (.t 2) (.t 56), none, 0⟩] 0 false []) .ret)))) .skip)) (.seq (.region [⟨some 57, .mv (.t 7), none, 0⟩, ⟨some 58, .bslice 1 [.t
  57], none, 0⟩, ⟨some 11, .mv (.t 58), none, 0⟩] 0 false []) (.seq (.block 0 (.loop L47_0)) K47_0))))))))
def B47 := bB47
theorem wB47 : Wp O B47 Q σ h = Wp O bB47 Q σ h := rfl
def F47 : AF := ⟨B47, [.cell 2 (some 9)], false⟩
theorem tab47 : T 47 = some F47 := by kernel_rfl
/-- franking/lex.value$1 -/
abbrev bB66 : AC :=
  .seq (.region [⟨some 3, .mv (.c (.int .u8 0)), none, 0⟩, ⟨some 4, .mv (.c (.bool false)), none, 0⟩] 0 false []) (.seq (.region [⟨some 7, .load none (.t 0), none, 0⟩, ⟨some 8, .load none (.t 1), none,
  0⟩, ⟨some 9, .load none (.t 0), none, 0⟩, ⟨some 10, .lenS (.t 9), none, 0⟩, ⟨some 11, .min (.t 8) (.t 10), none, 0⟩, ⟨some 12, .sliceS (.t 7) (some (.t 11)) none, none, 0⟩, ⟨some 13, .mkfn 67 [.t 2],
  none, 0⟩, ⟨some 14, .call (.c (.fn 22 [])) [.t 12, .t 13], none, 0⟩, ⟨some 5, .mv (.t 14), none, 0⟩] 0 false []) (.seq (.seq (.region [⟨some 15, .mv (.t 5), none, 0⟩, ⟨some 16, .bin .eql (.t 15) (.c
  (.int .i64 0)), none, 0⟩, ⟨some 17, .mv (.t 16), none, 0⟩, ⟨some 18, .mv (.t 5), some (17, false), 0⟩, ⟨some 19, .bin .gtr (.t 18) (.c (.int .i64 8)), some (17, false), 0⟩, ⟨some 20, .pick (.t 17) (.c
  (.bool true)) (.t 19), none, 0⟩] 0 false []) (.cond (.t 20) (.seq (.region [⟨some 3, .mv (.c (.int .u8 0)), none, 0⟩, ⟨some 4, .mv (.c (.bool false)), none, 0⟩] 0 false []) .ret) .skip)) (.seq (.region
  [⟨some 21, .load none (.t 0), none, 0⟩, ⟨some 22, .load none (.t 1), none, 0⟩, ⟨some 23, .load none (.t 1), none, 0⟩, ⟨some 24, .mv (.t 5), none, 0⟩, ⟨some 25, .bin .add (.t 23) (.t 24), none, 0⟩,
  ⟨some 26, .sliceS (.t 21) (some (.t 22)) (some (.t 25)), none, 0⟩, ⟨some 27, .load none (.t 2), none, 0⟩, ⟨some 28, .call (.c (.fn 64 [])) [.t 26, .t 27], none, 0⟩, ⟨some 6, .mv (.t 28), none, 0⟩] 0
  true []) (.seq (.region [⟨some 29, .load none (.t 1), none, 0⟩, ⟨some 30, .mv (.t 5), none, 0⟩, ⟨some 31, .bin .add (.t 29) (.t 30), none, 0⟩, ⟨none, .store 1 (.t 1) (.t 31), none, 0⟩] 0 false [])
  (.seq (.region [⟨some 32, .mv (.t 6), none, 0⟩, ⟨some 33, .cvInt .u8 (.t 32), none, 0⟩, ⟨some 34, .mv (.t 6), none, 0⟩, ⟨some 35, .bin .leq (.t 34) (.c (.int .i64 255)), none, 0⟩, ⟨some 3, .mv (.t 33),
  none, 0⟩, ⟨some 4, .mv (.t 35), none, 0⟩] 0 false []) .ret)))))
def B66 := bB66
theorem wB66 : Wp O B66 Q σ h = Wp O bB66 Q σ h := rfl
def F66 : AF := ⟨B66, [.tmp 3, .tmp 4], true⟩
theorem tab66 : T 66 = some F66 := by kernel_rfl
/-- franking/lex.value$1$1 -/
abbrev bB67 : AC :=
  .seq (.region [⟨some 3, .mv (.c (.bool false)), none, 0⟩] 0 false []) (.seq (.region [⟨some 4, .mv (.t 0), none, 0⟩, ⟨some 5, .call (.c (.fn 68 [])) [.t 4], none, 0⟩, ⟨some 6, .load none (.t 1), none,
  0⟩, ⟨some 7, .bin .lss (.t 5) (.t 6), none, 0⟩, ⟨some 3, .mv (.t 7), none, 0⟩] 0 true [(1, 2)]) .ret)
def B67 := bB67
theorem wB67 : Wp O B67 Q σ h = Wp O bB67 Q σ h := rfl
def F67 : AF := ⟨B67, [.tmp 3], false⟩
theorem tab67 : T 67 = some F67 := by kernel_rfl
/-- franking/lex.line -/
abbrev bL25_0 : AC :=
  .seq (.region [⟨some 33, .bin .lss (.t 32) (.t 31), none, 0⟩] 0 false []) (.seq (.cond (.t 33) .skip (.exit 2)) (.seq (.block 3 (.seq (.region [⟨some 34, .idx 2 (.t 30) (.t 32), none, 0⟩, ⟨some 35,
  .load (some 2) (.t 34), none, 0⟩, ⟨some 12, .alloc [.nilf, .nilf], none, 0⟩, ⟨none, .store 2 (.t 12) (.t 35), none, 1⟩] 1 false []) (.seq (.seq (.region [⟨some 36, .off 0 (.t 12), none, 0⟩, ⟨some 37,
  .load none (.t 36), none, 0⟩, ⟨some 38, .mv (.t 0), none, 0⟩, ⟨some 39, .mv (.t 10), none, 0⟩, ⟨some 40, .indexS (.t 38) (.t 39), none, 0⟩, ⟨some 41, .call (.t 37) [.t 40], none, 0⟩, ⟨some 42, .not (.t
  41), none, 0⟩] 0 true []) (.cond (.t 42) (.exit 3) .skip)) (.seq (.region [⟨some 43, .off 1 (.t 12), none, 0⟩, ⟨some 44, .load none (.t 43), none, 0⟩, ⟨some 45, .mv (.t 0), none, 0⟩, ⟨some 46, .mv (.t
  10), none, 0⟩, ⟨some 47, .sliceS (.t 45) (some (.t 46)) none, none, 0⟩, ⟨some 48, .call (.t 44) [.t 47], none, 0⟩, ⟨some 13, .alloc [.int .u8 0, .int .i64 0, .str [], .int .i64 0, .int .i64 0, .int .u8
  0, .int .u8 0, .int .i64 0, .int .i64 0], none, 0⟩, ⟨none, .store 9 (.t 13) (.t 48), none, 1⟩] 1 true [(1, 6), (5, 6)]) (.seq (.seq (.region [⟨some 49, .off 8 (.t 13), none, 0⟩, ⟨some 50, .load none
  (.t 49), none, 0⟩, ⟨some 51, .bin .neq (.t 50) (.c (.int .i64 0)), none, 0⟩] 0 false []) (.cond (.t 51) (.seq (.region [⟨some 52, .mv (.t 1), none, 0⟩, ⟨some 53, .mv (.t 10), none, 0⟩, ⟨some 54, .bin
  .add (.t 52) (.t 53), none, 0⟩, ⟨some 55, .off 7 (.t 13), none, 0⟩, ⟨some 56, .load none (.t 55), none, 0⟩, ⟨some 57, .bin .add (.t 54) (.t 56), none, 0⟩, ⟨some 58, .off 8 (.t 13), none, 0⟩, ⟨some 59,
  .load none (.t 58), none, 0⟩, ⟨some 6, .mv (.c (.list 7 [] .full)), none, 0⟩, ⟨some 7, .mv (.t 57), none, 0⟩, ⟨some 8, .mv (.t 59), none, 0⟩] 0 true []) .ret) .skip)) (.seq (.region [⟨some 60, .mv (.t
  1), none, 0⟩, ⟨some 61, .mv (.t 10), none, 0⟩, ⟨some 62, .bin .add (.t 60) (.t 61), none, 0⟩, ⟨some 63, .off 0 (.t 13), none, 0⟩, ⟨some 64, .off 1 (.t 63), none, 0⟩, ⟨none, .store 1 (.t 64) (.t 62),
  none, 0⟩] 0 false []) (.seq (.region [⟨some 65, .mv (.t 9), none, 0⟩, ⟨some 66, .off 0 (.t 13), none, 0⟩, ⟨some 67, .load (some 7) (.t 66), none, 0⟩, ⟨some 68, .bslice 7 [.t 67], none, 0⟩, ⟨some 69,
  .append 7 56 30 (.t 65) (.t 68), none, 0⟩, ⟨some 9, .mv (.t 69), none, 1⟩] 1 false []) (.seq (.region [⟨some 70, .mv (.t 10), none, 0⟩, ⟨some 71, .off 7 (.t 13), none, 0⟩, ⟨some 72, .load none (.t 71),
  none, 0⟩, ⟨some 73, .bin .add (.t 70) (.t 72), none, 0⟩, ⟨some 10, .mv (.t 73), none, 0⟩] 0 false []) (.exit 2))))))))) (.region [⟨some 74, .bin .add (.t 32) (.c (.int .i64 1)), none, 0⟩, ⟨some 32, .mv
  (.t 74), none, 0⟩] 0 false [])))
def L25_0 := bL25_0
theorem wL25_0 : Wp O L25_0 Q σ h = Wp O bL25_0 Q σ h := rfl
abbrev bL25_1 : AC :=
  .seq (.seq (.region [⟨some 14, .mv (.t 10), none, 0⟩, ⟨some 15, .mv (.t 0), none, 0⟩, ⟨some 16, .lenS (.t 15), none, 0⟩, ⟨some 17, .bin .lss (.t 14) (.t 16), none, 0⟩, ⟨some 18, .mv (.t 17), none, 0⟩,
  ⟨some 19, .mv (.t 0), some (18, true), 0⟩, ⟨some 20, .mv (.t 10), some (18, true), 0⟩, ⟨some 21, .indexS (.t 19) (.t 20), some (18, true), 0⟩, ⟨some 22, .bin .neq (.t 21) (.c (.int .u8 59)), some (18,
  true), 0⟩, ⟨some 23, .pick (.t 18) (.t 22) (.c (.bool false)), none, 0⟩] 0 false []) (.cond (.t 23) .skip (.exit 0))) (.block 1 (.seq (.seq (.region [⟨some 24, .mv (.t 0), none, 0⟩, ⟨some 25, .mv (.t
  10), none, 0⟩, ⟨some 26, .indexS (.t 24) (.t 25), none, 0⟩, ⟨some 27, .call (.c (.fn 23 [])) [.t 26], none, 0⟩] 0 false []) (.cond (.t 27) (.seq (.region [⟨some 28, .mv (.t 10), none, 0⟩, ⟨some 29,
  .bin .add (.t 28) (.c (.int .i64 1)), none, 0⟩, ⟨some 10, .mv (.t 29), none, 0⟩] 0 false []) (.exit 1)) .skip)) (.seq (.region [⟨some 30, .mv (.t 2), none, 0⟩, ⟨some 31, .len (.t 30), none, 0⟩, ⟨some
  32, .mv (.c (.int .i64 0)), none, 0⟩] 0 false []) (.block 2 (.loop L25_0)))))
def L25_1 := bL25_1
theorem wL25_1 : Wp O L25_1 Q σ h = Wp O bL25_1 Q σ h := rfl
abbrev bK25_0 : AC :=
  .seq (.region [⟨some 75, .mv (.t 9), none, 0⟩, ⟨some 6, .mv (.t 75), none, 0⟩, ⟨some 7, .mv (.c (.int .i64 0)), none, 0⟩, ⟨some 8, .mv (.c (.int .i64 0)), none, 0⟩] 0 false []) .ret
def K25_0 := bK25_0
theorem wK25_0 : Wp O K25_0 Q σ h = Wp O bK25_0 Q σ h := rfl
abbrev bB25 : AC :=
  .seq (.region [⟨some 6, .mv (.c (.list 7 [] .full)), none, 0⟩, ⟨some 7, .mv (.c (.int .i64 0)), none, 0⟩, ⟨some 8, .mv (.c (.int .i64 0)), none, 0⟩] 0 false []) (.seq (.region [⟨some 9, .mv (.c (.list
  7 [] .full)), none, 0⟩] 0 false []) (.seq (.seq (.region [⟨some 10, .mv (.c (.int .i64 0)), none, 0⟩] 0 false []) (.block 0 (.loop L25_1))) K25_0))
def B25 := bB25
theorem wB25 : Wp O B25 Q σ h = Wp O bB25 Q σ h := rfl
def F25 : AF := ⟨B25, [.tmp 6, .tmp 7, .tmp 8], false⟩
theorem tab25 : T 25 = some F25 := by kernel_rfl
/-- franking/lex.Lex -/
abbrev bJ9_0 : AC :=
  .cond (.t 55) (.seq (.region [⟨some 70, .mv (.t 8), none, 0⟩, ⟨some 2, .mv (.c (.list 7 [] .full)), none, 0⟩, ⟨some 3, .mv (.t 70), none, 0⟩, ⟨some 4, .mv (.c (.int .i64 10)), none, 0⟩] 0 false [])
  .ret) (.seq (.region [⟨some 72, .mv (.t 13), none, 0⟩, ⟨some 73, .bin .eql (.t 72) (.c (.int .i64 0)), none, 0⟩, ⟨some 74, .mv (.t 73), none, 0⟩, ⟨some 75, .mv (.t 7), some (74, true), 0⟩, ⟨some 76,
  .pick (.t 74) (.t 75) (.c (.bool false)), none, 0⟩, ⟨some 71, .mv (.t 76), none, 0⟩] 0 false []) (.cond (.t 71) (.region [⟨some 77, .mv (.t 5), none, 0⟩, ⟨some 78, .mv (.t 8), none, 0⟩, ⟨some 79,
  .build [.int .u8 0, .int .i64 0, .str [], .int .i64 0, .int .i64 0, .int .u8 0, .int .u8 0] [(0, 1, .c (.int .u8 13)), (1, 1, .t 78)], none, 0⟩, ⟨some 80, .bslice 7 [.t 79], none, 0⟩, ⟨some 81, .append
  7 56 30 (.t 77) (.t 80), none, 0⟩, ⟨some 5, .mv (.t 81), none, 1⟩] 1 false []) .skip))
def J9_0 := bJ9_0
theorem wJ9_0 : Wp O J9_0 Q σ h = Wp O bJ9_0 Q σ h := rfl
abbrev bJ9_1 : AC :=
  .seq (.region [⟨some 7, .mv (.c (.bool true)), none, 0⟩] 0 false []) (.seq (.region [⟨some 83, .mv (.t 9), none, 0⟩, ⟨some 84, .mv (.t 8), none, 0⟩, ⟨some 85, .mv (.t 6), none, 0⟩, ⟨some 86, .call (.c
  (.fn 25 [])) [.t 83, .t 84, .t 85], none, 0⟩, ⟨some 82, .mv (.t 86), none, 0⟩, ⟨some 87, .ext (.t 82) 0, none, 0⟩, ⟨some 88, .ext (.t 82) 1, none, 0⟩, ⟨some 89, .ext (.t 82) 2, none, 0⟩, ⟨some 14, .mv
  (.t 87), none, 0⟩, ⟨some 15, .mv (.t 88), none, 0⟩, ⟨some 16, .mv (.t 89), none, 0⟩] 0 false []) (.seq (.seq (.region [⟨some 90, .mv (.t 16), none, 0⟩, ⟨some 91, .bin .neq (.t 90) (.c (.int .i64 0)),
  none, 0⟩] 0 false []) (.cond (.t 91) (.seq (.region [⟨some 92, .mv (.t 15), none, 0⟩, ⟨some 93, .mv (.t 16), none, 0⟩, ⟨some 2, .mv (.c (.list 7 [] .full)), none, 0⟩, ⟨some 3, .mv (.t 92), none, 0⟩,
  ⟨some 4, .mv (.t 93), none, 0⟩] 0 false []) .ret) .skip)) (.region [⟨some 94, .mv (.t 5), none, 0⟩, ⟨some 95, .mv (.t 14), none, 0⟩, ⟨some 96, .append 7 56 30 (.t 94) (.t 95), none, 0⟩, ⟨some 97, .mv
  (.t 12), none, 1⟩, ⟨some 5, .mv (.t 96), none, 1⟩, ⟨some 8, .mv (.t 97), none, 1⟩] 1 false [])))
def J9_1 := bJ9_1
theorem wJ9_1 : Wp O J9_1 Q σ h = Wp O bJ9_1 Q σ h := rfl
abbrev bJ9_2 : AC :=
  .seq (.region [⟨some 41, .mv (.t 9), none, 0⟩, ⟨some 42, .call (.c (.fn 22 [])) [.t 41, .c (.fn 23 [])], none, 0⟩, ⟨some 13, .mv (.t 42), none, 0⟩] 0 false []) (.seq (.block 2 (.seq (.region [⟨some 44,
  .mv (.t 13), none, 0⟩, ⟨some 45, .mv (.t 9), none, 0⟩, ⟨some 46, .lenS (.t 45), none, 0⟩, ⟨some 47, .bin .eql (.t 44) (.t 46), none, 0⟩, ⟨some 48, .mv (.t 47), none, 0⟩, ⟨some 49, .mv (.t 9), some (48,
  false), 0⟩, ⟨some 50, .mv (.t 13), some (48, false), 0⟩, ⟨some 51, .indexS (.t 49) (.t 50), some (48, false), 0⟩, ⟨some 52, .bin .eql (.t 51) (.c (.int .u8 59)), some (48, false), 0⟩, ⟨some 53, .pick
  (.t 48) (.c (.bool true)) (.t 52), none, 0⟩, ⟨some 43, .mv (.t 53), none, 0⟩] 0 false []) (.cond (.t 43) (.seq (.region [⟨some 54, .mv (.t 12), none, 0⟩, ⟨some 8, .mv (.t 54), none, 0⟩] 0 false [])
  (.exit 1)) (.seq (.seq (.region [⟨some 56, .mv (.t 13), none, 0⟩, ⟨some 57, .bin .eql (.t 56) (.c (.int .i64 0)), none, 0⟩, ⟨some 58, .mv (.t 57), none, 0⟩, ⟨some 59, .mv (.t 9), some (58, true), 0⟩,
  ⟨some 60, .indexS (.t 59) (.c (.int .i64 0)), some (58, true), 0⟩, ⟨some 61, .call (.c (.fn 24 [])) [.t 60], some (58, true), 0⟩, ⟨some 62, .not (.t 61), some (58, true), 0⟩, ⟨some 63, .pick (.t 58)
  (.t 62) (.c (.bool false)), none, 0⟩, ⟨some 55, .mv (.t 63), none, 0⟩] 0 false []) (.cond (.t 55) .skip (.region [⟨some 64, .mv (.t 13), none, 0⟩, ⟨some 65, .bin .gtr (.t 64) (.c (.int .i64 0)), none,
  0⟩, ⟨some 66, .mv (.t 65), none, 0⟩, ⟨some 67, .mv (.t 7), some (66, true), 0⟩, ⟨some 68, .not (.t 67), some (66, true), 0⟩, ⟨some 69, .pick (.t 66) (.t 68) (.c (.bool false)), none, 0⟩, ⟨some 55, .mv
  (.t 69), none, 0⟩] 0 false []))) J9_0)))) J9_1)
def J9_2 := bJ9_2
theorem wJ9_2 : Wp O J9_2 Q σ h = Wp O bJ9_2 Q σ h := rfl
abbrev bL9_0 : AC :=
  .seq (.seq (.region [⟨some 21, .mv (.t 8), none, 0⟩, ⟨some 22, .mv (.t 0), none, 0⟩, ⟨some 23, .lenS (.t 22), none, 0⟩, ⟨some 24, .bin .lss (.t 21) (.t 23), none, 0⟩] 0 false []) (.cond (.t 24) .skip
  (.exit 0))) (.block 1 (.seq (.region [⟨some 26, .mv (.t 0), none, 0⟩, ⟨some 27, .mv (.t 8), none, 0⟩, ⟨some 28, .sliceS (.t 26) (some (.t 27)) none, none, 0⟩, ⟨some 29, .call (.c (.fn 20 [])) [.t 28,
  .c (.str [10])], none, 0⟩, ⟨some 25, .mv (.t 29), none, 0⟩, ⟨some 30, .ext (.t 25) 0, none, 0⟩, ⟨some 31, .ext (.t 25) 1, none, 0⟩, ⟨some 32, .ext (.t 25) 2, none, 0⟩, ⟨some 9, .mv (.t 30), none, 0⟩,
  ⟨some 10, .mv (.t 31), none, 0⟩, ⟨some 11, .mv (.t 32), none, 0⟩] 0 false []) (.seq (.region [⟨some 33, .mv (.t 8), none, 0⟩, ⟨some 34, .mv (.t 9), none, 0⟩, ⟨some 35, .lenS (.t 34), none, 0⟩, ⟨some
  36, .bin .add (.t 33) (.t 35), none, 0⟩, ⟨some 37, .bin .add (.t 36) (.c (.int .i64 1)), none, 0⟩, ⟨some 12, .mv (.t 37), none, 0⟩] 0 false []) (.seq (.seq (.region [⟨some 38, .mv (.t 11), none, 0⟩] 0
  false []) (.cond (.t 38) (.region [⟨some 39, .mv (.t 9), none, 0⟩, ⟨some 40, .call (.c (.fn 21 [])) [.t 39, .c (.str [13])], none, 0⟩, ⟨some 9, .mv (.t 40), none, 0⟩] 0 false []) .skip)) J9_2))))
def L9_0 := bL9_0
theorem wL9_0 : Wp O L9_0 Q σ h = Wp O bL9_0 Q σ h := rfl
abbrev bJ9_3 : AC :=
  .seq (.region [⟨some 105, .mv (.t 5), none, 0⟩, ⟨some 2, .mv (.t 105), none, 0⟩, ⟨some 3, .mv (.c (.int .i64 0)), none, 0⟩, ⟨some 4, .mv (.c (.int .i64 0)), none, 0⟩] 0 false []) .ret
def J9_3 := bJ9_3
theorem wJ9_3 : Wp O J9_3 Q σ h = Wp O bJ9_3 Q σ h := rfl
abbrev bK9_0 : AC :=
  .seq (.seq (.region [⟨some 98, .mv (.t 7), none, 0⟩] 0 false []) (.cond (.t 98) (.region [⟨some 99, .mv (.t 5), none, 0⟩, ⟨some 100, .mv (.t 0), none, 0⟩, ⟨some 101, .lenS (.t 100), none, 0⟩, ⟨some
  102, .build [.int .u8 0, .int .i64 0, .str [], .int .i64 0, .int .i64 0, .int .u8 0, .int .u8 0] [(0, 1, .c (.int .u8 13)), (1, 1, .t 101)], none, 0⟩, ⟨some 103, .bslice 7 [.t 102], none, 0⟩, ⟨some
  104, .append 7 56 30 (.t 99) (.t 103), none, 0⟩, ⟨some 5, .mv (.t 104), none, 1⟩] 1 false []) .skip)) J9_3
def K9_0 := bK9_0
theorem wK9_0 : Wp O K9_0 Q σ h = Wp O bK9_0 Q σ h := rfl
abbrev bB9 : AC :=
  .seq (.region [⟨some 2, .mv (.c (.list 7 [] .full)), none, 0⟩, ⟨some 3, .mv (.c (.int .i64 0)), none, 0⟩, ⟨some 4, .mv (.c (.int .i64 0)), none, 0⟩] 0 false []) (.seq (.seq (.region [⟨some 17, .mv (.t
  0), none, 0⟩, ⟨some 18, .lenS (.t 17), none, 0⟩, ⟨some 19, .bin .gtr (.t 18) (.c (.int .i64 65536)), none, 0⟩] 0 false []) (.cond (.t 19) (.seq (.region [⟨some 2, .mv (.c (.list 7 [] .full)), none, 0⟩,
  ⟨some 3, .mv (.c (.int .i64 65536)), none, 0⟩, ⟨some 4, .mv (.c (.int .i64 3)), none, 0⟩] 0 false []) .ret) .skip)) (.seq (.region [⟨some 5, .mv (.c (.list 7 [] .full)), none, 0⟩] 0 false []) (.seq
  (.region [⟨some 20, .call (.c (.fn 19 [])) [], none, 0⟩, ⟨some 6, .mv (.t 20), none, 0⟩, ⟨some 7, .mv (.c (.bool false)), none, 0⟩] 0 false []) (.seq (.seq (.region [⟨some 8, .mv (.c (.int .i64 0)),
  none, 0⟩] 0 false []) (.block 0 (.loop L9_0))) K9_0))))
def B9 := bB9
theorem wB9 : Wp O B9 Q σ h = Wp O bB9 Q σ h := rfl
def F9 : AF := ⟨B9, [.tmp 2, .tmp 3, .tmp 4], false⟩
theorem tab9 : T 9 = some F9 := by kernel_rfl
/-- franking/frankinglaw01.LexTells -/
abbrev bB3 : AC :=
  .seq (.region [⟨some 2, .mv (.c (.bool false)), none, 0⟩] 0 false []) (.seq (.seq (.region [⟨some 9, .mv (.t 0), none, 0⟩, ⟨some 10, .lenS (.t 9), none, 0⟩, ⟨some 11, .bin .gtr (.t 10) (.c (.int .i64
  4000)), none, 0⟩] 0 false []) (.cond (.t 11) (.seq (.region [⟨some 12, .call (.c (.fn 8 [])) [], none, 0⟩, ⟨some 2, .mv (.t 12), none, 0⟩] 0 false []) .ret) .skip)) (.seq (.region [⟨some 14, .mv (.t
  0), none, 0⟩, ⟨some 15, .call (.c (.fn 9 [])) [.t 14], none, 0⟩, ⟨some 13, .mv (.t 15), none, 0⟩, ⟨some 16, .ext (.t 13) 0, none, 0⟩, ⟨some 17, .ext (.t 13) 1, none, 0⟩, ⟨some 18, .ext (.t 13) 2, none,
  0⟩, ⟨some 3, .mv (.t 16), none, 0⟩, ⟨some 4, .mv (.t 17), none, 0⟩, ⟨some 5, .mv (.t 18), none, 0⟩] 0 false []) (.seq (.region [⟨some 20, .mv (.t 0), none, 0⟩, ⟨some 21, .call (.c (.fn 10 [])) [.t 20],
  none, 0⟩, ⟨some 19, .mv (.t 21), none, 0⟩, ⟨some 22, .ext (.t 19) 0, none, 0⟩, ⟨some 23, .ext (.t 19) 1, none, 0⟩, ⟨some 24, .ext (.t 19) 2, none, 0⟩, ⟨some 6, .mv (.t 22), none, 0⟩, ⟨some 7, .mv (.t
  23), none, 0⟩, ⟨some 8, .mv (.t 24), none, 0⟩] 0 false []) (.seq (.region [⟨some 25, .mv (.t 3), none, 0⟩, ⟨some 26, .mv (.t 6), none, 0⟩, ⟨some 27, .call (.c (.fn 11 [])) [.t 25, .t 26], none, 0⟩,
  ⟨some 28, .mv (.t 27), none, 0⟩, ⟨some 29, .mv (.t 4), some (28, true), 0⟩, ⟨some 30, .mv (.t 7), some (28, true), 0⟩, ⟨some 31, .bin .eql (.t 29) (.t 30), some (28, true), 0⟩, ⟨some 32, .pick (.t 28)
  (.t 31) (.c (.bool false)), none, 0⟩, ⟨some 33, .mv (.t 32), none, 0⟩, ⟨some 34, .mv (.t 5), some (33, true), 0⟩, ⟨some 35, .mv (.t 8), some (33, true), 0⟩, ⟨some 36, .bin .eql (.t 34) (.t 35), some
  (33, true), 0⟩, ⟨some 37, .pick (.t 33) (.t 36) (.c (.bool false)), none, 0⟩, ⟨some 38, .mv (.t 37), none, 0⟩, ⟨some 39, .call (.c (.fn 8 [])) [], some (38, true), 0⟩, ⟨some 40, .pick (.t 38) (.t 39)
  (.c (.bool false)), none, 0⟩, ⟨some 2, .mv (.t 40), none, 0⟩] 0 false []) .ret))))
def B3 := bB3
theorem wB3 : Wp O B3 Q σ h = Wp O bB3 Q σ h := rfl
def F3 : AF := ⟨B3, [.tmp 2], false⟩
theorem tab3 : T 3 = some F3 := by kernel_rfl
/-- franking/frankinglow.Toks -/
abbrev bL11_0 : AC :=
  .seq (.region [⟨some 14, .bin .lss (.t 13) (.t 12), none, 0⟩] 0 false []) (.seq (.cond (.t 14) .skip (.exit 0)) (.seq (.block 1 (.seq (.region [⟨some 15, .mv (.t 13), none, 0⟩, ⟨some 5, .mv (.t 15),
  none, 0⟩] 0 false []) (.seq (.region [⟨some 16, .mv (.t 0), none, 0⟩, ⟨some 17, .mv (.t 5), none, 0⟩, ⟨some 18, .idx 7 (.t 16) (.t 17), none, 0⟩, ⟨some 19, .load (some 7) (.t 18), none, 0⟩, ⟨some 20,
  .mv (.t 1), none, 0⟩, ⟨some 21, .mv (.t 5), none, 0⟩, ⟨some 22, .idx 7 (.t 20) (.t 21), none, 0⟩, ⟨some 23, .load (some 7) (.t 22), none, 0⟩, ⟨some 24, .eq true (some 7) [(0, LK.int), (1, LK.int), (2,
  LK.str), (3, LK.int), (4, LK.int), (5, LK.int), (6, LK.int)] (.t 19) (.t 23), none, 0⟩] 0 true []) (.cond (.t 24) (.seq (.region [⟨some 4, .mv (.c (.bool false)), none, 0⟩] 0 false []) .ret) .skip))))
  (.region [⟨some 25, .bin .add (.t 13) (.c (.int .i64 1)), none, 0⟩, ⟨some 13, .mv (.t 25), none, 0⟩] 0 false [])))
def L11_0 := bL11_0
theorem wL11_0 : Wp O L11_0 Q σ h = Wp O bL11_0 Q σ h := rfl
abbrev bK11_0 : AC :=
  .seq (.region [⟨some 4, .mv (.c (.bool true)), none, 0⟩] 0 false []) .ret
def K11_0 := bK11_0
theorem wK11_0 : Wp O K11_0 Q σ h = Wp O bK11_0 Q σ h := rfl
abbrev bB11 : AC :=
  .seq (.region [⟨some 4, .mv (.c (.bool false)), none, 0⟩] 0 false []) (.seq (.seq (.region [⟨some 6, .mv (.t 0), none, 0⟩, ⟨some 7, .len (.t 6), none, 0⟩, ⟨some 8, .mv (.t 1), none, 0⟩, ⟨some 9, .len
  (.t 8), none, 0⟩, ⟨some 10, .bin .neq (.t 7) (.t 9), none, 0⟩] 0 false []) (.cond (.t 10) (.seq (.region [⟨some 4, .mv (.c (.bool false)), none, 0⟩] 0 false []) .ret) .skip)) (.seq (.seq (.region
  [⟨some 11, .mv (.t 0), none, 0⟩, ⟨some 12, .len (.t 11), none, 0⟩, ⟨some 13, .mv (.c (.int .i64 0)), none, 0⟩] 0 false []) (.block 0 (.loop L11_0))) K11_0))
def B11 := bB11
theorem wB11 : Wp O B11 Q σ h = Wp O bB11 Q σ h := rfl
def F11 : AF := ⟨B11, [.tmp 4], false⟩
theorem tab11 : T 11 = some F11 := by kernel_rfl
/-- franking/frankinglow.Alike -/
abbrev bL14_0 : AC :=
  .seq (.region [⟨some 16, .bin .lss (.t 15) (.t 14), none, 0⟩] 0 false []) (.seq (.cond (.t 16) .skip (.exit 0)) (.seq (.block 1 (.seq (.region [⟨some 17, .mv (.t 15), none, 0⟩, ⟨some 5, .mv (.t 17),
  none, 0⟩] 0 false []) (.seq (.region [⟨some 18, .mv (.t 0), none, 0⟩, ⟨some 19, .mv (.t 5), none, 0⟩, ⟨some 20, .idx 7 (.t 18) (.t 19), none, 0⟩, ⟨some 21, .load (some 7) (.t 20), none, 0⟩, ⟨some 22,
  .mv (.t 1), none, 0⟩, ⟨some 23, .mv (.t 5), none, 0⟩, ⟨some 24, .idx 7 (.t 22) (.t 23), none, 0⟩, ⟨some 25, .load (some 7) (.t 24), none, 0⟩, ⟨some 6, .alloc [.int .u8 0, .int .i64 0, .str [], .int
  .i64 0, .int .i64 0, .int .u8 0, .int .u8 0], none, 0⟩, ⟨some 7, .alloc [.int .u8 0, .int .i64 0, .str [], .int .i64 0, .int .i64 0, .int .u8 0, .int .u8 0], none, 1⟩, ⟨none, .store 7 (.t 6) (.t 21),
  none, 2⟩, ⟨none, .store 7 (.t 7) (.t 25), none, 2⟩] 2 true [(3, 8), (7, 8), (3, 9), (7, 9), (8, 9), (7, 10)]) (.seq (.region [⟨some 26, .off 1 (.t 6), none, 0⟩, ⟨none, .store 1 (.t 26) (.c (.int .i64
  0)), none, 0⟩, ⟨some 27, .off 1 (.t 7), none, 0⟩, ⟨none, .store 1 (.t 27) (.c (.int .i64 0)), none, 0⟩] 0 false []) (.seq (.region [⟨some 28, .load (some 7) (.t 6), none, 0⟩, ⟨some 29, .load (some 7)
  (.t 7), none, 0⟩, ⟨some 30, .eq true (some 7) [(0, LK.int), (1, LK.int), (2, LK.str), (3, LK.int), (4, LK.int), (5, LK.int), (6, LK.int)] (.t 28) (.t 29), none, 0⟩] 0 false []) (.cond (.t 30) (.seq
  (.region [⟨some 4, .mv (.c (.bool false)), none, 0⟩] 0 false []) .ret) .skip)))))) (.region [⟨some 31, .bin .add (.t 15) (.c (.int .i64 1)), none, 0⟩, ⟨some 15, .mv (.t 31), none, 0⟩] 0 false [])))
def L14_0 := bL14_0
theorem wL14_0 : Wp O L14_0 Q σ h = Wp O bL14_0 Q σ h := rfl
abbrev bK14_0 : AC :=
  .seq (.region [⟨some 4, .mv (.c (.bool true)), none, 0⟩] 0 false []) .ret
def K14_0 := bK14_0
theorem wK14_0 : Wp O K14_0 Q σ h = Wp O bK14_0 Q σ h := rfl
abbrev bB14 : AC :=
  .seq (.region [⟨some 4, .mv (.c (.bool false)), none, 0⟩] 0 false []) (.seq (.seq (.region [⟨some 8, .mv (.t 0), none, 0⟩, ⟨some 9, .len (.t 8), none, 0⟩, ⟨some 10, .mv (.t 1), none, 0⟩, ⟨some 11, .len
  (.t 10), none, 0⟩, ⟨some 12, .bin .neq (.t 9) (.t 11), none, 0⟩] 0 false []) (.cond (.t 12) (.seq (.region [⟨some 4, .mv (.c (.bool false)), none, 0⟩] 0 false []) .ret) .skip)) (.seq (.seq (.region
  [⟨some 13, .mv (.t 0), none, 0⟩, ⟨some 14, .len (.t 13), none, 0⟩, ⟨some 15, .mv (.c (.int .i64 0)), none, 0⟩] 0 false []) (.block 0 (.loop L14_0))) K14_0))
def B14 := bB14
theorem wB14 : Wp O B14 Q σ h = Wp O bB14 Q σ h := rfl
def F14 : AF := ⟨B14, [.tmp 4], false⟩
theorem tab14 : T 14 = some F14 := by kernel_rfl
/-- franking/frankinglaw01.fails -/
abbrev bB17 : AC :=
  .seq (.region [⟨some 6, .mv (.c (.bool false)), none, 0⟩] 0 false []) (.seq (.region [⟨some 11, .mv (.t 0), none, 0⟩, ⟨some 12, .call (.c (.fn 9 [])) [.t 11], none, 0⟩, ⟨some 10, .mv (.t 12), none, 0⟩,
  ⟨some 13, .ext (.t 10) 0, none, 0⟩, ⟨some 14, .ext (.t 10) 1, none, 0⟩, ⟨some 15, .ext (.t 10) 2, none, 0⟩, ⟨some 7, .mv (.t 13), none, 0⟩, ⟨some 8, .mv (.t 14), none, 0⟩, ⟨some 9, .mv (.t 15), none,
  0⟩] 0 false []) (.seq (.region [⟨some 16, .mv (.t 9), none, 0⟩, ⟨some 17, .mv (.t 2), none, 0⟩, ⟨some 18, .bin .eql (.t 16) (.t 17), none, 0⟩, ⟨some 19, .mv (.t 18), none, 0⟩, ⟨some 20, .mv (.t 8),
  some (19, true), 0⟩, ⟨some 21, .mv (.t 1), some (19, true), 0⟩, ⟨some 22, .bin .eql (.t 20) (.t 21), some (19, true), 0⟩, ⟨some 23, .pick (.t 19) (.t 22) (.c (.bool false)), none, 0⟩, ⟨some 24, .mv (.t
  23), none, 0⟩, ⟨some 25, .mv (.t 7), some (24, true), 0⟩, ⟨some 26, .len (.t 25), some (24, true), 0⟩, ⟨some 27, .bin .eql (.t 26) (.c (.int .i64 0)), some (24, true), 0⟩, ⟨some 28, .pick (.t 24) (.t
  27) (.c (.bool false)), none, 0⟩, ⟨some 6, .mv (.t 28), none, 0⟩] 0 false []) .ret))
def B17 := bB17
theorem wB17 : Wp O B17 Q σ h = Wp O bB17 Q σ h := rfl
def F17 : AF := ⟨B17, [.tmp 6], false⟩
theorem tab17 : T 17 = some F17 := by kernel_rfl
/-- franking/frankinglaw01.awake -/
abbrev bB8 : AC :=
  .seq (.region [⟨some 0, .mv (.c (.bool false)), none, 0⟩] 0 false []) (.seq (.region [⟨some 11, .call (.c (.fn 9 [])) [.c (.str [97, 32, 61, 32, 49, 42, 51, 98, 32, 59, 32, 120])], none, 0⟩, ⟨some 10,
  .mv (.t 11), none, 0⟩, ⟨some 12, .ext (.t 10) 0, none, 0⟩, ⟨some 13, .ext (.t 10) 1, none, 0⟩, ⟨some 14, .ext (.t 10) 2, none, 0⟩, ⟨some 1, .mv (.t 12), none, 0⟩, ⟨some 2, .mv (.t 13), none, 0⟩, ⟨some
  3, .mv (.t 14), none, 0⟩] 0 false []) (.seq (.region [⟨some 16, .call (.c (.fn 9 [])) [.c (.str [97, 32, 61, 32, 34, 98, 34, 32, 47, 32, 37, 120, 52, 49, 45, 53, 65, 32, 37, 100, 49, 51, 46, 49, 48,
  32, 42, 32, 53, 32, 50, 42])], none, 0⟩, ⟨some 15, .mv (.t 16), none, 0⟩, ⟨some 17, .ext (.t 15) 0, none, 0⟩, ⟨some 18, .ext (.t 15) 1, none, 0⟩, ⟨some 19, .ext (.t 15) 2, none, 0⟩, ⟨some 4, .mv (.t
  17), none, 0⟩, ⟨some 5, .mv (.t 18), none, 0⟩, ⟨some 6, .mv (.t 19), none, 0⟩] 0 false []) (.seq (.region [⟨some 21, .call (.c (.fn 9 [])) [.c (.str [])], none, 0⟩, ⟨some 20, .mv (.t 21), none, 0⟩,
  ⟨some 22, .ext (.t 20) 0, none, 0⟩, ⟨some 23, .ext (.t 20) 1, none, 0⟩, ⟨some 24, .ext (.t 20) 2, none, 0⟩, ⟨some 7, .mv (.t 22), none, 0⟩, ⟨some 8, .mv (.t 23), none, 0⟩, ⟨some 9, .mv (.t 24), none,
  0⟩] 0 false []) (.seq (.seq (.region [⟨some 25, .mv (.t 3), none, 0⟩, ⟨some 26, .mv (.t 6), none, 0⟩, ⟨some 27, .bin .add (.t 25) (.t 26), none, 0⟩, ⟨some 28, .mv (.t 9), none, 0⟩, ⟨some 29, .bin .add
  (.t 27) (.t 28), none, 0⟩, ⟨some 30, .bin .neq (.t 29) (.c (.int .i64 0)), none, 0⟩, ⟨some 31, .mv (.t 30), none, 0⟩, ⟨some 32, .mv (.t 2), some (31, false), 0⟩, ⟨some 33, .mv (.t 5), some (31, false),
  0⟩, ⟨some 34, .bin .add (.t 32) (.t 33), some (31, false), 0⟩, ⟨some 35, .mv (.t 8), some (31, false), 0⟩, ⟨some 36, .bin .add (.t 34) (.t 35), some (31, false), 0⟩, ⟨some 37, .bin .neq (.t 36) (.c
  (.int .i64 0)), some (31, false), 0⟩, ⟨some 38, .pick (.t 31) (.c (.bool true)) (.t 37), none, 0⟩, ⟨some 39, .mv (.t 38), none, 0⟩, ⟨some 40, .mv (.t 7), some (39, false), 0⟩, ⟨some 41, .len (.t 40),
  some (39, false), 0⟩, ⟨some 42, .bin .neq (.t 41) (.c (.int .i64 0)), some (39, false), 0⟩, ⟨some 43, .pick (.t 39) (.c (.bool true)) (.t 42), none, 0⟩] 0 false []) (.cond (.t 43) (.seq (.region [⟨some
  0, .mv (.c (.bool false)), none, 0⟩] 0 false []) .ret) .skip)) (.seq (.seq (.region [⟨some 44, .mv (.t 1), none, 0⟩, ⟨some 45, .build [.int .u8 0, .int .i64 0, .str [], .int .i64 0, .int .i64 0, .int
  .u8 0, .int .u8 0] [(0, 1, .c (.int .u8 1)), (2, 1, .c (.str [97]))], none, 0⟩, ⟨some 46, .build [.int .u8 0, .int .i64 0, .str [], .int .i64 0, .int .i64 0, .int .u8 0, .int .u8 0] [(0, 1, .c (.int
  .u8 2)), (1, 1, .c (.int .i64 2))], none, 0⟩, ⟨some 47, .build [.int .u8 0, .int .i64 0, .str [], .int .i64 0, .int .i64 0, .int .u8 0, .int .u8 0] [(0, 1, .c (.int .u8 9)), (1, 1, .c (.int .i64 4)),
  (3, 1, .c (.int .i64 1)), (4, 1, .c (.int .i64 3))], none, 0⟩, ⟨some 48, .build [.int .u8 0, .int .i64 0, .str [], .int .i64 0, .int .i64 0, .int .u8 0, .int .u8 0] [(0, 1, .c (.int .u8 1)), (1, 1, .c
  (.int .i64 7)), (2, 1, .c (.str [98]))], none, 0⟩, ⟨some 49, .build [.int .u8 0, .int .i64 0, .str [], .int .i64 0, .int .i64 0, .int .u8 0, .int .u8 0] [(0, 1, .c (.int .u8 13)), (1, 1, .c (.int .i64
  12))], none, 0⟩, ⟨some 50, .bslice 7 [.t 45, .t 46, .t 47, .t 48, .t 49], none, 0⟩, ⟨some 51, .call (.c (.fn 11 [])) [.t 44, .t 50], none, 0⟩, ⟨some 52, .not (.t 51), none, 0⟩] 0 false []) (.cond (.t
  52) (.seq (.region [⟨some 0, .mv (.c (.bool false)), none, 0⟩] 0 false []) .ret) .skip)) (.seq (.seq (.region [⟨some 53, .mv (.t 4), none, 0⟩, ⟨some 54, .build [.int .u8 0, .int .i64 0, .str [], .int
  .i64 0, .int .i64 0, .int .u8 0, .int .u8 0] [(0, 1, .c (.int .u8 1)), (2, 1, .c (.str [97]))], none, 0⟩, ⟨some 55, .build [.int .u8 0, .int .i64 0, .str [], .int .i64 0, .int .i64 0, .int .u8 0, .int
  .u8 0] [(0, 1, .c (.int .u8 2))], none, 0⟩, ⟨some 56, .build [.int .u8 0, .int .i64 0, .str [], .int .i64 0, .int .i64 0, .int .u8 0, .int .u8 0] [(0, 1, .c (.int .u8 10)), (2, 1, .c (.str [98]))],
  none, 0⟩, ⟨some 57, .build [.int .u8 0, .int .i64 0, .str [], .int .i64 0, .int .i64 0, .int .u8 0, .int .u8 0] [(0, 1, .c (.int .u8 4))], none, 0⟩, ⟨some 58, .build [.int .u8 0, .int .i64 0, .str [],
  .int .i64 0, .int .i64 0, .int .u8 0, .int .u8 0] [(0, 1, .c (.int .u8 12)), (5, 1, .c (.int .u8 65)), (6, 1, .c (.int .u8 90))], none, 0⟩, ⟨some 59, .build [.int .u8 0, .int .i64 0, .str [], .int .i64
  0, .int .i64 0, .int .u8 0, .int .u8 0] [(0, 1, .c (.int .u8 11)), (2, 1, .c (.str [13, 10]))], none, 0⟩, ⟨some 60, .build [.int .u8 0, .int .i64 0, .str [], .int .i64 0, .int .i64 0, .int .u8 0, .int
  .u8 0] [(0, 1, .c (.int .u8 9)), (4, 1, .c (.int .i64 (-1)))], none, 0⟩, ⟨some 61, .build [.int .u8 0, .int .i64 0, .str [], .int .i64 0, .int .i64 0, .int .u8 0, .int .u8 0] [(0, 1, .c (.int .u8 9)),
  (3, 1, .c (.int .i64 5)), (4, 1, .c (.int .i64 5))], none, 0⟩, ⟨some 62, .build [.int .u8 0, .int .i64 0, .str [], .int .i64 0, .int .i64 0, .int .u8 0, .int .u8 0] [(0, 1, .c (.int .u8 9)), (3, 1, .c
  (.int .i64 2)), (4, 1, .c (.int .i64 (-1)))], none, 0⟩, ⟨some 63, .build [.int .u8 0, .int .i64 0, .str [], .int .i64 0, .int .i64 0, .int .u8 0, .int .u8 0] [(0, 1, .c (.int .u8 13))], none, 0⟩, ⟨some
  64, .bslice 7 [.t 54, .t 55, .t 56, .t 57, .t 58, .t 59, .t 60, .t 61, .t 62, .t 63], none, 0⟩, ⟨some 65, .call (.c (.fn 14 [])) [.t 53, .t 64], none, 0⟩, ⟨some 66, .not (.t 65), none, 0⟩] 0 false [])
  (.cond (.t 66) (.seq (.region [⟨some 0, .mv (.c (.bool false)), none, 0⟩] 0 false []) .ret) .skip)) (.seq (.region [⟨some 67, .call (.c (.fn 17 [])) [.c (.str [61, 32, 97]), .c (.int .i64 0), .c (.int
  .i64 10)], none, 0⟩, ⟨some 68, .mv (.t 67), none, 0⟩, ⟨some 69, .call (.c (.fn 17 [])) [.c (.str [97, 32, 61, 32, 53, 42, 51, 98]), .c (.int .i64 4), .c (.int .i64 13)], some (68, true), 0⟩, ⟨some 70,
  .pick (.t 68) (.t 69) (.c (.bool false)), none, 0⟩, ⟨some 71, .mv (.t 70), none, 0⟩, ⟨some 72, .call (.c (.fn 17 [])) [.c (.str [97, 32, 61, 32, 60, 98, 62]), .c (.int .i64 4), .c (.int .i64 16)], some
  (71, true), 0⟩, ⟨some 73, .pick (.t 71) (.t 72) (.c (.bool false)), none, 0⟩, ⟨some 74, .mv (.t 73), none, 0⟩, ⟨some 75, .call (.c (.fn 17 [])) [.c (.str [97, 32, 61, 32, 37, 120, 49, 48, 48]), .c
  (.int .i64 4), .c (.int .i64 15)], some (74, true), 0⟩, ⟨some 76, .pick (.t 74) (.t 75) (.c (.bool false)), none, 0⟩, ⟨some 77, .mv (.t 76), none, 0⟩, ⟨some 78, .call (.c (.fn 17 [])) [.c (.str [97,
  32, 61, 32, 36]), .c (.int .i64 4), .c (.int .i64 11)], some (77, true), 0⟩, ⟨some 79, .pick (.t 77) (.t 78) (.c (.bool false)), none, 0⟩, ⟨some 0, .mv (.t 79), none, 0⟩] 0 false []) .ret)))))))
def B8 := bB8
theorem wB8 : Wp O B8 Q σ h = Wp O bB8 Q σ h := rfl
def F8 : AF := ⟨B8, [.tmp 0], false⟩
theorem tab8 : T 8 = some F8 := by kernel_rfl
/-- franking/frankingref01.Letter -/
abbrev bB28 : AC :=
  .seq (.region [⟨some 2, .mv (.c (.bool false)), none, 0⟩] 0 false []) (.seq (.region [⟨some 3, .mv (.t 0), none, 0⟩, ⟨some 4, .bin .geq (.t 3) (.c (.int .u8 97)), none, 0⟩, ⟨some 5, .mv (.t 4), none,
  0⟩, ⟨some 6, .mv (.t 0), some (5, true), 0⟩, ⟨some 7, .bin .leq (.t 6) (.c (.int .u8 122)), some (5, true), 0⟩, ⟨some 8, .pick (.t 5) (.t 7) (.c (.bool false)), none, 0⟩, ⟨some 9, .mv (.t 8), none, 0⟩,
  ⟨some 10, .mv (.t 0), some (9, false), 0⟩, ⟨some 11, .bin .geq (.t 10) (.c (.int .u8 65)), some (9, false), 0⟩, ⟨some 12, .mv (.t 11), some (9, false), 0⟩, ⟨some 13, .mv (.t 0), some (12, true), 0⟩,
  ⟨some 14, .bin .leq (.t 13) (.c (.int .u8 90)), some (12, true), 0⟩, ⟨some 15, .pick (.t 12) (.t 14) (.c (.bool false)), some (9, false), 0⟩, ⟨some 16, .pick (.t 9) (.c (.bool true)) (.t 15), none, 0⟩,
  ⟨some 2, .mv (.t 16), none, 0⟩] 0 false []) .ret)
def B28 := bB28
theorem wB28 : Wp O B28 Q σ h = Wp O bB28 Q σ h := rfl
def F28 : AF := ⟨B28, [.tmp 2], false⟩
theorem tab28 : T 28 = some F28 := by kernel_rfl
/-- franking/frankingref01.Blank -/
abbrev bB29 : AC :=
  .seq (.region [⟨some 2, .mv (.c (.bool false)), none, 0⟩] 0 false []) (.seq (.region [⟨some 3, .mv (.t 0), none, 0⟩, ⟨some 4, .bin .eql (.t 3) (.c (.int .u8 32)), none, 0⟩, ⟨some 5, .mv (.t 4), none,
  0⟩, ⟨some 6, .mv (.t 0), some (5, false), 0⟩, ⟨some 7, .bin .eql (.t 6) (.c (.int .u8 9)), some (5, false), 0⟩, ⟨some 8, .pick (.t 5) (.c (.bool true)) (.t 7), none, 0⟩, ⟨some 2, .mv (.t 8), none, 0⟩]
  0 false []) .ret)
def B29 := bB29
theorem wB29 : Wp O B29 Q σ h = Wp O bB29 Q σ h := rfl
def F29 : AF := ⟨B29, [.tmp 2], false⟩
theorem tab29 : T 29 = some F29 := by kernel_rfl
/-- franking/frankingref01.Digit -/
abbrev bB53 : AC :=
  .seq (.region [⟨some 2, .mv (.c (.bool false)), none, 0⟩] 0 false []) (.seq (.region [⟨some 3, .mv (.t 0), none, 0⟩, ⟨some 4, .bin .geq (.t 3) (.c (.int .u8 48)), none, 0⟩, ⟨some 5, .mv (.t 4), none,
  0⟩, ⟨some 6, .mv (.t 0), some (5, true), 0⟩, ⟨some 7, .bin .leq (.t 6) (.c (.int .u8 57)), some (5, true), 0⟩, ⟨some 8, .pick (.t 5) (.t 7) (.c (.bool false)), none, 0⟩, ⟨some 2, .mv (.t 8), none, 0⟩]
  0 false []) .ret)
def B53 := bB53
theorem wB53 : Wp O B53 Q σ h = Wp O bB53 Q σ h := rfl
def F53 : AF := ⟨B53, [.tmp 2], false⟩
theorem tab53 : T 53 = some F53 := by kernel_rfl
/-- franking/frankingref01.Hex -/
abbrev bB77 : AC :=
  .seq (.region [⟨some 2, .mv (.c (.int .i64 0)), none, 0⟩] 0 false []) (.seq (.seq (.region [⟨some 3, .mv (.t 0), none, 0⟩, ⟨some 4, .call (.c (.fn 53 [])) [.t 3], none, 0⟩] 0 false []) (.cond (.t 4)
  (.seq (.region [⟨some 5, .mv (.t 0), none, 0⟩, ⟨some 6, .cvInt .i64 (.t 5), none, 0⟩, ⟨some 7, .bin .sub (.t 6) (.c (.int .i64 48)), none, 0⟩, ⟨some 2, .mv (.t 7), none, 0⟩] 0 false []) .ret) .skip))
  (.seq (.seq (.region [⟨some 8, .mv (.t 0), none, 0⟩, ⟨some 9, .bin .geq (.t 8) (.c (.int .u8 97)), none, 0⟩, ⟨some 10, .mv (.t 9), none, 0⟩, ⟨some 11, .mv (.t 0), some (10, true), 0⟩, ⟨some 12, .bin
  .leq (.t 11) (.c (.int .u8 102)), some (10, true), 0⟩, ⟨some 13, .pick (.t 10) (.t 12) (.c (.bool false)), none, 0⟩] 0 false []) (.cond (.t 13) (.seq (.region [⟨some 14, .mv (.t 0), none, 0⟩, ⟨some 15,
  .cvInt .i64 (.t 14), none, 0⟩, ⟨some 16, .bin .sub (.t 15) (.c (.int .i64 87)), none, 0⟩, ⟨some 2, .mv (.t 16), none, 0⟩] 0 false []) .ret) .skip)) (.seq (.seq (.region [⟨some 17, .mv (.t 0), none, 0⟩,
  ⟨some 18, .bin .geq (.t 17) (.c (.int .u8 65)), none, 0⟩, ⟨some 19, .mv (.t 18), none, 0⟩, ⟨some 20, .mv (.t 0), some (19, true), 0⟩, ⟨some 21, .bin .leq (.t 20) (.c (.int .u8 70)), some (19, true),
  0⟩, ⟨some 22, .pick (.t 19) (.t 21) (.c (.bool false)), none, 0⟩] 0 false []) (.cond (.t 22) (.seq (.region [⟨some 23, .mv (.t 0), none, 0⟩, ⟨some 24, .cvInt .i64 (.t 23), none, 0⟩, ⟨some 25, .bin .sub
  (.t 24) (.c (.int .i64 55)), none, 0⟩, ⟨some 2, .mv (.t 25), none, 0⟩] 0 false []) .ret) .skip)) (.seq (.region [⟨some 2, .mv (.c (.int .i64 (-1))), none, 0⟩] 0 false []) .ret))))
def B77 := bB77
theorem wB77 : Wp O B77 Q σ h = Wp O bB77 Q σ h := rfl
def F77 : AF := ⟨B77, [.tmp 2], false⟩
theorem tab77 : T 77 = some F77 := by kernel_rfl
/-- franking/frankingref01.digits -/
abbrev bL70_0 : AC :=
  .seq (.seq (.region [⟨some 10, .mv (.t 1), none, 0⟩, ⟨some 11, .mv (.t 8), none, 0⟩, ⟨some 12, .bin .add (.t 10) (.t 11), none, 0⟩, ⟨some 13, .mv (.t 0), none, 0⟩, ⟨some 14, .lenS (.t 13), none, 0⟩,
  ⟨some 15, .bin .lss (.t 12) (.t 14), none, 0⟩, ⟨some 16, .mv (.t 15), none, 0⟩, ⟨some 17, .mv (.t 0), some (16, true), 0⟩, ⟨some 18, .mv (.t 1), some (16, true), 0⟩, ⟨some 19, .mv (.t 8), some (16,
  true), 0⟩, ⟨some 20, .bin .add (.t 18) (.t 19), some (16, true), 0⟩, ⟨some 21, .indexS (.t 17) (.t 20), some (16, true), 0⟩, ⟨some 22, .call (.c (.fn 77 [])) [.t 21], some (16, true), 0⟩, ⟨some 23,
  .bin .geq (.t 22) (.c (.int .i64 0)), some (16, true), 0⟩, ⟨some 24, .pick (.t 16) (.t 23) (.c (.bool false)), none, 0⟩, ⟨some 25, .mv (.t 24), none, 0⟩, ⟨some 26, .mv (.t 0), some (25, true), 0⟩,
  ⟨some 27, .mv (.t 1), some (25, true), 0⟩, ⟨some 28, .mv (.t 8), some (25, true), 0⟩, ⟨some 29, .bin .add (.t 27) (.t 28), some (25, true), 0⟩, ⟨some 30, .indexS (.t 26) (.t 29), some (25, true), 0⟩,
  ⟨some 31, .call (.c (.fn 77 [])) [.t 30], some (25, true), 0⟩, ⟨some 32, .mv (.t 2), some (25, true), 0⟩, ⟨some 33, .bin .lss (.t 31) (.t 32), some (25, true), 0⟩, ⟨some 34, .pick (.t 25) (.t 33) (.c
  (.bool false)), none, 0⟩] 0 false []) (.cond (.t 34) .skip (.exit 0))) (.block 1 (.seq (.seq (.region [⟨some 35, .mv (.t 8), none, 0⟩, ⟨some 36, .bin .lss (.t 35) (.c (.int .i64 8)), none, 0⟩] 0 false
  []) (.cond (.t 36) (.region [⟨some 37, .mv (.t 9), none, 0⟩, ⟨some 38, .mv (.t 2), none, 0⟩, ⟨some 39, .bin .mul (.t 37) (.t 38), none, 0⟩, ⟨some 40, .mv (.t 0), none, 0⟩, ⟨some 41, .mv (.t 1), none,
  0⟩, ⟨some 42, .mv (.t 8), none, 0⟩, ⟨some 43, .bin .add (.t 41) (.t 42), none, 0⟩, ⟨some 44, .indexS (.t 40) (.t 43), none, 0⟩, ⟨some 45, .call (.c (.fn 77 [])) [.t 44], none, 0⟩, ⟨some 46, .bin .add
  (.t 39) (.t 45), none, 0⟩, ⟨some 9, .mv (.t 46), none, 0⟩] 0 false []) .skip)) (.region [⟨some 47, .mv (.t 8), none, 0⟩, ⟨some 48, .bin .add (.t 47) (.c (.int .i64 1)), none, 0⟩, ⟨some 8, .mv (.t 48),
  none, 0⟩] 0 false [])))
def L70_0 := bL70_0
theorem wL70_0 : Wp O L70_0 Q σ h = Wp O bL70_0 Q σ h := rfl
abbrev bK70_0 : AC :=
  .seq (.seq (.region [⟨some 49, .mv (.t 8), none, 0⟩, ⟨some 50, .bin .gtr (.t 49) (.c (.int .i64 8)), none, 0⟩] 0 false []) (.cond (.t 50) (.seq (.region [⟨some 51, .mv (.t 8), none, 0⟩, ⟨some 6, .mv
  (.t 51), none, 0⟩, ⟨some 7, .mv (.c (.int .i64 (-1))), none, 0⟩] 0 false []) .ret) .skip)) (.seq (.region [⟨some 52, .mv (.t 8), none, 0⟩, ⟨some 53, .mv (.t 9), none, 0⟩, ⟨some 6, .mv (.t 52), none,
  0⟩, ⟨some 7, .mv (.t 53), none, 0⟩] 0 false []) .ret)
def K70_0 := bK70_0
theorem wK70_0 : Wp O K70_0 Q σ h = Wp O bK70_0 Q σ h := rfl
abbrev bB70 : AC :=
  .seq (.region [⟨some 6, .mv (.c (.int .i64 0)), none, 0⟩, ⟨some 7, .mv (.c (.int .i64 0)), none, 0⟩] 0 false []) (.seq (.region [⟨some 8, .mv (.c (.int .i64 0)), none, 0⟩, ⟨some 9, .mv (.c (.int .i64
  0)), none, 0⟩] 0 false []) (.seq (.block 0 (.loop L70_0)) K70_0))
def B70 := bB70
theorem wB70 : Wp O B70 Q σ h = Wp O bB70 Q σ h := rfl
def F70 : AF := ⟨B70, [.tmp 6, .tmp 7], false⟩
theorem tab70 : T 70 = some F70 := by kernel_rfl
/-- franking/frankingref01.times -/
abbrev bB54 : AC :=
  .seq (.region [⟨some 4, .alloc [.int .u8 0, .int .i64 0, .str [], .int .i64 0, .int .i64 0, .int .u8 0, .int .u8 0], none, 0⟩, ⟨some 5, .mv (.c (.int .i64 0)), none, 1⟩, ⟨some 6, .mv (.c (.int .i64
  0)), none, 1⟩] 1 false []) (.seq (.region [⟨some 12, .mv (.t 0), none, 0⟩, ⟨some 13, .mv (.t 1), none, 0⟩, ⟨some 14, .call (.c (.fn 70 [])) [.t 12, .t 13, .c (.int .i64 10)], none, 0⟩, ⟨some 11, .mv
  (.t 14), none, 0⟩, ⟨some 15, .ext (.t 11) 0, none, 0⟩, ⟨some 16, .ext (.t 11) 1, none, 0⟩, ⟨some 7, .mv (.t 15), none, 0⟩, ⟨some 8, .mv (.t 16), none, 0⟩] 0 false []) (.seq (.seq (.region [⟨some 17,
  .mv (.t 7), none, 0⟩, ⟨some 18, .bin .gtr (.t 17) (.c (.int .i64 4)), none, 0⟩] 0 false []) (.cond (.t 18) (.seq (.region [⟨some 19, .build [.int .u8 0, .int .i64 0, .str [], .int .i64 0, .int .i64 0,
  .int .u8 0, .int .u8 0] [], none, 0⟩, ⟨some 20, .mv (.t 1), none, 0⟩, ⟨none, .store 7 (.t 4) (.t 19), none, 0⟩, ⟨some 5, .mv (.t 20), none, 0⟩, ⟨some 6, .mv (.c (.int .i64 12)), none, 0⟩] 0 false [])
  .ret) .skip)) (.seq (.seq (.region [⟨some 21, .mv (.t 1), none, 0⟩, ⟨some 22, .mv (.t 7), none, 0⟩, ⟨some 23, .bin .add (.t 21) (.t 22), none, 0⟩, ⟨some 24, .mv (.t 0), none, 0⟩, ⟨some 25, .lenS (.t
  24), none, 0⟩, ⟨some 26, .bin .geq (.t 23) (.t 25), none, 0⟩, ⟨some 27, .mv (.t 26), none, 0⟩, ⟨some 28, .mv (.t 0), some (27, false), 0⟩, ⟨some 29, .mv (.t 1), some (27, false), 0⟩, ⟨some 30, .mv (.t
  7), some (27, false), 0⟩, ⟨some 31, .bin .add (.t 29) (.t 30), some (27, false), 0⟩, ⟨some 32, .indexS (.t 28) (.t 31), some (27, false), 0⟩, ⟨some 33, .bin .neq (.t 32) (.c (.int .u8 42)), some (27,
  false), 0⟩, ⟨some 34, .pick (.t 27) (.c (.bool true)) (.t 33), none, 0⟩] 0 false []) (.cond (.t 34) (.seq (.region [⟨some 35, .mv (.t 8), none, 0⟩, ⟨some 36, .mv (.t 8), none, 0⟩, ⟨some 37, .build
  [.int .u8 0, .int .i64 0, .str [], .int .i64 0, .int .i64 0, .int .u8 0, .int .u8 0] [(0, 1, .c (.int .u8 9)), (3, 1, .t 35), (4, 1, .t 36)], none, 0⟩, ⟨some 38, .mv (.t 1), none, 0⟩, ⟨some 39, .mv (.t
  7), none, 0⟩, ⟨some 40, .bin .add (.t 38) (.t 39), none, 0⟩, ⟨none, .store 7 (.t 4) (.t 37), none, 0⟩, ⟨some 5, .mv (.t 40), none, 0⟩, ⟨some 6, .mv (.c (.int .i64 0)), none, 0⟩] 0 false []) .ret)
  .skip)) (.seq (.region [⟨some 42, .mv (.t 0), none, 0⟩, ⟨some 43, .mv (.t 1), none, 0⟩, ⟨some 44, .mv (.t 7), none, 0⟩, ⟨some 45, .bin .add (.t 43) (.t 44), none, 0⟩, ⟨some 46, .bin .add (.t 45) (.c
  (.int .i64 1)), none, 0⟩, ⟨some 47, .call (.c (.fn 70 [])) [.t 42, .t 46, .c (.int .i64 10)], none, 0⟩, ⟨some 41, .mv (.t 47), none, 0⟩, ⟨some 48, .ext (.t 41) 0, none, 0⟩, ⟨some 49, .ext (.t 41) 1,
  none, 0⟩, ⟨some 9, .mv (.t 48), none, 0⟩, ⟨some 10, .mv (.t 49), none, 0⟩] 0 false []) (.seq (.seq (.region [⟨some 50, .mv (.t 9), none, 0⟩, ⟨some 51, .bin .gtr (.t 50) (.c (.int .i64 4)), none, 0⟩] 0
  false []) (.cond (.t 51) (.seq (.region [⟨some 52, .build [.int .u8 0, .int .i64 0, .str [], .int .i64 0, .int .i64 0, .int .u8 0, .int .u8 0] [], none, 0⟩, ⟨some 53, .mv (.t 1), none, 0⟩, ⟨some 54,
  .mv (.t 7), none, 0⟩, ⟨some 55, .bin .add (.t 53) (.t 54), none, 0⟩, ⟨some 56, .bin .add (.t 55) (.c (.int .i64 1)), none, 0⟩, ⟨none, .store 7 (.t 4) (.t 52), none, 0⟩, ⟨some 5, .mv (.t 56), none, 0⟩,
  ⟨some 6, .mv (.c (.int .i64 12)), none, 0⟩] 0 false []) .ret) .skip)) (.seq (.seq (.region [⟨some 57, .mv (.t 9), none, 0⟩, ⟨some 58, .bin .eql (.t 57) (.c (.int .i64 0)), none, 0⟩] 0 false []) (.cond
  (.t 58) (.region [⟨some 10, .mv (.c (.int .i64 (-1))), none, 0⟩] 0 false []) .skip)) (.seq (.seq (.region [⟨some 59, .mv (.t 10), none, 0⟩, ⟨some 60, .bin .geq (.t 59) (.c (.int .i64 0)), none, 0⟩,
  ⟨some 61, .mv (.t 60), none, 0⟩, ⟨some 62, .mv (.t 10), some (61, true), 0⟩, ⟨some 63, .mv (.t 8), some (61, true), 0⟩, ⟨some 64, .bin .lss (.t 62) (.t 63), some (61, true), 0⟩, ⟨some 65, .pick (.t 61)
  (.t 64) (.c (.bool false)), none, 0⟩] 0 false []) (.cond (.t 65) (.seq (.region [⟨some 66, .build [.int .u8 0, .int .i64 0, .str [], .int .i64 0, .int .i64 0, .int .u8 0, .int .u8 0] [], none, 0⟩,
  ⟨some 67, .mv (.t 1), none, 0⟩, ⟨none, .store 7 (.t 4) (.t 66), none, 0⟩, ⟨some 5, .mv (.t 67), none, 0⟩, ⟨some 6, .mv (.c (.int .i64 13)), none, 0⟩] 0 false []) .ret) .skip)) (.seq (.region [⟨some 68,
  .mv (.t 8), none, 0⟩, ⟨some 69, .mv (.t 10), none, 0⟩, ⟨some 70, .build [.int .u8 0, .int .i64 0, .str [], .int .i64 0, .int .i64 0, .int .u8 0, .int .u8 0] [(0, 1, .c (.int .u8 9)), (3, 1, .t 68), (4,
  1, .t 69)], none, 0⟩, ⟨some 71, .mv (.t 1), none, 0⟩, ⟨some 72, .mv (.t 7), none, 0⟩, ⟨some 73, .bin .add (.t 71) (.t 72), none, 0⟩, ⟨some 74, .bin .add (.t 73) (.c (.int .i64 1)), none, 0⟩, ⟨some 75,
  .mv (.t 9), none, 0⟩, ⟨some 76, .bin .add (.t 74) (.t 75), none, 0⟩, ⟨none, .store 7 (.t 4) (.t 70), none, 0⟩, ⟨some 5, .mv (.t 76), none, 0⟩, ⟨some 6, .mv (.c (.int .i64 0)), none, 0⟩] 0 false [])
  .ret))))))))
def B54 := bB54
theorem wB54 : Wp O B54 Q σ h = Wp O bB54 Q σ h := rfl
def F54 : AF := ⟨B54, [.cell 4 (some 7), .tmp 5, .tmp 6], false⟩
theorem tab54 : T 54 = some F54 := by kernel_rfl
/-- franking/frankingref01.value -/
abbrev bJ56_0 : AC :=
  .cond (.t 28) (.region [⟨some 7, .mv (.c (.int .i64 2)), none, 0⟩] 0 false []) .skip
def J56_0 := bJ56_0
theorem wJ56_0 : Wp O J56_0 Q σ h = Wp O bJ56_0 Q σ h := rfl
abbrev bJ56_1 : AC :=
  .cond (.t 25) (.region [⟨some 7, .mv (.c (.int .i64 10)), none, 0⟩] 0 false []) (.seq (.seq (.region [⟨some 29, .bin .eql (.t 21) (.c (.int .u8 98)), none, 0⟩, ⟨some 28, .mv (.t 29), none, 0⟩] 0 false
  []) (.cond (.t 28) .skip (.region [⟨some 30, .bin .eql (.t 21) (.c (.int .u8 66)), none, 0⟩, ⟨some 28, .mv (.t 30), none, 0⟩] 0 false []))) J56_0)
def J56_1 := bJ56_1
theorem wJ56_1 : Wp O J56_1 Q σ h = Wp O bJ56_1 Q σ h := rfl
abbrev bJ56_2 : AC :=
  .cond (.t 22) (.region [⟨some 7, .mv (.c (.int .i64 16)), none, 0⟩] 0 false []) (.seq (.seq (.region [⟨some 26, .bin .eql (.t 21) (.c (.int .u8 100)), none, 0⟩, ⟨some 25, .mv (.t 26), none, 0⟩] 0 false
  []) (.cond (.t 25) .skip (.region [⟨some 27, .bin .eql (.t 21) (.c (.int .u8 68)), none, 0⟩, ⟨some 25, .mv (.t 27), none, 0⟩] 0 false []))) J56_1)
def J56_2 := bJ56_2
theorem wJ56_2 : Wp O J56_2 Q σ h = Wp O bJ56_2 Q σ h := rfl
abbrev bL56_0 : AC :=
  .seq (.seq (.region [⟨some 99, .mv (.t 1), none, 0⟩, ⟨some 100, .mv (.t 0), none, 0⟩, ⟨some 101, .lenS (.t 100), none, 0⟩, ⟨some 102, .bin .lss (.t 99) (.t 101), none, 0⟩, ⟨some 103, .mv (.t 102),
  none, 0⟩, ⟨some 104, .mv (.t 0), some (103, true), 0⟩, ⟨some 105, .mv (.t 1), some (103, true), 0⟩, ⟨some 106, .indexS (.t 104) (.t 105), some (103, true), 0⟩, ⟨some 107, .bin .eql (.t 106) (.c (.int
  .u8 46)), some (103, true), 0⟩, ⟨some 108, .pick (.t 103) (.t 107) (.c (.bool false)), none, 0⟩] 0 false []) (.cond (.t 108) .skip (.exit 1))) (.block 2 (.seq (.region [⟨some 110, .mv (.t 0), none, 0⟩,
  ⟨some 111, .mv (.t 1), none, 0⟩, ⟨some 112, .bin .add (.t 111) (.c (.int .i64 1)), none, 0⟩, ⟨some 113, .mv (.t 7), none, 0⟩, ⟨some 114, .call (.c (.fn 70 [])) [.t 110, .t 112, .t 113], none, 0⟩, ⟨some
  109, .mv (.t 114), none, 0⟩, ⟨some 115, .ext (.t 109) 0, none, 0⟩, ⟨some 116, .ext (.t 109) 1, none, 0⟩, ⟨some 13, .mv (.t 115), none, 0⟩, ⟨some 14, .mv (.t 116), none, 0⟩] 0 false []) (.seq (.seq
  (.region [⟨some 117, .mv (.t 13), none, 0⟩, ⟨some 118, .bin .eql (.t 117) (.c (.int .i64 0)), none, 0⟩, ⟨some 119, .mv (.t 118), none, 0⟩, ⟨some 120, .mv (.t 14), some (119, false), 0⟩, ⟨some 121, .bin
  .lss (.t 120) (.c (.int .i64 0)), some (119, false), 0⟩, ⟨some 122, .pick (.t 119) (.c (.bool true)) (.t 121), none, 0⟩, ⟨some 123, .mv (.t 122), none, 0⟩, ⟨some 124, .mv (.t 14), some (123, false),
  0⟩, ⟨some 125, .bin .gtr (.t 124) (.c (.int .i64 255)), some (123, false), 0⟩, ⟨some 126, .pick (.t 123) (.c (.bool true)) (.t 125), none, 0⟩] 0 false []) (.cond (.t 126) (.seq (.region [⟨some 127,
  .build [.int .u8 0, .int .i64 0, .str [], .int .i64 0, .int .i64 0, .int .u8 0, .int .u8 0] [], none, 0⟩, ⟨none, .store 7 (.t 4) (.t 127), none, 0⟩, ⟨some 5, .mv (.c (.int .i64 0)), none, 0⟩, ⟨some 6,
  .mv (.c (.bool false)), none, 0⟩] 0 false []) .ret) .skip)) (.seq (.region [⟨some 128, .mv (.t 12), none, 0⟩, ⟨some 129, .mv (.t 14), none, 0⟩, ⟨some 130, .cvInt .u8 (.t 129), none, 0⟩, ⟨some 131,
  .bslice 1 [.t 130], none, 0⟩, ⟨some 132, .append 1 1 5 (.t 128) (.t 131), none, 0⟩, ⟨some 12, .mv (.t 132), none, 1⟩] 1 false []) (.region [⟨some 133, .mv (.t 1), none, 0⟩, ⟨some 134, .mv (.t 13),
  none, 0⟩, ⟨some 135, .bin .add (.c (.int .i64 1)) (.t 134), none, 0⟩, ⟨some 136, .bin .add (.t 133) (.t 135), none, 0⟩, ⟨some 1, .mv (.t 136), none, 0⟩] 0 false [])))))
def L56_0 := bL56_0
theorem wL56_0 : Wp O L56_0 Q σ h = Wp O bL56_0 Q σ h := rfl
abbrev bK56_0 : AC :=
  .seq (.region [⟨some 137, .mv (.t 12), none, 0⟩, ⟨some 138, .cvBytesStr (.t 137), none, 0⟩, ⟨some 139, .build [.int .u8 0, .int .i64 0, .str [], .int .i64 0, .int .i64 0, .int .u8 0, .int .u8 0] [(0,
  1, .c (.int .u8 11)), (2, 1, .t 138)], none, 0⟩, ⟨some 140, .mv (.t 1), none, 0⟩, ⟨none, .store 7 (.t 4) (.t 139), none, 0⟩, ⟨some 5, .mv (.t 140), none, 0⟩, ⟨some 6, .mv (.c (.bool true)), none, 0⟩] 0
  false []) .ret
def K56_0 := bK56_0
theorem wK56_0 : Wp O K56_0 Q σ h = Wp O bK56_0 Q σ h := rfl
abbrev bJ56_3 : AC :=
  .seq (.seq (.region [⟨some 31, .mv (.t 7), none, 0⟩, ⟨some 32, .bin .eql (.t 31) (.c (.int .i64 0)), none, 0⟩] 0 false []) (.cond (.t 32) (.seq (.region [⟨some 33, .build [.int .u8 0, .int .i64 0, .str
  [], .int .i64 0, .int .i64 0, .int .u8 0, .int .u8 0] [], none, 0⟩, ⟨none, .store 7 (.t 4) (.t 33), none, 0⟩, ⟨some 5, .mv (.c (.int .i64 0)), none, 0⟩, ⟨some 6, .mv (.c (.bool false)), none, 0⟩] 0
  false []) .ret) .skip)) (.seq (.region [⟨some 34, .mv (.t 1), none, 0⟩, ⟨some 35, .bin .add (.t 34) (.c (.int .i64 1)), none, 0⟩, ⟨some 1, .mv (.t 35), none, 0⟩] 0 false []) (.seq (.region [⟨some 37,
  .mv (.t 0), none, 0⟩, ⟨some 38, .mv (.t 1), none, 0⟩, ⟨some 39, .mv (.t 7), none, 0⟩, ⟨some 40, .call (.c (.fn 70 [])) [.t 37, .t 38, .t 39], none, 0⟩, ⟨some 36, .mv (.t 40), none, 0⟩, ⟨some 41, .ext
  (.t 36) 0, none, 0⟩, ⟨some 42, .ext (.t 36) 1, none, 0⟩, ⟨some 8, .mv (.t 41), none, 0⟩, ⟨some 9, .mv (.t 42), none, 0⟩] 0 false []) (.seq (.seq (.region [⟨some 43, .mv (.t 8), none, 0⟩, ⟨some 44, .bin
  .eql (.t 43) (.c (.int .i64 0)), none, 0⟩, ⟨some 45, .mv (.t 44), none, 0⟩, ⟨some 46, .mv (.t 9), some (45, false), 0⟩, ⟨some 47, .bin .lss (.t 46) (.c (.int .i64 0)), some (45, false), 0⟩, ⟨some 48,
  .pick (.t 45) (.c (.bool true)) (.t 47), none, 0⟩, ⟨some 49, .mv (.t 48), none, 0⟩, ⟨some 50, .mv (.t 9), some (49, false), 0⟩, ⟨some 51, .bin .gtr (.t 50) (.c (.int .i64 255)), some (49, false), 0⟩,
  ⟨some 52, .pick (.t 49) (.c (.bool true)) (.t 51), none, 0⟩] 0 false []) (.cond (.t 52) (.seq (.region [⟨some 53, .build [.int .u8 0, .int .i64 0, .str [], .int .i64 0, .int .i64 0, .int .u8 0, .int
  .u8 0] [], none, 0⟩, ⟨none, .store 7 (.t 4) (.t 53), none, 0⟩, ⟨some 5, .mv (.c (.int .i64 0)), none, 0⟩, ⟨some 6, .mv (.c (.bool false)), none, 0⟩] 0 false []) .ret) .skip)) (.seq (.region [⟨some 54,
  .mv (.t 1), none, 0⟩, ⟨some 55, .mv (.t 8), none, 0⟩, ⟨some 56, .bin .add (.t 54) (.t 55), none, 0⟩, ⟨some 1, .mv (.t 56), none, 0⟩] 0 false []) (.seq (.seq (.region [⟨some 57, .mv (.t 1), none, 0⟩,
  ⟨some 58, .mv (.t 0), none, 0⟩, ⟨some 59, .lenS (.t 58), none, 0⟩, ⟨some 60, .bin .lss (.t 57) (.t 59), none, 0⟩, ⟨some 61, .mv (.t 60), none, 0⟩, ⟨some 62, .mv (.t 0), some (61, true), 0⟩, ⟨some 63,
  .mv (.t 1), some (61, true), 0⟩, ⟨some 64, .indexS (.t 62) (.t 63), some (61, true), 0⟩, ⟨some 65, .bin .eql (.t 64) (.c (.int .u8 45)), some (61, true), 0⟩, ⟨some 66, .pick (.t 61) (.t 65) (.c (.bool
  false)), none, 0⟩] 0 false []) (.cond (.t 66) (.seq (.region [⟨some 68, .mv (.t 0), none, 0⟩, ⟨some 69, .mv (.t 1), none, 0⟩, ⟨some 70, .bin .add (.t 69) (.c (.int .i64 1)), none, 0⟩, ⟨some 71, .mv (.t
  7), none, 0⟩, ⟨some 72, .call (.c (.fn 70 [])) [.t 68, .t 70, .t 71], none, 0⟩, ⟨some 67, .mv (.t 72), none, 0⟩, ⟨some 73, .ext (.t 67) 0, none, 0⟩, ⟨some 74, .ext (.t 67) 1, none, 0⟩, ⟨some 10, .mv
  (.t 73), none, 0⟩, ⟨some 11, .mv (.t 74), none, 0⟩] 0 false []) (.seq (.seq (.region [⟨some 75, .mv (.t 10), none, 0⟩, ⟨some 76, .bin .eql (.t 75) (.c (.int .i64 0)), none, 0⟩, ⟨some 77, .mv (.t 76),
  none, 0⟩, ⟨some 78, .mv (.t 11), some (77, false), 0⟩, ⟨some 79, .mv (.t 9), some (77, false), 0⟩, ⟨some 80, .bin .lss (.t 78) (.t 79), some (77, false), 0⟩, ⟨some 81, .pick (.t 77) (.c (.bool true))
  (.t 80), none, 0⟩, ⟨some 82, .mv (.t 81), none, 0⟩, ⟨some 83, .mv (.t 11), some (82, false), 0⟩, ⟨some 84, .bin .gtr (.t 83) (.c (.int .i64 255)), some (82, false), 0⟩, ⟨some 85, .pick (.t 82) (.c
  (.bool true)) (.t 84), none, 0⟩] 0 false []) (.cond (.t 85) (.seq (.region [⟨some 86, .build [.int .u8 0, .int .i64 0, .str [], .int .i64 0, .int .i64 0, .int .u8 0, .int .u8 0] [], none, 0⟩, ⟨none,
  .store 7 (.t 4) (.t 86), none, 0⟩, ⟨some 5, .mv (.c (.int .i64 0)), none, 0⟩, ⟨some 6, .mv (.c (.bool false)), none, 0⟩] 0 false []) .ret) .skip)) (.seq (.region [⟨some 87, .mv (.t 9), none, 0⟩, ⟨some
  88, .cvInt .u8 (.t 87), none, 0⟩, ⟨some 89, .mv (.t 11), none, 0⟩, ⟨some 90, .cvInt .u8 (.t 89), none, 0⟩, ⟨some 91, .build [.int .u8 0, .int .i64 0, .str [], .int .i64 0, .int .i64 0, .int .u8 0, .int
  .u8 0] [(0, 1, .c (.int .u8 12)), (5, 1, .t 88), (6, 1, .t 90)], none, 0⟩, ⟨some 92, .mv (.t 1), none, 0⟩, ⟨some 93, .bin .add (.t 92) (.c (.int .i64 1)), none, 0⟩, ⟨some 94, .mv (.t 10), none, 0⟩,
  ⟨some 95, .bin .add (.t 93) (.t 94), none, 0⟩, ⟨none, .store 7 (.t 4) (.t 91), none, 0⟩, ⟨some 5, .mv (.t 95), none, 0⟩, ⟨some 6, .mv (.c (.bool true)), none, 0⟩] 0 false []) .ret))) .skip)) (.seq
  (.region [⟨some 96, .mv (.t 9), none, 0⟩, ⟨some 97, .cvInt .u8 (.t 96), none, 0⟩, ⟨some 98, .bslice 1 [.t 97], none, 0⟩, ⟨some 12, .mv (.t 98), none, 0⟩] 0 false []) (.seq (.block 1 (.loop L56_0))
  K56_0)))))))
def J56_3 := bJ56_3
theorem wJ56_3 : Wp O J56_3 Q σ h = Wp O bJ56_3 Q σ h := rfl
abbrev bB56 : AC :=
  .seq (.region [⟨some 4, .alloc [.int .u8 0, .int .i64 0, .str [], .int .i64 0, .int .i64 0, .int .u8 0, .int .u8 0], none, 0⟩, ⟨some 5, .mv (.c (.int .i64 0)), none, 1⟩, ⟨some 6, .mv (.c (.bool
  false)), none, 1⟩] 1 false []) (.seq (.region [⟨some 7, .mv (.c (.int .i64 0)), none, 0⟩] 0 false []) (.seq (.seq (.region [⟨some 15, .mv (.t 1), none, 0⟩, ⟨some 16, .mv (.t 0), none, 0⟩, ⟨some 17,
  .lenS (.t 16), none, 0⟩, ⟨some 18, .bin .lss (.t 15) (.t 17), none, 0⟩] 0 false []) (.cond (.t 18) (.seq (.region [⟨some 19, .mv (.t 0), none, 0⟩, ⟨some 20, .mv (.t 1), none, 0⟩, ⟨some 21, .indexS (.t
  19) (.t 20), none, 0⟩] 0 false []) (.block 0 (.seq (.seq (.region [⟨some 23, .bin .eql (.t 21) (.c (.int .u8 120)), none, 0⟩, ⟨some 22, .mv (.t 23), none, 0⟩] 0 false []) (.cond (.t 22) .skip (.region
  [⟨some 24, .bin .eql (.t 21) (.c (.int .u8 88)), none, 0⟩, ⟨some 22, .mv (.t 24), none, 0⟩] 0 false []))) J56_2))) .skip)) J56_3))
def B56 := bB56
theorem wB56 : Wp O B56 Q σ h = Wp O bB56 Q σ h := rfl
def F56 : AF := ⟨B56, [.cell 4 (some 7), .tmp 5, .tmp 6], false⟩
theorem tab56 : T 56 = some F56 := by kernel_rfl
/-- franking/frankingref01.quoted -/
abbrev bL55_0 : AC :=
  .seq (.seq (.region [⟨some 9, .mv (.t 6), none, 0⟩, ⟨some 10, .mv (.t 0), none, 0⟩, ⟨some 11, .lenS (.t 10), none, 0⟩, ⟨some 12, .bin .lss (.t 9) (.t 11), none, 0⟩] 0 false []) (.cond (.t 12) .skip
  (.exit 0))) (.seq (.block 1 (.seq (.seq (.region [⟨some 15, .mv (.t 0), none, 0⟩, ⟨some 16, .mv (.t 6), none, 0⟩, ⟨some 17, .indexS (.t 15) (.t 16), none, 0⟩, ⟨some 18, .bin .eql (.t 17) (.c (.int .u8
  34)), none, 0⟩] 0 false []) (.cond (.t 18) (.seq (.region [⟨some 19, .mv (.t 0), none, 0⟩, ⟨some 20, .mv (.t 1), none, 0⟩, ⟨some 21, .bin .add (.t 20) (.c (.int .i64 1)), none, 0⟩, ⟨some 22, .mv (.t
  6), none, 0⟩, ⟨some 23, .sliceS (.t 19) (some (.t 21)) (some (.t 22)), none, 0⟩, ⟨some 4, .mv (.t 23), none, 0⟩, ⟨some 5, .mv (.c (.bool true)), none, 0⟩] 0 false []) .ret) .skip)) (.seq (.region
  [⟨some 24, .mv (.t 0), none, 0⟩, ⟨some 25, .mv (.t 6), none, 0⟩, ⟨some 26, .indexS (.t 24) (.t 25), none, 0⟩, ⟨some 27, .bin .lss (.t 26) (.c (.int .u8 32)), none, 0⟩, ⟨some 28, .mv (.t 27), none, 0⟩,
  ⟨some 29, .mv (.t 0), some (28, false), 0⟩, ⟨some 30, .mv (.t 6), some (28, false), 0⟩, ⟨some 31, .indexS (.t 29) (.t 30), some (28, false), 0⟩, ⟨some 32, .bin .gtr (.t 31) (.c (.int .u8 126)), some
  (28, false), 0⟩, ⟨some 33, .pick (.t 28) (.c (.bool true)) (.t 32), none, 0⟩] 0 false []) (.cond (.t 33) (.seq (.region [⟨some 4, .mv (.c (.str [])), none, 0⟩, ⟨some 5, .mv (.c (.bool false)), none,
  0⟩] 0 false []) .ret) .skip)))) (.region [⟨some 13, .mv (.t 6), none, 0⟩, ⟨some 14, .bin .add (.t 13) (.c (.int .i64 1)), none, 0⟩, ⟨some 6, .mv (.t 14), none, 0⟩] 0 false []))
def L55_0 := bL55_0
theorem wL55_0 : Wp O L55_0 Q σ h = Wp O bL55_0 Q σ h := rfl
abbrev bK55_0 : AC :=
  .seq (.region [⟨some 4, .mv (.c (.str [])), none, 0⟩, ⟨some 5, .mv (.c (.bool false)), none, 0⟩] 0 false []) .ret
def K55_0 := bK55_0
theorem wK55_0 : Wp O K55_0 Q σ h = Wp O bK55_0 Q σ h := rfl
abbrev bB55 : AC :=
  .seq (.region [⟨some 4, .mv (.c (.str [])), none, 0⟩, ⟨some 5, .mv (.c (.bool false)), none, 0⟩] 0 false []) (.seq (.seq (.region [⟨some 7, .mv (.t 1), none, 0⟩, ⟨some 8, .bin .add (.t 7) (.c (.int
  .i64 1)), none, 0⟩, ⟨some 6, .mv (.t 8), none, 0⟩] 0 false []) (.block 0 (.loop L55_0))) K55_0)
def B55 := bB55
theorem wB55 : Wp O B55 Q σ h = Wp O bB55 Q σ h := rfl
def F55 : AF := ⟨B55, [.tmp 4, .tmp 5], false⟩
theorem tab55 : T 55 = some F55 := by kernel_rfl
/-- franking/frankingref01.empty -/
abbrev bL27_0 : AC :=
  .seq (.seq (.region [⟨some 4, .mv (.t 3), none, 0⟩, ⟨some 5, .mv (.t 0), none, 0⟩, ⟨some 6, .lenS (.t 5), none, 0⟩, ⟨some 7, .bin .lss (.t 4) (.t 6), none, 0⟩] 0 false []) (.cond (.t 7) .skip (.exit
  0))) (.seq (.block 1 (.seq (.seq (.region [⟨some 10, .mv (.t 0), none, 0⟩, ⟨some 11, .mv (.t 3), none, 0⟩, ⟨some 12, .indexS (.t 10) (.t 11), none, 0⟩, ⟨some 13, .bin .eql (.t 12) (.c (.int .u8 59)),
  none, 0⟩] 0 false []) (.cond (.t 13) (.seq (.region [⟨some 2, .mv (.c (.bool true)), none, 0⟩] 0 false []) .ret) .skip)) (.seq (.region [⟨some 14, .mv (.t 0), none, 0⟩, ⟨some 15, .mv (.t 3), none, 0⟩,
  ⟨some 16, .indexS (.t 14) (.t 15), none, 0⟩, ⟨some 17, .call (.c (.fn 29 [])) [.t 16], none, 0⟩, ⟨some 18, .not (.t 17), none, 0⟩] 0 false []) (.cond (.t 18) (.seq (.region [⟨some 2, .mv (.c (.bool
  false)), none, 0⟩] 0 false []) .ret) .skip)))) (.region [⟨some 8, .mv (.t 3), none, 0⟩, ⟨some 9, .bin .add (.t 8) (.c (.int .i64 1)), none, 0⟩, ⟨some 3, .mv (.t 9), none, 0⟩] 0 false []))
def L27_0 := bL27_0
theorem wL27_0 : Wp O L27_0 Q σ h = Wp O bL27_0 Q σ h := rfl
abbrev bK27_0 : AC :=
  .seq (.region [⟨some 2, .mv (.c (.bool true)), none, 0⟩] 0 false []) .ret
def K27_0 := bK27_0
theorem wK27_0 : Wp O K27_0 Q σ h = Wp O bK27_0 Q σ h := rfl
abbrev bB27 : AC :=
  .seq (.region [⟨some 2, .mv (.c (.bool false)), none, 0⟩] 0 false []) (.seq (.seq (.region [⟨some 3, .mv (.c (.int .i64 0)), none, 0⟩] 0 false []) (.block 0 (.loop L27_0))) K27_0)
def B27 := bB27
theorem wB27 : Wp O B27 Q σ h = Wp O bB27 Q σ h := rfl
def F27 : AF := ⟨B27, [.tmp 2], false⟩
theorem tab27 : T 27 = some F27 := by kernel_rfl
/-- franking/frankingref01.Lines -/
abbrev bJ26_0 : AC :=
  .seq (.region [⟨some 30, .mv (.t 3), none, 0⟩, ⟨some 31, .mv (.t 4), none, 0⟩, ⟨some 32, .mv (.t 6), none, 0⟩, ⟨some 33, .build [.int .i64 0, .int .i64 0] [(0, 1, .t 31), (1, 1, .t 32)], none, 0⟩,
  ⟨some 34, .bslice 2 [.t 33], none, 0⟩, ⟨some 35, .append 2 16 53 (.t 30) (.t 34), none, 0⟩, ⟨some 3, .mv (.t 35), none, 1⟩] 1 false []) (.region [⟨some 36, .mv (.t 5), none, 0⟩, ⟨some 37, .bin .add (.t
  36) (.c (.int .i64 1)), none, 0⟩, ⟨some 4, .mv (.t 37), none, 0⟩] 0 false [])
def J26_0 := bJ26_0
theorem wJ26_0 : Wp O J26_0 Q σ h = Wp O bJ26_0 Q σ h := rfl
abbrev bJ26_1 : AC :=
  .region [⟨some 11, .mv (.t 5), none, 0⟩, ⟨some 12, .bin .add (.t 11) (.c (.int .i64 1)), none, 0⟩, ⟨some 5, .mv (.t 12), none, 0⟩] 0 false []
def J26_1 := bJ26_1
theorem wJ26_1 : Wp O J26_1 Q σ h = Wp O bJ26_1 Q σ h := rfl
abbrev bL26_0 : AC :=
  .seq (.seq (.region [⟨some 7, .mv (.t 5), none, 0⟩, ⟨some 8, .mv (.t 0), none, 0⟩, ⟨some 9, .lenS (.t 8), none, 0⟩, ⟨some 10, .bin .lss (.t 7) (.t 9), none, 0⟩] 0 false []) (.cond (.t 10) .skip (.exit
  0))) (.seq (.block 1 (.seq (.region [⟨some 13, .mv (.t 0), none, 0⟩, ⟨some 14, .mv (.t 5), none, 0⟩, ⟨some 15, .indexS (.t 13) (.t 14), none, 0⟩, ⟨some 16, .bin .eql (.t 15) (.c (.int .u8 10)), none,
  0⟩] 0 false []) (.cond (.t 16) (.seq (.region [⟨some 17, .mv (.t 5), none, 0⟩, ⟨some 6, .mv (.t 17), none, 0⟩] 0 false []) (.seq (.seq (.region [⟨some 18, .mv (.t 6), none, 0⟩, ⟨some 19, .mv (.t 4),
  none, 0⟩, ⟨some 20, .bin .gtr (.t 18) (.t 19), none, 0⟩, ⟨some 21, .mv (.t 20), none, 0⟩, ⟨some 22, .mv (.t 0), some (21, true), 0⟩, ⟨some 23, .mv (.t 6), some (21, true), 0⟩, ⟨some 24, .bin .sub (.t
  23) (.c (.int .i64 1)), some (21, true), 0⟩, ⟨some 25, .indexS (.t 22) (.t 24), some (21, true), 0⟩, ⟨some 26, .bin .eql (.t 25) (.c (.int .u8 13)), some (21, true), 0⟩, ⟨some 27, .pick (.t 21) (.t 26)
  (.c (.bool false)), none, 0⟩] 0 false []) (.cond (.t 27) (.region [⟨some 28, .mv (.t 6), none, 0⟩, ⟨some 29, .bin .sub (.t 28) (.c (.int .i64 1)), none, 0⟩, ⟨some 6, .mv (.t 29), none, 0⟩] 0 false [])
  .skip)) J26_0)) .skip))) J26_1)
def L26_0 := bL26_0
theorem wL26_0 : Wp O L26_0 Q σ h = Wp O bL26_0 Q σ h := rfl
abbrev bJ26_2 : AC :=
  .seq (.region [⟨some 49, .mv (.t 3), none, 0⟩, ⟨some 2, .mv (.t 49), none, 0⟩] 0 false []) .ret
def J26_2 := bJ26_2
theorem wJ26_2 : Wp O J26_2 Q σ h = Wp O bJ26_2 Q σ h := rfl
abbrev bK26_0 : AC :=
  .seq (.seq (.region [⟨some 38, .mv (.t 4), none, 0⟩, ⟨some 39, .mv (.t 0), none, 0⟩, ⟨some 40, .lenS (.t 39), none, 0⟩, ⟨some 41, .bin .lss (.t 38) (.t 40), none, 0⟩] 0 false []) (.cond (.t 41)
  (.region [⟨some 42, .mv (.t 3), none, 0⟩, ⟨some 43, .mv (.t 4), none, 0⟩, ⟨some 44, .mv (.t 0), none, 0⟩, ⟨some 45, .lenS (.t 44), none, 0⟩, ⟨some 46, .build [.int .i64 0, .int .i64 0] [(0, 1, .t 43),
  (1, 1, .t 45)], none, 0⟩, ⟨some 47, .bslice 2 [.t 46], none, 0⟩, ⟨some 48, .append 2 16 53 (.t 42) (.t 47), none, 0⟩, ⟨some 3, .mv (.t 48), none, 1⟩] 1 false []) .skip)) J26_2
def K26_0 := bK26_0
theorem wK26_0 : Wp O K26_0 Q σ h = Wp O bK26_0 Q σ h := rfl
abbrev bB26 : AC :=
  .seq (.region [⟨some 2, .mv (.c (.list 2 [] .full)), none, 0⟩] 0 false []) (.seq (.region [⟨some 3, .mv (.c (.list 2 [] .full)), none, 0⟩] 0 false []) (.seq (.region [⟨some 4, .mv (.c (.int .i64 0)),
  none, 0⟩] 0 false []) (.seq (.seq (.region [⟨some 5, .mv (.c (.int .i64 0)), none, 0⟩] 0 false []) (.block 0 (.loop L26_0))) K26_0)))
def B26 := bB26
theorem wB26 : Wp O B26 Q σ h = Wp O bB26 Q σ h := rfl
def F26 : AF := ⟨B26, [.tmp 2], false⟩
theorem tab26 : T 26 = some F26 := by kernel_rfl
/-- franking/frankingref01.next -/
abbrev bL30_0 : AC :=
  .seq (.seq (.region [⟨some 18, .mv (.t 7), none, 0⟩, ⟨some 19, .mv (.t 0), none, 0⟩, ⟨some 20, .lenS (.t 19), none, 0⟩, ⟨some 21, .bin .lss (.t 18) (.t 20), none, 0⟩, ⟨some 22, .mv (.t 21), none, 0⟩,
  ⟨some 23, .mv (.t 0), some (22, true), 0⟩, ⟨some 24, .mv (.t 7), some (22, true), 0⟩, ⟨some 25, .indexS (.t 23) (.t 24), some (22, true), 0⟩, ⟨some 26, .call (.c (.fn 28 [])) [.t 25], some (22, true),
  0⟩, ⟨some 27, .mv (.t 26), some (22, true), 0⟩, ⟨some 28, .mv (.t 0), some (27, false), 0⟩, ⟨some 29, .mv (.t 7), some (27, false), 0⟩, ⟨some 30, .indexS (.t 28) (.t 29), some (27, false), 0⟩, ⟨some
  31, .call (.c (.fn 53 [])) [.t 30], some (27, false), 0⟩, ⟨some 32, .pick (.t 27) (.c (.bool true)) (.t 31), some (22, true), 0⟩, ⟨some 33, .mv (.t 32), some (22, true), 0⟩, ⟨some 34, .mv (.t 0), some
  (33, false), 0⟩, ⟨some 35, .mv (.t 7), some (33, false), 0⟩, ⟨some 36, .indexS (.t 34) (.t 35), some (33, false), 0⟩, ⟨some 37, .bin .eql (.t 36) (.c (.int .u8 45)), some (33, false), 0⟩, ⟨some 38,
  .pick (.t 33) (.c (.bool true)) (.t 37), some (22, true), 0⟩, ⟨some 39, .pick (.t 22) (.t 38) (.c (.bool false)), none, 0⟩] 0 false []) (.cond (.t 39) .skip (.exit 0))) (.block 1 (.region [⟨some 40,
  .mv (.t 7), none, 0⟩, ⟨some 41, .bin .add (.t 40) (.c (.int .i64 1)), none, 0⟩, ⟨some 7, .mv (.t 41), none, 0⟩] 0 false []))
def L30_0 := bL30_0
theorem wL30_0 : Wp O L30_0 Q σ h = Wp O bL30_0 Q σ h := rfl
abbrev bK30_0 : AC :=
  .seq (.region [⟨some 42, .mv (.t 0), none, 0⟩, ⟨some 43, .mv (.t 1), none, 0⟩, ⟨some 44, .mv (.t 7), none, 0⟩, ⟨some 45, .sliceS (.t 42) (some (.t 43)) (some (.t 44)), none, 0⟩, ⟨some 46, .build [.int
  .u8 0, .int .i64 0, .str [], .int .i64 0, .int .i64 0, .int .u8 0, .int .u8 0] [(0, 1, .c (.int .u8 1)), (2, 1, .t 45)], none, 0⟩, ⟨some 47, .mv (.t 7), none, 0⟩, ⟨none, .store 7 (.t 4) (.t 46), none,
  0⟩, ⟨some 5, .mv (.t 47), none, 0⟩, ⟨some 6, .mv (.c (.int .i64 0)), none, 0⟩] 0 false []) .ret
def K30_0 := bK30_0
theorem wK30_0 : Wp O K30_0 Q σ h = Wp O bK30_0 Q σ h := rfl
abbrev bK30_1 : AC :=
  .seq (.seq (.region [⟨some 48, .mv (.t 0), none, 0⟩, ⟨some 49, .mv (.t 1), none, 0⟩, ⟨some 50, .indexS (.t 48) (.t 49), none, 0⟩, ⟨some 51, .call (.c (.fn 53 [])) [.t 50], none, 0⟩, ⟨some 52, .mv (.t
  51), none, 0⟩, ⟨some 53, .mv (.t 0), some (52, false), 0⟩, ⟨some 54, .mv (.t 1), some (52, false), 0⟩, ⟨some 55, .indexS (.t 53) (.t 54), some (52, false), 0⟩, ⟨some 56, .bin .eql (.t 55) (.c (.int .u8
  42)), some (52, false), 0⟩, ⟨some 57, .pick (.t 52) (.c (.bool true)) (.t 56), none, 0⟩] 0 false []) (.cond (.t 57) (.seq (.region [⟨some 58, .mv (.t 0), none, 0⟩, ⟨some 59, .mv (.t 1), none, 0⟩, ⟨some
  60, .call (.c (.fn 54 [])) [.t 58, .t 59], none, 0⟩, ⟨some 61, .ext (.t 60) 0, none, 0⟩, ⟨some 62, .ext (.t 60) 1, none, 0⟩, ⟨some 63, .ext (.t 60) 2, none, 0⟩, ⟨none, .store 7 (.t 4) (.t 61), none,
  0⟩, ⟨some 5, .mv (.t 62), none, 0⟩, ⟨some 6, .mv (.t 63), none, 0⟩] 0 false []) .ret) .skip)) (.seq (.seq (.region [⟨some 64, .mv (.t 0), none, 0⟩, ⟨some 65, .mv (.t 1), none, 0⟩, ⟨some 66, .indexS (.t
  64) (.t 65), none, 0⟩] 0 false []) (.block 2 (.seq (.region [⟨some 68, .bin .eql (.t 66) (.c (.int .u8 61)), none, 0⟩, ⟨some 67, .mv (.t 68), none, 0⟩] 0 false []) (.cond (.t 67) (.seq (.seq (.region
  [⟨some 69, .mv (.t 1), none, 0⟩, ⟨some 70, .bin .add (.t 69) (.c (.int .i64 1)), none, 0⟩, ⟨some 71, .mv (.t 0), none, 0⟩, ⟨some 72, .lenS (.t 71), none, 0⟩, ⟨some 73, .bin .lss (.t 70) (.t 72), none,
  0⟩, ⟨some 74, .mv (.t 73), none, 0⟩, ⟨some 75, .mv (.t 0), some (74, true), 0⟩, ⟨some 76, .mv (.t 1), some (74, true), 0⟩, ⟨some 77, .bin .add (.t 76) (.c (.int .i64 1)), some (74, true), 0⟩, ⟨some 78,
  .indexS (.t 75) (.t 77), some (74, true), 0⟩, ⟨some 79, .bin .eql (.t 78) (.c (.int .u8 47)), some (74, true), 0⟩, ⟨some 80, .pick (.t 74) (.t 79) (.c (.bool false)), none, 0⟩] 0 false []) (.cond (.t
  80) (.seq (.region [⟨some 81, .build [.int .u8 0, .int .i64 0, .str [], .int .i64 0, .int .i64 0, .int .u8 0, .int .u8 0] [(0, 1, .c (.int .u8 3))], none, 0⟩, ⟨some 82, .mv (.t 1), none, 0⟩, ⟨some 83,
  .bin .add (.t 82) (.c (.int .i64 2)), none, 0⟩, ⟨none, .store 7 (.t 4) (.t 81), none, 0⟩, ⟨some 5, .mv (.t 83), none, 0⟩, ⟨some 6, .mv (.c (.int .i64 0)), none, 0⟩] 0 false []) .ret) .skip)) (.seq
  (.region [⟨some 84, .build [.int .u8 0, .int .i64 0, .str [], .int .i64 0, .int .i64 0, .int .u8 0, .int .u8 0] [(0, 1, .c (.int .u8 2))], none, 0⟩, ⟨some 85, .mv (.t 1), none, 0⟩, ⟨some 86, .bin .add
  (.t 85) (.c (.int .i64 1)), none, 0⟩, ⟨none, .store 7 (.t 4) (.t 84), none, 0⟩, ⟨some 5, .mv (.t 86), none, 0⟩, ⟨some 6, .mv (.c (.int .i64 0)), none, 0⟩] 0 false []) .ret)) (.seq (.region [⟨some 88,
  .bin .eql (.t 66) (.c (.int .u8 47)), none, 0⟩, ⟨some 87, .mv (.t 88), none, 0⟩] 0 false []) (.cond (.t 87) (.seq (.region [⟨some 89, .build [.int .u8 0, .int .i64 0, .str [], .int .i64 0, .int .i64 0,
  .int .u8 0, .int .u8 0] [(0, 1, .c (.int .u8 4))], none, 0⟩, ⟨some 90, .mv (.t 1), none, 0⟩, ⟨some 91, .bin .add (.t 90) (.c (.int .i64 1)), none, 0⟩, ⟨none, .store 7 (.t 4) (.t 89), none, 0⟩, ⟨some 5,
  .mv (.t 91), none, 0⟩, ⟨some 6, .mv (.c (.int .i64 0)), none, 0⟩] 0 false []) .ret) (.seq (.region [⟨some 93, .bin .eql (.t 66) (.c (.int .u8 40)), none, 0⟩, ⟨some 92, .mv (.t 93), none, 0⟩] 0 false
  []) (.cond (.t 92) (.seq (.region [⟨some 94, .build [.int .u8 0, .int .i64 0, .str [], .int .i64 0, .int .i64 0, .int .u8 0, .int .u8 0] [(0, 1, .c (.int .u8 5))], none, 0⟩, ⟨some 95, .mv (.t 1), none,
  0⟩, ⟨some 96, .bin .add (.t 95) (.c (.int .i64 1)), none, 0⟩, ⟨none, .store 7 (.t 4) (.t 94), none, 0⟩, ⟨some 5, .mv (.t 96), none, 0⟩, ⟨some 6, .mv (.c (.int .i64 0)), none, 0⟩] 0 false []) .ret)
  (.seq (.region [⟨some 98, .bin .eql (.t 66) (.c (.int .u8 41)), none, 0⟩, ⟨some 97, .mv (.t 98), none, 0⟩] 0 false []) (.cond (.t 97) (.seq (.region [⟨some 99, .build [.int .u8 0, .int .i64 0, .str [],
  .int .i64 0, .int .i64 0, .int .u8 0, .int .u8 0] [(0, 1, .c (.int .u8 6))], none, 0⟩, ⟨some 100, .mv (.t 1), none, 0⟩, ⟨some 101, .bin .add (.t 100) (.c (.int .i64 1)), none, 0⟩, ⟨none, .store 7 (.t
  4) (.t 99), none, 0⟩, ⟨some 5, .mv (.t 101), none, 0⟩, ⟨some 6, .mv (.c (.int .i64 0)), none, 0⟩] 0 false []) .ret) (.seq (.region [⟨some 103, .bin .eql (.t 66) (.c (.int .u8 91)), none, 0⟩, ⟨some 102,
  .mv (.t 103), none, 0⟩] 0 false []) (.cond (.t 102) (.seq (.region [⟨some 104, .build [.int .u8 0, .int .i64 0, .str [], .int .i64 0, .int .i64 0, .int .u8 0, .int .u8 0] [(0, 1, .c (.int .u8 7))],
  none, 0⟩, ⟨some 105, .mv (.t 1), none, 0⟩, ⟨some 106, .bin .add (.t 105) (.c (.int .i64 1)), none, 0⟩, ⟨none, .store 7 (.t 4) (.t 104), none, 0⟩, ⟨some 5, .mv (.t 106), none, 0⟩, ⟨some 6, .mv (.c (.int
  .i64 0)), none, 0⟩] 0 false []) .ret) (.seq (.region [⟨some 108, .bin .eql (.t 66) (.c (.int .u8 93)), none, 0⟩, ⟨some 107, .mv (.t 108), none, 0⟩] 0 false []) (.cond (.t 107) (.seq (.region [⟨some
  109, .build [.int .u8 0, .int .i64 0, .str [], .int .i64 0, .int .i64 0, .int .u8 0, .int .u8 0] [(0, 1, .c (.int .u8 8))], none, 0⟩, ⟨some 110, .mv (.t 1), none, 0⟩, ⟨some 111, .bin .add (.t 110) (.c
  (.int .i64 1)), none, 0⟩, ⟨none, .store 7 (.t 4) (.t 109), none, 0⟩, ⟨some 5, .mv (.t 111), none, 0⟩, ⟨some 6, .mv (.c (.int .i64 0)), none, 0⟩] 0 false []) .ret) (.seq (.region [⟨some 113, .bin .eql
  (.t 66) (.c (.int .u8 60)), none, 0⟩, ⟨some 112, .mv (.t 113), none, 0⟩] 0 false []) (.cond (.t 112) (.seq (.region [⟨some 114, .build [.int .u8 0, .int .i64 0, .str [], .int .i64 0, .int .i64 0, .int
  .u8 0, .int .u8 0] [], none, 0⟩, ⟨some 115, .mv (.t 1), none, 0⟩, ⟨none, .store 7 (.t 4) (.t 114), none, 0⟩, ⟨some 5, .mv (.t 115), none, 0⟩, ⟨some 6, .mv (.c (.int .i64 16)), none, 0⟩] 0 false [])
  .ret) (.seq (.region [⟨some 117, .bin .eql (.t 66) (.c (.int .u8 34)), none, 0⟩, ⟨some 116, .mv (.t 117), none, 0⟩] 0 false []) (.cond (.t 116) (.seq (.region [⟨some 119, .mv (.t 0), none, 0⟩, ⟨some
  120, .mv (.t 1), none, 0⟩, ⟨some 121, .call (.c (.fn 55 [])) [.t 119, .t 120], none, 0⟩, ⟨some 118, .mv (.t 121), none, 0⟩, ⟨some 122, .ext (.t 118) 0, none, 0⟩, ⟨some 123, .ext (.t 118) 1, none, 0⟩,
  ⟨some 8, .mv (.t 122), none, 0⟩, ⟨some 9, .mv (.t 123), none, 0⟩] 0 false []) (.seq (.seq (.region [⟨some 124, .mv (.t 9), none, 0⟩, ⟨some 125, .not (.t 124), none, 0⟩] 0 false []) (.cond (.t 125)
  (.seq (.region [⟨some 126, .build [.int .u8 0, .int .i64 0, .str [], .int .i64 0, .int .i64 0, .int .u8 0, .int .u8 0] [], none, 0⟩, ⟨some 127, .mv (.t 1), none, 0⟩, ⟨none, .store 7 (.t 4) (.t 126),
  none, 0⟩, ⟨some 5, .mv (.t 127), none, 0⟩, ⟨some 6, .mv (.c (.int .i64 14)), none, 0⟩] 0 false []) .ret) .skip)) (.seq (.region [⟨some 128, .mv (.t 8), none, 0⟩, ⟨some 129, .build [.int .u8 0, .int
  .i64 0, .str [], .int .i64 0, .int .i64 0, .int .u8 0, .int .u8 0] [(0, 1, .c (.int .u8 10)), (2, 1, .t 128)], none, 0⟩, ⟨some 130, .mv (.t 1), none, 0⟩, ⟨some 131, .mv (.t 8), none, 0⟩, ⟨some 132,
  .lenS (.t 131), none, 0⟩, ⟨some 133, .bin .add (.t 130) (.t 132), none, 0⟩, ⟨some 134, .bin .add (.t 133) (.c (.int .i64 2)), none, 0⟩, ⟨none, .store 7 (.t 4) (.t 129), none, 0⟩, ⟨some 5, .mv (.t 134),
  none, 0⟩, ⟨some 6, .mv (.c (.int .i64 0)), none, 0⟩] 0 false []) .ret))) (.seq (.region [⟨some 136, .bin .eql (.t 66) (.c (.int .u8 37)), none, 0⟩, ⟨some 135, .mv (.t 136), none, 0⟩] 0 false []) (.cond
  (.t 135) (.seq (.region [⟨some 138, .mv (.t 0), none, 0⟩, ⟨some 139, .mv (.t 1), none, 0⟩, ⟨some 140, .bin .add (.t 139) (.c (.int .i64 1)), none, 0⟩, ⟨some 141, .call (.c (.fn 56 [])) [.t 138, .t
  140], none, 0⟩, ⟨some 137, .mv (.t 141), none, 0⟩, ⟨some 142, .ext (.t 137) 0, none, 0⟩, ⟨some 143, .ext (.t 137) 1, none, 0⟩, ⟨some 144, .ext (.t 137) 2, none, 0⟩, ⟨some 10, .alloc [.int .u8 0, .int
  .i64 0, .str [], .int .i64 0, .int .i64 0, .int .u8 0, .int .u8 0], none, 0⟩, ⟨none, .store 7 (.t 10) (.t 142), none, 1⟩, ⟨some 11, .mv (.t 143), none, 1⟩, ⟨some 12, .mv (.t 144), none, 1⟩] 1 false [])
  (.seq (.seq (.region [⟨some 145, .mv (.t 12), none, 0⟩, ⟨some 146, .not (.t 145), none, 0⟩] 0 false []) (.cond (.t 146) (.seq (.region [⟨some 147, .build [.int .u8 0, .int .i64 0, .str [], .int .i64 0,
  .int .i64 0, .int .u8 0, .int .u8 0] [], none, 0⟩, ⟨some 148, .mv (.t 1), none, 0⟩, ⟨none, .store 7 (.t 4) (.t 147), none, 0⟩, ⟨some 5, .mv (.t 148), none, 0⟩, ⟨some 6, .mv (.c (.int .i64 15)), none,
  0⟩] 0 false []) .ret) .skip)) (.seq (.region [⟨some 149, .load (some 7) (.t 10), none, 0⟩, ⟨some 150, .mv (.t 11), none, 0⟩, ⟨none, .store 7 (.t 4) (.t 149), none, 0⟩, ⟨some 5, .mv (.t 150), none, 0⟩,
  ⟨some 6, .mv (.c (.int .i64 0)), none, 0⟩] 0 false []) .ret))) .skip)))))))))))))))))))) (.seq (.region [⟨some 151, .build [.int .u8 0, .int .i64 0, .str [], .int .i64 0, .int .i64 0, .int .u8 0, .int
  .u8 0] [], none, 0⟩, ⟨some 152, .mv (.t 1), none, 0⟩, ⟨none, .store 7 (.t 4) (.t 151), none, 0⟩, ⟨some 5, .mv (.t 152), none, 0⟩, ⟨some 6, .mv (.c (.int .i64 11)), none, 0⟩] 0 false []) .ret))
def K30_1 := bK30_1
theorem wK30_1 : Wp O K30_1 Q σ h = Wp O bK30_1 Q σ h := rfl
abbrev bB30 : AC :=
  .seq (.region [⟨some 4, .alloc [.int .u8 0, .int .i64 0, .str [], .int .i64 0, .int .i64 0, .int .u8 0, .int .u8 0], none, 0⟩, ⟨some 5, .mv (.c (.int .i64 0)), none, 1⟩, ⟨some 6, .mv (.c (.int .i64
  0)), none, 1⟩] 1 false []) (.seq (.seq (.region [⟨some 13, .mv (.t 0), none, 0⟩, ⟨some 14, .mv (.t 1), none, 0⟩, ⟨some 15, .indexS (.t 13) (.t 14), none, 0⟩, ⟨some 16, .call (.c (.fn 28 [])) [.t 15],
  none, 0⟩] 0 false []) (.cond (.t 16) (.seq (.region [⟨some 17, .mv (.t 1), none, 0⟩, ⟨some 7, .mv (.t 17), none, 0⟩] 0 false []) (.seq (.block 0 (.loop L30_0)) K30_0)) .skip)) K30_1)
def B30 := bB30
theorem wB30 : Wp O B30 Q σ h = Wp O bB30 Q σ h := rfl
def F30 : AF := ⟨B30, [.cell 4 (some 7), .tmp 5, .tmp 6], false⟩
theorem tab30 : T 30 = some F30 := by kernel_rfl
/-- franking/frankingref01.Lex -/
abbrev bJ10_0 : AC :=
  .region [⟨some 6, .mv (.c (.bool true)), none, 0⟩] 0 false []
def J10_0 := bJ10_0
theorem wJ10_0 : Wp O J10_0 Q σ h = Wp O bJ10_0 Q σ h := rfl
abbrev bL10_0 : AC :=
  .seq (.seq (.region [⟨some 62, .mv (.t 11), none, 0⟩, ⟨some 63, .mv (.t 10), none, 0⟩, ⟨some 64, .bin .lss (.t 62) (.t 63), none, 0⟩, ⟨some 65, .mv (.t 64), none, 0⟩, ⟨some 66, .mv (.t 0), some (65,
  true), 0⟩, ⟨some 67, .mv (.t 11), some (65, true), 0⟩, ⟨some 68, .indexS (.t 66) (.t 67), some (65, true), 0⟩, ⟨some 69, .bin .neq (.t 68) (.c (.int .u8 59)), some (65, true), 0⟩, ⟨some 70, .pick (.t
  65) (.t 69) (.c (.bool false)), none, 0⟩] 0 false []) (.cond (.t 70) .skip (.exit 2))) (.block 3 (.seq (.seq (.region [⟨some 71, .mv (.t 0), none, 0⟩, ⟨some 72, .mv (.t 11), none, 0⟩, ⟨some 73, .indexS
  (.t 71) (.t 72), none, 0⟩, ⟨some 74, .call (.c (.fn 29 [])) [.t 73], none, 0⟩] 0 false []) (.cond (.t 74) (.seq (.region [⟨some 75, .mv (.t 11), none, 0⟩, ⟨some 76, .bin .add (.t 75) (.c (.int .i64
  1)), none, 0⟩, ⟨some 11, .mv (.t 76), none, 0⟩] 0 false []) (.exit 3)) .skip)) (.seq (.region [⟨some 78, .mv (.t 0), none, 0⟩, ⟨some 79, .mv (.t 10), none, 0⟩, ⟨some 80, .sliceS (.t 78) none (some (.t
  79)), none, 0⟩, ⟨some 81, .mv (.t 11), none, 0⟩, ⟨some 82, .call (.c (.fn 30 [])) [.t 80, .t 81], none, 0⟩, ⟨some 77, .mv (.t 82), none, 0⟩, ⟨some 83, .ext (.t 77) 0, none, 0⟩, ⟨some 84, .ext (.t 77)
  1, none, 0⟩, ⟨some 85, .ext (.t 77) 2, none, 0⟩, ⟨some 12, .alloc [.int .u8 0, .int .i64 0, .str [], .int .i64 0, .int .i64 0, .int .u8 0, .int .u8 0], none, 0⟩, ⟨none, .store 7 (.t 12) (.t 83), none,
  1⟩, ⟨some 13, .mv (.t 84), none, 1⟩, ⟨some 14, .mv (.t 85), none, 1⟩] 1 false []) (.seq (.seq (.region [⟨some 86, .mv (.t 14), none, 0⟩, ⟨some 87, .bin .neq (.t 86) (.c (.int .i64 0)), none, 0⟩] 0
  false []) (.cond (.t 87) (.seq (.region [⟨some 88, .mv (.t 13), none, 0⟩, ⟨some 89, .mv (.t 14), none, 0⟩, ⟨some 2, .mv (.c (.list 7 [] .full)), none, 0⟩, ⟨some 3, .mv (.t 88), none, 0⟩, ⟨some 4, .mv
  (.t 89), none, 0⟩] 0 false []) .ret) .skip)) (.seq (.region [⟨some 90, .mv (.t 11), none, 0⟩, ⟨some 91, .off 1 (.t 12), none, 0⟩, ⟨none, .store 1 (.t 91) (.t 90), none, 0⟩] 0 false []) (.seq (.region
  [⟨some 92, .mv (.t 5), none, 0⟩, ⟨some 93, .load (some 7) (.t 12), none, 0⟩, ⟨some 94, .bslice 7 [.t 93], none, 0⟩, ⟨some 95, .append 7 56 30 (.t 92) (.t 94), none, 0⟩, ⟨some 5, .mv (.t 95), none, 1⟩]
  1 false []) (.region [⟨some 96, .mv (.t 13), none, 0⟩, ⟨some 11, .mv (.t 96), none, 0⟩] 0 false [])))))))
def L10_0 := bL10_0
theorem wL10_0 : Wp O L10_0 Q σ h = Wp O bL10_0 Q σ h := rfl
abbrev bJ10_1 : AC :=
  .seq (.region [⟨some 61, .mv (.t 9), none, 0⟩, ⟨some 11, .mv (.t 61), none, 0⟩] 0 false []) (.block 2 (.loop L10_0))
def J10_1 := bJ10_1
theorem wJ10_1 : Wp O J10_1 Q σ h = Wp O bJ10_1 Q σ h := rfl
abbrev bK10_0 : AC :=
  .region [⟨some 24, .mv (.t 8), none, 0⟩, ⟨some 25, .bin .add (.t 24) (.c (.int .i64 1)), none, 0⟩, ⟨some 8, .mv (.t 25), none, 0⟩] 0 false []
def K10_0 := bK10_0
theorem wK10_0 : Wp O K10_0 Q σ h = Wp O bK10_0 Q σ h := rfl
abbrev bL10_1 : AC :=
  .seq (.seq (.region [⟨some 20, .mv (.t 8), none, 0⟩, ⟨some 21, .mv (.t 7), none, 0⟩, ⟨some 22, .len (.t 21), none, 0⟩, ⟨some 23, .bin .lss (.t 20) (.t 22), none, 0⟩] 0 false []) (.cond (.t 23) .skip
  (.exit 0))) (.seq (.block 1 (.seq (.region [⟨some 26, .mv (.t 7), none, 0⟩, ⟨some 27, .mv (.t 8), none, 0⟩, ⟨some 28, .idx 2 (.t 26) (.t 27), none, 0⟩, ⟨some 29, .idxA 1 2 (.t 28) (.c (.int .i64 0)),
  none, 0⟩, ⟨some 30, .load none (.t 29), none, 0⟩, ⟨some 31, .mv (.t 7), none, 0⟩, ⟨some 32, .mv (.t 8), none, 0⟩, ⟨some 33, .idx 2 (.t 31) (.t 32), none, 0⟩, ⟨some 34, .idxA 1 2 (.t 33) (.c (.int .i64
  1)), none, 0⟩, ⟨some 35, .load none (.t 34), none, 0⟩, ⟨some 9, .mv (.t 30), none, 0⟩, ⟨some 10, .mv (.t 35), none, 0⟩] 0 true []) (.seq (.seq (.region [⟨some 36, .mv (.t 0), none, 0⟩, ⟨some 37, .mv
  (.t 9), none, 0⟩, ⟨some 38, .mv (.t 10), none, 0⟩, ⟨some 39, .sliceS (.t 36) (some (.t 37)) (some (.t 38)), none, 0⟩, ⟨some 40, .call (.c (.fn 27 [])) [.t 39], none, 0⟩] 0 false []) (.cond (.t 40)
  (.exit 1) .skip)) (.seq (.seq (.region [⟨some 41, .mv (.t 0), none, 0⟩, ⟨some 42, .mv (.t 9), none, 0⟩, ⟨some 43, .indexS (.t 41) (.t 42), none, 0⟩, ⟨some 44, .call (.c (.fn 28 [])) [.t 43], none, 0⟩]
  0 false []) (.cond (.t 44) (.seq (.seq (.region [⟨some 45, .mv (.t 6), none, 0⟩] 0 false []) (.cond (.t 45) (.region [⟨some 46, .mv (.t 5), none, 0⟩, ⟨some 47, .mv (.t 9), none, 0⟩, ⟨some 48, .build
  [.int .u8 0, .int .i64 0, .str [], .int .i64 0, .int .i64 0, .int .u8 0, .int .u8 0] [(0, 1, .c (.int .u8 13)), (1, 1, .t 47)], none, 0⟩, ⟨some 49, .bslice 7 [.t 48], none, 0⟩, ⟨some 50, .append 7 56
  30 (.t 46) (.t 49), none, 0⟩, ⟨some 5, .mv (.t 50), none, 1⟩] 1 false []) .skip)) J10_0) (.seq (.region [⟨some 51, .mv (.t 6), none, 0⟩, ⟨some 52, .not (.t 51), none, 0⟩, ⟨some 53, .mv (.t 52), none,
  0⟩, ⟨some 54, .mv (.t 0), some (53, false), 0⟩, ⟨some 55, .mv (.t 9), some (53, false), 0⟩, ⟨some 56, .indexS (.t 54) (.t 55), some (53, false), 0⟩, ⟨some 57, .call (.c (.fn 29 [])) [.t 56], some (53,
  false), 0⟩, ⟨some 58, .not (.t 57), some (53, false), 0⟩, ⟨some 59, .pick (.t 53) (.c (.bool true)) (.t 58), none, 0⟩] 0 false []) (.cond (.t 59) (.seq (.region [⟨some 60, .mv (.t 9), none, 0⟩, ⟨some
  2, .mv (.c (.list 7 [] .full)), none, 0⟩, ⟨some 3, .mv (.t 60), none, 0⟩, ⟨some 4, .mv (.c (.int .i64 10)), none, 0⟩] 0 false []) .ret) .skip)))) J10_1)))) K10_0)
def L10_1 := bL10_1
theorem wL10_1 : Wp O L10_1 Q σ h = Wp O bL10_1 Q σ h := rfl
abbrev bJ10_2 : AC :=
  .seq (.region [⟨some 104, .mv (.t 5), none, 0⟩, ⟨some 2, .mv (.t 104), none, 0⟩, ⟨some 3, .mv (.c (.int .i64 0)), none, 0⟩, ⟨some 4, .mv (.c (.int .i64 0)), none, 0⟩] 0 false []) .ret
def J10_2 := bJ10_2
theorem wJ10_2 : Wp O J10_2 Q σ h = Wp O bJ10_2 Q σ h := rfl
abbrev bK10_1 : AC :=
  .seq (.seq (.region [⟨some 97, .mv (.t 6), none, 0⟩] 0 false []) (.cond (.t 97) (.region [⟨some 98, .mv (.t 5), none, 0⟩, ⟨some 99, .mv (.t 0), none, 0⟩, ⟨some 100, .lenS (.t 99), none, 0⟩, ⟨some 101,
  .build [.int .u8 0, .int .i64 0, .str [], .int .i64 0, .int .i64 0, .int .u8 0, .int .u8 0] [(0, 1, .c (.int .u8 13)), (1, 1, .t 100)], none, 0⟩, ⟨some 102, .bslice 7 [.t 101], none, 0⟩, ⟨some 103,
  .append 7 56 30 (.t 98) (.t 102), none, 0⟩, ⟨some 5, .mv (.t 103), none, 1⟩] 1 false []) .skip)) J10_2
def K10_1 := bK10_1
theorem wK10_1 : Wp O K10_1 Q σ h = Wp O bK10_1 Q σ h := rfl
abbrev bB10 : AC :=
  .seq (.region [⟨some 2, .mv (.c (.list 7 [] .full)), none, 0⟩, ⟨some 3, .mv (.c (.int .i64 0)), none, 0⟩, ⟨some 4, .mv (.c (.int .i64 0)), none, 0⟩] 0 false []) (.seq (.seq (.region [⟨some 15, .mv (.t
  0), none, 0⟩, ⟨some 16, .lenS (.t 15), none, 0⟩, ⟨some 17, .bin .gtr (.t 16) (.c (.int .i64 65536)), none, 0⟩] 0 false []) (.cond (.t 17) (.seq (.region [⟨some 2, .mv (.c (.list 7 [] .full)), none, 0⟩,
  ⟨some 3, .mv (.c (.int .i64 65536)), none, 0⟩, ⟨some 4, .mv (.c (.int .i64 3)), none, 0⟩] 0 false []) .ret) .skip)) (.seq (.region [⟨some 5, .mv (.c (.list 7 [] .full)), none, 0⟩] 0 false []) (.seq
  (.region [⟨some 6, .mv (.c (.bool false)), none, 0⟩] 0 false []) (.seq (.region [⟨some 18, .mv (.t 0), none, 0⟩, ⟨some 19, .call (.c (.fn 26 [])) [.t 18], none, 0⟩, ⟨some 7, .mv (.t 19), none, 0⟩] 0
  false []) (.seq (.seq (.region [⟨some 8, .mv (.c (.int .i64 0)), none, 0⟩] 0 false []) (.block 0 (.loop L10_1))) K10_1)))))
def B10 := bB10
theorem wB10 : Wp O B10 Q σ h = Wp O bB10 Q σ h := rfl
def F10 : AF := ⟨B10, [.tmp 2, .tmp 3, .tmp 4], false⟩
theorem tab10 : T 10 = some F10 := by kernel_rfl
/-- franking/frankinglaw01.pieces -/
abbrev bB16 : AC :=
  .seq (.region [⟨some 0, .mv (.c (.list 1 [] .full)), none, 0⟩, ⟨some 1, .mv (.c (.list 7 [] .full)), none, 0⟩] 0 false []) (.seq (.region [⟨some 2, .bslice 1 [.c (.str [110, 97, 109, 101]), .c (.str
  [97, 49, 45, 98]), .c (.str [61, 47]), .c (.str [47]), .c (.str [40]), .c (.str [41]), .c (.str [91]), .c (.str [93]), .c (.str [42]), .c (.str [51, 42, 55]), .c (.str [50, 42]), .c (.str [42, 53]), .c
  (.str [49, 50]), .c (.str [34, 97, 32, 98, 59, 34]), .c (.str [34, 34]), .c (.str [37, 120, 48, 68, 46, 48, 97]), .c (.str [37, 100, 54, 53, 45, 57, 48]), .c (.str [37, 98, 49, 48, 49]), .c (.str [37,
  88, 102, 70])], none, 0⟩, ⟨some 3, .build [.int .u8 0, .int .i64 0, .str [], .int .i64 0, .int .i64 0, .int .u8 0, .int .u8 0] [(0, 1, .c (.int .u8 1)), (2, 1, .c (.str [110, 97, 109, 101]))], none,
  0⟩, ⟨some 4, .build [.int .u8 0, .int .i64 0, .str [], .int .i64 0, .int .i64 0, .int .u8 0, .int .u8 0] [(0, 1, .c (.int .u8 1)), (2, 1, .c (.str [97, 49, 45, 98]))], none, 0⟩, ⟨some 5, .build [.int
  .u8 0, .int .i64 0, .str [], .int .i64 0, .int .i64 0, .int .u8 0, .int .u8 0] [(0, 1, .c (.int .u8 3))], none, 0⟩, ⟨some 6, .build [.int .u8 0, .int .i64 0, .str [], .int .i64 0, .int .i64 0, .int .u8
  0, .int .u8 0] [(0, 1, .c (.int .u8 4))], none, 0⟩, ⟨some 7, .build [.int .u8 0, .int .i64 0, .str [], .int .i64 0, .int .i64 0, .int .u8 0, .int .u8 0] [(0, 1, .c (.int .u8 5))], none, 0⟩, ⟨some 8,
  .build [.int .u8 0, .int .i64 0, .str [], .int .i64 0, .int .i64 0, .int .u8 0, .int .u8 0] [(0, 1, .c (.int .u8 6))], none, 0⟩, ⟨some 9, .build [.int .u8 0, .int .i64 0, .str [], .int .i64 0, .int
  .i64 0, .int .u8 0, .int .u8 0] [(0, 1, .c (.int .u8 7))], none, 0⟩, ⟨some 10, .build [.int .u8 0, .int .i64 0, .str [], .int .i64 0, .int .i64 0, .int .u8 0, .int .u8 0] [(0, 1, .c (.int .u8 8))],
  none, 0⟩, ⟨some 11, .build [.int .u8 0, .int .i64 0, .str [], .int .i64 0, .int .i64 0, .int .u8 0, .int .u8 0] [(0, 1, .c (.int .u8 9)), (4, 1, .c (.int .i64 (-1)))], none, 0⟩, ⟨some 12, .build [.int
  .u8 0, .int .i64 0, .str [], .int .i64 0, .int .i64 0, .int .u8 0, .int .u8 0] [(0, 1, .c (.int .u8 9)), (3, 1, .c (.int .i64 3)), (4, 1, .c (.int .i64 7))], none, 0⟩, ⟨some 13, .build [.int .u8 0,
  .int .i64 0, .str [], .int .i64 0, .int .i64 0, .int .u8 0, .int .u8 0] [(0, 1, .c (.int .u8 9)), (3, 1, .c (.int .i64 2)), (4, 1, .c (.int .i64 (-1)))], none, 0⟩, ⟨some 14, .build [.int .u8 0, .int
  .i64 0, .str [], .int .i64 0, .int .i64 0, .int .u8 0, .int .u8 0] [(0, 1, .c (.int .u8 9)), (4, 1, .c (.int .i64 5))], none, 0⟩, ⟨some 15, .build [.int .u8 0, .int .i64 0, .str [], .int .i64 0, .int
  .i64 0, .int .u8 0, .int .u8 0] [(0, 1, .c (.int .u8 9)), (3, 1, .c (.int .i64 12)), (4, 1, .c (.int .i64 12))], none, 0⟩, ⟨some 16, .build [.int .u8 0, .int .i64 0, .str [], .int .i64 0, .int .i64 0,
  .int .u8 0, .int .u8 0] [(0, 1, .c (.int .u8 10)), (2, 1, .c (.str [97, 32, 98, 59]))], none, 0⟩, ⟨some 17, .build [.int .u8 0, .int .i64 0, .str [], .int .i64 0, .int .i64 0, .int .u8 0, .int .u8 0]
  [(0, 1, .c (.int .u8 10))], none, 0⟩, ⟨some 18, .build [.int .u8 0, .int .i64 0, .str [], .int .i64 0, .int .i64 0, .int .u8 0, .int .u8 0] [(0, 1, .c (.int .u8 11)), (2, 1, .c (.str [13, 10]))], none,
  0⟩, ⟨some 19, .build [.int .u8 0, .int .i64 0, .str [], .int .i64 0, .int .i64 0, .int .u8 0, .int .u8 0] [(0, 1, .c (.int .u8 12)), (5, 1, .c (.int .u8 65)), (6, 1, .c (.int .u8 90))], none, 0⟩, ⟨some
  20, .build [.int .u8 0, .int .i64 0, .str [], .int .i64 0, .int .i64 0, .int .u8 0, .int .u8 0] [(0, 1, .c (.int .u8 11)), (2, 1, .c (.str [5]))], none, 0⟩, ⟨some 21, .build [.int .u8 0, .int .i64 0,
  .str [], .int .i64 0, .int .i64 0, .int .u8 0, .int .u8 0] [(0, 1, .c (.int .u8 11)), (2, 1, .c (.str [255]))], none, 0⟩, ⟨some 22, .bslice 7 [.t 3, .t 4, .t 5, .t 6, .t 7, .t 8, .t 9, .t 10, .t 11, .t
  12, .t 13, .t 14, .t 15, .t 16, .t 17, .t 18, .t 19, .t 20, .t 21], none, 0⟩, ⟨some 0, .mv (.t 2), none, 0⟩, ⟨some 1, .mv (.t 22), none, 0⟩] 0 false []) .ret)
def B16 := bB16
theorem wB16 : Wp O B16 Q σ h = Wp O bB16 Q σ h := rfl
def F16 : AF := ⟨B16, [.tmp 0, .tmp 1], false⟩
theorem tab16 : T 16 = some F16 := by kernel_rfl
/-- franking/frankinglaw01.sign -/
abbrev bB13 : AC :=
  .seq (.region [⟨some 2, .mv (.c (.str [])), none, 0⟩] 0 false []) (.seq (.seq (.region [⟨some 3, .mv (.t 0), none, 0⟩] 0 false []) (.block 0 (.seq (.region [⟨some 5, .bin .eql (.t 3) (.c (.int .u8 2)),
  none, 0⟩, ⟨some 4, .mv (.t 5), none, 0⟩] 0 false []) (.cond (.t 4) (.seq (.region [⟨some 2, .mv (.c (.str [61])), none, 0⟩] 0 false []) .ret) (.seq (.region [⟨some 7, .bin .eql (.t 3) (.c (.int .u8
  3)), none, 0⟩, ⟨some 6, .mv (.t 7), none, 0⟩] 0 false []) (.cond (.t 6) (.seq (.region [⟨some 2, .mv (.c (.str [61, 47])), none, 0⟩] 0 false []) .ret) (.seq (.region [⟨some 9, .bin .eql (.t 3) (.c
  (.int .u8 4)), none, 0⟩, ⟨some 8, .mv (.t 9), none, 0⟩] 0 false []) (.cond (.t 8) (.seq (.region [⟨some 2, .mv (.c (.str [47])), none, 0⟩] 0 false []) .ret) (.seq (.region [⟨some 11, .bin .eql (.t 3)
  (.c (.int .u8 5)), none, 0⟩, ⟨some 10, .mv (.t 11), none, 0⟩] 0 false []) (.cond (.t 10) (.seq (.region [⟨some 2, .mv (.c (.str [40])), none, 0⟩] 0 false []) .ret) (.seq (.region [⟨some 13, .bin .eql
  (.t 3) (.c (.int .u8 6)), none, 0⟩, ⟨some 12, .mv (.t 13), none, 0⟩] 0 false []) (.cond (.t 12) (.seq (.region [⟨some 2, .mv (.c (.str [41])), none, 0⟩] 0 false []) .ret) (.seq (.region [⟨some 15, .bin
  .eql (.t 3) (.c (.int .u8 7)), none, 0⟩, ⟨some 14, .mv (.t 15), none, 0⟩] 0 false []) (.cond (.t 14) (.seq (.region [⟨some 2, .mv (.c (.str [91])), none, 0⟩] 0 false []) .ret) (.seq (.region [⟨some 17,
  .bin .eql (.t 3) (.c (.int .u8 8)), none, 0⟩, ⟨some 16, .mv (.t 17), none, 0⟩] 0 false []) (.cond (.t 16) (.seq (.region [⟨some 2, .mv (.c (.str [93])), none, 0⟩] 0 false []) .ret) (.seq (.seq (.region
  [⟨some 19, .bin .eql (.t 3) (.c (.int .u8 12)), none, 0⟩, ⟨some 18, .mv (.t 19), none, 0⟩] 0 false []) (.cond (.t 18) .skip (.region [⟨some 20, .bin .eql (.t 3) (.c (.int .u8 11)), none, 0⟩, ⟨some 18,
  .mv (.t 20), none, 0⟩] 0 false []))) (.cond (.t 18) (.seq (.region [⟨some 2, .mv (.c (.str [37])), none, 0⟩] 0 false []) .ret) .skip)))))))))))))))))) (.seq (.region [⟨some 2, .mv (.c (.str [])), none,
  0⟩] 0 false []) .ret))
def B13 := bB13
theorem wB13 : Wp O B13 Q σ h = Wp O bB13 Q σ h := rfl
def F13 : AF := ⟨B13, [.tmp 2], false⟩
theorem tab13 : T 13 = some F13 := by kernel_rfl
/-- franking/frankinglaw01.LexWhole -/
abbrev bL4_0 : AC :=
  .seq (.region [⟨some 41, .bin .lss (.t 40) (.t 39), none, 0⟩] 0 false []) (.seq (.cond (.t 41) .skip (.exit 0)) (.seq (.block 1 (.seq (.region [⟨some 42, .mv (.t 40), none, 0⟩, ⟨some 43, .idx 7 (.t 38)
  (.t 40), none, 0⟩, ⟨some 44, .load (some 7) (.t 43), none, 0⟩, ⟨some 8, .alloc [.int .u8 0, .int .i64 0, .str [], .int .i64 0, .int .i64 0, .int .u8 0, .int .u8 0], none, 0⟩, ⟨some 7, .mv (.t 42),
  none, 1⟩, ⟨none, .store 7 (.t 8) (.t 44), none, 1⟩] 1 false []) (.seq (.seq (.region [⟨some 45, .off 1 (.t 8), none, 0⟩, ⟨some 46, .load none (.t 45), none, 0⟩, ⟨some 47, .mv (.t 6), none, 0⟩, ⟨some
  48, .bin .lss (.t 46) (.t 47), none, 0⟩, ⟨some 49, .mv (.t 48), none, 0⟩, ⟨some 50, .off 1 (.t 8), some (49, false), 0⟩, ⟨some 51, .load none (.t 50), some (49, false), 0⟩, ⟨some 52, .mv (.t 0), some
  (49, false), 0⟩, ⟨some 53, .lenS (.t 52), some (49, false), 0⟩, ⟨some 54, .bin .gtr (.t 51) (.t 53), some (49, false), 0⟩, ⟨some 55, .pick (.t 49) (.c (.bool true)) (.t 54), none, 0⟩, ⟨some 56, .mv (.t
  55), none, 0⟩, ⟨some 57, .mv (.t 7), some (56, false), 0⟩, ⟨some 58, .bin .eql (.t 57) (.c (.int .i64 0)), some (56, false), 0⟩, ⟨some 59, .mv (.t 58), some (56, false), 0⟩, ⟨some 60, .mv (.t 3), some
  (59, false), 0⟩, ⟨some 61, .mv (.t 7), some (59, false), 0⟩, ⟨some 62, .bin .sub (.t 61) (.c (.int .i64 1)), some (59, false), 0⟩, ⟨some 63, .idx 7 (.t 60) (.t 62), some (59, false), 0⟩, ⟨some 64, .off
  0 (.t 63), some (59, false), 0⟩, ⟨some 65, .load none (.t 64), some (59, false), 0⟩, ⟨some 66, .bin .eql (.t 65) (.c (.int .u8 13)), some (59, false), 0⟩, ⟨some 67, .pick (.t 59) (.c (.bool true)) (.t
  66), some (56, false), 0⟩, ⟨some 68, .mv (.t 67), some (56, false), 0⟩, ⟨some 69, .off 0 (.t 8), some (68, true), 0⟩, ⟨some 70, .load none (.t 69), some (68, true), 0⟩, ⟨some 71, .bin .neq (.t 70) (.c
  (.int .u8 1)), some (68, true), 0⟩, ⟨some 72, .pick (.t 68) (.t 71) (.c (.bool false)), some (56, false), 0⟩, ⟨some 73, .pick (.t 56) (.c (.bool true)) (.t 72), none, 0⟩] 0 false []) (.cond (.t 73)
  (.seq (.region [⟨some 2, .mv (.c (.bool false)), none, 0⟩] 0 false []) .ret) .skip)) (.seq (.region [⟨some 74, .mv (.t 0), none, 0⟩, ⟨some 75, .off 1 (.t 8), none, 0⟩, ⟨some 76, .load none (.t 75),
  none, 0⟩, ⟨some 77, .sliceS (.t 74) (some (.t 76)) none, none, 0⟩, ⟨some 9, .mv (.t 77), none, 0⟩] 0 false []) (.seq (.seq (.region [⟨some 78, .off 0 (.t 8), none, 0⟩, ⟨some 79, .load none (.t 78),
  none, 0⟩] 0 false []) (.block 2 (.seq (.region [⟨some 93, .bin .eql (.t 79) (.c (.int .u8 1)), none, 0⟩, ⟨some 92, .mv (.t 93), none, 0⟩] 0 false []) (.cond (.t 92) (.seq (.region [⟨some 94, .off 2 (.t
  8), none, 0⟩, ⟨some 95, .load none (.t 94), none, 0⟩, ⟨some 96, .bin .eql (.t 95) (.c (.str [])), none, 0⟩, ⟨some 97, .mv (.t 96), none, 0⟩, ⟨some 98, .mv (.t 9), some (97, false), 0⟩, ⟨some 99, .off 2
  (.t 8), some (97, false), 0⟩, ⟨some 100, .load none (.t 99), some (97, false), 0⟩, ⟨some 101, .call (.c (.fn 12 [])) [.t 98, .t 100], some (97, false), 0⟩, ⟨some 102, .not (.t 101), some (97, false),
  0⟩, ⟨some 103, .pick (.t 97) (.c (.bool true)) (.t 102), none, 0⟩] 0 false []) (.cond (.t 103) (.seq (.region [⟨some 2, .mv (.c (.bool false)), none, 0⟩] 0 false []) .ret) .skip)) (.seq (.region [⟨some
  105, .bin .eql (.t 79) (.c (.int .u8 10)), none, 0⟩, ⟨some 104, .mv (.t 105), none, 0⟩] 0 false []) (.cond (.t 104) (.seq (.region [⟨some 106, .mv (.t 9), none, 0⟩, ⟨some 107, .off 2 (.t 8), none, 0⟩,
  ⟨some 108, .load none (.t 107), none, 0⟩, ⟨some 109, .bin .add (.c (.str [34])) (.t 108), none, 0⟩, ⟨some 110, .bin .add (.t 109) (.c (.str [34])), none, 0⟩, ⟨some 111, .call (.c (.fn 12 [])) [.t 106,
  .t 110], none, 0⟩, ⟨some 112, .not (.t 111), none, 0⟩] 0 false []) (.cond (.t 112) (.seq (.region [⟨some 2, .mv (.c (.bool false)), none, 0⟩] 0 false []) .ret) .skip)) (.seq (.region [⟨some 114, .bin
  .eql (.t 79) (.c (.int .u8 9)), none, 0⟩, ⟨some 113, .mv (.t 114), none, 0⟩] 0 false []) (.cond (.t 113) (.seq (.region [⟨some 115, .mv (.t 9), none, 0⟩, ⟨some 116, .bin .eql (.t 115) (.c (.str [])),
  none, 0⟩, ⟨some 117, .mv (.t 116), none, 0⟩, ⟨some 118, .mv (.t 9), some (117, false), 0⟩, ⟨some 119, .indexS (.t 118) (.c (.int .i64 0)), some (117, false), 0⟩, ⟨some 120, .bin .neq (.t 119) (.c (.int
  .u8 42)), some (117, false), 0⟩, ⟨some 121, .mv (.t 120), some (117, false), 0⟩, ⟨some 122, .mv (.t 9), some (121, true), 0⟩, ⟨some 123, .indexS (.t 122) (.c (.int .i64 0)), some (121, true), 0⟩, ⟨some
  124, .bin .lss (.t 123) (.c (.int .u8 48)), some (121, true), 0⟩, ⟨some 125, .mv (.t 124), some (121, true), 0⟩, ⟨some 126, .mv (.t 9), some (125, false), 0⟩, ⟨some 127, .indexS (.t 126) (.c (.int .i64
  0)), some (125, false), 0⟩, ⟨some 128, .bin .gtr (.t 127) (.c (.int .u8 57)), some (125, false), 0⟩, ⟨some 129, .pick (.t 125) (.c (.bool true)) (.t 128), some (121, true), 0⟩, ⟨some 130, .pick (.t
  121) (.t 129) (.c (.bool false)), some (117, false), 0⟩, ⟨some 131, .pick (.t 117) (.c (.bool true)) (.t 130), none, 0⟩, ⟨some 132, .mv (.t 131), none, 0⟩, ⟨some 133, .off 3 (.t 8), some (132, false),
  0⟩, ⟨some 134, .load none (.t 133), some (132, false), 0⟩, ⟨some 135, .bin .lss (.t 134) (.c (.int .i64 0)), some (132, false), 0⟩, ⟨some 136, .pick (.t 132) (.c (.bool true)) (.t 135), none, 0⟩, ⟨some
  137, .mv (.t 136), none, 0⟩, ⟨some 138, .off 3 (.t 8), some (137, false), 0⟩, ⟨some 139, .load none (.t 138), some (137, false), 0⟩, ⟨some 140, .bin .gtr (.t 139) (.c (.int .i64 9999)), some (137,
  false), 0⟩, ⟨some 141, .pick (.t 137) (.c (.bool true)) (.t 140), none, 0⟩, ⟨some 142, .mv (.t 141), none, 0⟩, ⟨some 143, .off 4 (.t 8), some (142, false), 0⟩, ⟨some 144, .load none (.t 143), some
  (142, false), 0⟩, ⟨some 145, .bin .lss (.t 144) (.c (.int .i64 (-1))), some (142, false), 0⟩, ⟨some 146, .pick (.t 142) (.c (.bool true)) (.t 145), none, 0⟩, ⟨some 147, .mv (.t 146), none, 0⟩, ⟨some
  148, .off 4 (.t 8), some (147, false), 0⟩, ⟨some 149, .load none (.t 148), some (147, false), 0⟩, ⟨some 150, .bin .gtr (.t 149) (.c (.int .i64 9999)), some (147, false), 0⟩, ⟨some 151, .pick (.t 147)
  (.c (.bool true)) (.t 150), none, 0⟩, ⟨some 152, .mv (.t 151), none, 0⟩, ⟨some 153, .off 4 (.t 8), some (152, false), 0⟩, ⟨some 154, .load none (.t 153), some (152, false), 0⟩, ⟨some 155, .bin .geq (.t
  154) (.c (.int .i64 0)), some (152, false), 0⟩, ⟨some 156, .mv (.t 155), some (152, false), 0⟩, ⟨some 157, .off 4 (.t 8), some (156, true), 0⟩, ⟨some 158, .load none (.t 157), some (156, true), 0⟩,
  ⟨some 159, .off 3 (.t 8), some (156, true), 0⟩, ⟨some 160, .load none (.t 159), some (156, true), 0⟩, ⟨some 161, .bin .lss (.t 158) (.t 160), some (156, true), 0⟩, ⟨some 162, .pick (.t 156) (.t 161)
  (.c (.bool false)), some (152, false), 0⟩, ⟨some 163, .pick (.t 152) (.c (.bool true)) (.t 162), none, 0⟩] 0 false []) (.cond (.t 163) (.seq (.region [⟨some 2, .mv (.c (.bool false)), none, 0⟩] 0 false
  []) .ret) .skip)) (.seq (.region [⟨some 165, .bin .eql (.t 79) (.c (.int .u8 13)), none, 0⟩, ⟨some 164, .mv (.t 165), none, 0⟩] 0 false []) (.cond (.t 164) .skip (.seq (.region [⟨some 80, .off 0 (.t
  8), none, 0⟩, ⟨some 81, .load none (.t 80), none, 0⟩, ⟨some 82, .call (.c (.fn 13 [])) [.t 81], none, 0⟩, ⟨some 83, .bin .eql (.t 82) (.c (.str [])), none, 0⟩, ⟨some 84, .mv (.t 83), none, 0⟩, ⟨some
  85, .mv (.t 9), some (84, false), 0⟩, ⟨some 86, .off 0 (.t 8), some (84, false), 0⟩, ⟨some 87, .load none (.t 86), some (84, false), 0⟩, ⟨some 88, .call (.c (.fn 13 [])) [.t 87], some (84, false), 0⟩,
  ⟨some 89, .call (.c (.fn 12 [])) [.t 85, .t 88], some (84, false), 0⟩, ⟨some 90, .not (.t 89), some (84, false), 0⟩, ⟨some 91, .pick (.t 84) (.c (.bool true)) (.t 90), none, 0⟩] 0 false []) (.cond (.t
  91) (.seq (.region [⟨some 2, .mv (.c (.bool false)), none, 0⟩] 0 false []) .ret) .skip)))))))))))) (.seq (.region [⟨some 166, .off 1 (.t 8), none, 0⟩, ⟨some 167, .load none (.t 166), none, 0⟩, ⟨some 6,
  .mv (.t 167), none, 0⟩] 0 false []) (.seq (.region [⟨some 168, .off 0 (.t 8), none, 0⟩, ⟨some 169, .load none (.t 168), none, 0⟩, ⟨some 170, .bin .neq (.t 169) (.c (.int .u8 13)), none, 0⟩] 0 false [])
  (.cond (.t 170) (.region [⟨some 171, .mv (.t 6), none, 0⟩, ⟨some 172, .bin .add (.t 171) (.c (.int .i64 1)), none, 0⟩, ⟨some 6, .mv (.t 172), none, 0⟩] 0 false []) .skip)))))))) (.region [⟨some 173,
  .bin .add (.t 40) (.c (.int .i64 1)), none, 0⟩, ⟨some 40, .mv (.t 173), none, 0⟩] 0 false [])))
def L4_0 := bL4_0
theorem wL4_0 : Wp O L4_0 Q σ h = Wp O bL4_0 Q σ h := rfl
abbrev bK4_0 : AC :=
  .seq (.region [⟨some 174, .mv (.t 4), none, 0⟩, ⟨some 175, .bin .eql (.t 174) (.c (.int .i64 0)), none, 0⟩, ⟨some 176, .mv (.t 175), none, 0⟩, ⟨some 177, .mv (.t 3), some (176, true), 0⟩, ⟨some 178,
  .len (.t 177), some (176, true), 0⟩, ⟨some 179, .bin .eql (.t 178) (.c (.int .i64 0)), some (176, true), 0⟩, ⟨some 180, .mv (.t 179), some (176, true), 0⟩, ⟨some 181, .mv (.t 3), some (180, false), 0⟩,
  ⟨some 182, .mv (.t 3), some (180, false), 0⟩, ⟨some 183, .len (.t 182), some (180, false), 0⟩, ⟨some 184, .bin .sub (.t 183) (.c (.int .i64 1)), some (180, false), 0⟩, ⟨some 185, .idx 7 (.t 181) (.t
  184), some (180, false), 0⟩, ⟨some 186, .load (some 7) (.t 185), some (180, false), 0⟩, ⟨some 187, .mv (.t 0), some (180, false), 0⟩, ⟨some 188, .lenS (.t 187), some (180, false), 0⟩, ⟨some 189, .build
  [.int .u8 0, .int .i64 0, .str [], .int .i64 0, .int .i64 0, .int .u8 0, .int .u8 0] [(0, 1, .c (.int .u8 13)), (1, 1, .t 188)], some (180, false), 0⟩, ⟨some 190, .eq false (some 7) [(0, LK.int), (1,
  LK.int), (2, LK.str), (3, LK.int), (4, LK.int), (5, LK.int), (6, LK.int)] (.t 186) (.t 189), some (180, false), 0⟩, ⟨some 191, .pick (.t 180) (.c (.bool true)) (.t 190), some (176, true), 0⟩, ⟨some
  192, .pick (.t 176) (.t 191) (.c (.bool false)), none, 0⟩, ⟨some 193, .mv (.t 192), none, 0⟩, ⟨some 194, .call (.c (.fn 8 [])) [], some (193, true), 0⟩, ⟨some 195, .pick (.t 193) (.t 194) (.c (.bool
  false)), none, 0⟩, ⟨some 2, .mv (.t 195), none, 0⟩] 0 false []) .ret
def K4_0 := bK4_0
theorem wK4_0 : Wp O K4_0 Q σ h = Wp O bK4_0 Q σ h := rfl
abbrev bB4 : AC :=
  .seq (.region [⟨some 2, .mv (.c (.bool false)), none, 0⟩] 0 false []) (.seq (.seq (.region [⟨some 10, .mv (.t 0), none, 0⟩, ⟨some 11, .lenS (.t 10), none, 0⟩, ⟨some 12, .bin .gtr (.t 11) (.c (.int .i64
  4000)), none, 0⟩] 0 false []) (.cond (.t 12) (.seq (.region [⟨some 13, .call (.c (.fn 8 [])) [], none, 0⟩, ⟨some 2, .mv (.t 13), none, 0⟩] 0 false []) .ret) .skip)) (.seq (.region [⟨some 15, .mv (.t
  0), none, 0⟩, ⟨some 16, .call (.c (.fn 9 [])) [.t 15], none, 0⟩, ⟨some 14, .mv (.t 16), none, 0⟩, ⟨some 17, .ext (.t 14) 0, none, 0⟩, ⟨some 18, .ext (.t 14) 1, none, 0⟩, ⟨some 19, .ext (.t 14) 2, none,
  0⟩, ⟨some 3, .mv (.t 17), none, 0⟩, ⟨some 4, .mv (.t 18), none, 0⟩, ⟨some 5, .mv (.t 19), none, 0⟩] 0 false []) (.seq (.seq (.region [⟨some 20, .mv (.t 5), none, 0⟩, ⟨some 21, .bin .neq (.t 20) (.c
  (.int .i64 0)), none, 0⟩] 0 false []) (.cond (.t 21) (.seq (.region [⟨some 22, .mv (.t 3), none, 0⟩, ⟨some 23, .len (.t 22), none, 0⟩, ⟨some 24, .bin .eql (.t 23) (.c (.int .i64 0)), none, 0⟩, ⟨some
  25, .mv (.t 24), none, 0⟩, ⟨some 26, .mv (.t 4), some (25, true), 0⟩, ⟨some 27, .bin .geq (.t 26) (.c (.int .i64 0)), some (25, true), 0⟩, ⟨some 28, .pick (.t 25) (.t 27) (.c (.bool false)), none, 0⟩,
  ⟨some 29, .mv (.t 28), none, 0⟩, ⟨some 30, .mv (.t 4), some (29, true), 0⟩, ⟨some 31, .mv (.t 0), some (29, true), 0⟩, ⟨some 32, .lenS (.t 31), some (29, true), 0⟩, ⟨some 33, .bin .lss (.t 30) (.t 32),
  some (29, true), 0⟩, ⟨some 34, .pick (.t 29) (.t 33) (.c (.bool false)), none, 0⟩, ⟨some 35, .mv (.t 34), none, 0⟩, ⟨some 36, .call (.c (.fn 8 [])) [], some (35, true), 0⟩, ⟨some 37, .pick (.t 35) (.t
  36) (.c (.bool false)), none, 0⟩, ⟨some 2, .mv (.t 37), none, 0⟩] 0 false []) .ret) .skip)) (.seq (.region [⟨some 6, .mv (.c (.int .i64 0)), none, 0⟩] 0 false []) (.seq (.seq (.region [⟨some 38, .mv
  (.t 3), none, 0⟩, ⟨some 39, .len (.t 38), none, 0⟩, ⟨some 40, .mv (.c (.int .i64 0)), none, 0⟩] 0 false []) (.block 0 (.loop L4_0))) K4_0)))))
def B4 := bB4
theorem wB4 : Wp O B4 Q σ h = Wp O bB4 Q σ h := rfl
def F4 : AF := ⟨B4, [.tmp 2], false⟩
theorem tab4 : T 4 = some F4 := by kernel_rfl
/-- franking/frankinglaw01.LexRules -/
abbrev bL5_0 : AC :=
  .seq (.region [⟨some 86, .bin .lss (.t 85) (.t 84), none, 0⟩] 0 false []) (.seq (.cond (.t 86) .skip (.exit 0)) (.seq (.block 1 (.seq (.region [⟨some 87, .mv (.t 85), none, 0⟩, ⟨some 88, .idx 7 (.t 83)
  (.t 85), none, 0⟩, ⟨some 89, .load (some 7) (.t 88), none, 0⟩, ⟨some 15, .alloc [.int .u8 0, .int .i64 0, .str [], .int .i64 0, .int .i64 0, .int .u8 0, .int .u8 0], none, 0⟩, ⟨some 14, .mv (.t 87),
  none, 1⟩, ⟨none, .store 7 (.t 15) (.t 89), none, 1⟩] 1 false []) (.block 2 (.seq (.seq (.region [⟨some 91, .mv (.t 14), none, 0⟩, ⟨some 92, .mv (.t 5), none, 0⟩, ⟨some 93, .len (.t 92), none, 0⟩, ⟨some
  94, .bin .lss (.t 91) (.t 93), none, 0⟩, ⟨some 95, .mv (.t 94), none, 0⟩, ⟨some 96, .off 0 (.t 15), some (95, true), 0⟩, ⟨some 97, .load none (.t 96), some (95, true), 0⟩, ⟨some 98, .bin .neq (.t 97)
  (.c (.int .u8 13)), some (95, true), 0⟩, ⟨some 99, .pick (.t 95) (.t 98) (.c (.bool false)), none, 0⟩, ⟨some 100, .mv (.t 99), none, 0⟩, ⟨some 101, .off 1 (.t 15), some (100, true), 0⟩, ⟨some 102,
  .load none (.t 101), some (100, true), 0⟩, ⟨some 103, .mv (.t 5), some (100, true), 0⟩, ⟨some 104, .mv (.t 14), some (100, true), 0⟩, ⟨some 105, .idx 7 (.t 103) (.t 104), some (100, true), 0⟩, ⟨some
  106, .off 1 (.t 105), some (100, true), 0⟩, ⟨some 107, .load none (.t 106), some (100, true), 0⟩, ⟨some 108, .bin .neq (.t 102) (.t 107), some (100, true), 0⟩, ⟨some 109, .pick (.t 100) (.t 108) (.c
  (.bool false)), none, 0⟩, ⟨some 90, .mv (.t 109), none, 0⟩] 0 true []) (.cond (.t 90) .skip (.region [⟨some 110, .mv (.t 14), none, 0⟩, ⟨some 111, .mv (.t 5), none, 0⟩, ⟨some 112, .len (.t 111), none,
  0⟩, ⟨some 113, .bin .geq (.t 110) (.t 112), none, 0⟩, ⟨some 114, .mv (.t 113), none, 0⟩, ⟨some 115, .off 1 (.t 15), some (114, true), 0⟩, ⟨some 116, .load none (.t 115), some (114, true), 0⟩, ⟨some
  117, .mv (.t 8), some (114, true), 0⟩, ⟨some 118, .mv (.t 14), some (114, true), 0⟩, ⟨some 119, .mv (.t 5), some (114, true), 0⟩, ⟨some 120, .len (.t 119), some (114, true), 0⟩, ⟨some 121, .bin .sub
  (.t 118) (.t 120), some (114, true), 0⟩, ⟨some 122, .idx 7 (.t 117) (.t 121), some (114, true), 0⟩, ⟨some 123, .off 1 (.t 122), some (114, true), 0⟩, ⟨some 124, .load none (.t 123), some (114, true),
  0⟩, ⟨some 125, .mv (.t 0), some (114, true), 0⟩, ⟨some 126, .lenS (.t 125), some (114, true), 0⟩, ⟨some 127, .bin .add (.t 124) (.t 126), some (114, true), 0⟩, ⟨some 128, .bin .add (.t 127) (.c (.int
  .i64 1)), some (114, true), 0⟩, ⟨some 129, .bin .neq (.t 116) (.t 128), some (114, true), 0⟩, ⟨some 130, .pick (.t 114) (.t 129) (.c (.bool false)), none, 0⟩, ⟨some 90, .mv (.t 130), none, 0⟩] 0 true
  []))) (.cond (.t 90) (.seq (.region [⟨some 4, .mv (.c (.bool false)), none, 0⟩] 0 false []) .ret) .skip))))) (.region [⟨some 131, .bin .add (.t 85) (.c (.int .i64 1)), none, 0⟩, ⟨some 85, .mv (.t 131),
  none, 0⟩] 0 false [])))
def L5_0 := bL5_0
theorem wL5_0 : Wp O L5_0 Q σ h = Wp O bL5_0 Q σ h := rfl
abbrev bK5_0 : AC :=
  .seq (.region [⟨some 132, .call (.c (.fn 8 [])) [], none, 0⟩, ⟨some 4, .mv (.t 132), none, 0⟩] 0 false []) .ret
def K5_0 := bK5_0
theorem wK5_0 : Wp O K5_0 Q σ h = Wp O bK5_0 Q σ h := rfl
abbrev bB5 : AC :=
  .seq (.region [⟨some 4, .mv (.c (.bool false)), none, 0⟩] 0 false []) (.seq (.seq (.region [⟨some 16, .mv (.t 0), none, 0⟩, ⟨some 17, .lenS (.t 16), none, 0⟩, ⟨some 18, .bin .gtr (.t 17) (.c (.int .i64
  2000)), none, 0⟩, ⟨some 19, .mv (.t 18), none, 0⟩, ⟨some 20, .mv (.t 1), some (19, false), 0⟩, ⟨some 21, .lenS (.t 20), some (19, false), 0⟩, ⟨some 22, .bin .gtr (.t 21) (.c (.int .i64 2000)), some
  (19, false), 0⟩, ⟨some 23, .pick (.t 19) (.c (.bool true)) (.t 22), none, 0⟩] 0 false []) (.cond (.t 23) (.seq (.region [⟨some 24, .call (.c (.fn 8 [])) [], none, 0⟩, ⟨some 4, .mv (.t 24), none, 0⟩] 0
  false []) .ret) .skip)) (.seq (.region [⟨some 26, .mv (.t 0), none, 0⟩, ⟨some 27, .call (.c (.fn 9 [])) [.t 26], none, 0⟩, ⟨some 25, .mv (.t 27), none, 0⟩, ⟨some 28, .ext (.t 25) 0, none, 0⟩, ⟨some 29,
  .ext (.t 25) 1, none, 0⟩, ⟨some 30, .ext (.t 25) 2, none, 0⟩, ⟨some 5, .mv (.t 28), none, 0⟩, ⟨some 6, .mv (.t 29), none, 0⟩, ⟨some 7, .mv (.t 30), none, 0⟩] 0 false []) (.seq (.region [⟨some 32, .mv
  (.t 1), none, 0⟩, ⟨some 33, .call (.c (.fn 9 [])) [.t 32], none, 0⟩, ⟨some 31, .mv (.t 33), none, 0⟩, ⟨some 34, .ext (.t 31) 0, none, 0⟩, ⟨some 35, .ext (.t 31) 1, none, 0⟩, ⟨some 36, .ext (.t 31) 2,
  none, 0⟩, ⟨some 8, .mv (.t 34), none, 0⟩, ⟨some 9, .mv (.t 35), none, 0⟩, ⟨some 10, .mv (.t 36), none, 0⟩] 0 false []) (.seq (.seq (.region [⟨some 37, .mv (.t 7), none, 0⟩, ⟨some 38, .bin .neq (.t 37)
  (.c (.int .i64 0)), none, 0⟩, ⟨some 39, .mv (.t 38), none, 0⟩, ⟨some 40, .mv (.t 10), some (39, false), 0⟩, ⟨some 41, .bin .neq (.t 40) (.c (.int .i64 0)), some (39, false), 0⟩, ⟨some 42, .pick (.t 39)
  (.c (.bool true)) (.t 41), none, 0⟩] 0 false []) (.cond (.t 42) (.seq (.region [⟨some 43, .call (.c (.fn 8 [])) [], none, 0⟩, ⟨some 4, .mv (.t 43), none, 0⟩] 0 false []) .ret) .skip)) (.seq (.region
  [⟨some 45, .mv (.t 0), none, 0⟩, ⟨some 46, .bin .add (.t 45) (.c (.str [10])), none, 0⟩, ⟨some 47, .mv (.t 1), none, 0⟩, ⟨some 48, .bin .add (.t 46) (.t 47), none, 0⟩, ⟨some 49, .call (.c (.fn 9 []))
  [.t 48], none, 0⟩, ⟨some 44, .mv (.t 49), none, 0⟩, ⟨some 50, .ext (.t 44) 0, none, 0⟩, ⟨some 51, .ext (.t 44) 1, none, 0⟩, ⟨some 52, .ext (.t 44) 2, none, 0⟩, ⟨some 11, .mv (.t 50), none, 0⟩, ⟨some
  12, .mv (.t 51), none, 0⟩, ⟨some 13, .mv (.t 52), none, 0⟩] 0 false []) (.seq (.seq (.region [⟨some 53, .mv (.t 13), none, 0⟩, ⟨some 54, .bin .neq (.t 53) (.c (.int .i64 0)), none, 0⟩, ⟨some 55, .mv
  (.t 54), none, 0⟩, ⟨some 56, .mv (.t 11), some (55, false), 0⟩, ⟨some 57, .len (.t 56), some (55, false), 0⟩, ⟨some 58, .mv (.t 5), some (55, false), 0⟩, ⟨some 59, .len (.t 58), some (55, false), 0⟩,
  ⟨some 60, .mv (.t 8), some (55, false), 0⟩, ⟨some 61, .len (.t 60), some (55, false), 0⟩, ⟨some 62, .bin .add (.t 59) (.t 61), some (55, false), 0⟩, ⟨some 63, .bin .neq (.t 57) (.t 62), some (55,
  false), 0⟩, ⟨some 64, .pick (.t 55) (.c (.bool true)) (.t 63), none, 0⟩, ⟨some 65, .mv (.t 64), none, 0⟩, ⟨some 66, .mv (.t 11), some (65, false), 0⟩, ⟨some 67, .mv (.t 5), some (65, false), 0⟩, ⟨some
  68, .len (.t 67), some (65, false), 0⟩, ⟨some 69, .slice 7 (.t 66) none (some (.t 68)) none, some (65, false), 0⟩, ⟨some 70, .mv (.t 5), some (65, false), 0⟩, ⟨some 71, .call (.c (.fn 14 [])) [.t 69,
  .t 70], some (65, false), 0⟩, ⟨some 72, .not (.t 71), some (65, false), 0⟩, ⟨some 73, .pick (.t 65) (.c (.bool true)) (.t 72), none, 0⟩, ⟨some 74, .mv (.t 73), none, 0⟩, ⟨some 75, .mv (.t 11), some
  (74, false), 0⟩, ⟨some 76, .mv (.t 5), some (74, false), 0⟩, ⟨some 77, .len (.t 76), some (74, false), 0⟩, ⟨some 78, .slice 7 (.t 75) (some (.t 77)) none none, some (74, false), 0⟩, ⟨some 79, .mv (.t
  8), some (74, false), 0⟩, ⟨some 80, .call (.c (.fn 14 [])) [.t 78, .t 79], some (74, false), 0⟩, ⟨some 81, .not (.t 80), some (74, false), 0⟩, ⟨some 82, .pick (.t 74) (.c (.bool true)) (.t 81), none,
  0⟩] 0 false []) (.cond (.t 82) (.seq (.region [⟨some 4, .mv (.c (.bool false)), none, 0⟩] 0 false []) .ret) .skip)) (.seq (.seq (.region [⟨some 83, .mv (.t 11), none, 0⟩, ⟨some 84, .len (.t 83), none,
  0⟩, ⟨some 85, .mv (.c (.int .i64 0)), none, 0⟩] 0 false []) (.block 0 (.loop L5_0))) K5_0)))))))
def B5 := bB5
theorem wB5 : Wp O B5 Q σ h = Wp O bB5 Q σ h := rfl
def F5 : AF := ⟨B5, [.tmp 4], false⟩
theorem tab5 : T 5 = some F5 := by kernel_rfl
/-- franking/frankinglaw01.LexFolds -/
abbrev bL6_0 : AC :=
  .seq (.region [⟨some 52, .bin .lss (.t 51) (.t 50), none, 0⟩] 0 false []) (.seq (.cond (.t 52) .skip (.exit 0)) (.seq (.block 1 (.seq (.region [⟨some 53, .mv (.t 51), none, 0⟩, ⟨some 54, .idx 1 (.t 49)
  (.t 51), none, 0⟩, ⟨some 55, .load none (.t 54), none, 0⟩, ⟨some 12, .mv (.t 53), none, 0⟩, ⟨some 13, .mv (.t 55), none, 0⟩] 0 false []) (.seq (.region [⟨some 14, .mv (.c (.int .i64 0)), none, 0⟩] 0
  false []) (.seq (.seq (.region [⟨some 56, .mv (.t 1), none, 0⟩, ⟨some 57, .len (.t 56), none, 0⟩, ⟨some 58, .bin .gtr (.t 57) (.c (.int .i64 0)), none, 0⟩] 0 false []) (.cond (.t 58) (.region [⟨some
  59, .mv (.t 1), none, 0⟩, ⟨some 60, .mv (.t 12), none, 0⟩, ⟨some 61, .mv (.t 1), none, 0⟩, ⟨some 62, .len (.t 61), none, 0⟩, ⟨some 63, .bin .rem (.t 60) (.t 62), none, 0⟩, ⟨some 64, .idx 1 (.t 59) (.t
  63), none, 0⟩, ⟨some 65, .load none (.t 64), none, 0⟩, ⟨some 66, .cvInt .i64 (.t 65), none, 0⟩, ⟨some 67, .mv (.t 9), none, 0⟩, ⟨some 68, .len (.t 67), none, 0⟩, ⟨some 69, .bin .rem (.t 66) (.t 68),
  none, 0⟩, ⟨some 14, .mv (.t 69), none, 0⟩] 0 false []) .skip)) (.seq (.region [⟨some 70, .mv (.t 10), none, 0⟩, ⟨some 71, .mv (.t 9), none, 0⟩, ⟨some 72, .mv (.t 14), none, 0⟩, ⟨some 73, .idx 1 (.t 71)
  (.t 72), none, 0⟩, ⟨some 74, .load none (.t 73), none, 0⟩, ⟨some 75, .mv (.t 7), none, 0⟩, ⟨some 76, .mv (.t 13), none, 0⟩, ⟨some 77, .cvInt .i64 (.t 76), none, 0⟩, ⟨some 78, .mv (.t 7), none, 0⟩,
  ⟨some 79, .len (.t 78), none, 0⟩, ⟨some 80, .bin .rem (.t 77) (.t 79), none, 0⟩, ⟨some 81, .idx 1 (.t 75) (.t 80), none, 0⟩, ⟨some 82, .load none (.t 81), none, 0⟩, ⟨some 83, .bin .add (.t 74) (.t 82),
  none, 0⟩, ⟨some 84, .bin .add (.t 70) (.t 83), none, 0⟩, ⟨some 10, .mv (.t 84), none, 0⟩] 0 true []) (.region [⟨some 85, .mv (.t 11), none, 0⟩, ⟨some 86, .mv (.t 8), none, 0⟩, ⟨some 87, .mv (.t 13),
  none, 0⟩, ⟨some 88, .cvInt .i64 (.t 87), none, 0⟩, ⟨some 89, .mv (.t 8), none, 0⟩, ⟨some 90, .len (.t 89), none, 0⟩, ⟨some 91, .bin .rem (.t 88) (.t 90), none, 0⟩, ⟨some 92, .idx 7 (.t 86) (.t 91),
  none, 0⟩, ⟨some 93, .load (some 7) (.t 92), none, 0⟩, ⟨some 94, .bslice 7 [.t 93], none, 0⟩, ⟨some 95, .append 7 56 30 (.t 85) (.t 94), none, 0⟩, ⟨some 11, .mv (.t 95), none, 1⟩] 1 false []))))))
  (.region [⟨some 96, .bin .add (.t 51) (.c (.int .i64 1)), none, 0⟩, ⟨some 51, .mv (.t 96), none, 0⟩] 0 false [])))
def L6_0 := bL6_0
theorem wL6_0 : Wp O L6_0 Q σ h = Wp O bL6_0 Q σ h := rfl
abbrev bK6_0 : AC :=
  .seq (.region [⟨some 97, .mv (.t 11), none, 0⟩, ⟨some 98, .build [.int .u8 0, .int .i64 0, .str [], .int .i64 0, .int .i64 0, .int .u8 0, .int .u8 0] [(0, 1, .c (.int .u8 13))], none, 0⟩, ⟨some 99,
  .bslice 7 [.t 98], none, 0⟩, ⟨some 100, .append 7 56 30 (.t 97) (.t 99), none, 0⟩, ⟨some 11, .mv (.t 100), none, 1⟩] 1 false []) (.seq (.region [⟨some 102, .mv (.t 10), none, 0⟩, ⟨some 103, .call (.c
  (.fn 9 [])) [.t 102], none, 0⟩, ⟨some 101, .mv (.t 103), none, 0⟩, ⟨some 104, .ext (.t 101) 0, none, 0⟩, ⟨some 105, .ext (.t 101) 1, none, 0⟩, ⟨some 106, .ext (.t 101) 2, none, 0⟩, ⟨some 15, .mv (.t
  104), none, 0⟩, ⟨some 16, .mv (.t 105), none, 0⟩, ⟨some 17, .mv (.t 106), none, 0⟩] 0 false []) (.seq (.region [⟨some 108, .mv (.t 2), none, 0⟩, ⟨some 109, .bin .add (.c (.str [59, 32])) (.t 108),
  none, 0⟩, ⟨some 110, .bin .add (.t 109) (.c (.str [10, 13, 10])), none, 0⟩, ⟨some 111, .mv (.t 10), none, 0⟩, ⟨some 112, .bin .add (.t 110) (.t 111), none, 0⟩, ⟨some 113, .bin .add (.t 112) (.c (.str
  [32, 59])), none, 0⟩, ⟨some 114, .mv (.t 2), none, 0⟩, ⟨some 115, .bin .add (.t 113) (.t 114), none, 0⟩, ⟨some 116, .call (.c (.fn 9 [])) [.t 115], none, 0⟩, ⟨some 107, .mv (.t 116), none, 0⟩, ⟨some
  117, .ext (.t 107) 0, none, 0⟩, ⟨some 118, .ext (.t 107) 1, none, 0⟩, ⟨some 119, .ext (.t 107) 2, none, 0⟩, ⟨some 18, .mv (.t 117), none, 0⟩, ⟨some 19, .mv (.t 118), none, 0⟩, ⟨some 20, .mv (.t 119),
  none, 0⟩] 0 false []) (.seq (.region [⟨some 120, .mv (.t 17), none, 0⟩, ⟨some 121, .mv (.t 20), none, 0⟩, ⟨some 122, .bin .add (.t 120) (.t 121), none, 0⟩, ⟨some 123, .bin .eql (.t 122) (.c (.int .i64
  0)), none, 0⟩, ⟨some 124, .mv (.t 123), none, 0⟩, ⟨some 125, .mv (.t 15), some (124, true), 0⟩, ⟨some 126, .mv (.t 11), some (124, true), 0⟩, ⟨some 127, .call (.c (.fn 14 [])) [.t 125, .t 126], some
  (124, true), 0⟩, ⟨some 128, .pick (.t 124) (.t 127) (.c (.bool false)), none, 0⟩, ⟨some 129, .mv (.t 128), none, 0⟩, ⟨some 130, .mv (.t 18), some (129, true), 0⟩, ⟨some 131, .mv (.t 11), some (129,
  true), 0⟩, ⟨some 132, .call (.c (.fn 14 [])) [.t 130, .t 131], some (129, true), 0⟩, ⟨some 133, .pick (.t 129) (.t 132) (.c (.bool false)), none, 0⟩, ⟨some 134, .mv (.t 133), none, 0⟩, ⟨some 135, .call
  (.c (.fn 8 [])) [], some (134, true), 0⟩, ⟨some 136, .pick (.t 134) (.t 135) (.c (.bool false)), none, 0⟩, ⟨some 6, .mv (.t 136), none, 0⟩] 0 false []) .ret)))
def K6_0 := bK6_0
theorem wK6_0 : Wp O K6_0 Q σ h = Wp O bK6_0 Q σ h := rfl
abbrev bB6 : AC :=
  .seq (.region [⟨some 6, .mv (.c (.bool false)), none, 0⟩] 0 false []) (.seq (.seq (.region [⟨some 21, .mv (.t 2), none, 0⟩, ⟨some 22, .lenS (.t 21), none, 0⟩, ⟨some 23, .bin .gtr (.t 22) (.c (.int .i64
  40)), none, 0⟩, ⟨some 24, .mv (.t 23), none, 0⟩, ⟨some 25, .mv (.t 2), some (24, false), 0⟩, ⟨some 26, .call (.c (.fn 15 [])) [.t 25, .c (.str [10])], some (24, false), 0⟩, ⟨some 27, .pick (.t 24) (.c
  (.bool true)) (.t 26), none, 0⟩] 0 false []) (.cond (.t 27) (.seq (.region [⟨some 28, .call (.c (.fn 8 [])) [], none, 0⟩, ⟨some 6, .mv (.t 28), none, 0⟩] 0 false []) .ret) .skip)) (.seq (.region [⟨some
  30, .call (.c (.fn 16 [])) [], none, 0⟩, ⟨some 29, .mv (.t 30), none, 0⟩, ⟨some 31, .ext (.t 29) 0, none, 0⟩, ⟨some 32, .ext (.t 29) 1, none, 0⟩, ⟨some 7, .mv (.t 31), none, 0⟩, ⟨some 8, .mv (.t 32),
  none, 0⟩] 0 false []) (.seq (.region [⟨some 33, .mv (.t 2), none, 0⟩, ⟨some 34, .bin .add (.c (.str [32, 59])) (.t 33), none, 0⟩, ⟨some 35, .bin .add (.t 34) (.c (.str [10, 32])), none, 0⟩, ⟨some 36,
  .mv (.t 2), none, 0⟩, ⟨some 37, .bin .add (.c (.str [10, 10, 32, 10, 32, 59])) (.t 36), none, 0⟩, ⟨some 38, .bin .add (.t 37) (.c (.str [10, 59])), none, 0⟩, ⟨some 39, .mv (.t 2), none, 0⟩, ⟨some 40,
  .bin .add (.t 38) (.t 39), none, 0⟩, ⟨some 41, .bin .add (.t 40) (.c (.str [13, 10, 32, 32])), none, 0⟩, ⟨some 42, .bslice 1 [.c (.str [32]), .c (.str [9, 32]), .c (.str [32, 32]), .c (.str [10, 32]),
  .c (.str [13, 10, 9]), .t 35, .t 41], none, 0⟩, ⟨some 9, .mv (.t 42), none, 0⟩] 0 false []) (.seq (.region [⟨some 43, .build [.int .u8 0, .int .i64 0, .str [], .int .i64 0, .int .i64 0, .int .u8 0,
  .int .u8 0] [(0, 1, .c (.int .u8 1)), (2, 1, .c (.str [114, 117, 108, 101]))], none, 0⟩, ⟨some 44, .bslice 7 [.t 43], none, 0⟩, ⟨some 10, .mv (.c (.str [114, 117, 108, 101])), none, 0⟩, ⟨some 11, .mv
  (.t 44), none, 0⟩] 0 false []) (.seq (.seq (.region [⟨some 45, .mv (.t 0), none, 0⟩, ⟨some 46, .mv (.t 0), none, 0⟩, ⟨some 47, .len (.t 46), none, 0⟩, ⟨some 48, .min (.t 47) (.c (.int .i64 40)), none,
  0⟩, ⟨some 49, .slice 1 (.t 45) none (some (.t 48)) none, none, 0⟩, ⟨some 50, .len (.t 49), none, 0⟩, ⟨some 51, .mv (.c (.int .i64 0)), none, 0⟩] 0 false []) (.block 0 (.loop L6_0))) K6_0)))))
def B6 := bB6
theorem wB6 : Wp O B6 Q σ h = Wp O bB6 Q σ h := rfl
def F6 : AF := ⟨B6, [.tmp 6], false⟩
theorem tab6 : T 6 = some F6 := by kernel_rfl
/-- franking/frankinglaw01.LexWrong -/
abbrev bB7 : AC :=
  .seq (.region [⟨some 6, .mv (.c (.bool false)), none, 0⟩] 0 false []) (.seq (.seq (.region [⟨some 12, .mv (.t 0), none, 0⟩, ⟨some 13, .lenS (.t 12), none, 0⟩, ⟨some 14, .bin .gtr (.t 13) (.c (.int .i64
  1000)), none, 0⟩, ⟨some 15, .mv (.t 14), none, 0⟩, ⟨some 16, .mv (.t 2), some (15, false), 0⟩, ⟨some 17, .lenS (.t 16), some (15, false), 0⟩, ⟨some 18, .bin .gtr (.t 17) (.c (.int .i64 1000)), some
  (15, false), 0⟩, ⟨some 19, .pick (.t 15) (.c (.bool true)) (.t 18), none, 0⟩] 0 false []) (.cond (.t 19) (.seq (.region [⟨some 20, .call (.c (.fn 8 [])) [], none, 0⟩, ⟨some 6, .mv (.t 20), none, 0⟩] 0
  false []) .ret) .skip)) (.seq (.seq (.region [⟨some 22, .mv (.t 0), none, 0⟩, ⟨some 23, .call (.c (.fn 9 [])) [.t 22], none, 0⟩, ⟨some 21, .mv (.t 23), none, 0⟩, ⟨some 24, .ext (.t 21) 0, none, 0⟩,
  ⟨some 25, .ext (.t 21) 1, none, 0⟩, ⟨some 26, .ext (.t 21) 2, none, 0⟩, ⟨some 7, .mv (.t 24), none, 0⟩, ⟨some 8, .mv (.t 25), none, 0⟩, ⟨some 9, .mv (.t 26), none, 0⟩] 0 false []) (.seq (.region [⟨some
  27, .mv (.t 9), none, 0⟩, ⟨some 28, .bin .neq (.t 27) (.c (.int .i64 0)), none, 0⟩] 0 false []) (.cond (.t 28) (.seq (.region [⟨some 29, .call (.c (.fn 8 [])) [], none, 0⟩, ⟨some 6, .mv (.t 29), none,
  0⟩] 0 false []) .ret) .skip))) (.seq (.region [⟨some 30, .build [.str [], .int .i64 0, .int .i64 0] [(0, 1, .c (.str [49, 114, 32, 61, 32, 97])), (1, 1, .c (.int .i64 0)), (2, 1, .c (.int .i64 10))],
  none, 0⟩, ⟨some 31, .build [.str [], .int .i64 0, .int .i64 0] [(0, 1, .c (.str [61])), (1, 1, .c (.int .i64 0)), (2, 1, .c (.int .i64 10))], none, 0⟩, ⟨some 32, .build [.str [], .int .i64 0, .int .i64
  0] [(0, 1, .c (.str [114, 32, 61, 32, 49, 50, 51, 52, 53, 97])), (1, 1, .c (.int .i64 4)), (2, 1, .c (.int .i64 12))], none, 0⟩, ⟨some 33, .build [.str [], .int .i64 0, .int .i64 0] [(0, 1, .c (.str
  [114, 32, 61, 32, 49, 42, 49, 50, 51, 52, 53, 97])), (1, 1, .c (.int .i64 6)), (2, 1, .c (.int .i64 12))], none, 0⟩, ⟨some 34, .build [.str [], .int .i64 0, .int .i64 0] [(0, 1, .c (.str [114, 32, 61,
  32, 50, 42, 49, 97])), (1, 1, .c (.int .i64 4)), (2, 1, .c (.int .i64 13))], none, 0⟩, ⟨some 35, .build [.str [], .int .i64 0, .int .i64 0] [(0, 1, .c (.str [114, 32, 61, 32, 57, 57, 57, 57, 57, 42,
  49, 50, 51, 52, 53])), (1, 1, .c (.int .i64 4)), (2, 1, .c (.int .i64 12))], none, 0⟩, ⟨some 36, .build [.str [], .int .i64 0, .int .i64 0] [(0, 1, .c (.str [114, 32, 61, 32, 34, 97])), (1, 1, .c (.int
  .i64 4)), (2, 1, .c (.int .i64 14))], none, 0⟩, ⟨some 37, .build [.str [], .int .i64 0, .int .i64 0] [(0, 1, .c (.str [114, 32, 61, 32, 34, 9, 34])), (1, 1, .c (.int .i64 4)), (2, 1, .c (.int .i64
  14))], none, 0⟩, ⟨some 38, .build [.str [], .int .i64 0, .int .i64 0] [(0, 1, .c (.str [114, 32, 61, 32, 37])), (1, 1, .c (.int .i64 4)), (2, 1, .c (.int .i64 15))], none, 0⟩, ⟨some 39, .build [.str
  [], .int .i64 0, .int .i64 0] [(0, 1, .c (.str [114, 32, 61, 32, 37, 113, 49])), (1, 1, .c (.int .i64 4)), (2, 1, .c (.int .i64 15))], none, 0⟩, ⟨some 40, .build [.str [], .int .i64 0, .int .i64 0]
  [(0, 1, .c (.str [114, 32, 61, 32, 37, 120])), (1, 1, .c (.int .i64 4)), (2, 1, .c (.int .i64 15))], none, 0⟩, ⟨some 41, .build [.str [], .int .i64 0, .int .i64 0] [(0, 1, .c (.str [114, 32, 61, 32,
  37, 100, 50, 53, 54])), (1, 1, .c (.int .i64 4)), (2, 1, .c (.int .i64 15))], none, 0⟩, ⟨some 42, .build [.str [], .int .i64 0, .int .i64 0] [(0, 1, .c (.str [114, 32, 61, 32, 37, 120, 53, 45, 52])),
  (1, 1, .c (.int .i64 4)), (2, 1, .c (.int .i64 15))], none, 0⟩, ⟨some 43, .build [.str [], .int .i64 0, .int .i64 0] [(0, 1, .c (.str [114, 32, 61, 32, 37, 120, 49, 46])), (1, 1, .c (.int .i64 4)), (2,
  1, .c (.int .i64 15))], none, 0⟩, ⟨some 44, .build [.str [], .int .i64 0, .int .i64 0] [(0, 1, .c (.str [114, 32, 61, 32, 37, 98, 48, 48, 48, 48, 48, 48, 48, 48, 49])), (1, 1, .c (.int .i64 4)), (2, 1,
  .c (.int .i64 15))], none, 0⟩, ⟨some 45, .build [.str [], .int .i64 0, .int .i64 0] [(0, 1, .c (.str [114, 32, 61, 32, 97, 32, 60, 98, 62])), (1, 1, .c (.int .i64 6)), (2, 1, .c (.int .i64 16))], none,
  0⟩, ⟨some 46, .build [.str [], .int .i64 0, .int .i64 0] [(0, 1, .c (.str [114, 32, 61, 32, 97, 46, 98])), (1, 1, .c (.int .i64 5)), (2, 1, .c (.int .i64 11))], none, 0⟩, ⟨some 47, .build [.str [],
  .int .i64 0, .int .i64 0] [(0, 1, .c (.str [114, 32, 61, 32, 37, 120, 53, 45, 54, 45, 55])), (1, 1, .c (.int .i64 9)), (2, 1, .c (.int .i64 11))], none, 0⟩, ⟨some 48, .build [.str [], .int .i64 0, .int
  .i64 0] [(0, 1, .c (.str [114, 32, 61, 32, 39, 97, 39])), (1, 1, .c (.int .i64 4)), (2, 1, .c (.int .i64 11))], none, 0⟩, ⟨some 49, .build [.str [], .int .i64 0, .int .i64 0] [(0, 1, .c (.str [114, 32,
  61, 32, 0])), (1, 1, .c (.int .i64 4)), (2, 1, .c (.int .i64 11))], none, 0⟩, ⟨some 50, .build [.str [], .int .i64 0, .int .i64 0] [(0, 1, .c (.str [114, 32, 61, 32, 195, 169])), (1, 1, .c (.int .i64
  4)), (2, 1, .c (.int .i64 11))], none, 0⟩, ⟨some 51, .build [.str [], .int .i64 0, .int .i64 0] [(0, 1, .c (.str [0])), (1, 1, .c (.int .i64 0)), (2, 1, .c (.int .i64 10))], none, 0⟩, ⟨some 52, .bslice
  3 [.t 30, .t 31, .t 32, .t 33, .t 34, .t 35, .t 36, .t 37, .t 38, .t 39, .t 40, .t 41, .t 42, .t 43, .t 44, .t 45, .t 46, .t 47, .t 48, .t 49, .t 50, .t 51], none, 0⟩, ⟨some 10, .mv (.t 52), none, 0⟩]
  0 false []) (.seq (.region [⟨some 53, .mv (.t 10), none, 0⟩, ⟨some 54, .mv (.t 1), none, 0⟩, ⟨some 55, .cvInt .i64 (.t 54), none, 0⟩, ⟨some 56, .mv (.t 10), none, 0⟩, ⟨some 57, .len (.t 56), none, 0⟩,
  ⟨some 58, .bin .rem (.t 55) (.t 57), none, 0⟩, ⟨some 59, .idx 3 (.t 53) (.t 58), none, 0⟩, ⟨some 60, .load (some 3) (.t 59), none, 0⟩, ⟨some 11, .alloc [.str [], .int .i64 0, .int .i64 0], none, 0⟩,
  ⟨none, .store 3 (.t 11) (.t 60), none, 1⟩] 1 false []) (.seq (.region [⟨some 61, .mv (.t 0), none, 0⟩, ⟨some 62, .bin .add (.t 61) (.c (.str [10])), none, 0⟩, ⟨some 63, .off 0 (.t 11), none, 0⟩, ⟨some
  64, .load none (.t 63), none, 0⟩, ⟨some 65, .bin .add (.t 62) (.t 64), none, 0⟩, ⟨some 66, .bin .add (.t 65) (.c (.str [10])), none, 0⟩, ⟨some 67, .mv (.t 2), none, 0⟩, ⟨some 68, .bin .add (.t 66) (.t
  67), none, 0⟩, ⟨some 69, .mv (.t 0), none, 0⟩, ⟨some 70, .lenS (.t 69), none, 0⟩, ⟨some 71, .bin .add (.t 70) (.c (.int .i64 1)), none, 0⟩, ⟨some 72, .off 1 (.t 11), none, 0⟩, ⟨some 73, .load none (.t
  72), none, 0⟩, ⟨some 74, .bin .add (.t 71) (.t 73), none, 0⟩, ⟨some 75, .off 2 (.t 11), none, 0⟩, ⟨some 76, .load none (.t 75), none, 0⟩, ⟨some 77, .call (.c (.fn 17 [])) [.t 68, .t 74, .t 76], none,
  0⟩, ⟨some 78, .mv (.t 77), none, 0⟩, ⟨some 79, .call (.c (.fn 18 [])) [.c (.str [32]), .c (.int .i64 65537)], some (78, true), 0⟩, ⟨some 80, .call (.c (.fn 17 [])) [.t 79, .c (.int .i64 65536), .c
  (.int .i64 3)], some (78, true), 0⟩, ⟨some 81, .pick (.t 78) (.t 80) (.c (.bool false)), none, 0⟩, ⟨some 82, .mv (.t 81), none, 0⟩, ⟨some 83, .call (.c (.fn 8 [])) [], some (82, true), 0⟩, ⟨some 84,
  .pick (.t 82) (.t 83) (.c (.bool false)), none, 0⟩, ⟨some 6, .mv (.t 84), none, 0⟩] 0 false []) .ret)))))
def B7 := bB7
theorem wB7 : Wp O B7 Q σ h = Wp O bB7 Q σ h := rfl
def F7 : AF := ⟨B7, [.tmp 6], false⟩
theorem tab7 : T 7 = some F7 := by kernel_rfl
theorem mixed : Try.prog.follows .mixedOrders = true := by kernel_rfl
end Go.Proofs.Ytiobaboailhafaa
