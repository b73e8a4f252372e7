/-
  The abstract code of the functions that the laws reach.
-/
import Derived.Test.YtbhdfmkcoolghaaDoorProg
import Derived.Test.YtbhdfmkcoolghaaDoorAmC
import Derived.KernelRfl
set_option linter.unusedVariables false
set_option maxRecDepth 100000
namespace Go.Proofs.YtbhdfmkcoolghaaDoor
open Go Go.Am
noncomputable def T : FuncId → Option AF := table Tryd.prog ["-franking/dots.Encode", "-franking/dots.Decode"] ["franking/dots.lines"]
variable {O : Orc} {Q : Ex → Slots → Heap → Prop} {σ : Slots} {h : Heap}
/-- bytes.Cut -/
abbrev bB22 : AC :=
  .seq (.region [⟨some 4, .mv (.c (.list 1 [] .full)), none, 0⟩, ⟨some 5, .mv (.c (.list 1 [] .full)), none, 0⟩, ⟨some 6, .mv (.c (.bool false)), none, 0⟩] 0 false []) (.seq (.seq (.region [⟨some 8, .mv
  (.t 0), none, 0⟩, ⟨some 9, .mv (.t 1), none, 0⟩, ⟨some 10, .call (.c (.fn 26 [])) [.t 8, .t 9], none, 0⟩, ⟨some 7, .mv (.t 10), none, 0⟩] 0 false []) (.seq (.region [⟨some 11, .mv (.t 7), none, 0⟩,
  ⟨some 12, .bin .geq (.t 11) (.c (.int .i64 0)), none, 0⟩] 0 false []) (.cond (.t 12) (.seq (.region [⟨some 13, .mv (.t 0), none, 0⟩, ⟨some 14, .mv (.t 7), none, 0⟩, ⟨some 15, .slice 1 (.t 13) none
  (some (.t 14)) none, none, 0⟩, ⟨some 16, .mv (.t 0), none, 0⟩, ⟨some 17, .mv (.t 7), none, 0⟩, ⟨some 18, .mv (.t 1), none, 0⟩, ⟨some 19, .len (.t 18), none, 0⟩, ⟨some 20, .bin .add (.t 17) (.t 19),
  none, 0⟩, ⟨some 21, .slice 1 (.t 16) (some (.t 20)) none none, none, 0⟩, ⟨some 4, .mv (.t 15), none, 0⟩, ⟨some 5, .mv (.t 21), none, 0⟩, ⟨some 6, .mv (.c (.bool true)), none, 0⟩] 0 true []) .ret)
  .skip))) (.seq (.region [⟨some 22, .mv (.t 0), none, 0⟩, ⟨some 4, .mv (.t 22), none, 0⟩, ⟨some 5, .mv (.c (.list 1 [] .full)), none, 0⟩, ⟨some 6, .mv (.c (.bool false)), none, 0⟩] 0 false []) .ret))
def B22 := bB22
theorem wB22 : Wp O B22 Q σ h = Wp O bB22 Q σ h := rfl
def F22 : AF := ⟨B22, [.tmp 4, .tmp 5, .tmp 6], false⟩
theorem tab22 : T 22 = some F22 := by kernel_rfl
/-- franking/dots.lines$1 -/
abbrev bL21_0 : AC :=
  .seq (.seq (.region [⟨some 6, .load none (.t 1), none, 0⟩, ⟨some 7, .len (.t 6), none, 0⟩, ⟨some 8, .bin .gtr (.t 7) (.c (.int .i64 0)), none, 0⟩] 0 false []) (.cond (.t 8) .skip (.exit 0))) (.block 1
  (.seq (.region [⟨some 10, .load none (.t 1), none, 0⟩, ⟨some 11, .cvStrBytes 5 (.c (.str [13, 10])), none, 0⟩, ⟨some 12, .cvMark (.t 11), none, 1⟩, ⟨some 13, .call (.c (.fn 22 [])) [.t 10, .t 12],
  none, 1⟩, ⟨some 9, .mv (.t 13), none, 1⟩, ⟨some 14, .ext (.t 9) 0, none, 1⟩, ⟨some 15, .ext (.t 9) 1, none, 1⟩, ⟨some 16, .ext (.t 9) 2, none, 1⟩, ⟨some 3, .mv (.t 14), none, 1⟩, ⟨some 4, .mv (.t 15),
  none, 1⟩, ⟨some 5, .mv (.t 16), none, 1⟩] 1 false []) (.seq (.seq (.region [⟨some 17, .mv (.t 0), none, 0⟩, ⟨some 18, .mv (.t 3), none, 0⟩, ⟨some 19, .cvBytesStr (.t 18), none, 0⟩, ⟨some 20, .mv (.t
  5), none, 0⟩, ⟨some 21, .call (.t 17) [.t 19, .t 20], none, 0⟩, ⟨some 22, .not (.t 21), none, 0⟩] 0 false []) (.cond (.t 22) .ret .skip)) (.region [⟨some 23, .mv (.t 4), none, 0⟩, ⟨none, .store 1 (.t
  1) (.t 23), none, 0⟩] 0 false []))))
def L21_0 := bL21_0
theorem wL21_0 : Wp O L21_0 Q σ h = Wp O bL21_0 Q σ h := rfl
abbrev bB21 : AC :=
  .block 0 (.loop L21_0)
def B21 := bB21
theorem wB21 : Wp O B21 Q σ h = Wp O bB21 Q σ h := rfl
def F21 : AF := ⟨B21, [], false⟩
theorem tab21 : T 21 = some F21 := by kernel_rfl
/-- franking/dots.lines -/
abbrev bB15 : AC :=
  .seq (.region [⟨some 1, .box 1 (.t 0), none, 0⟩, ⟨some 2, .mv (.c (.nilf)), none, 1⟩] 1 false []) (.seq (.region [⟨some 3, .mkfn 21 [.t 1], none, 0⟩, ⟨some 2, .mv (.t 3), none, 0⟩] 0 false []) .ret)
def B15 := bB15
theorem wB15 : Wp O B15 Q σ h = Wp O bB15 Q σ h := rfl
def F15 : AF := ⟨B15, [.tmp 2], true⟩
theorem tab15 : T 15 = some F15 := by kernel_rfl
/-- franking/dots.Unstuff -/
abbrev bB5 : AC :=
  .seq (.region [⟨some 2, .mv (.c (.str [])), none, 0⟩, ⟨some 3, .mv (.c (.bool false)), none, 0⟩] 0 false []) (.seq (.seq (.region [⟨some 4, .mv (.t 0), none, 0⟩, ⟨some 5, .bin .eql (.t 4) (.c (.str
  [46])), none, 0⟩] 0 false []) (.cond (.t 5) (.seq (.region [⟨some 2, .mv (.c (.str [])), none, 0⟩, ⟨some 3, .mv (.c (.bool true)), none, 0⟩] 0 false []) .ret) .skip)) (.seq (.region [⟨some 6, .mv (.t
  0), none, 0⟩, ⟨some 7, .call (.c (.fn 13 [])) [.t 6, .c (.str [46])], none, 0⟩, ⟨some 2, .mv (.t 7), none, 0⟩, ⟨some 3, .mv (.c (.bool false)), none, 0⟩] 0 false []) .ret))
def B5 := bB5
theorem wB5 : Wp O B5 Q σ h = Wp O bB5 Q σ h := rfl
def F5 : AF := ⟨B5, [.tmp 2, .tmp 3], false⟩
theorem tab5 : T 5 = some F5 := by kernel_rfl
/-- franking/dots.Stuff -/
abbrev bB7 : AC :=
  .seq (.region [⟨some 2, .mv (.c (.str [])), none, 0⟩] 0 false []) (.seq (.seq (.region [⟨some 3, .mv (.t 0), none, 0⟩, ⟨some 4, .call (.c (.fn 14 [])) [.t 3, .c (.str [46])], none, 0⟩] 0 false [])
  (.cond (.t 4) (.seq (.region [⟨some 5, .mv (.t 0), none, 0⟩, ⟨some 6, .bin .add (.c (.str [46])) (.t 5), none, 0⟩, ⟨some 2, .mv (.t 6), none, 0⟩] 0 false []) .ret) .skip)) (.seq (.region [⟨some 7, .mv
  (.t 0), none, 0⟩, ⟨some 2, .mv (.t 7), none, 0⟩] 0 false []) .ret))
def B7 := bB7
theorem wB7 : Wp O B7 Q σ h = Wp O bB7 Q σ h := rfl
def F7 : AF := ⟨B7, [.tmp 2], false⟩
theorem tab7 : T 7 = some F7 := by kernel_rfl
/-- strings.TrimPrefix -/
abbrev bB13 : AC :=
  .seq (.region [⟨some 4, .mv (.c (.str [])), none, 0⟩] 0 false []) (.seq (.region [⟨some 5, .mv (.t 0), none, 0⟩, ⟨some 6, .mv (.t 1), none, 0⟩, ⟨some 7, .call (.c (.fn 19 [])) [.t 5, .t 6], none, 0⟩,
  ⟨some 4, .mv (.t 7), none, 0⟩] 0 false []) .ret)
def B13 := bB13
theorem wB13 : Wp O B13 Q σ h = Wp O bB13 Q σ h := rfl
def F13 : AF := ⟨B13, [.tmp 4], false⟩
theorem tab13 : T 13 = some F13 := by kernel_rfl
/-- strings.HasPrefix -/
abbrev bB14 : AC :=
  .seq (.region [⟨some 4, .mv (.c (.bool false)), none, 0⟩] 0 false []) (.seq (.region [⟨some 5, .mv (.t 0), none, 0⟩, ⟨some 6, .mv (.t 1), none, 0⟩, ⟨some 7, .call (.c (.fn 20 [])) [.t 5, .t 6], none,
  0⟩, ⟨some 4, .mv (.t 7), none, 0⟩] 0 false []) .ret)
def B14 := bB14
theorem wB14 : Wp O B14 Q σ h = Wp O bB14 Q σ h := rfl
def F14 : AF := ⟨B14, [.tmp 4], false⟩
theorem tab14 : T 14 = some F14 := by kernel_rfl
/-- internal/stringslite.TrimPrefix -/
abbrev bB19 : AC :=
  .seq (.region [⟨some 4, .mv (.c (.str [])), none, 0⟩] 0 false []) (.seq (.seq (.region [⟨some 5, .mv (.t 0), none, 0⟩, ⟨some 6, .mv (.t 1), none, 0⟩, ⟨some 7, .call (.c (.fn 20 [])) [.t 5, .t 6], none,
  0⟩] 0 false []) (.cond (.t 7) (.seq (.region [⟨some 8, .mv (.t 0), none, 0⟩, ⟨some 9, .mv (.t 1), none, 0⟩, ⟨some 10, .lenS (.t 9), none, 0⟩, ⟨some 11, .sliceS (.t 8) (some (.t 10)) none, none, 0⟩,
  ⟨some 4, .mv (.t 11), none, 0⟩] 0 false []) .ret) .skip)) (.seq (.region [⟨some 12, .mv (.t 0), none, 0⟩, ⟨some 4, .mv (.t 12), none, 0⟩] 0 false []) .ret))
def B19 := bB19
theorem wB19 : Wp O B19 Q σ h = Wp O bB19 Q σ h := rfl
def F19 : AF := ⟨B19, [.tmp 4], false⟩
theorem tab19 : T 19 = some F19 := by kernel_rfl
/-- internal/stringslite.HasPrefix -/
abbrev bB20 : AC :=
  .seq (.region [⟨some 4, .mv (.c (.bool false)), none, 0⟩] 0 false []) (.seq (.region [⟨some 5, .mv (.t 0), none, 0⟩, ⟨some 6, .lenS (.t 5), none, 0⟩, ⟨some 7, .mv (.t 1), none, 0⟩, ⟨some 8, .lenS (.t
  7), none, 0⟩, ⟨some 9, .bin .geq (.t 6) (.t 8), none, 0⟩, ⟨some 10, .mv (.t 9), none, 0⟩, ⟨some 11, .mv (.t 0), some (10, true), 0⟩, ⟨some 12, .mv (.t 1), some (10, true), 0⟩, ⟨some 13, .lenS (.t 12),
  some (10, true), 0⟩, ⟨some 14, .sliceS (.t 11) none (some (.t 13)), some (10, true), 0⟩, ⟨some 15, .mv (.t 1), some (10, true), 0⟩, ⟨some 16, .bin .eql (.t 14) (.t 15), some (10, true), 0⟩, ⟨some 17,
  .pick (.t 10) (.t 16) (.c (.bool false)), none, 0⟩, ⟨some 4, .mv (.t 17), none, 0⟩] 0 false []) .ret)
def B20 := bB20
theorem wB20 : Wp O B20 Q σ h = Wp O bB20 Q σ h := rfl
def F20 : AF := ⟨B20, [.tmp 4], false⟩
theorem tab20 : T 20 = some F20 := by kernel_rfl
/-- internal/stringslite.HasSuffix -/
abbrev bB25 : AC :=
  .seq (.region [⟨some 4, .mv (.c (.bool false)), none, 0⟩] 0 false []) (.seq (.region [⟨some 5, .mv (.t 0), none, 0⟩, ⟨some 6, .lenS (.t 5), none, 0⟩, ⟨some 7, .mv (.t 1), none, 0⟩, ⟨some 8, .lenS (.t
  7), none, 0⟩, ⟨some 9, .bin .geq (.t 6) (.t 8), none, 0⟩, ⟨some 10, .mv (.t 9), none, 0⟩, ⟨some 11, .mv (.t 0), some (10, true), 0⟩, ⟨some 12, .mv (.t 0), some (10, true), 0⟩, ⟨some 13, .lenS (.t 12),
  some (10, true), 0⟩, ⟨some 14, .mv (.t 1), some (10, true), 0⟩, ⟨some 15, .lenS (.t 14), some (10, true), 0⟩, ⟨some 16, .bin .sub (.t 13) (.t 15), some (10, true), 0⟩, ⟨some 17, .sliceS (.t 11) (some
  (.t 16)) none, some (10, true), 0⟩, ⟨some 18, .mv (.t 1), some (10, true), 0⟩, ⟨some 19, .bin .eql (.t 17) (.t 18), some (10, true), 0⟩, ⟨some 20, .pick (.t 10) (.t 19) (.c (.bool false)), none, 0⟩,
  ⟨some 4, .mv (.t 20), none, 0⟩] 0 false []) .ret)
def B25 := bB25
theorem wB25 : Wp O B25 Q σ h = Wp O bB25 Q σ h := rfl
def F25 : AF := ⟨B25, [.tmp 4], false⟩
theorem tab25 : T 25 = some F25 := by kernel_rfl
/-- strings.HasSuffix -/
abbrev bB18 : AC :=
  .seq (.region [⟨some 4, .mv (.c (.bool false)), none, 0⟩] 0 false []) (.seq (.region [⟨some 5, .mv (.t 0), none, 0⟩, ⟨some 6, .mv (.t 1), none, 0⟩, ⟨some 7, .call (.c (.fn 25 [])) [.t 5, .t 6], none,
  0⟩, ⟨some 4, .mv (.t 7), none, 0⟩] 0 false []) .ret)
def B18 := bB18
theorem wB18 : Wp O B18 Q σ h = Wp O bB18 Q σ h := rfl
def F18 : AF := ⟨B18, [.tmp 4], false⟩
theorem tab18 : T 18 = some F18 := by kernel_rfl
/-- franking/frankinglaw13.awake -/
abbrev bB4 : AC :=
  .seq (.region [⟨some 0, .mv (.c (.bool false)), none, 0⟩] 0 false []) (.seq (.region [⟨some 12, .call (.c (.fn 5 [])) [.c (.str [46])], none, 0⟩, ⟨some 11, .mv (.t 12), none, 0⟩, ⟨some 13, .ext (.t 11)
  0, none, 0⟩, ⟨some 14, .ext (.t 11) 1, none, 0⟩, ⟨some 1, .mv (.t 13), none, 0⟩, ⟨some 2, .mv (.t 14), none, 0⟩] 0 false []) (.seq (.region [⟨some 16, .call (.c (.fn 5 [])) [.c (.str [46, 46])], none,
  0⟩, ⟨some 15, .mv (.t 16), none, 0⟩, ⟨some 17, .ext (.t 15) 0, none, 0⟩, ⟨some 18, .ext (.t 15) 1, none, 0⟩, ⟨some 3, .mv (.t 17), none, 0⟩, ⟨some 4, .mv (.t 18), none, 0⟩] 0 false []) (.seq (.region
  [⟨some 20, .cvStrBytes 5 (.c (.str [46, 13, 10, 46, 120])), none, 0⟩, ⟨some 21, .cvMark (.t 20), none, 1⟩, ⟨some 22, .call (.c (.fn 9 [])) [.t 21], none, 1⟩, ⟨some 19, .mv (.t 22), none, 1⟩, ⟨some 23,
  .ext (.t 19) 0, none, 1⟩, ⟨some 24, .ext (.t 19) 1, none, 1⟩, ⟨some 25, .ext (.t 19) 2, none, 1⟩, ⟨some 5, .mv (.t 23), none, 1⟩, ⟨some 6, .mv (.t 24), none, 1⟩, ⟨some 7, .mv (.t 25), none, 1⟩] 1 false
  []) (.seq (.region [⟨some 27, .cvStrBytes 5 (.c (.str [97, 46])), none, 0⟩, ⟨some 28, .cvMark (.t 27), none, 1⟩, ⟨some 29, .call (.c (.fn 9 [])) [.t 28], none, 1⟩, ⟨some 26, .mv (.t 29), none, 1⟩,
  ⟨some 30, .ext (.t 26) 0, none, 1⟩, ⟨some 31, .ext (.t 26) 1, none, 1⟩, ⟨some 32, .ext (.t 26) 2, none, 1⟩, ⟨some 8, .mv (.t 30), none, 1⟩, ⟨some 9, .mv (.t 31), none, 1⟩, ⟨some 10, .mv (.t 32), none,
  1⟩] 1 false []) (.seq (.region [⟨some 33, .call (.c (.fn 7 [])) [.c (.str [46, 97])], none, 0⟩, ⟨some 34, .bin .eql (.t 33) (.c (.str [46, 46, 97])), none, 0⟩, ⟨some 35, .mv (.t 34), none, 0⟩, ⟨some
  36, .call (.c (.fn 7 [])) [.c (.str [97, 46])], some (35, true), 0⟩, ⟨some 37, .bin .eql (.t 36) (.c (.str [97, 46])), some (35, true), 0⟩, ⟨some 38, .pick (.t 35) (.t 37) (.c (.bool false)), none, 0⟩,
  ⟨some 39, .mv (.t 38), none, 0⟩, ⟨some 40, .mv (.t 1), some (39, true), 0⟩, ⟨some 41, .bin .eql (.t 40) (.c (.str [])), some (39, true), 0⟩, ⟨some 42, .pick (.t 39) (.t 41) (.c (.bool false)), none,
  0⟩, ⟨some 43, .mv (.t 42), none, 0⟩, ⟨some 44, .mv (.t 2), some (43, true), 0⟩, ⟨some 45, .pick (.t 43) (.t 44) (.c (.bool false)), none, 0⟩, ⟨some 46, .mv (.t 45), none, 0⟩, ⟨some 47, .mv (.t 3), some
  (46, true), 0⟩, ⟨some 48, .bin .eql (.t 47) (.c (.str [46])), some (46, true), 0⟩, ⟨some 49, .pick (.t 46) (.t 48) (.c (.bool false)), none, 0⟩, ⟨some 50, .mv (.t 49), none, 0⟩, ⟨some 51, .mv (.t 4),
  some (50, true), 0⟩, ⟨some 52, .not (.t 51), some (50, true), 0⟩, ⟨some 53, .pick (.t 50) (.t 52) (.c (.bool false)), none, 0⟩, ⟨some 54, .mv (.t 53), none, 0⟩, ⟨some 55, .cvStrBytes 5 (.c (.str [97,
  13, 10, 46, 98])), some (54, true), 0⟩, ⟨some 56, .cvMark (.t 55), some (54, true), 1⟩, ⟨some 57, .call (.c (.fn 11 [])) [.t 56], some (54, true), 1⟩, ⟨some 58, .cvBytesStr (.t 57), some (54, true),
  1⟩, ⟨some 59, .bin .eql (.t 58) (.c (.str [97, 13, 10, 46, 46, 98, 13, 10, 46, 13, 10])), some (54, true), 1⟩, ⟨some 60, .pick (.t 54) (.t 59) (.c (.bool false)), none, 1⟩, ⟨some 61, .mv (.t 60), none,
  1⟩, ⟨some 62, .call (.c (.fn 11 [])) [.c (.list 1 [] .full)], some (61, true), 1⟩, ⟨some 63, .cvBytesStr (.t 62), some (61, true), 1⟩, ⟨some 64, .bin .eql (.t 63) (.c (.str [46, 13, 10])), some (61,
  true), 1⟩, ⟨some 65, .pick (.t 61) (.t 64) (.c (.bool false)), none, 1⟩, ⟨some 66, .mv (.t 65), none, 1⟩, ⟨some 67, .mv (.t 5), some (66, true), 1⟩, ⟨some 68, .len (.t 67), some (66, true), 1⟩, ⟨some
  69, .bin .eql (.t 68) (.c (.int .i64 0)), some (66, true), 1⟩, ⟨some 70, .pick (.t 66) (.t 69) (.c (.bool false)), none, 1⟩, ⟨some 71, .mv (.t 70), none, 1⟩, ⟨some 72, .mv (.t 6), some (71, true), 1⟩,
  ⟨some 73, .bin .eql (.t 72) (.c (.int .i64 3)), some (71, true), 1⟩, ⟨some 74, .pick (.t 71) (.t 73) (.c (.bool false)), none, 1⟩, ⟨some 75, .mv (.t 74), none, 1⟩, ⟨some 76, .mv (.t 7), some (75,
  true), 1⟩, ⟨some 77, .pick (.t 75) (.t 76) (.c (.bool false)), none, 1⟩, ⟨some 78, .mv (.t 77), none, 1⟩, ⟨some 79, .mv (.t 9), some (78, true), 1⟩, ⟨some 80, .bin .eql (.t 79) (.c (.int .i64 0)), some
  (78, true), 1⟩, ⟨some 81, .pick (.t 78) (.t 80) (.c (.bool false)), none, 1⟩, ⟨some 82, .mv (.t 81), none, 1⟩, ⟨some 83, .mv (.t 10), some (82, true), 1⟩, ⟨some 84, .not (.t 83), some (82, true), 1⟩,
  ⟨some 85, .pick (.t 82) (.t 84) (.c (.bool false)), none, 1⟩, ⟨some 0, .mv (.t 85), none, 1⟩] 1 false []) .ret)))))
def B4 := bB4
theorem wB4 : Wp O B4 Q σ h = Wp O bB4 Q σ h := rfl
def F4 : AF := ⟨B4, [.tmp 0], false⟩
theorem tab4 : T 4 = some F4 := by kernel_rfl
/-- franking/frankingref13.Unstuff -/
abbrev bB6 : AC :=
  .seq (.region [⟨some 2, .mv (.c (.str [])), none, 0⟩, ⟨some 3, .mv (.c (.bool false)), none, 0⟩] 0 false []) (.seq (.seq (.region [⟨some 4, .mv (.t 0), none, 0⟩, ⟨some 5, .lenS (.t 4), none, 0⟩, ⟨some
  6, .bin .eql (.t 5) (.c (.int .i64 1)), none, 0⟩, ⟨some 7, .mv (.t 6), none, 0⟩, ⟨some 8, .mv (.t 0), some (7, true), 0⟩, ⟨some 9, .indexS (.t 8) (.c (.int .i64 0)), some (7, true), 0⟩, ⟨some 10, .bin
  .eql (.t 9) (.c (.int .u8 46)), some (7, true), 0⟩, ⟨some 11, .pick (.t 7) (.t 10) (.c (.bool false)), none, 0⟩] 0 false []) (.cond (.t 11) (.seq (.region [⟨some 2, .mv (.c (.str [])), none, 0⟩, ⟨some
  3, .mv (.c (.bool true)), none, 0⟩] 0 false []) .ret) .skip)) (.seq (.seq (.region [⟨some 12, .mv (.t 0), none, 0⟩, ⟨some 13, .lenS (.t 12), none, 0⟩, ⟨some 14, .bin .gtr (.t 13) (.c (.int .i64 0)),
  none, 0⟩, ⟨some 15, .mv (.t 14), none, 0⟩, ⟨some 16, .mv (.t 0), some (15, true), 0⟩, ⟨some 17, .indexS (.t 16) (.c (.int .i64 0)), some (15, true), 0⟩, ⟨some 18, .bin .eql (.t 17) (.c (.int .u8 46)),
  some (15, true), 0⟩, ⟨some 19, .pick (.t 15) (.t 18) (.c (.bool false)), none, 0⟩] 0 false []) (.cond (.t 19) (.seq (.region [⟨some 20, .mv (.t 0), none, 0⟩, ⟨some 21, .sliceS (.t 20) (some (.c (.int
  .i64 1))) none, none, 0⟩, ⟨some 2, .mv (.t 21), none, 0⟩, ⟨some 3, .mv (.c (.bool false)), none, 0⟩] 0 false []) .ret) .skip)) (.seq (.region [⟨some 22, .mv (.t 0), none, 0⟩, ⟨some 2, .mv (.t 22),
  none, 0⟩, ⟨some 3, .mv (.c (.bool false)), none, 0⟩] 0 false []) .ret)))
def B6 := bB6
theorem wB6 : Wp O B6 Q σ h = Wp O bB6 Q σ h := rfl
def F6 : AF := ⟨B6, [.tmp 2, .tmp 3], false⟩
theorem tab6 : T 6 = some F6 := by kernel_rfl
/-- franking/frankingref13.Stuff -/
abbrev bB8 : AC :=
  .seq (.region [⟨some 2, .mv (.c (.str [])), none, 0⟩] 0 false []) (.seq (.seq (.region [⟨some 3, .mv (.t 0), none, 0⟩, ⟨some 4, .lenS (.t 3), none, 0⟩, ⟨some 5, .bin .gtr (.t 4) (.c (.int .i64 0)),
  none, 0⟩, ⟨some 6, .mv (.t 5), none, 0⟩, ⟨some 7, .mv (.t 0), some (6, true), 0⟩, ⟨some 8, .indexS (.t 7) (.c (.int .i64 0)), some (6, true), 0⟩, ⟨some 9, .bin .eql (.t 8) (.c (.int .u8 46)), some (6,
  true), 0⟩, ⟨some 10, .pick (.t 6) (.t 9) (.c (.bool false)), none, 0⟩] 0 false []) (.cond (.t 10) (.seq (.region [⟨some 11, .mv (.t 0), none, 0⟩, ⟨some 12, .bin .add (.c (.str [46])) (.t 11), none, 0⟩,
  ⟨some 2, .mv (.t 12), none, 0⟩] 0 false []) .ret) .skip)) (.seq (.region [⟨some 13, .mv (.t 0), none, 0⟩, ⟨some 2, .mv (.t 13), none, 0⟩] 0 false []) .ret))
def B8 := bB8
theorem wB8 : Wp O B8 Q σ h = Wp O bB8 Q σ h := rfl
def F8 : AF := ⟨B8, [.tmp 2], false⟩
theorem tab8 : T 8 = some F8 := by kernel_rfl
/-- franking/frankingref13.Decode -/
abbrev bB10 : AC :=
  .seq (.region [⟨some 2, .mv (.c (.list 1 [] .full)), none, 0⟩, ⟨some 3, .mv (.c (.int .i64 0)), none, 0⟩, ⟨some 4, .mv (.c (.bool false)), none, 0⟩] 0 false []) (.seq (.region [⟨some 8, .mv (.t 0),
  none, 0⟩, ⟨some 9, .cvBytesStr (.t 8), none, 0⟩, ⟨some 10, .bin .add (.c (.str [13, 10])) (.t 9), none, 0⟩, ⟨some 5, .mv (.t 10), none, 0⟩] 0 false []) (.seq (.region [⟨some 11, .mv (.t 5), none, 0⟩,
  ⟨some 12, .call (.c (.fn 16 [])) [.t 11, .c (.str [13, 10, 46, 13, 10])], none, 0⟩, ⟨some 6, .mv (.t 12), none, 0⟩] 0 false []) (.seq (.seq (.region [⟨some 13, .mv (.t 6), none, 0⟩, ⟨some 14, .bin .lss
  (.t 13) (.c (.int .i64 0)), none, 0⟩] 0 false []) (.cond (.t 14) (.seq (.region [⟨some 2, .mv (.c (.list 1 [] .full)), none, 0⟩, ⟨some 3, .mv (.c (.int .i64 0)), none, 0⟩, ⟨some 4, .mv (.c (.bool
  false)), none, 0⟩] 0 false []) .ret) .skip)) (.seq (.region [⟨some 15, .mv (.t 5), none, 0⟩, ⟨some 16, .mv (.t 6), none, 0⟩, ⟨some 17, .bin .add (.t 16) (.c (.int .i64 2)), none, 0⟩, ⟨some 18, .sliceS
  (.t 15) none (some (.t 17)), none, 0⟩, ⟨some 19, .call (.c (.fn 17 [])) [.t 18, .c (.str [13, 10, 46]), .c (.str [13, 10])], none, 0⟩, ⟨some 7, .mv (.t 19), none, 0⟩] 0 false []) (.seq (.region [⟨some
  20, .mv (.t 7), none, 0⟩, ⟨some 21, .sliceS (.t 20) (some (.c (.int .i64 2))) none, none, 0⟩, ⟨some 22, .cvStrBytes 5 (.t 21), none, 0⟩, ⟨some 23, .mv (.t 6), none, 1⟩, ⟨some 24, .bin .add (.t 23) (.c
  (.int .i64 3)), none, 1⟩, ⟨some 2, .mv (.t 22), none, 1⟩, ⟨some 3, .mv (.t 24), none, 1⟩, ⟨some 4, .mv (.c (.bool true)), none, 1⟩] 1 false []) .ret)))))
def B10 := bB10
theorem wB10 : Wp O B10 Q σ h = Wp O bB10 Q σ h := rfl
def F10 : AF := ⟨B10, [.tmp 2, .tmp 3, .tmp 4], false⟩
theorem tab10 : T 10 = some F10 := by kernel_rfl
/-- franking/frankingref13.Encode -/
abbrev bB12 : AC :=
  .seq (.region [⟨some 2, .mv (.c (.list 1 [] .full)), none, 0⟩] 0 false []) (.seq (.region [⟨some 4, .mv (.t 0), none, 0⟩, ⟨some 5, .cvBytesStr (.t 4), none, 0⟩, ⟨some 6, .bin .add (.c (.str [13, 10]))
  (.t 5), none, 0⟩, ⟨some 3, .mv (.t 6), none, 0⟩] 0 false []) (.seq (.seq (.region [⟨some 7, .mv (.t 0), none, 0⟩, ⟨some 8, .len (.t 7), none, 0⟩, ⟨some 9, .bin .gtr (.t 8) (.c (.int .i64 0)), none, 0⟩,
  ⟨some 10, .mv (.t 9), none, 0⟩, ⟨some 11, .mv (.t 3), some (10, true), 0⟩, ⟨some 12, .call (.c (.fn 18 [])) [.t 11, .c (.str [13, 10])], some (10, true), 0⟩, ⟨some 13, .not (.t 12), some (10, true),
  0⟩, ⟨some 14, .pick (.t 10) (.t 13) (.c (.bool false)), none, 0⟩] 0 false []) (.cond (.t 14) (.region [⟨some 15, .mv (.t 3), none, 0⟩, ⟨some 16, .bin .add (.t 15) (.c (.str [13, 10])), none, 0⟩, ⟨some
  3, .mv (.t 16), none, 0⟩] 0 false []) .skip)) (.seq (.region [⟨some 17, .mv (.t 3), none, 0⟩, ⟨some 18, .call (.c (.fn 17 [])) [.t 17, .c (.str [13, 10, 46]), .c (.str [13, 10, 46, 46])], none, 0⟩,
  ⟨some 3, .mv (.t 18), none, 0⟩] 0 false []) (.seq (.region [⟨some 19, .mv (.t 3), none, 0⟩, ⟨some 20, .sliceS (.t 19) (some (.c (.int .i64 2))) none, none, 0⟩, ⟨some 21, .bin .add (.t 20) (.c (.str
  [46, 13, 10])), none, 0⟩, ⟨some 22, .cvStrBytes 5 (.t 21), none, 0⟩, ⟨some 2, .mv (.t 22), none, 1⟩] 1 false []) .ret))))
def B12 := bB12
theorem wB12 : Wp O B12 Q σ h = Wp O bB12 Q σ h := rfl
def F12 : AF := ⟨B12, [.tmp 2], false⟩
theorem tab12 : T 12 = some F12 := by kernel_rfl
/-- franking/frankinglaw13.DotsTells -/
abbrev bL3_0 : AC :=
  .seq (.region [⟨some 95, .bin .lss (.t 94) (.t 93), none, 0⟩] 0 false []) (.seq (.cond (.t 95) .skip (.exit 0)) (.seq (.block 1 (.seq (.region [⟨some 96, .mv (.t 94), none, 0⟩, ⟨some 17, .mv (.t 96),
  none, 0⟩] 0 false []) (.region [⟨some 97, .mv (.t 10), none, 0⟩, ⟨some 98, .mv (.t 17), none, 0⟩, ⟨some 99, .idx 1 (.t 97) (.t 98), none, 0⟩, ⟨some 100, .load none (.t 99), none, 0⟩, ⟨some 101, .bin
  .add (.t 100) (.c (.int .u8 1)), none, 0⟩, ⟨some 102, .idx 1 (.t 97) (.t 98), none, 0⟩, ⟨none, .store 1 (.t 102) (.t 101), none, 0⟩] 0 false []))) (.region [⟨some 103, .bin .add (.t 94) (.c (.int .i64
  1)), none, 0⟩, ⟨some 94, .mv (.t 103), none, 0⟩] 0 false [])))
def L3_0 := bL3_0
theorem wL3_0 : Wp O L3_0 Q σ h = Wp O bL3_0 Q σ h := rfl
abbrev bL3_1 : AC :=
  .seq (.region [⟨some 107, .bin .lss (.t 106) (.t 105), none, 0⟩] 0 false []) (.seq (.cond (.t 107) .skip (.exit 2)) (.seq (.block 3 (.seq (.region [⟨some 108, .mv (.t 106), none, 0⟩, ⟨some 18, .mv (.t
  108), none, 0⟩] 0 false []) (.region [⟨some 109, .mv (.t 16), none, 0⟩, ⟨some 110, .mv (.t 18), none, 0⟩, ⟨some 111, .idx 1 (.t 109) (.t 110), none, 0⟩, ⟨some 112, .load none (.t 111), none, 0⟩, ⟨some
  113, .bin .add (.t 112) (.c (.int .u8 1)), none, 0⟩, ⟨some 114, .idx 1 (.t 109) (.t 110), none, 0⟩, ⟨none, .store 1 (.t 114) (.t 113), none, 0⟩] 0 false []))) (.region [⟨some 115, .bin .add (.t 106)
  (.c (.int .i64 1)), none, 0⟩, ⟨some 106, .mv (.t 115), none, 0⟩] 0 false [])))
def L3_1 := bL3_1
theorem wL3_1 : Wp O L3_1 Q σ h = Wp O bL3_1 Q σ h := rfl
abbrev bK3_0 : AC :=
  .seq (.region [⟨some 116, .mv (.t 1), none, 0⟩, ⟨some 117, .cvBytesStr (.t 116), none, 0⟩, ⟨some 118, .mv (.t 9), none, 0⟩, ⟨some 119, .bin .eql (.t 117) (.t 118), none, 0⟩, ⟨some 120, .mv (.t 119),
  none, 0⟩, ⟨some 121, .call (.c (.fn 4 [])) [], some (120, true), 0⟩, ⟨some 122, .pick (.t 120) (.t 121) (.c (.bool false)), none, 0⟩, ⟨some 4, .mv (.t 122), none, 0⟩] 0 false []) .ret
def K3_0 := bK3_0
theorem wK3_0 : Wp O K3_0 Q σ h = Wp O bK3_0 Q σ h := rfl
abbrev bK3_1 : AC :=
  .seq (.seq (.region [⟨some 104, .mv (.t 16), none, 0⟩, ⟨some 105, .len (.t 104), none, 0⟩, ⟨some 106, .mv (.c (.int .i64 0)), none, 0⟩] 0 false []) (.block 2 (.loop L3_1))) K3_0
def K3_1 := bK3_1
theorem wK3_1 : Wp O K3_1 Q σ h = Wp O bK3_1 Q σ h := rfl
abbrev bB3 : AC :=
  .seq (.region [⟨some 4, .mv (.c (.bool false)), none, 0⟩] 0 false []) (.seq (.seq (.region [⟨some 19, .mv (.t 0), none, 0⟩, ⟨some 20, .lenS (.t 19), none, 0⟩, ⟨some 21, .bin .gtr (.t 20) (.c (.int .i64
  3000)), none, 0⟩, ⟨some 22, .mv (.t 21), none, 0⟩, ⟨some 23, .mv (.t 1), some (22, false), 0⟩, ⟨some 24, .len (.t 23), some (22, false), 0⟩, ⟨some 25, .bin .gtr (.t 24) (.c (.int .i64 3000)), some (22,
  false), 0⟩, ⟨some 26, .pick (.t 22) (.c (.bool true)) (.t 25), none, 0⟩] 0 false []) (.cond (.t 26) (.seq (.region [⟨some 27, .call (.c (.fn 4 [])) [], none, 0⟩, ⟨some 4, .mv (.t 27), none, 0⟩] 0 false
  []) .ret) .skip)) (.seq (.region [⟨some 29, .mv (.t 0), none, 0⟩, ⟨some 30, .call (.c (.fn 5 [])) [.t 29], none, 0⟩, ⟨some 28, .mv (.t 30), none, 0⟩, ⟨some 31, .ext (.t 28) 0, none, 0⟩, ⟨some 32, .ext
  (.t 28) 1, none, 0⟩, ⟨some 5, .mv (.t 31), none, 0⟩, ⟨some 6, .mv (.t 32), none, 0⟩] 0 false []) (.seq (.region [⟨some 34, .mv (.t 0), none, 0⟩, ⟨some 35, .call (.c (.fn 6 [])) [.t 34], none, 0⟩, ⟨some
  33, .mv (.t 35), none, 0⟩, ⟨some 36, .ext (.t 33) 0, none, 0⟩, ⟨some 37, .ext (.t 33) 1, none, 0⟩, ⟨some 7, .mv (.t 36), none, 0⟩, ⟨some 8, .mv (.t 37), none, 0⟩] 0 false []) (.seq (.seq (.region
  [⟨some 38, .mv (.t 0), none, 0⟩, ⟨some 39, .call (.c (.fn 7 [])) [.t 38], none, 0⟩, ⟨some 40, .mv (.t 0), none, 0⟩, ⟨some 41, .call (.c (.fn 8 [])) [.t 40], none, 0⟩, ⟨some 42, .bin .neq (.t 39) (.t
  41), none, 0⟩, ⟨some 43, .mv (.t 42), none, 0⟩, ⟨some 44, .mv (.t 5), some (43, false), 0⟩, ⟨some 45, .mv (.t 7), some (43, false), 0⟩, ⟨some 46, .bin .neq (.t 44) (.t 45), some (43, false), 0⟩, ⟨some
  47, .pick (.t 43) (.c (.bool true)) (.t 46), none, 0⟩, ⟨some 48, .mv (.t 47), none, 0⟩, ⟨some 49, .mv (.t 6), some (48, false), 0⟩, ⟨some 50, .mv (.t 8), some (48, false), 0⟩, ⟨some 51, .eq true none
  [(0, LK.bool)] (.t 49) (.t 50), some (48, false), 0⟩, ⟨some 52, .pick (.t 48) (.c (.bool true)) (.t 51), none, 0⟩] 0 false []) (.cond (.t 52) (.seq (.region [⟨some 4, .mv (.c (.bool false)), none, 0⟩]
  0 false []) .ret) .skip)) (.seq (.region [⟨some 53, .mv (.t 1), none, 0⟩, ⟨some 54, .cvBytesStr (.t 53), none, 0⟩, ⟨some 9, .mv (.t 54), none, 0⟩] 0 false []) (.seq (.region [⟨some 56, .mv (.t 1),
  none, 0⟩, ⟨some 57, .call (.c (.fn 9 [])) [.t 56], none, 0⟩, ⟨some 55, .mv (.t 57), none, 0⟩, ⟨some 58, .ext (.t 55) 0, none, 0⟩, ⟨some 59, .ext (.t 55) 1, none, 0⟩, ⟨some 60, .ext (.t 55) 2, none, 0⟩,
  ⟨some 10, .mv (.t 58), none, 0⟩, ⟨some 11, .mv (.t 59), none, 0⟩, ⟨some 12, .mv (.t 60), none, 0⟩] 0 false []) (.seq (.region [⟨some 62, .mv (.t 1), none, 0⟩, ⟨some 63, .call (.c (.fn 10 [])) [.t 62],
  none, 0⟩, ⟨some 61, .mv (.t 63), none, 0⟩, ⟨some 64, .ext (.t 61) 0, none, 0⟩, ⟨some 65, .ext (.t 61) 1, none, 0⟩, ⟨some 66, .ext (.t 61) 2, none, 0⟩, ⟨some 13, .mv (.t 64), none, 0⟩, ⟨some 14, .mv (.t
  65), none, 0⟩, ⟨some 15, .mv (.t 66), none, 0⟩] 0 false []) (.seq (.region [⟨some 67, .mv (.t 1), none, 0⟩, ⟨some 68, .call (.c (.fn 11 [])) [.t 67], none, 0⟩, ⟨some 16, .mv (.t 68), none, 0⟩] 0 false
  []) (.seq (.seq (.region [⟨some 69, .mv (.t 10), none, 0⟩, ⟨some 70, .cvBytesStr (.t 69), none, 0⟩, ⟨some 71, .mv (.t 13), none, 0⟩, ⟨some 72, .cvBytesStr (.t 71), none, 0⟩, ⟨some 73, .bin .neq (.t 70)
  (.t 72), none, 0⟩, ⟨some 74, .mv (.t 73), none, 0⟩, ⟨some 75, .mv (.t 11), some (74, false), 0⟩, ⟨some 76, .mv (.t 14), some (74, false), 0⟩, ⟨some 77, .bin .neq (.t 75) (.t 76), some (74, false), 0⟩,
  ⟨some 78, .pick (.t 74) (.c (.bool true)) (.t 77), none, 0⟩, ⟨some 79, .mv (.t 78), none, 0⟩, ⟨some 80, .mv (.t 12), some (79, false), 0⟩, ⟨some 81, .mv (.t 15), some (79, false), 0⟩, ⟨some 82, .eq
  true none [(0, LK.bool)] (.t 80) (.t 81), some (79, false), 0⟩, ⟨some 83, .pick (.t 79) (.c (.bool true)) (.t 82), none, 0⟩, ⟨some 84, .mv (.t 83), none, 0⟩, ⟨some 85, .mv (.t 16), some (84, false),
  0⟩, ⟨some 86, .cvBytesStr (.t 85), some (84, false), 0⟩, ⟨some 87, .mv (.t 1), some (84, false), 0⟩, ⟨some 88, .call (.c (.fn 12 [])) [.t 87], some (84, false), 0⟩, ⟨some 89, .cvBytesStr (.t 88), some
  (84, false), 0⟩, ⟨some 90, .bin .neq (.t 86) (.t 89), some (84, false), 0⟩, ⟨some 91, .pick (.t 84) (.c (.bool true)) (.t 90), none, 0⟩] 0 true [(17, 19)]) (.cond (.t 91) (.seq (.region [⟨some 4, .mv
  (.c (.bool false)), none, 0⟩] 0 false []) .ret) .skip)) (.seq (.seq (.region [⟨some 92, .mv (.t 10), none, 0⟩, ⟨some 93, .len (.t 92), none, 0⟩, ⟨some 94, .mv (.c (.int .i64 0)), none, 0⟩] 0 false [])
  (.block 0 (.loop L3_0))) K3_1))))))))))
def B3 := bB3
theorem wB3 : Wp O B3 Q σ h = Wp O bB3 Q σ h := rfl
def F3 : AF := ⟨B3, [.tmp 4], false⟩
theorem tab3 : T 3 = some F3 := by kernel_rfl
theorem mixed : Tryd.prog.follows .mixedOrders = true := by kernel_rfl
end Go.Proofs.YtbhdfmkcoolghaaDoor
