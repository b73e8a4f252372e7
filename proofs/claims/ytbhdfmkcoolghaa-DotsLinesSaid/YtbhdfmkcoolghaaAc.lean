/-
  The abstract code of the functions that the laws reach.
-/
import Derived.Test.YtbhdfmkcoolghaaProg
import Derived.Test.YtbhdfmkcoolghaaAmC
import Derived.KernelRfl
set_option linter.unusedVariables false
set_option maxRecDepth 100000
namespace Go.Proofs.Ytbhdfmkcoolghaa
open Go Go.Am
noncomputable def T : FuncId → Option AF := table Try.prog ["frame.go:22", "-franking/dots.Encode", "-franking/dots.Decode"] ["franking/frame.Push$1", "franking/dots.lines"]
variable {O : Orc} {Q : Ex → Slots → Heap → Prop} {σ : Slots} {h : Heap}
/-- bytes.Cut -/
abbrev bB26 : AC :=
  .seq (.region [⟨some 4, .mv (.c (.list 1 [] .full)), none, 0⟩, ⟨some 5, .mv (.c (.list 1 [] .full)), none, 0⟩, ⟨some 6, .mv (.c (.bool false)), none, 0⟩] 0 false []) (.seq (.seq (.region [⟨some 8, .mv
  (.t 0), none, 0⟩, ⟨some 9, .mv (.t 1), none, 0⟩, ⟨some 10, .call (.c (.fn 30 [])) [.t 8, .t 9], none, 0⟩, ⟨some 7, .mv (.t 10), none, 0⟩] 0 false []) (.seq (.region [⟨some 11, .mv (.t 7), none, 0⟩,
  ⟨some 12, .bin .geq (.t 11) (.c (.int .i64 0)), none, 0⟩] 0 false []) (.cond (.t 12) (.seq (.region [⟨some 13, .mv (.t 0), none, 0⟩, ⟨some 14, .mv (.t 7), none, 0⟩, ⟨some 15, .slice 1 (.t 13) none
  (some (.t 14)) none, none, 0⟩, ⟨some 16, .mv (.t 0), none, 0⟩, ⟨some 17, .mv (.t 7), none, 0⟩, ⟨some 18, .mv (.t 1), none, 0⟩, ⟨some 19, .len (.t 18), none, 0⟩, ⟨some 20, .bin .add (.t 17) (.t 19),
  none, 0⟩, ⟨some 21, .slice 1 (.t 16) (some (.t 20)) none none, none, 0⟩, ⟨some 4, .mv (.t 15), none, 0⟩, ⟨some 5, .mv (.t 21), none, 0⟩, ⟨some 6, .mv (.c (.bool true)), none, 0⟩] 0 true []) .ret)
  .skip))) (.seq (.region [⟨some 22, .mv (.t 0), none, 0⟩, ⟨some 4, .mv (.t 22), none, 0⟩, ⟨some 5, .mv (.c (.list 1 [] .full)), none, 0⟩, ⟨some 6, .mv (.c (.bool false)), none, 0⟩] 0 false []) .ret))
def B26 := bB26
theorem wB26 : Wp O B26 Q σ h = Wp O bB26 Q σ h := rfl
def F26 : AF := ⟨B26, [.tmp 4, .tmp 5, .tmp 6], false⟩
theorem tab26 : T 26 = some F26 := by kernel_rfl
/-- franking/dots.lines$1 -/
abbrev bL25_0 : AC :=
  .seq (.seq (.region [⟨some 6, .load none (.t 1), none, 0⟩, ⟨some 7, .len (.t 6), none, 0⟩, ⟨some 8, .bin .gtr (.t 7) (.c (.int .i64 0)), none, 0⟩] 0 false []) (.cond (.t 8) .skip (.exit 0))) (.block 1
  (.seq (.region [⟨some 10, .load none (.t 1), none, 0⟩, ⟨some 11, .cvStrBytes 5 (.c (.str [13, 10])), none, 0⟩, ⟨some 12, .cvMark (.t 11), none, 1⟩, ⟨some 13, .call (.c (.fn 26 [])) [.t 10, .t 12],
  none, 1⟩, ⟨some 9, .mv (.t 13), none, 1⟩, ⟨some 14, .ext (.t 9) 0, none, 1⟩, ⟨some 15, .ext (.t 9) 1, none, 1⟩, ⟨some 16, .ext (.t 9) 2, none, 1⟩, ⟨some 3, .mv (.t 14), none, 1⟩, ⟨some 4, .mv (.t 15),
  none, 1⟩, ⟨some 5, .mv (.t 16), none, 1⟩] 1 false []) (.seq (.seq (.region [⟨some 17, .mv (.t 0), none, 0⟩, ⟨some 18, .mv (.t 3), none, 0⟩, ⟨some 19, .cvBytesStr (.t 18), none, 0⟩, ⟨some 20, .mv (.t
  5), none, 0⟩, ⟨some 21, .call (.t 17) [.t 19, .t 20], none, 0⟩, ⟨some 22, .not (.t 21), none, 0⟩] 0 false []) (.cond (.t 22) .ret .skip)) (.region [⟨some 23, .mv (.t 4), none, 0⟩, ⟨none, .store 1 (.t
  1) (.t 23), none, 0⟩] 0 false []))))
def L25_0 := bL25_0
theorem wL25_0 : Wp O L25_0 Q σ h = Wp O bL25_0 Q σ h := rfl
abbrev bB25 : AC :=
  .block 0 (.loop L25_0)
def B25 := bB25
theorem wB25 : Wp O B25 Q σ h = Wp O bB25 Q σ h := rfl
def F25 : AF := ⟨B25, [], false⟩
theorem tab25 : T 25 = some F25 := by kernel_rfl
/-- franking/dots.lines -/
abbrev bB17 : AC :=
  .seq (.region [⟨some 1, .box 1 (.t 0), none, 0⟩, ⟨some 2, .mv (.c (.nilf)), none, 1⟩] 1 false []) (.seq (.region [⟨some 3, .mkfn 25 [.t 1], none, 0⟩, ⟨some 2, .mv (.t 3), none, 0⟩] 0 false []) .ret)
def B17 := bB17
theorem wB17 : Wp O B17 Q σ h = Wp O bB17 Q σ h := rfl
def F17 : AF := ⟨B17, [.tmp 2], true⟩
theorem tab17 : T 17 = some F17 := by kernel_rfl
/-- franking/dots.Unstuff -/
abbrev bB13 : AC :=
  .seq (.region [⟨some 2, .mv (.c (.str [])), none, 0⟩, ⟨some 3, .mv (.c (.bool false)), none, 0⟩] 0 false []) (.seq (.seq (.region [⟨some 4, .mv (.t 0), none, 0⟩, ⟨some 5, .bin .eql (.t 4) (.c (.str
  [46])), none, 0⟩] 0 false []) (.cond (.t 5) (.seq (.region [⟨some 2, .mv (.c (.str [])), none, 0⟩, ⟨some 3, .mv (.c (.bool true)), none, 0⟩] 0 false []) .ret) .skip)) (.seq (.region [⟨some 6, .mv (.t
  0), none, 0⟩, ⟨some 7, .call (.c (.fn 19 [])) [.t 6, .c (.str [46])], none, 0⟩, ⟨some 2, .mv (.t 7), none, 0⟩, ⟨some 3, .mv (.c (.bool false)), none, 0⟩] 0 false []) .ret))
def B13 := bB13
theorem wB13 : Wp O B13 Q σ h = Wp O bB13 Q σ h := rfl
def F13 : AF := ⟨B13, [.tmp 2, .tmp 3], false⟩
theorem tab13 : T 13 = some F13 := by kernel_rfl
/-- franking/dots.Stuff -/
abbrev bB14 : AC :=
  .seq (.region [⟨some 2, .mv (.c (.str [])), none, 0⟩] 0 false []) (.seq (.seq (.region [⟨some 3, .mv (.t 0), none, 0⟩, ⟨some 4, .call (.c (.fn 20 [])) [.t 3, .c (.str [46])], none, 0⟩] 0 false [])
  (.cond (.t 4) (.seq (.region [⟨some 5, .mv (.t 0), none, 0⟩, ⟨some 6, .bin .add (.c (.str [46])) (.t 5), none, 0⟩, ⟨some 2, .mv (.t 6), none, 0⟩] 0 false []) .ret) .skip)) (.seq (.region [⟨some 7, .mv
  (.t 0), none, 0⟩, ⟨some 2, .mv (.t 7), none, 0⟩] 0 false []) .ret))
def B14 := bB14
theorem wB14 : Wp O B14 Q σ h = Wp O bB14 Q σ h := rfl
def F14 : AF := ⟨B14, [.tmp 2], false⟩
theorem tab14 : T 14 = some F14 := by kernel_rfl
/-- strings.TrimPrefix -/
abbrev bB19 : AC :=
  .seq (.region [⟨some 4, .mv (.c (.str [])), none, 0⟩] 0 false []) (.seq (.region [⟨some 5, .mv (.t 0), none, 0⟩, ⟨some 6, .mv (.t 1), none, 0⟩, ⟨some 7, .call (.c (.fn 27 [])) [.t 5, .t 6], none, 0⟩,
  ⟨some 4, .mv (.t 7), none, 0⟩] 0 false []) .ret)
def B19 := bB19
theorem wB19 : Wp O B19 Q σ h = Wp O bB19 Q σ h := rfl
def F19 : AF := ⟨B19, [.tmp 4], false⟩
theorem tab19 : T 19 = some F19 := by kernel_rfl
/-- strings.HasPrefix -/
abbrev bB20 : AC :=
  .seq (.region [⟨some 4, .mv (.c (.bool false)), none, 0⟩] 0 false []) (.seq (.region [⟨some 5, .mv (.t 0), none, 0⟩, ⟨some 6, .mv (.t 1), none, 0⟩, ⟨some 7, .call (.c (.fn 28 [])) [.t 5, .t 6], none,
  0⟩, ⟨some 4, .mv (.t 7), none, 0⟩] 0 false []) .ret)
def B20 := bB20
theorem wB20 : Wp O B20 Q σ h = Wp O bB20 Q σ h := rfl
def F20 : AF := ⟨B20, [.tmp 4], false⟩
theorem tab20 : T 20 = some F20 := by kernel_rfl
/-- internal/stringslite.TrimPrefix -/
abbrev bB27 : AC :=
  .seq (.region [⟨some 4, .mv (.c (.str [])), none, 0⟩] 0 false []) (.seq (.seq (.region [⟨some 5, .mv (.t 0), none, 0⟩, ⟨some 6, .mv (.t 1), none, 0⟩, ⟨some 7, .call (.c (.fn 28 [])) [.t 5, .t 6], none,
  0⟩] 0 false []) (.cond (.t 7) (.seq (.region [⟨some 8, .mv (.t 0), none, 0⟩, ⟨some 9, .mv (.t 1), none, 0⟩, ⟨some 10, .lenS (.t 9), none, 0⟩, ⟨some 11, .sliceS (.t 8) (some (.t 10)) none, none, 0⟩,
  ⟨some 4, .mv (.t 11), none, 0⟩] 0 false []) .ret) .skip)) (.seq (.region [⟨some 12, .mv (.t 0), none, 0⟩, ⟨some 4, .mv (.t 12), none, 0⟩] 0 false []) .ret))
def B27 := bB27
theorem wB27 : Wp O B27 Q σ h = Wp O bB27 Q σ h := rfl
def F27 : AF := ⟨B27, [.tmp 4], false⟩
theorem tab27 : T 27 = some F27 := by kernel_rfl
/-- internal/stringslite.HasPrefix -/
abbrev bB28 : AC :=
  .seq (.region [⟨some 4, .mv (.c (.bool false)), none, 0⟩] 0 false []) (.seq (.region [⟨some 5, .mv (.t 0), none, 0⟩, ⟨some 6, .lenS (.t 5), none, 0⟩, ⟨some 7, .mv (.t 1), none, 0⟩, ⟨some 8, .lenS (.t
  7), none, 0⟩, ⟨some 9, .bin .geq (.t 6) (.t 8), none, 0⟩, ⟨some 10, .mv (.t 9), none, 0⟩, ⟨some 11, .mv (.t 0), some (10, true), 0⟩, ⟨some 12, .mv (.t 1), some (10, true), 0⟩, ⟨some 13, .lenS (.t 12),
  some (10, true), 0⟩, ⟨some 14, .sliceS (.t 11) none (some (.t 13)), some (10, true), 0⟩, ⟨some 15, .mv (.t 1), some (10, true), 0⟩, ⟨some 16, .bin .eql (.t 14) (.t 15), some (10, true), 0⟩, ⟨some 17,
  .pick (.t 10) (.t 16) (.c (.bool false)), none, 0⟩, ⟨some 4, .mv (.t 17), none, 0⟩] 0 false []) .ret)
def B28 := bB28
theorem wB28 : Wp O B28 Q σ h = Wp O bB28 Q σ h := rfl
def F28 : AF := ⟨B28, [.tmp 4], false⟩
theorem tab28 : T 28 = some F28 := by kernel_rfl
/-- strings.HasSuffix -/
abbrev bB16 : AC :=
  .seq (.region [⟨some 4, .mv (.c (.bool false)), none, 0⟩] 0 false []) (.seq (.region [⟨some 5, .mv (.t 0), none, 0⟩, ⟨some 6, .mv (.t 1), none, 0⟩, ⟨some 7, .call (.c (.fn 24 [])) [.t 5, .t 6], none,
  0⟩, ⟨some 4, .mv (.t 7), none, 0⟩] 0 false []) .ret)
def B16 := bB16
theorem wB16 : Wp O B16 Q σ h = Wp O bB16 Q σ h := rfl
def F16 : AF := ⟨B16, [.tmp 4], false⟩
theorem tab16 : T 16 = some F16 := by kernel_rfl
/-- internal/stringslite.HasSuffix -/
abbrev bB24 : AC :=
  .seq (.region [⟨some 4, .mv (.c (.bool false)), none, 0⟩] 0 false []) (.seq (.region [⟨some 5, .mv (.t 0), none, 0⟩, ⟨some 6, .lenS (.t 5), none, 0⟩, ⟨some 7, .mv (.t 1), none, 0⟩, ⟨some 8, .lenS (.t
  7), none, 0⟩, ⟨some 9, .bin .geq (.t 6) (.t 8), none, 0⟩, ⟨some 10, .mv (.t 9), none, 0⟩, ⟨some 11, .mv (.t 0), some (10, true), 0⟩, ⟨some 12, .mv (.t 0), some (10, true), 0⟩, ⟨some 13, .lenS (.t 12),
  some (10, true), 0⟩, ⟨some 14, .mv (.t 1), some (10, true), 0⟩, ⟨some 15, .lenS (.t 14), some (10, true), 0⟩, ⟨some 16, .bin .sub (.t 13) (.t 15), some (10, true), 0⟩, ⟨some 17, .sliceS (.t 11) (some
  (.t 16)) none, some (10, true), 0⟩, ⟨some 18, .mv (.t 1), some (10, true), 0⟩, ⟨some 19, .bin .eql (.t 17) (.t 18), some (10, true), 0⟩, ⟨some 20, .pick (.t 10) (.t 19) (.c (.bool false)), none, 0⟩,
  ⟨some 4, .mv (.t 20), none, 0⟩] 0 false []) .ret)
def B24 := bB24
theorem wB24 : Wp O B24 Q σ h = Wp O bB24 Q σ h := rfl
def F24 : AF := ⟨B24, [.tmp 4], false⟩
theorem tab24 : T 24 = some F24 := by kernel_rfl
/-- franking/frankinglaw13.whole -/
abbrev bB10 : AC :=
  .seq (.region [⟨some 2, .mv (.c (.str [])), none, 0⟩] 0 false []) (.seq (.seq (.region [⟨some 4, .mv (.t 0), none, 0⟩, ⟨some 5, .cvBytesStr (.t 4), none, 0⟩, ⟨some 3, .mv (.t 5), none, 0⟩] 0 false [])
  (.seq (.region [⟨some 6, .mv (.t 3), none, 0⟩, ⟨some 7, .bin .eql (.t 6) (.c (.str [])), none, 0⟩, ⟨some 8, .mv (.t 7), none, 0⟩, ⟨some 9, .mv (.t 3), some (8, false), 0⟩, ⟨some 10, .call (.c (.fn 16
  [])) [.t 9, .c (.str [13, 10])], some (8, false), 0⟩, ⟨some 11, .pick (.t 8) (.c (.bool true)) (.t 10), none, 0⟩] 0 false []) (.cond (.t 11) (.seq (.region [⟨some 12, .mv (.t 3), none, 0⟩, ⟨some 2, .mv
  (.t 12), none, 0⟩] 0 false []) .ret) .skip))) (.seq (.region [⟨some 13, .mv (.t 0), none, 0⟩, ⟨some 14, .cvBytesStr (.t 13), none, 0⟩, ⟨some 15, .bin .add (.t 14) (.c (.str [13, 10])), none, 0⟩, ⟨some
  2, .mv (.t 15), none, 0⟩] 0 false []) .ret))
def B10 := bB10
theorem wB10 : Wp O B10 Q σ h = Wp O bB10 Q σ h := rfl
def F10 : AF := ⟨B10, [.tmp 2], false⟩
theorem tab10 : T 10 = some F10 := by kernel_rfl
/-- franking/frankinglaw13.awake -/
abbrev bB7 : AC :=
  .seq (.region [⟨some 0, .mv (.c (.bool false)), none, 0⟩] 0 false []) (.seq (.region [⟨some 12, .call (.c (.fn 13 [])) [.c (.str [46])], none, 0⟩, ⟨some 11, .mv (.t 12), none, 0⟩, ⟨some 13, .ext (.t
  11) 0, none, 0⟩, ⟨some 14, .ext (.t 11) 1, none, 0⟩, ⟨some 1, .mv (.t 13), none, 0⟩, ⟨some 2, .mv (.t 14), none, 0⟩] 0 false []) (.seq (.region [⟨some 16, .call (.c (.fn 13 [])) [.c (.str [46, 46])],
  none, 0⟩, ⟨some 15, .mv (.t 16), none, 0⟩, ⟨some 17, .ext (.t 15) 0, none, 0⟩, ⟨some 18, .ext (.t 15) 1, none, 0⟩, ⟨some 3, .mv (.t 17), none, 0⟩, ⟨some 4, .mv (.t 18), none, 0⟩] 0 false []) (.seq
  (.region [⟨some 20, .cvStrBytes 5 (.c (.str [46, 13, 10, 46, 120])), none, 0⟩, ⟨some 21, .cvMark (.t 20), none, 1⟩, ⟨some 22, .call (.c (.fn 9 [])) [.t 21], none, 1⟩, ⟨some 19, .mv (.t 22), none, 1⟩,
  ⟨some 23, .ext (.t 19) 0, none, 1⟩, ⟨some 24, .ext (.t 19) 1, none, 1⟩, ⟨some 25, .ext (.t 19) 2, none, 1⟩, ⟨some 5, .mv (.t 23), none, 1⟩, ⟨some 6, .mv (.t 24), none, 1⟩, ⟨some 7, .mv (.t 25), none,
  1⟩] 1 false []) (.seq (.region [⟨some 27, .cvStrBytes 5 (.c (.str [97, 46])), none, 0⟩, ⟨some 28, .cvMark (.t 27), none, 1⟩, ⟨some 29, .call (.c (.fn 9 [])) [.t 28], none, 1⟩, ⟨some 26, .mv (.t 29),
  none, 1⟩, ⟨some 30, .ext (.t 26) 0, none, 1⟩, ⟨some 31, .ext (.t 26) 1, none, 1⟩, ⟨some 32, .ext (.t 26) 2, none, 1⟩, ⟨some 8, .mv (.t 30), none, 1⟩, ⟨some 9, .mv (.t 31), none, 1⟩, ⟨some 10, .mv (.t
  32), none, 1⟩] 1 false []) (.seq (.region [⟨some 33, .call (.c (.fn 14 [])) [.c (.str [46, 97])], none, 0⟩, ⟨some 34, .bin .eql (.t 33) (.c (.str [46, 46, 97])), none, 0⟩, ⟨some 35, .mv (.t 34), none,
  0⟩, ⟨some 36, .call (.c (.fn 14 [])) [.c (.str [97, 46])], some (35, true), 0⟩, ⟨some 37, .bin .eql (.t 36) (.c (.str [97, 46])), some (35, true), 0⟩, ⟨some 38, .pick (.t 35) (.t 37) (.c (.bool
  false)), none, 0⟩, ⟨some 39, .mv (.t 38), none, 0⟩, ⟨some 40, .mv (.t 1), some (39, true), 0⟩, ⟨some 41, .bin .eql (.t 40) (.c (.str [])), some (39, true), 0⟩, ⟨some 42, .pick (.t 39) (.t 41) (.c
  (.bool false)), none, 0⟩, ⟨some 43, .mv (.t 42), none, 0⟩, ⟨some 44, .mv (.t 2), some (43, true), 0⟩, ⟨some 45, .pick (.t 43) (.t 44) (.c (.bool false)), none, 0⟩, ⟨some 46, .mv (.t 45), none, 0⟩,
  ⟨some 47, .mv (.t 3), some (46, true), 0⟩, ⟨some 48, .bin .eql (.t 47) (.c (.str [46])), some (46, true), 0⟩, ⟨some 49, .pick (.t 46) (.t 48) (.c (.bool false)), none, 0⟩, ⟨some 50, .mv (.t 49), none,
  0⟩, ⟨some 51, .mv (.t 4), some (50, true), 0⟩, ⟨some 52, .not (.t 51), some (50, true), 0⟩, ⟨some 53, .pick (.t 50) (.t 52) (.c (.bool false)), none, 0⟩, ⟨some 54, .mv (.t 53), none, 0⟩, ⟨some 55,
  .cvStrBytes 5 (.c (.str [97, 13, 10, 46, 98])), some (54, true), 0⟩, ⟨some 56, .cvMark (.t 55), some (54, true), 1⟩, ⟨some 57, .call (.c (.fn 8 [])) [.t 56], some (54, true), 1⟩, ⟨some 58, .cvBytesStr
  (.t 57), some (54, true), 1⟩, ⟨some 59, .bin .eql (.t 58) (.c (.str [97, 13, 10, 46, 46, 98, 13, 10, 46, 13, 10])), some (54, true), 1⟩, ⟨some 60, .pick (.t 54) (.t 59) (.c (.bool false)), none, 1⟩,
  ⟨some 61, .mv (.t 60), none, 1⟩, ⟨some 62, .call (.c (.fn 8 [])) [.c (.list 1 [] .full)], some (61, true), 1⟩, ⟨some 63, .cvBytesStr (.t 62), some (61, true), 1⟩, ⟨some 64, .bin .eql (.t 63) (.c (.str
  [46, 13, 10])), some (61, true), 1⟩, ⟨some 65, .pick (.t 61) (.t 64) (.c (.bool false)), none, 1⟩, ⟨some 66, .mv (.t 65), none, 1⟩, ⟨some 67, .mv (.t 5), some (66, true), 1⟩, ⟨some 68, .len (.t 67),
  some (66, true), 1⟩, ⟨some 69, .bin .eql (.t 68) (.c (.int .i64 0)), some (66, true), 1⟩, ⟨some 70, .pick (.t 66) (.t 69) (.c (.bool false)), none, 1⟩, ⟨some 71, .mv (.t 70), none, 1⟩, ⟨some 72, .mv
  (.t 6), some (71, true), 1⟩, ⟨some 73, .bin .eql (.t 72) (.c (.int .i64 3)), some (71, true), 1⟩, ⟨some 74, .pick (.t 71) (.t 73) (.c (.bool false)), none, 1⟩, ⟨some 75, .mv (.t 74), none, 1⟩, ⟨some
  76, .mv (.t 7), some (75, true), 1⟩, ⟨some 77, .pick (.t 75) (.t 76) (.c (.bool false)), none, 1⟩, ⟨some 78, .mv (.t 77), none, 1⟩, ⟨some 79, .mv (.t 9), some (78, true), 1⟩, ⟨some 80, .bin .eql (.t
  79) (.c (.int .i64 0)), some (78, true), 1⟩, ⟨some 81, .pick (.t 78) (.t 80) (.c (.bool false)), none, 1⟩, ⟨some 82, .mv (.t 81), none, 1⟩, ⟨some 83, .mv (.t 10), some (82, true), 1⟩, ⟨some 84, .not
  (.t 83), some (82, true), 1⟩, ⟨some 85, .pick (.t 82) (.t 84) (.c (.bool false)), none, 1⟩, ⟨some 0, .mv (.t 85), none, 1⟩] 1 false []) .ret)))))
def B7 := bB7
theorem wB7 : Wp O B7 Q σ h = Wp O bB7 Q σ h := rfl
def F7 : AF := ⟨B7, [.tmp 0], false⟩
theorem tab7 : T 7 = some F7 := by kernel_rfl
/-- franking/frankinglaw13.DotsBack -/
abbrev bB3 : AC :=
  .seq (.region [⟨some 4, .mv (.c (.bool false)), none, 0⟩] 0 false []) (.seq (.seq (.region [⟨some 9, .mv (.t 0), none, 0⟩, ⟨some 10, .len (.t 9), none, 0⟩, ⟨some 11, .bin .gtr (.t 10) (.c (.int .i64
  3000)), none, 0⟩, ⟨some 12, .mv (.t 11), none, 0⟩, ⟨some 13, .mv (.t 1), some (12, false), 0⟩, ⟨some 14, .len (.t 13), some (12, false), 0⟩, ⟨some 15, .bin .gtr (.t 14) (.c (.int .i64 3000)), some (12,
  false), 0⟩, ⟨some 16, .pick (.t 12) (.c (.bool true)) (.t 15), none, 0⟩] 0 false []) (.cond (.t 16) (.seq (.region [⟨some 17, .call (.c (.fn 7 [])) [], none, 0⟩, ⟨some 4, .mv (.t 17), none, 0⟩] 0 false
  []) .ret) .skip)) (.seq (.region [⟨some 18, .mv (.t 0), none, 0⟩, ⟨some 19, .call (.c (.fn 8 [])) [.t 18], none, 0⟩, ⟨some 5, .mv (.t 19), none, 0⟩] 0 false []) (.seq (.region [⟨some 21, .cvStrBytes 5
  (.c (.str [])), none, 0⟩, ⟨some 22, .mv (.t 5), none, 1⟩, ⟨some 23, .append 1 1 5 (.t 21) (.t 22), none, 1⟩, ⟨some 24, .mv (.t 1), none, 2⟩, ⟨some 25, .append 1 1 5 (.t 23) (.t 24), none, 2⟩, ⟨some 26,
  .call (.c (.fn 9 [])) [.t 25], none, 3⟩, ⟨some 20, .mv (.t 26), none, 3⟩, ⟨some 27, .ext (.t 20) 0, none, 3⟩, ⟨some 28, .ext (.t 20) 1, none, 3⟩, ⟨some 29, .ext (.t 20) 2, none, 3⟩, ⟨some 6, .mv (.t
  27), none, 3⟩, ⟨some 7, .mv (.t 28), none, 3⟩, ⟨some 8, .mv (.t 29), none, 3⟩] 3 false []) (.seq (.region [⟨some 30, .mv (.t 8), none, 0⟩, ⟨some 31, .mv (.t 30), none, 0⟩, ⟨some 32, .mv (.t 7), some
  (31, true), 0⟩, ⟨some 33, .mv (.t 5), some (31, true), 0⟩, ⟨some 34, .len (.t 33), some (31, true), 0⟩, ⟨some 35, .bin .eql (.t 32) (.t 34), some (31, true), 0⟩, ⟨some 36, .pick (.t 31) (.t 35) (.c
  (.bool false)), none, 0⟩, ⟨some 37, .mv (.t 36), none, 0⟩, ⟨some 38, .mv (.t 6), some (37, true), 0⟩, ⟨some 39, .cvBytesStr (.t 38), some (37, true), 0⟩, ⟨some 40, .mv (.t 0), some (37, true), 0⟩,
  ⟨some 41, .call (.c (.fn 10 [])) [.t 40], some (37, true), 0⟩, ⟨some 42, .bin .eql (.t 39) (.t 41), some (37, true), 0⟩, ⟨some 43, .pick (.t 37) (.t 42) (.c (.bool false)), none, 0⟩, ⟨some 44, .mv (.t
  43), none, 0⟩, ⟨some 45, .call (.c (.fn 7 [])) [], some (44, true), 0⟩, ⟨some 46, .pick (.t 44) (.t 45) (.c (.bool false)), none, 0⟩, ⟨some 4, .mv (.t 46), none, 0⟩] 0 true [(9, 11)]) .ret))))
def B3 := bB3
theorem wB3 : Wp O B3 Q σ h = Wp O bB3 Q σ h := rfl
def F3 : AF := ⟨B3, [.tmp 4], false⟩
theorem tab3 : T 3 = some F3 := by kernel_rfl
/-- franking/frankinglaw13.DotsFront -/
abbrev bB5 : AC :=
  .seq (.region [⟨some 4, .mv (.c (.bool false)), none, 0⟩] 0 false []) (.seq (.seq (.region [⟨some 10, .mv (.t 0), none, 0⟩, ⟨some 11, .len (.t 10), none, 0⟩, ⟨some 12, .bin .gtr (.t 11) (.c (.int .i64
  3000)), none, 0⟩] 0 false []) (.cond (.t 12) (.seq (.region [⟨some 13, .call (.c (.fn 7 [])) [], none, 0⟩, ⟨some 4, .mv (.t 13), none, 0⟩] 0 false []) .ret) .skip)) (.seq (.region [⟨some 14, .mv (.t
  0), none, 0⟩, ⟨some 15, .call (.c (.fn 8 [])) [.t 14], none, 0⟩, ⟨some 5, .mv (.t 15), none, 0⟩] 0 false []) (.seq (.seq (.region [⟨some 16, .mv (.t 5), none, 0⟩, ⟨some 17, .len (.t 16), none, 0⟩,
  ⟨some 18, .bin .eql (.t 17) (.c (.int .i64 0)), none, 0⟩] 0 false []) (.cond (.t 18) (.seq (.region [⟨some 4, .mv (.c (.bool false)), none, 0⟩] 0 false []) .ret) .skip)) (.seq (.region [⟨some 20, .mv
  (.t 5), none, 0⟩, ⟨some 21, .mv (.t 1), none, 0⟩, ⟨some 22, .cvInt .i64 (.t 21), none, 0⟩, ⟨some 23, .mv (.t 5), none, 0⟩, ⟨some 24, .len (.t 23), none, 0⟩, ⟨some 25, .bin .rem (.t 22) (.t 24), none,
  0⟩, ⟨some 26, .slice 1 (.t 20) none (some (.t 25)) none, none, 0⟩, ⟨some 27, .call (.c (.fn 9 [])) [.t 26], none, 0⟩, ⟨some 19, .mv (.t 27), none, 0⟩, ⟨some 28, .ext (.t 19) 0, none, 0⟩, ⟨some 29, .ext
  (.t 19) 1, none, 0⟩, ⟨some 30, .ext (.t 19) 2, none, 0⟩, ⟨some 6, .mv (.t 28), none, 0⟩, ⟨some 7, .mv (.t 29), none, 0⟩, ⟨some 8, .mv (.t 30), none, 0⟩] 0 false []) (.seq (.region [⟨some 31, .mv (.t
  0), none, 0⟩, ⟨some 32, .call (.c (.fn 10 [])) [.t 31], none, 0⟩, ⟨some 33, .call (.c (.fn 15 [])) [.t 32, .c (.str [13, 10])], none, 0⟩, ⟨some 9, .mv (.t 33), none, 0⟩] 0 false []) (.seq (.region
  [⟨some 34, .mv (.t 8), none, 0⟩, ⟨some 35, .not (.t 34), none, 0⟩, ⟨some 36, .mv (.t 35), none, 0⟩, ⟨some 37, .mv (.t 7), some (36, true), 0⟩, ⟨some 38, .bin .eql (.t 37) (.c (.int .i64 0)), some (36,
  true), 0⟩, ⟨some 39, .pick (.t 36) (.t 38) (.c (.bool false)), none, 0⟩, ⟨some 40, .mv (.t 39), none, 0⟩, ⟨some 41, .mv (.t 6), some (40, true), 0⟩, ⟨some 42, .len (.t 41), some (40, true), 0⟩, ⟨some
  43, .bin .eql (.t 42) (.c (.int .i64 0)), some (40, true), 0⟩, ⟨some 44, .pick (.t 40) (.t 43) (.c (.bool false)), none, 0⟩, ⟨some 45, .mv (.t 44), none, 0⟩, ⟨some 46, .mv (.t 5), some (45, true), 0⟩,
  ⟨some 47, .len (.t 46), some (45, true), 0⟩, ⟨some 48, .mv (.t 0), some (45, true), 0⟩, ⟨some 49, .len (.t 48), some (45, true), 0⟩, ⟨some 50, .bin .add (.t 49) (.c (.int .i64 3)), some (45, true), 0⟩,
  ⟨some 51, .bin .geq (.t 47) (.t 50), some (45, true), 0⟩, ⟨some 52, .pick (.t 45) (.t 51) (.c (.bool false)), none, 0⟩, ⟨some 53, .mv (.t 52), none, 0⟩, ⟨some 54, .mv (.t 5), some (53, true), 0⟩, ⟨some
  55, .len (.t 54), some (53, true), 0⟩, ⟨some 56, .mv (.t 0), some (53, true), 0⟩, ⟨some 57, .len (.t 56), some (53, true), 0⟩, ⟨some 58, .mv (.t 9), some (53, true), 0⟩, ⟨some 59, .bin .add (.t 57) (.t
  58), some (53, true), 0⟩, ⟨some 60, .bin .add (.t 59) (.c (.int .i64 5)), some (53, true), 0⟩, ⟨some 61, .bin .leq (.t 55) (.t 60), some (53, true), 0⟩, ⟨some 62, .pick (.t 53) (.t 61) (.c (.bool
  false)), none, 0⟩, ⟨some 63, .mv (.t 62), none, 0⟩, ⟨some 64, .call (.c (.fn 7 [])) [], some (63, true), 0⟩, ⟨some 65, .pick (.t 63) (.t 64) (.c (.bool false)), none, 0⟩, ⟨some 4, .mv (.t 65), none,
  0⟩] 0 false []) .ret))))))
def B5 := bB5
theorem wB5 : Wp O B5 Q σ h = Wp O bB5 Q σ h := rfl
def F5 : AF := ⟨B5, [.tmp 4], false⟩
theorem tab5 : T 5 = some F5 := by kernel_rfl
/-- franking/frankinglaw13.DotsAgain -/
abbrev bB6 : AC :=
  .seq (.region [⟨some 2, .mv (.c (.bool false)), none, 0⟩] 0 false []) (.seq (.seq (.region [⟨some 12, .mv (.t 0), none, 0⟩, ⟨some 13, .len (.t 12), none, 0⟩, ⟨some 14, .bin .gtr (.t 13) (.c (.int .i64
  3000)), none, 0⟩] 0 false []) (.cond (.t 14) (.seq (.region [⟨some 15, .call (.c (.fn 7 [])) [], none, 0⟩, ⟨some 2, .mv (.t 15), none, 0⟩] 0 false []) .ret) .skip)) (.seq (.region [⟨some 17, .mv (.t
  0), none, 0⟩, ⟨some 18, .call (.c (.fn 9 [])) [.t 17], none, 0⟩, ⟨some 16, .mv (.t 18), none, 0⟩, ⟨some 19, .ext (.t 16) 0, none, 0⟩, ⟨some 20, .ext (.t 16) 1, none, 0⟩, ⟨some 21, .ext (.t 16) 2, none,
  0⟩, ⟨some 3, .mv (.t 19), none, 0⟩, ⟨some 4, .mv (.t 20), none, 0⟩, ⟨some 5, .mv (.t 21), none, 0⟩] 0 false []) (.seq (.seq (.region [⟨some 22, .mv (.t 5), none, 0⟩, ⟨some 23, .not (.t 22), none, 0⟩] 0
  false []) (.cond (.t 23) (.seq (.region [⟨some 24, .mv (.t 4), none, 0⟩, ⟨some 25, .bin .eql (.t 24) (.c (.int .i64 0)), none, 0⟩, ⟨some 26, .mv (.t 25), none, 0⟩, ⟨some 27, .mv (.t 3), some (26,
  true), 0⟩, ⟨some 28, .len (.t 27), some (26, true), 0⟩, ⟨some 29, .bin .eql (.t 28) (.c (.int .i64 0)), some (26, true), 0⟩, ⟨some 30, .pick (.t 26) (.t 29) (.c (.bool false)), none, 0⟩, ⟨some 31, .mv
  (.t 30), none, 0⟩, ⟨some 32, .call (.c (.fn 7 [])) [], some (31, true), 0⟩, ⟨some 33, .pick (.t 31) (.t 32) (.c (.bool false)), none, 0⟩, ⟨some 2, .mv (.t 33), none, 0⟩] 0 false []) .ret) .skip)) (.seq
  (.seq (.region [⟨some 34, .mv (.t 4), none, 0⟩, ⟨some 35, .bin .lss (.t 34) (.c (.int .i64 3)), none, 0⟩, ⟨some 36, .mv (.t 35), none, 0⟩, ⟨some 37, .mv (.t 4), some (36, false), 0⟩, ⟨some 38, .mv (.t
  0), some (36, false), 0⟩, ⟨some 39, .len (.t 38), some (36, false), 0⟩, ⟨some 40, .bin .gtr (.t 37) (.t 39), some (36, false), 0⟩, ⟨some 41, .pick (.t 36) (.c (.bool true)) (.t 40), none, 0⟩, ⟨some 42,
  .mv (.t 41), none, 0⟩, ⟨some 43, .mv (.t 0), some (42, false), 0⟩, ⟨some 44, .mv (.t 4), some (42, false), 0⟩, ⟨some 45, .slice 1 (.t 43) none (some (.t 44)) none, some (42, false), 0⟩, ⟨some 46,
  .cvBytesStr (.t 45), some (42, false), 0⟩, ⟨some 47, .bin .add (.c (.str [13, 10])) (.t 46), some (42, false), 0⟩, ⟨some 48, .call (.c (.fn 16 [])) [.t 47, .c (.str [13, 10, 46, 13, 10])], some (42,
  false), 0⟩, ⟨some 49, .not (.t 48), some (42, false), 0⟩, ⟨some 50, .pick (.t 42) (.c (.bool true)) (.t 49), none, 0⟩, ⟨some 51, .mv (.t 50), none, 0⟩, ⟨some 52, .mv (.t 3), some (51, false), 0⟩, ⟨some
  53, .cvBytesStr (.t 52), some (51, false), 0⟩, ⟨some 54, .mv (.t 3), some (51, false), 0⟩, ⟨some 55, .call (.c (.fn 10 [])) [.t 54], some (51, false), 0⟩, ⟨some 56, .bin .neq (.t 53) (.t 55), some (51,
  false), 0⟩, ⟨some 57, .pick (.t 51) (.c (.bool true)) (.t 56), none, 0⟩] 0 true [(19, 21)]) (.cond (.t 57) (.seq (.region [⟨some 2, .mv (.c (.bool false)), none, 0⟩] 0 false []) .ret) .skip)) (.seq
  (.region [⟨some 59, .mv (.t 3), none, 0⟩, ⟨some 60, .call (.c (.fn 8 [])) [.t 59], none, 0⟩, ⟨some 61, .call (.c (.fn 9 [])) [.t 60], none, 0⟩, ⟨some 58, .mv (.t 61), none, 0⟩, ⟨some 62, .ext (.t 58)
  0, none, 0⟩, ⟨some 63, .ext (.t 58) 1, none, 0⟩, ⟨some 64, .ext (.t 58) 2, none, 0⟩, ⟨some 6, .mv (.t 62), none, 0⟩, ⟨some 7, .mv (.t 63), none, 0⟩, ⟨some 8, .mv (.t 64), none, 0⟩] 0 false []) (.seq
  (.region [⟨some 66, .mv (.t 0), none, 0⟩, ⟨some 67, .mv (.t 4), none, 0⟩, ⟨some 68, .slice 1 (.t 66) none (some (.t 67)) none, none, 0⟩, ⟨some 69, .call (.c (.fn 9 [])) [.t 68], none, 0⟩, ⟨some 65, .mv
  (.t 69), none, 0⟩, ⟨some 70, .ext (.t 65) 0, none, 0⟩, ⟨some 71, .ext (.t 65) 1, none, 0⟩, ⟨some 72, .ext (.t 65) 2, none, 0⟩, ⟨some 9, .mv (.t 70), none, 0⟩, ⟨some 10, .mv (.t 71), none, 0⟩, ⟨some 11,
  .mv (.t 72), none, 0⟩] 0 false []) (.seq (.region [⟨some 73, .mv (.t 8), none, 0⟩, ⟨some 74, .mv (.t 73), none, 0⟩, ⟨some 75, .mv (.t 6), some (74, true), 0⟩, ⟨some 76, .cvBytesStr (.t 75), some (74,
  true), 0⟩, ⟨some 77, .mv (.t 3), some (74, true), 0⟩, ⟨some 78, .cvBytesStr (.t 77), some (74, true), 0⟩, ⟨some 79, .bin .eql (.t 76) (.t 78), some (74, true), 0⟩, ⟨some 80, .pick (.t 74) (.t 79) (.c
  (.bool false)), none, 0⟩, ⟨some 81, .mv (.t 80), none, 0⟩, ⟨some 82, .mv (.t 7), some (81, true), 0⟩, ⟨some 83, .mv (.t 4), some (81, true), 0⟩, ⟨some 84, .mv (.t 0), some (81, true), 0⟩, ⟨some 85,
  .cvBytesStr (.t 84), some (81, true), 0⟩, ⟨some 86, .call (.c (.fn 15 [])) [.t 85, .c (.str [46])], some (81, true), 0⟩, ⟨some 87, .bin .sub (.t 83) (.t 86), some (81, true), 0⟩, ⟨some 88, .bin .geq
  (.t 82) (.t 87), some (81, true), 0⟩, ⟨some 89, .pick (.t 81) (.t 88) (.c (.bool false)), none, 0⟩, ⟨some 90, .mv (.t 89), none, 0⟩, ⟨some 91, .mv (.t 10), some (90, true), 0⟩, ⟨some 92, .mv (.t 4),
  some (90, true), 0⟩, ⟨some 93, .bin .eql (.t 91) (.t 92), some (90, true), 0⟩, ⟨some 94, .pick (.t 90) (.t 93) (.c (.bool false)), none, 0⟩, ⟨some 95, .mv (.t 94), none, 0⟩, ⟨some 96, .mv (.t 11), some
  (95, true), 0⟩, ⟨some 97, .pick (.t 95) (.t 96) (.c (.bool false)), none, 0⟩, ⟨some 98, .mv (.t 97), none, 0⟩, ⟨some 99, .call (.c (.fn 7 [])) [], some (98, true), 0⟩, ⟨some 100, .pick (.t 98) (.t 99)
  (.c (.bool false)), none, 0⟩, ⟨some 2, .mv (.t 100), none, 0⟩] 0 false []) .ret)))))))
def B6 := bB6
theorem wB6 : Wp O B6 Q σ h = Wp O bB6 Q σ h := rfl
def F6 : AF := ⟨B6, [.tmp 2], false⟩
theorem tab6 : T 6 = some F6 := by kernel_rfl
/-- franking/frankinglaw13.DotsLines -/
abbrev bL4_0 : AC :=
  .seq (.region [⟨some 41, .bin .lss (.t 40) (.t 39), none, 0⟩] 0 false []) (.seq (.cond (.t 41) .skip (.exit 0)) (.seq (.block 1 (.seq (.region [⟨some 42, .idx 2 (.t 38) (.t 40), none, 0⟩, ⟨some 43,
  .load (some 2) (.t 42), none, 0⟩, ⟨some 13, .alloc [.str [], .bool false], none, 0⟩, ⟨none, .store 2 (.t 13) (.t 43), none, 1⟩] 1 false []) (.seq (.region [⟨some 45, .off 0 (.t 13), none, 0⟩, ⟨some 46,
  .load none (.t 45), none, 0⟩, ⟨some 47, .call (.c (.fn 13 [])) [.t 46], none, 0⟩, ⟨some 44, .mv (.t 47), none, 0⟩, ⟨some 48, .ext (.t 44) 0, none, 0⟩, ⟨some 49, .ext (.t 44) 1, none, 0⟩, ⟨some 14, .mv
  (.t 48), none, 0⟩, ⟨some 15, .mv (.t 49), none, 0⟩] 0 false []) (.seq (.region [⟨some 50, .mv (.t 11), none, 0⟩, ⟨some 51, .off 0 (.t 13), none, 0⟩, ⟨some 52, .load none (.t 51), none, 0⟩, ⟨some 53,
  .lenS (.t 52), none, 0⟩, ⟨some 54, .bin .add (.t 53) (.c (.int .i64 2)), none, 0⟩, ⟨some 55, .bin .add (.t 50) (.t 54), none, 0⟩, ⟨some 11, .mv (.t 55), none, 0⟩] 0 false []) (.seq (.seq (.region
  [⟨some 56, .mv (.t 15), none, 0⟩] 0 false []) (.cond (.t 56) (.seq (.region [⟨some 57, .mv (.t 9), none, 0⟩, ⟨some 58, .mv (.t 57), none, 0⟩, ⟨some 59, .mv (.t 8), some (58, true), 0⟩, ⟨some 60, .mv
  (.t 11), some (58, true), 0⟩, ⟨some 61, .bin .eql (.t 59) (.t 60), some (58, true), 0⟩, ⟨some 62, .pick (.t 58) (.t 61) (.c (.bool false)), none, 0⟩, ⟨some 63, .mv (.t 62), none, 0⟩, ⟨some 64, .mv (.t
  7), some (63, true), 0⟩, ⟨some 65, .cvBytesStr (.t 64), some (63, true), 0⟩, ⟨some 66, .mv (.t 10), some (63, true), 0⟩, ⟨some 67, .bin .eql (.t 65) (.t 66), some (63, true), 0⟩, ⟨some 68, .pick (.t
  63) (.t 67) (.c (.bool false)), none, 0⟩, ⟨some 69, .mv (.t 68), none, 0⟩, ⟨some 70, .call (.c (.fn 7 [])) [], some (69, true), 0⟩, ⟨some 71, .pick (.t 69) (.t 70) (.c (.bool false)), none, 0⟩, ⟨some
  2, .mv (.t 71), none, 0⟩] 0 false []) .ret) .skip)) (.seq (.seq (.region [⟨some 72, .mv (.t 14), none, 0⟩, ⟨some 73, .call (.c (.fn 14 [])) [.t 72], none, 0⟩, ⟨some 74, .off 0 (.t 13), none, 0⟩, ⟨some
  75, .load none (.t 74), none, 0⟩, ⟨some 76, .bin .neq (.t 73) (.t 75), none, 0⟩, ⟨some 77, .mv (.t 76), none, 0⟩, ⟨some 78, .off 0 (.t 13), some (77, true), 0⟩, ⟨some 79, .load none (.t 78), some (77,
  true), 0⟩, ⟨some 80, .mv (.t 14), some (77, true), 0⟩, ⟨some 81, .bin .add (.c (.str [46])) (.t 80), some (77, true), 0⟩, ⟨some 82, .bin .neq (.t 79) (.t 81), some (77, true), 0⟩, ⟨some 83, .pick (.t
  77) (.t 82) (.c (.bool false)), none, 0⟩] 0 true [(1, 3)]) (.cond (.t 83) (.seq (.region [⟨some 2, .mv (.c (.bool false)), none, 0⟩] 0 false []) .ret) .skip)) (.region [⟨some 84, .mv (.t 10), none, 0⟩,
  ⟨some 85, .mv (.t 14), none, 0⟩, ⟨some 86, .bin .add (.t 85) (.c (.str [13, 10])), none, 0⟩, ⟨some 87, .bin .add (.t 84) (.t 86), none, 0⟩, ⟨some 10, .mv (.t 87), none, 0⟩] 0 false []))))))) (.region
  [⟨some 88, .bin .add (.t 40) (.c (.int .i64 1)), none, 0⟩, ⟨some 40, .mv (.t 88), none, 0⟩] 0 false [])))
def L4_0 := bL4_0
theorem wL4_0 : Wp O L4_0 Q σ h = Wp O bL4_0 Q σ h := rfl
abbrev bK4_0 : AC :=
  .seq (.region [⟨some 89, .mv (.t 9), none, 0⟩, ⟨some 90, .not (.t 89), none, 0⟩, ⟨some 91, .mv (.t 90), none, 0⟩, ⟨some 92, .mv (.t 8), some (91, true), 0⟩, ⟨some 93, .bin .eql (.t 92) (.c (.int .i64
  0)), some (91, true), 0⟩, ⟨some 94, .pick (.t 91) (.t 93) (.c (.bool false)), none, 0⟩, ⟨some 95, .mv (.t 94), none, 0⟩, ⟨some 96, .mv (.t 7), some (95, true), 0⟩, ⟨some 97, .len (.t 96), some (95,
  true), 0⟩, ⟨some 98, .bin .eql (.t 97) (.c (.int .i64 0)), some (95, true), 0⟩, ⟨some 99, .pick (.t 95) (.t 98) (.c (.bool false)), none, 0⟩, ⟨some 100, .mv (.t 99), none, 0⟩, ⟨some 101, .call (.c (.fn
  7 [])) [], some (100, true), 0⟩, ⟨some 102, .pick (.t 100) (.t 101) (.c (.bool false)), none, 0⟩, ⟨some 2, .mv (.t 102), none, 0⟩] 0 false []) .ret
def K4_0 := bK4_0
theorem wK4_0 : Wp O K4_0 Q σ h = Wp O bK4_0 Q σ h := rfl
abbrev bB4 : AC :=
  .seq (.region [⟨some 2, .mv (.c (.bool false)), none, 0⟩] 0 false []) (.seq (.seq (.region [⟨some 16, .mv (.t 0), none, 0⟩, ⟨some 17, .len (.t 16), none, 0⟩, ⟨some 18, .bin .gtr (.t 17) (.c (.int .i64
  1500)), none, 0⟩] 0 false []) (.cond (.t 18) (.seq (.region [⟨some 19, .call (.c (.fn 7 [])) [], none, 0⟩, ⟨some 2, .mv (.t 19), none, 0⟩] 0 false []) .ret) .skip)) (.seq (.region [⟨some 21, .call (.c
  (.fn 11 [])) [.c (.int .i64 2000)], none, 0⟩, ⟨some 20, .mv (.t 21), none, 0⟩, ⟨some 22, .ext (.t 20) 0, none, 0⟩, ⟨some 23, .ext (.t 20) 1, none, 0⟩, ⟨some 3, .alloc [.int .i64 0, .str [], .bool
  false, .bool false], none, 0⟩, ⟨none, .store 4 (.t 3) (.t 22), none, 1⟩, ⟨some 4, .mv (.t 23), none, 1⟩] 1 false []) (.seq (.region [⟨some 25, .load (some 4) (.t 3), none, 0⟩, ⟨some 26, .mv (.t 0),
  none, 0⟩, ⟨some 27, .call (.c (.fn 12 [])) [.t 25, .t 26], none, 0⟩, ⟨some 24, .mv (.t 27), none, 0⟩, ⟨some 28, .ext (.t 24) 0, none, 0⟩, ⟨some 29, .ext (.t 24) 1, none, 0⟩, ⟨some 5, .alloc [.int .i64
  0, .str [], .bool false, .bool false], none, 0⟩, ⟨none, .store 4 (.t 5) (.t 28), none, 1⟩, ⟨some 6, .mv (.t 29), none, 1⟩] 1 false []) (.seq (.region [⟨some 31, .mv (.t 0), none, 0⟩, ⟨some 32, .call
  (.c (.fn 9 [])) [.t 31], none, 0⟩, ⟨some 30, .mv (.t 32), none, 0⟩, ⟨some 33, .ext (.t 30) 0, none, 0⟩, ⟨some 34, .ext (.t 30) 1, none, 0⟩, ⟨some 35, .ext (.t 30) 2, none, 0⟩, ⟨some 7, .mv (.t 33),
  none, 0⟩, ⟨some 8, .mv (.t 34), none, 0⟩, ⟨some 9, .mv (.t 35), none, 0⟩] 0 false []) (.seq (.seq (.region [⟨some 36, .mv (.t 4), none, 0⟩, ⟨some 37, .bin .neq (.t 36) (.c (.int .i64 0)), none, 0⟩] 0
  false []) (.cond (.t 37) (.seq (.region [⟨some 2, .mv (.c (.bool false)), none, 0⟩] 0 false []) .ret) .skip)) (.seq (.region [⟨some 10, .mv (.c (.str [])), none, 0⟩, ⟨some 11, .mv (.c (.int .i64 0)),
  none, 0⟩] 0 false []) (.seq (.seq (.region [⟨some 38, .mv (.t 6), none, 0⟩, ⟨some 39, .len (.t 38), none, 0⟩, ⟨some 40, .mv (.c (.int .i64 0)), none, 0⟩] 0 false []) (.block 0 (.loop L4_0)))
  K4_0)))))))
def B4 := bB4
theorem wB4 : Wp O B4 Q σ h = Wp O bB4 Q σ h := rfl
def F4 : AF := ⟨B4, [.tmp 2], false⟩
theorem tab4 : T 4 = some F4 := by kernel_rfl
/-- franking/frame.New -/
abbrev bB11 : AC :=
  .seq (.region [⟨some 2, .alloc [.int .i64 0, .str [], .bool false, .bool false], none, 0⟩, ⟨some 3, .mv (.c (.int .i64 0)), none, 1⟩] 1 false []) (.seq (.seq (.region [⟨some 4, .mv (.t 0), none, 0⟩,
  ⟨some 5, .bin .lss (.t 4) (.c (.int .i64 1)), none, 0⟩, ⟨some 6, .mv (.t 5), none, 0⟩, ⟨some 7, .mv (.t 0), some (6, false), 0⟩, ⟨some 8, .bin .gtr (.t 7) (.c (.int .i64 2000)), some (6, false), 0⟩,
  ⟨some 9, .pick (.t 6) (.c (.bool true)) (.t 8), none, 0⟩] 0 false []) (.cond (.t 9) (.seq (.region [⟨some 10, .build [.int .i64 0, .str [], .bool false, .bool false] [], none, 0⟩, ⟨none, .store 4 (.t
  2) (.t 10), none, 0⟩, ⟨some 3, .mv (.c (.int .i64 2)), none, 0⟩] 0 false []) .ret) .skip)) (.seq (.region [⟨some 11, .mv (.t 0), none, 0⟩, ⟨some 12, .build [.int .i64 0, .str [], .bool false, .bool
  false] [(0, 1, .t 11)], none, 0⟩, ⟨none, .store 4 (.t 2) (.t 12), none, 0⟩, ⟨some 3, .mv (.c (.int .i64 0)), none, 0⟩] 0 false []) .ret))
def B11 := bB11
theorem wB11 : Wp O B11 Q σ h = Wp O bB11 Q σ h := rfl
def F11 : AF := ⟨B11, [.cell 2 (some 4), .tmp 3], false⟩
theorem tab11 : T 11 = some F11 := by kernel_rfl
/-- franking/frame.Push -/
abbrev bL12_0 : AC :=
  .seq (.region [⟨some 24, .bin .lss (.t 23) (.t 22), none, 0⟩] 0 false []) (.seq (.cond (.t 24) .skip (.exit 0)) (.seq (.block 1 (.seq (.region [⟨some 25, .idx 1 (.t 21) (.t 23), none, 0⟩, ⟨some 26,
  .load none (.t 25), none, 0⟩, ⟨some 12, .mv (.t 26), none, 0⟩] 0 false []) (.seq (.seq (.region [⟨some 27, .mv (.t 9), none, 0⟩] 0 false []) (.cond (.t 27) (.seq (.region [⟨some 28, .mv (.t 12), none,
  0⟩, ⟨some 29, .bin .eql (.t 28) (.c (.int .u8 13)), none, 0⟩, ⟨some 9, .mv (.t 29), none, 0⟩] 0 false []) (.seq (.seq (.region [⟨some 30, .mv (.t 12), none, 0⟩, ⟨some 31, .bin .eql (.t 30) (.c (.int
  .u8 10)), none, 0⟩] 0 false []) (.cond (.t 31) (.seq (.region [⟨some 32, .mv (.t 6), none, 0⟩, ⟨some 33, .load none (.t 7), none, 0⟩, ⟨some 34, .cvBytesStr (.t 33), none, 0⟩, ⟨some 35, .load none (.t
  8), none, 0⟩, ⟨some 36, .build [.str [], .bool false] [(0, 1, .t 34), (1, 1, .t 35)], none, 0⟩, ⟨some 37, .bslice 2 [.t 36], none, 0⟩, ⟨some 38, .append 2 24 38 (.t 32) (.t 37), none, 0⟩, ⟨some 6, .mv
  (.t 38), none, 1⟩] 1 false []) (.seq (.region [⟨some 39, .load none (.t 7), none, 0⟩, ⟨some 40, .slice 1 (.t 39) none (some (.c (.int .i64 0))) none, none, 0⟩, ⟨none, .store 1 (.t 7) (.t 40), none, 0⟩,
  ⟨none, .store 1 (.t 8) (.c (.bool false)), none, 0⟩] 0 false []) (.exit 1))) .skip)) (.seq (.region [⟨some 41, .mv (.t 10), none, 0⟩, ⟨some 42, .call (.t 41) [.c (.int .u8 13)], none, 0⟩] 0 false [])
  (.seq (.region [⟨some 43, .mv (.t 9), none, 0⟩] 0 false []) (.cond (.t 43) (.exit 1) .skip))))) (.seq (.region [⟨some 44, .mv (.t 12), none, 0⟩, ⟨some 45, .bin .eql (.t 44) (.c (.int .u8 13)), none,
  0⟩] 0 false []) (.cond (.t 45) (.seq (.region [⟨some 9, .mv (.c (.bool true)), none, 0⟩] 0 false []) (.exit 1)) .skip)))) (.region [⟨some 46, .mv (.t 10), none, 0⟩, ⟨some 47, .mv (.t 12), none, 0⟩,
  ⟨some 48, .call (.t 46) [.t 47], none, 0⟩] 0 false [])))) (.region [⟨some 49, .bin .add (.t 23) (.c (.int .i64 1)), none, 0⟩, ⟨some 23, .mv (.t 49), none, 0⟩] 0 false [])))
def L12_0 := bL12_0
theorem wL12_0 : Wp O L12_0 Q σ h = Wp O bL12_0 Q σ h := rfl
abbrev bK12_0 : AC :=
  .seq (.region [⟨some 50, .off 0 (.t 2), none, 0⟩, ⟨some 51, .load none (.t 50), none, 0⟩, ⟨some 52, .load none (.t 7), none, 0⟩, ⟨some 53, .cvBytesStr (.t 52), none, 0⟩, ⟨some 54, .load none (.t 8),
  none, 0⟩, ⟨some 55, .mv (.t 9), none, 0⟩, ⟨some 56, .build [.int .i64 0, .str [], .bool false, .bool false] [(0, 1, .t 51), (1, 1, .t 53), (2, 1, .t 54), (3, 1, .t 55)], none, 0⟩, ⟨some 57, .mv (.t 6),
  none, 0⟩, ⟨none, .store 4 (.t 4) (.t 56), none, 0⟩, ⟨some 5, .mv (.t 57), none, 0⟩] 0 false []) .ret
def K12_0 := bK12_0
theorem wK12_0 : Wp O K12_0 Q σ h = Wp O bK12_0 Q σ h := rfl
abbrev bB12 : AC :=
  .seq (.region [⟨some 2, .box 4 (.t 0), none, 0⟩, ⟨some 4, .alloc [.int .i64 0, .str [], .bool false, .bool false], none, 1⟩, ⟨some 5, .mv (.c (.list 2 [] .full)), none, 2⟩] 2 false []) (.scope (.seq
  (.region [⟨some 6, .mv (.c (.list 2 [] .full)), none, 0⟩] 0 false []) (.seq (.region [⟨some 13, .off 1 (.t 2), none, 0⟩, ⟨some 14, .load none (.t 13), none, 0⟩, ⟨some 15, .cvStrBytesM (.t 14), none,
  0⟩, ⟨some 16, .off 2 (.t 2), none, 1⟩, ⟨some 17, .load none (.t 16), none, 1⟩, ⟨some 18, .off 3 (.t 2), none, 1⟩, ⟨some 19, .load none (.t 18), none, 1⟩, ⟨some 7, .alloc [.list 1 [] .full], none, 1⟩,
  ⟨some 8, .alloc [.bool false], none, 2⟩, ⟨none, .store 1 (.t 7) (.t 15), none, 3⟩, ⟨none, .store 1 (.t 8) (.t 17), none, 3⟩, ⟨some 9, .mv (.t 19), none, 3⟩] 3 true [(2, 4), (2, 6), (1, 7), (2, 7), (4,
  7), (6, 7), (1, 8), (2, 8), (4, 8), (6, 8), (7, 8), (4, 9), (6, 9), (6, 10)]) (.seq (.region [⟨some 20, .mkfn 18 [.t 7, .t 2, .t 8], none, 0⟩, ⟨some 10, .mv (.t 20), none, 0⟩] 0 false []) (.seq (.label
  0) (.seq (.seq (.region [⟨some 21, .mv (.t 1), none, 0⟩, ⟨some 22, .len (.t 21), none, 0⟩, ⟨some 23, .mv (.c (.int .i64 0)), none, 0⟩] 0 false []) (.block 0 (.loop L12_0))) K12_0))))))
def B12 := bB12
theorem wB12 : Wp O B12 Q σ h = Wp O bB12 Q σ h := rfl
def F12 : AF := ⟨B12, [.cell 4 (some 4), .tmp 5], false⟩
theorem tab12 : T 12 = some F12 := by kernel_rfl
/-- franking/frame.Push$1 -/
abbrev bB18 : AC :=
  .seq (.seq (.region [⟨some 5, .load none (.t 1), none, 0⟩, ⟨some 6, .len (.t 5), none, 0⟩, ⟨some 7, .off 0 (.t 2), none, 0⟩, ⟨some 8, .load none (.t 7), none, 0⟩, ⟨some 9, .bin .lss (.t 6) (.t 8),
  none, 0⟩] 0 false []) (.cond (.t 9) (.seq (.region [⟨some 10, .load none (.t 1), none, 0⟩, ⟨some 11, .mv (.t 0), none, 0⟩, ⟨some 12, .bslice 1 [.t 11], none, 0⟩, ⟨some 13, .append 1 1 5 (.t 10) (.t
  12), none, 0⟩, ⟨none, .store 1 (.t 1) (.t 13), none, 1⟩] 1 false []) .ret) .skip)) (.region [⟨none, .store 1 (.t 3) (.c (.bool true)), none, 0⟩] 0 false [])
def B18 := bB18
theorem wB18 : Wp O B18 Q σ h = Wp O bB18 Q σ h := rfl
def F18 : AF := ⟨B18, [], true⟩
theorem tab18 : T 18 = some F18 := by kernel_rfl
theorem mixed : Try.prog.follows .mixedOrders = true := by kernel_rfl
end Go.Proofs.Ytbhdfmkcoolghaa
