/-
  The abstract code of the functions that the laws reach.
-/
import Derived.Test.YtjdpneceeinhhaaDoorProg
import Derived.Test.YtjdpneceeinhhaaDoorAmC
import Derived.KernelRfl
set_option linter.unusedVariables false
set_option maxRecDepth 100000
namespace Go.Proofs.YtjdpneceeinhhaaDoor
open Go Go.Am
noncomputable def T : FuncId → Option AF := table Tryd.prog ["law.go:59", "outright.go:77", "-slices.Clone[[]string,string]"] []
variable {O : Orc} {Q : Ex → Slots → Heap → Prop} {σ : Slots} {h : Heap}
/-- franking/reply.Kind -/
abbrev bB13 : AC :=
  .seq (.region [⟨some 2, .mv (.c (.int .u8 0)), none, 0⟩] 0 false []) (.seq (.seq (.region [⟨some 3, .mv (.t 0), none, 0⟩, ⟨some 4, .bin .lss (.t 3) (.c (.int .i64 200)), none, 0⟩, ⟨some 5, .mv (.t 4),
  none, 0⟩, ⟨some 6, .mv (.t 0), some (5, false), 0⟩, ⟨some 7, .bin .gtr (.t 6) (.c (.int .i64 599)), some (5, false), 0⟩, ⟨some 8, .pick (.t 5) (.c (.bool true)) (.t 7), none, 0⟩] 0 false []) (.cond (.t
  8) (.seq (.region [⟨some 2, .mv (.c (.int .u8 0)), none, 0⟩] 0 false []) .ret) .skip)) (.seq (.region [⟨some 9, .mv (.t 0), none, 0⟩, ⟨some 10, .bin .quo (.t 9) (.c (.int .i64 100)), none, 0⟩, ⟨some
  11, .cvInt .u8 (.t 10), none, 0⟩, ⟨some 2, .mv (.t 11), none, 0⟩] 0 false []) .ret))
def B13 := bB13
theorem wB13 : Wp O B13 Q σ h = Wp O bB13 Q σ h := rfl
def F13 : AF := ⟨B13, [.tmp 2], false⟩
theorem tab13 : T 13 = some F13 := by kernel_rfl
/-- franking/reply.said$1 -/
abbrev bB39 : AC :=
  .seq (.region [⟨some 2, .mv (.c (.bool false)), none, 0⟩] 0 false []) (.seq (.region [⟨some 3, .mv (.t 0), none, 0⟩, ⟨some 4, .bin .lss (.t 3) (.c (.int .i32 32)), none, 0⟩, ⟨some 5, .mv (.t 4), none,
  0⟩, ⟨some 6, .mv (.t 0), some (5, false), 0⟩, ⟨some 7, .bin .gtr (.t 6) (.c (.int .i32 126)), some (5, false), 0⟩, ⟨some 8, .pick (.t 5) (.c (.bool true)) (.t 7), none, 0⟩, ⟨some 9, .mv (.t 8), none,
  0⟩, ⟨some 10, .mv (.t 0), some (9, true), 0⟩, ⟨some 11, .bin .neq (.t 10) (.c (.int .i32 9)), some (9, true), 0⟩, ⟨some 12, .pick (.t 9) (.t 11) (.c (.bool false)), none, 0⟩, ⟨some 2, .mv (.t 12),
  none, 0⟩] 0 false []) .ret)
def B39 := bB39
theorem wB39 : Wp O B39 Q σ h = Wp O bB39 Q σ h := rfl
def F39 : AF := ⟨B39, [.tmp 2], false⟩
theorem tab39 : T 39 = some F39 := by kernel_rfl
/-- strings.indexFunc -/
abbrev bL47_0 : AC :=
  .seq (.region [⟨some 11, .next (.t 10), none, 0⟩, ⟨some 12, .ext (.t 11) 0, none, 0⟩] 0 false []) (.seq (.cond (.t 12) .skip (.exit 0)) (.block 1 (.seq (.region [⟨some 13, .ext (.t 11) 1, none, 0⟩,
  ⟨some 14, .ext (.t 11) 2, none, 0⟩, ⟨some 7, .mv (.t 13), none, 0⟩, ⟨some 8, .mv (.t 14), none, 0⟩] 0 false []) (.seq (.region [⟨some 15, .mv (.t 1), none, 0⟩, ⟨some 16, .mv (.t 8), none, 0⟩, ⟨some 17,
  .call (.t 15) [.t 16], none, 0⟩, ⟨some 18, .mv (.t 2), none, 0⟩, ⟨some 19, .eq false none [(0, LK.bool)] (.t 17) (.t 18), none, 0⟩] 0 false []) (.cond (.t 19) (.seq (.region [⟨some 20, .mv (.t 7),
  none, 0⟩, ⟨some 6, .mv (.t 20), none, 0⟩] 0 false []) .ret) .skip)))))
def L47_0 := bL47_0
theorem wL47_0 : Wp O L47_0 Q σ h = Wp O bL47_0 Q σ h := rfl
abbrev bK47_0 : AC :=
  .seq (.region [⟨some 6, .mv (.c (.int .i64 (-1))), none, 0⟩] 0 false []) .ret
def K47_0 := bK47_0
theorem wK47_0 : Wp O K47_0 Q σ h = Wp O bK47_0 Q σ h := rfl
abbrev bB47 : AC :=
  .seq (.region [⟨some 6, .mv (.c (.int .i64 0)), none, 0⟩] 0 false []) (.seq (.seq (.region [⟨some 9, .mv (.t 0), none, 0⟩, ⟨some 10, .rangeS (.t 9), none, 0⟩] 1 false []) (.block 0 (.loop L47_0)))
  K47_0)
def B47 := bB47
theorem wB47 : Wp O B47 Q σ h = Wp O bB47 Q σ h := rfl
def F47 : AF := ⟨B47, [.tmp 6], false⟩
theorem tab47 : T 47 = some F47 := by kernel_rfl
/-- strings.IndexFunc -/
abbrev bB38 : AC :=
  .seq (.region [⟨some 4, .mv (.c (.int .i64 0)), none, 0⟩] 0 false []) (.seq (.region [⟨some 5, .mv (.t 0), none, 0⟩, ⟨some 6, .mv (.t 1), none, 0⟩, ⟨some 7, .call (.c (.fn 47 [])) [.t 5, .t 6, .c
  (.bool true)], none, 0⟩, ⟨some 4, .mv (.t 7), none, 0⟩] 0 false []) .ret)
def B38 := bB38
theorem wB38 : Wp O B38 Q σ h = Wp O bB38 Q σ h := rfl
def F38 : AF := ⟨B38, [.tmp 4], false⟩
theorem tab38 : T 38 = some F38 := by kernel_rfl
/-- franking/reply.said -/
abbrev bB25 : AC :=
  .seq (.region [⟨some 2, .mv (.c (.bool false)), none, 0⟩] 0 false []) (.seq (.region [⟨some 3, .mv (.t 0), none, 0⟩, ⟨some 4, .lenS (.t 3), none, 0⟩, ⟨some 5, .bin .leq (.t 4) (.c (.int .i64 500)),
  none, 0⟩, ⟨some 6, .mv (.t 5), none, 0⟩, ⟨some 7, .mv (.t 0), some (6, true), 0⟩, ⟨some 8, .call (.c (.fn 38 [])) [.t 7, .c (.fn 39 [])], some (6, true), 0⟩, ⟨some 9, .bin .lss (.t 8) (.c (.int .i64
  0)), some (6, true), 0⟩, ⟨some 10, .pick (.t 6) (.t 9) (.c (.bool false)), none, 0⟩, ⟨some 2, .mv (.t 10), none, 0⟩] 0 false []) .ret)
def B25 := bB25
theorem wB25 : Wp O B25 Q σ h = Wp O bB25 Q σ h := rfl
def F25 : AF := ⟨B25, [.tmp 2], false⟩
theorem tab25 : T 25 = some F25 := by kernel_rfl
/-- franking/reply.cut -/
abbrev bB26 : AC :=
  .seq (.region [⟨some 2, .mv (.c (.int .i64 0)), none, 0⟩, ⟨some 3, .mv (.c (.int .u8 0)), none, 0⟩, ⟨some 4, .mv (.c (.str [])), none, 0⟩, ⟨some 5, .mv (.c (.bool false)), none, 0⟩] 0 false []) (.seq
  (.seq (.region [⟨some 8, .mv (.t 0), none, 0⟩, ⟨some 9, .lenS (.t 8), none, 0⟩, ⟨some 10, .bin .lss (.t 9) (.c (.int .i64 4)), none, 0⟩] 0 false []) (.cond (.t 10) (.seq (.region [⟨some 2, .mv (.c
  (.int .i64 0)), none, 0⟩, ⟨some 3, .mv (.c (.int .u8 0)), none, 0⟩, ⟨some 4, .mv (.c (.str [])), none, 0⟩, ⟨some 5, .mv (.c (.bool false)), none, 0⟩] 0 false []) .ret) .skip)) (.seq (.region [⟨some 12,
  .mv (.t 0), none, 0⟩, ⟨some 13, .sliceS (.t 12) none (some (.c (.int .i64 3))), none, 0⟩, ⟨some 14, .call (.c (.fn 40 [])) [.t 13, .c (.int .i64 10), .c (.int .i64 16)], none, 0⟩, ⟨some 11, .mv (.t
  14), none, 0⟩, ⟨some 15, .ext (.t 11) 0, none, 0⟩, ⟨some 16, .ext (.t 11) 1, none, 0⟩, ⟨some 6, .mv (.t 15), none, 0⟩, ⟨some 7, .mv (.t 16), none, 0⟩] 0 false []) (.seq (.region [⟨some 17, .mv (.t 6),
  none, 0⟩, ⟨some 18, .cvInt .i64 (.t 17), none, 0⟩, ⟨some 19, .mv (.t 0), none, 0⟩, ⟨some 20, .indexS (.t 19) (.c (.int .i64 3)), none, 0⟩, ⟨some 21, .mv (.t 0), none, 0⟩, ⟨some 22, .sliceS (.t 21)
  (some (.c (.int .i64 4))) none, none, 0⟩, ⟨some 23, .mv (.t 7), none, 0⟩, ⟨some 24, .eq false none [(0, LK.iface)] (.t 23) (.c (.nili)), none, 0⟩, ⟨some 25, .mv (.t 24), none, 0⟩, ⟨some 26, .mv (.t 6),
  some (25, true), 0⟩, ⟨some 27, .cvInt .i64 (.t 26), some (25, true), 0⟩, ⟨some 28, .call (.c (.fn 13 [])) [.t 27], some (25, true), 0⟩, ⟨some 29, .bin .gtr (.t 28) (.c (.int .u8 0)), some (25, true),
  0⟩, ⟨some 30, .pick (.t 25) (.t 29) (.c (.bool false)), none, 0⟩, ⟨some 31, .mv (.t 30), none, 0⟩, ⟨some 32, .mv (.t 0), some (31, true), 0⟩, ⟨some 33, .sliceS (.t 32) (some (.c (.int .i64 4))) none,
  some (31, true), 0⟩, ⟨some 34, .call (.c (.fn 25 [])) [.t 33], some (31, true), 0⟩, ⟨some 35, .pick (.t 31) (.t 34) (.c (.bool false)), none, 0⟩, ⟨some 2, .mv (.t 18), none, 0⟩, ⟨some 3, .mv (.t 20),
  none, 0⟩, ⟨some 4, .mv (.t 22), none, 0⟩, ⟨some 5, .mv (.t 35), none, 0⟩] 0 true []) .ret)))
def B26 := bB26
theorem wB26 : Wp O B26 Q σ h = Wp O bB26 Q σ h := rfl
def F26 : AF := ⟨B26, [.tmp 2, .tmp 3, .tmp 4, .tmp 5], false⟩
theorem tab26 : T 26 = some F26 := by kernel_rfl
/-- franking/reply.Parse -/
abbrev bL11_0 : AC :=
  .seq (.region [⟨some 15, .bin .lss (.t 14) (.t 13), none, 0⟩] 0 false []) (.seq (.cond (.t 15) .skip (.exit 0)) (.seq (.block 1 (.seq (.region [⟨some 16, .mv (.t 14), none, 0⟩, ⟨some 17, .idx 1 (.t 12)
  (.t 14), none, 0⟩, ⟨some 18, .load none (.t 17), none, 0⟩, ⟨some 6, .mv (.t 16), none, 0⟩, ⟨some 7, .mv (.t 18), none, 0⟩] 0 false []) (.seq (.region [⟨some 20, .mv (.t 7), none, 0⟩, ⟨some 21, .call
  (.c (.fn 26 [])) [.t 20], none, 0⟩, ⟨some 19, .mv (.t 21), none, 0⟩, ⟨some 22, .ext (.t 19) 0, none, 0⟩, ⟨some 23, .ext (.t 19) 1, none, 0⟩, ⟨some 24, .ext (.t 19) 2, none, 0⟩, ⟨some 25, .ext (.t 19)
  3, none, 0⟩, ⟨some 8, .mv (.t 22), none, 0⟩, ⟨some 9, .mv (.t 23), none, 0⟩, ⟨some 10, .mv (.t 24), none, 0⟩, ⟨some 11, .mv (.t 25), none, 0⟩] 0 false []) (.seq (.seq (.region [⟨some 26, .mv (.t 11),
  none, 0⟩, ⟨some 27, .not (.t 26), none, 0⟩, ⟨some 28, .mv (.t 27), none, 0⟩, ⟨some 29, .mv (.t 6), some (28, false), 0⟩, ⟨some 30, .bin .gtr (.t 29) (.c (.int .i64 0)), some (28, false), 0⟩, ⟨some 31,
  .mv (.t 30), some (28, false), 0⟩, ⟨some 32, .mv (.t 8), some (31, true), 0⟩, ⟨some 33, .off 0 (.t 5), some (31, true), 0⟩, ⟨some 34, .load none (.t 33), some (31, true), 0⟩, ⟨some 35, .bin .neq (.t
  32) (.t 34), some (31, true), 0⟩, ⟨some 36, .pick (.t 31) (.t 35) (.c (.bool false)), some (28, false), 0⟩, ⟨some 37, .pick (.t 28) (.c (.bool true)) (.t 36), none, 0⟩, ⟨some 38, .mv (.t 37), none, 0⟩,
  ⟨some 39, .mv (.t 6), some (38, false), 0⟩, ⟨some 40, .bin .eql (.t 39) (.c (.int .i64 100)), some (38, false), 0⟩, ⟨some 41, .pick (.t 38) (.c (.bool true)) (.t 40), none, 0⟩] 0 false []) (.cond (.t
  41) (.seq (.region [⟨some 42, .build [.int .i64 0, .list 1 [] .full] [], none, 0⟩, ⟨none, .store 2 (.t 2) (.t 42), none, 0⟩, ⟨some 3, .mv (.c (.int .i64 0)), none, 0⟩, ⟨some 4, .mv (.c (.int .i64
  180)), none, 0⟩] 0 false []) .ret) .skip)) (.seq (.region [⟨some 43, .mv (.t 8), none, 0⟩, ⟨some 44, .off 0 (.t 5), none, 0⟩, ⟨none, .store 1 (.t 44) (.t 43), none, 0⟩] 0 false []) (.seq (.region
  [⟨some 45, .off 1 (.t 5), none, 0⟩, ⟨some 46, .load none (.t 45), none, 0⟩, ⟨some 47, .mv (.t 10), none, 0⟩, ⟨some 48, .bslice 1 [.t 47], none, 0⟩, ⟨some 49, .append 1 16 9 (.t 46) (.t 48), none, 0⟩,
  ⟨some 50, .off 1 (.t 5), none, 1⟩, ⟨none, .store 1 (.t 50) (.t 49), none, 1⟩] 1 false []) (.seq (.region [⟨some 51, .mv (.t 9), none, 0⟩] 0 false []) (.block 2 (.seq (.region [⟨some 54, .bin .eql (.t
  51) (.c (.int .u8 32)), none, 0⟩, ⟨some 53, .mv (.t 54), none, 0⟩] 0 false []) (.cond (.t 53) (.seq (.region [⟨some 55, .load (some 2) (.t 5), none, 0⟩, ⟨some 56, .mv (.t 6), none, 0⟩, ⟨some 57, .bin
  .add (.t 56) (.c (.int .i64 1)), none, 0⟩, ⟨none, .store 2 (.t 2) (.t 55), none, 0⟩, ⟨some 3, .mv (.t 57), none, 0⟩, ⟨some 4, .mv (.c (.int .i64 0)), none, 0⟩] 0 false []) .ret) (.seq (.region [⟨some
  59, .bin .eql (.t 51) (.c (.int .u8 45)), none, 0⟩, ⟨some 58, .mv (.t 59), none, 0⟩] 0 false []) (.cond (.t 58) .skip (.seq (.region [⟨some 52, .build [.int .i64 0, .list 1 [] .full] [], none, 0⟩,
  ⟨none, .store 2 (.t 2) (.t 52), none, 0⟩, ⟨some 3, .mv (.c (.int .i64 0)), none, 0⟩, ⟨some 4, .mv (.c (.int .i64 180)), none, 0⟩] 0 false []) .ret))))))))))))) (.region [⟨some 60, .bin .add (.t 14) (.c
  (.int .i64 1)), none, 0⟩, ⟨some 14, .mv (.t 60), none, 0⟩] 0 false [])))
def L11_0 := bL11_0
theorem wL11_0 : Wp O L11_0 Q σ h = Wp O bL11_0 Q σ h := rfl
abbrev bK11_0 : AC :=
  .seq (.region [⟨some 61, .build [.int .i64 0, .list 1 [] .full] [], none, 0⟩, ⟨none, .store 2 (.t 2) (.t 61), none, 0⟩, ⟨some 3, .mv (.c (.int .i64 0)), none, 0⟩, ⟨some 4, .mv (.c (.int .i64 181)),
  none, 0⟩] 0 false []) .ret
def K11_0 := bK11_0
theorem wK11_0 : Wp O K11_0 Q σ h = Wp O bK11_0 Q σ h := rfl
abbrev bB11 : AC :=
  .seq (.region [⟨some 2, .alloc [.int .i64 0, .list 1 [] .full], none, 0⟩, ⟨some 3, .mv (.c (.int .i64 0)), none, 1⟩, ⟨some 4, .mv (.c (.int .i64 0)), none, 1⟩] 1 false []) (.seq (.region [⟨some 5,
  .alloc [.int .i64 0, .list 1 [] .full], none, 0⟩] 1 false []) (.seq (.seq (.region [⟨some 12, .mv (.t 0), none, 0⟩, ⟨some 13, .len (.t 12), none, 0⟩, ⟨some 14, .mv (.c (.int .i64 0)), none, 0⟩] 0 false
  []) (.block 0 (.loop L11_0))) K11_0))
def B11 := bB11
theorem wB11 : Wp O B11 Q σ h = Wp O bB11 Q σ h := rfl
def F11 : AF := ⟨B11, [.cell 2 (some 2), .tmp 3, .tmp 4], false⟩
theorem tab11 : T 11 = some F11 := by kernel_rfl
/-- franking/reply.Right$1 -/
abbrev bB24 : AC :=
  .seq (.region [⟨some 2, .mv (.c (.bool false)), none, 0⟩] 0 false []) (.seq (.region [⟨some 3, .mv (.t 0), none, 0⟩, ⟨some 4, .call (.c (.fn 25 [])) [.t 3], none, 0⟩, ⟨some 5, .not (.t 4), none, 0⟩,
  ⟨some 2, .mv (.t 5), none, 0⟩] 0 false []) .ret)
def B24 := bB24
theorem wB24 : Wp O B24 Q σ h = Wp O bB24 Q σ h := rfl
def F24 : AF := ⟨B24, [.tmp 2], false⟩
theorem tab24 : T 24 = some F24 := by kernel_rfl
/-- slices.IndexFunc[[]string,string] -/
abbrev bL37_0 : AC :=
  .seq (.region [⟨some 9, .bin .lss (.t 8) (.t 7), none, 0⟩] 0 false []) (.seq (.cond (.t 9) .skip (.exit 0)) (.seq (.block 1 (.seq (.region [⟨some 10, .mv (.t 8), none, 0⟩, ⟨some 5, .mv (.t 10), none,
  0⟩] 0 false []) (.seq (.region [⟨some 11, .mv (.t 1), none, 0⟩, ⟨some 12, .mv (.t 0), none, 0⟩, ⟨some 13, .mv (.t 5), none, 0⟩, ⟨some 14, .idx 1 (.t 12) (.t 13), none, 0⟩, ⟨some 15, .load none (.t 14),
  none, 0⟩, ⟨some 16, .call (.t 11) [.t 15], none, 0⟩] 0 false []) (.cond (.t 16) (.seq (.region [⟨some 17, .mv (.t 5), none, 0⟩, ⟨some 4, .mv (.t 17), none, 0⟩] 0 false []) .ret) .skip)))) (.region
  [⟨some 18, .bin .add (.t 8) (.c (.int .i64 1)), none, 0⟩, ⟨some 8, .mv (.t 18), none, 0⟩] 0 false [])))
def L37_0 := bL37_0
theorem wL37_0 : Wp O L37_0 Q σ h = Wp O bL37_0 Q σ h := rfl
abbrev bK37_0 : AC :=
  .seq (.region [⟨some 4, .mv (.c (.int .i64 (-1))), none, 0⟩] 0 false []) .ret
def K37_0 := bK37_0
theorem wK37_0 : Wp O K37_0 Q σ h = Wp O bK37_0 Q σ h := rfl
abbrev bB37 : AC :=
  .seq (.region [⟨some 4, .mv (.c (.int .i64 0)), none, 0⟩] 0 false []) (.seq (.seq (.region [⟨some 6, .mv (.t 0), none, 0⟩, ⟨some 7, .len (.t 6), none, 0⟩, ⟨some 8, .mv (.c (.int .i64 0)), none, 0⟩] 0
  false []) (.block 0 (.loop L37_0))) K37_0)
def B37 := bB37
theorem wB37 : Wp O B37 Q σ h = Wp O bB37 Q σ h := rfl
def F37 : AF := ⟨B37, [.tmp 4], false⟩
theorem tab37 : T 37 = some F37 := by kernel_rfl
/-- slices.ContainsFunc[[]string,string] -/
abbrev bB23 : AC :=
  .seq (.region [⟨some 4, .mv (.c (.bool false)), none, 0⟩] 0 false []) (.seq (.region [⟨some 5, .mv (.t 0), none, 0⟩, ⟨some 6, .mv (.t 1), none, 0⟩, ⟨some 7, .call (.c (.fn 37 [])) [.t 5, .t 6], none,
  0⟩, ⟨some 8, .bin .geq (.t 7) (.c (.int .i64 0)), none, 0⟩, ⟨some 4, .mv (.t 8), none, 0⟩] 0 false []) .ret)
def B23 := bB23
theorem wB23 : Wp O B23 Q σ h = Wp O bB23 Q σ h := rfl
def F23 : AF := ⟨B23, [.tmp 4], false⟩
theorem tab23 : T 23 = some F23 := by kernel_rfl
/-- franking/reply.Right -/
abbrev bB10 : AC :=
  .seq (.region [⟨some 1, .box 2 (.t 0), none, 0⟩, ⟨some 2, .mv (.c (.bool false)), none, 1⟩] 1 false []) (.seq (.region [⟨some 3, .off 0 (.t 1), none, 0⟩, ⟨some 4, .load none (.t 3), none, 0⟩, ⟨some 5,
  .call (.c (.fn 13 [])) [.t 4], none, 0⟩, ⟨some 6, .bin .gtr (.t 5) (.c (.int .u8 0)), none, 0⟩, ⟨some 7, .mv (.t 6), none, 0⟩, ⟨some 8, .off 1 (.t 1), some (7, true), 0⟩, ⟨some 9, .load none (.t 8),
  some (7, true), 0⟩, ⟨some 10, .len (.t 9), some (7, true), 0⟩, ⟨some 11, .bin .gtr (.t 10) (.c (.int .i64 0)), some (7, true), 0⟩, ⟨some 12, .pick (.t 7) (.t 11) (.c (.bool false)), none, 0⟩, ⟨some 13,
  .mv (.t 12), none, 0⟩, ⟨some 14, .off 1 (.t 1), some (13, true), 0⟩, ⟨some 15, .load none (.t 14), some (13, true), 0⟩, ⟨some 16, .len (.t 15), some (13, true), 0⟩, ⟨some 17, .bin .leq (.t 16) (.c
  (.int .i64 100)), some (13, true), 0⟩, ⟨some 18, .pick (.t 13) (.t 17) (.c (.bool false)), none, 0⟩, ⟨some 19, .mv (.t 18), none, 0⟩, ⟨some 20, .off 1 (.t 1), some (19, true), 0⟩, ⟨some 21, .load none
  (.t 20), some (19, true), 0⟩, ⟨some 22, .call (.c (.fn 23 [])) [.t 21, .c (.fn 24 [])], some (19, true), 0⟩, ⟨some 23, .not (.t 22), some (19, true), 0⟩, ⟨some 24, .pick (.t 19) (.t 23) (.c (.bool
  false)), none, 0⟩, ⟨some 2, .mv (.t 24), none, 0⟩] 0 false []) .ret)
def B10 := bB10
theorem wB10 : Wp O B10 Q σ h = Wp O bB10 Q σ h := rfl
def F10 : AF := ⟨B10, [.tmp 2], false⟩
theorem tab10 : T 10 = some F10 := by kernel_rfl
/-- franking/reply.Print -/
abbrev bL9_0 : AC :=
  .seq (.region [⟨some 15, .bin .lss (.t 14) (.t 13), none, 0⟩] 0 false []) (.seq (.cond (.t 15) .skip (.exit 0)) (.seq (.block 1 (.seq (.region [⟨some 16, .mv (.t 14), none, 0⟩, ⟨some 17, .idx 1 (.t 12)
  (.t 14), none, 0⟩, ⟨some 18, .load none (.t 17), none, 0⟩, ⟨some 5, .mv (.t 16), none, 0⟩, ⟨some 6, .mv (.t 18), none, 0⟩] 0 false []) (.seq (.region [⟨some 7, .mv (.c (.str [45])), none, 0⟩] 0 false
  []) (.seq (.seq (.region [⟨some 19, .mv (.t 5), none, 0⟩, ⟨some 20, .off 1 (.t 1), none, 0⟩, ⟨some 21, .load none (.t 20), none, 0⟩, ⟨some 22, .len (.t 21), none, 0⟩, ⟨some 23, .bin .sub (.t 22) (.c
  (.int .i64 1)), none, 0⟩, ⟨some 24, .bin .eql (.t 19) (.t 23), none, 0⟩] 0 false []) (.cond (.t 24) (.region [⟨some 7, .mv (.c (.str [32])), none, 0⟩] 0 false []) .skip)) (.region [⟨some 25, .mv (.t
  4), none, 0⟩, ⟨some 26, .off 0 (.t 1), none, 0⟩, ⟨some 27, .load none (.t 26), none, 0⟩, ⟨some 28, .call (.c (.fn 22 [])) [.t 27], none, 0⟩, ⟨some 29, .mv (.t 7), none, 0⟩, ⟨some 30, .bin .add (.t 28)
  (.t 29), none, 0⟩, ⟨some 31, .mv (.t 6), none, 0⟩, ⟨some 32, .bin .add (.t 30) (.t 31), none, 0⟩, ⟨some 33, .bslice 1 [.t 32], none, 0⟩, ⟨some 34, .append 1 16 9 (.t 25) (.t 33), none, 0⟩, ⟨some 4, .mv
  (.t 34), none, 1⟩] 1 false []))))) (.region [⟨some 35, .bin .add (.t 14) (.c (.int .i64 1)), none, 0⟩, ⟨some 14, .mv (.t 35), none, 0⟩] 0 false [])))
def L9_0 := bL9_0
theorem wL9_0 : Wp O L9_0 Q σ h = Wp O bL9_0 Q σ h := rfl
abbrev bK9_0 : AC :=
  .seq (.region [⟨some 36, .mv (.t 4), none, 0⟩, ⟨some 2, .mv (.t 36), none, 0⟩, ⟨some 3, .mv (.c (.int .i64 0)), none, 0⟩] 0 false []) .ret
def K9_0 := bK9_0
theorem wK9_0 : Wp O K9_0 Q σ h = Wp O bK9_0 Q σ h := rfl
abbrev bB9 : AC :=
  .seq (.region [⟨some 1, .box 2 (.t 0), none, 0⟩, ⟨some 2, .mv (.c (.list 1 [] .full)), none, 1⟩, ⟨some 3, .mv (.c (.int .i64 0)), none, 1⟩] 1 false []) (.seq (.seq (.region [⟨some 8, .load (some 2) (.t
  1), none, 0⟩, ⟨some 9, .call (.c (.fn 10 [])) [.t 8], none, 0⟩, ⟨some 10, .not (.t 9), none, 0⟩] 0 false []) (.cond (.t 10) (.seq (.region [⟨some 2, .mv (.c (.list 1 [] .full)), none, 0⟩, ⟨some 3, .mv
  (.c (.int .i64 180)), none, 0⟩] 0 false []) .ret) .skip)) (.seq (.region [⟨some 4, .mv (.c (.list 1 [] .full)), none, 0⟩] 0 false []) (.seq (.seq (.region [⟨some 11, .off 1 (.t 1), none, 0⟩, ⟨some 12,
  .load none (.t 11), none, 0⟩, ⟨some 13, .len (.t 12), none, 0⟩, ⟨some 14, .mv (.c (.int .i64 0)), none, 0⟩] 0 false []) (.block 0 (.loop L9_0))) K9_0)))
def B9 := bB9
theorem wB9 : Wp O B9 Q σ h = Wp O bB9 Q σ h := rfl
def F9 : AF := ⟨B9, [.tmp 2, .tmp 3], false⟩
theorem tab9 : T 9 = some F9 := by kernel_rfl
/-- franking/frankinglaw18.Texts -/
abbrev bL14_0 : AC :=
  .seq (.region [⟨some 14, .bin .lss (.t 13) (.t 12), none, 0⟩] 0 false []) (.seq (.cond (.t 14) .skip (.exit 0)) (.seq (.block 1 (.seq (.region [⟨some 15, .mv (.t 13), none, 0⟩, ⟨some 5, .mv (.t 15),
  none, 0⟩] 0 false []) (.seq (.region [⟨some 16, .mv (.t 0), none, 0⟩, ⟨some 17, .mv (.t 5), none, 0⟩, ⟨some 18, .idx 1 (.t 16) (.t 17), none, 0⟩, ⟨some 19, .load none (.t 18), none, 0⟩, ⟨some 20, .mv
  (.t 1), none, 0⟩, ⟨some 21, .mv (.t 5), none, 0⟩, ⟨some 22, .idx 1 (.t 20) (.t 21), none, 0⟩, ⟨some 23, .load none (.t 22), none, 0⟩, ⟨some 24, .bin .neq (.t 19) (.t 23), none, 0⟩] 0 true []) (.cond
  (.t 24) (.seq (.region [⟨some 4, .mv (.c (.bool false)), none, 0⟩] 0 false []) .ret) .skip)))) (.region [⟨some 25, .bin .add (.t 13) (.c (.int .i64 1)), none, 0⟩, ⟨some 13, .mv (.t 25), none, 0⟩] 0
  false [])))
def L14_0 := bL14_0
theorem wL14_0 : Wp O L14_0 Q σ h = Wp O bL14_0 Q σ h := rfl
abbrev bK14_0 : AC :=
  .seq (.region [⟨some 4, .mv (.c (.bool true)), none, 0⟩] 0 false []) .ret
def K14_0 := bK14_0
theorem wK14_0 : Wp O K14_0 Q σ h = Wp O bK14_0 Q σ h := rfl
abbrev bB14 : AC :=
  .seq (.region [⟨some 4, .mv (.c (.bool false)), none, 0⟩] 0 false []) (.seq (.seq (.region [⟨some 6, .mv (.t 0), none, 0⟩, ⟨some 7, .len (.t 6), none, 0⟩, ⟨some 8, .mv (.t 1), none, 0⟩, ⟨some 9, .len
  (.t 8), none, 0⟩, ⟨some 10, .bin .neq (.t 7) (.t 9), none, 0⟩] 0 false []) (.cond (.t 10) (.seq (.region [⟨some 4, .mv (.c (.bool false)), none, 0⟩] 0 false []) .ret) .skip)) (.seq (.seq (.region
  [⟨some 11, .mv (.t 0), none, 0⟩, ⟨some 12, .len (.t 11), none, 0⟩, ⟨some 13, .mv (.c (.int .i64 0)), none, 0⟩] 0 false []) (.block 0 (.loop L14_0))) K14_0))
def B14 := bB14
theorem wB14 : Wp O B14 Q σ h = Wp O bB14 Q σ h := rfl
def F14 : AF := ⟨B14, [.tmp 4], false⟩
theorem tab14 : T 14 = some F14 := by kernel_rfl
/-- franking/frankinglaw18.Same -/
abbrev bB12 : AC :=
  .seq (.region [⟨some 2, .box 2 (.t 0), none, 0⟩, ⟨some 3, .box 2 (.t 1), none, 1⟩, ⟨some 4, .mv (.c (.bool false)), none, 2⟩] 2 false []) (.seq (.region [⟨some 5, .off 0 (.t 2), none, 0⟩, ⟨some 6,
  .load none (.t 5), none, 0⟩, ⟨some 7, .off 0 (.t 3), none, 0⟩, ⟨some 8, .load none (.t 7), none, 0⟩, ⟨some 9, .bin .eql (.t 6) (.t 8), none, 0⟩, ⟨some 10, .mv (.t 9), none, 0⟩, ⟨some 11, .off 1 (.t 2),
  some (10, true), 0⟩, ⟨some 12, .load none (.t 11), some (10, true), 0⟩, ⟨some 13, .off 1 (.t 3), some (10, true), 0⟩, ⟨some 14, .load none (.t 13), some (10, true), 0⟩, ⟨some 15, .call (.c (.fn 14 []))
  [.t 12, .t 14], some (10, true), 0⟩, ⟨some 16, .pick (.t 10) (.t 15) (.c (.bool false)), none, 0⟩, ⟨some 4, .mv (.t 16), none, 0⟩] 0 false []) .ret)
def B12 := bB12
theorem wB12 : Wp O B12 Q σ h = Wp O bB12 Q σ h := rfl
def F12 : AF := ⟨B12, [.tmp 4], false⟩
theorem tab12 : T 12 = some F12 := by kernel_rfl
/-- franking/frankinglaw18.refused -/
abbrev bB15 : AC :=
  .seq (.region [⟨some 4, .mv (.c (.bool false)), none, 0⟩] 0 false []) (.seq (.region [⟨some 9, .mv (.t 1), none, 0⟩, ⟨some 10, .call (.c (.fn 11 [])) [.t 9], none, 0⟩, ⟨some 8, .mv (.t 10), none, 0⟩,
  ⟨some 11, .ext (.t 8) 0, none, 0⟩, ⟨some 12, .ext (.t 8) 1, none, 0⟩, ⟨some 13, .ext (.t 8) 2, none, 0⟩, ⟨some 5, .alloc [.int .i64 0, .list 1 [] .full], none, 0⟩, ⟨none, .store 2 (.t 5) (.t 11), none,
  1⟩, ⟨some 6, .mv (.t 12), none, 1⟩, ⟨some 7, .mv (.t 13), none, 1⟩] 1 false []) (.seq (.region [⟨some 14, .mv (.t 7), none, 0⟩, ⟨some 15, .mv (.t 0), none, 0⟩, ⟨some 16, .bin .eql (.t 14) (.t 15),
  none, 0⟩, ⟨some 17, .mv (.t 16), none, 0⟩, ⟨some 18, .mv (.t 6), some (17, true), 0⟩, ⟨some 19, .bin .eql (.t 18) (.c (.int .i64 0)), some (17, true), 0⟩, ⟨some 20, .pick (.t 17) (.t 19) (.c (.bool
  false)), none, 0⟩, ⟨some 21, .mv (.t 20), none, 0⟩, ⟨some 22, .load (some 2) (.t 5), some (21, true), 0⟩, ⟨some 23, .build [.int .i64 0, .list 1 [] .full] [], some (21, true), 0⟩, ⟨some 24, .call (.c
  (.fn 12 [])) [.t 22, .t 23], some (21, true), 0⟩, ⟨some 25, .pick (.t 21) (.t 24) (.c (.bool false)), none, 0⟩, ⟨some 4, .mv (.t 25), none, 0⟩] 0 false []) .ret))
def B15 := bB15
theorem wB15 : Wp O B15 Q σ h = Wp O bB15 Q σ h := rfl
def F15 : AF := ⟨B15, [.tmp 4], false⟩
theorem tab15 : T 15 = some F15 := by kernel_rfl
/-- franking/frankinglaw18.awake -/
abbrev bB8 : AC :=
  .seq (.region [⟨some 0, .mv (.c (.bool false)), none, 0⟩] 0 false []) (.seq (.region [⟨some 5, .bslice 1 [.c (.str [50, 53, 48, 45, 97]), .c (.str [50, 53, 48, 32, 98]), .c (.str [120])], none, 0⟩,
  ⟨some 6, .call (.c (.fn 11 [])) [.t 5], none, 0⟩, ⟨some 4, .mv (.t 6), none, 0⟩, ⟨some 7, .ext (.t 4) 0, none, 0⟩, ⟨some 8, .ext (.t 4) 1, none, 0⟩, ⟨some 9, .ext (.t 4) 2, none, 0⟩, ⟨some 1, .alloc
  [.int .i64 0, .list 1 [] .full], none, 0⟩, ⟨none, .store 2 (.t 1) (.t 7), none, 1⟩, ⟨some 2, .mv (.t 8), none, 1⟩, ⟨some 3, .mv (.t 9), none, 1⟩] 1 false []) (.seq (.region [⟨some 10, .mv (.t 3), none,
  0⟩, ⟨some 11, .bin .eql (.t 10) (.c (.int .i64 0)), none, 0⟩, ⟨some 12, .mv (.t 11), none, 0⟩, ⟨some 13, .mv (.t 2), some (12, true), 0⟩, ⟨some 14, .bin .eql (.t 13) (.c (.int .i64 2)), some (12,
  true), 0⟩, ⟨some 15, .pick (.t 12) (.t 14) (.c (.bool false)), none, 0⟩, ⟨some 16, .mv (.t 15), none, 0⟩, ⟨some 17, .load (some 2) (.t 1), some (16, true), 0⟩, ⟨some 18, .bslice 1 [.c (.str [97]), .c
  (.str [98])], some (16, true), 0⟩, ⟨some 19, .build [.int .i64 0, .list 1 [] .full] [(0, 1, .c (.int .i64 250)), (1, 1, .t 18)], some (16, true), 0⟩, ⟨some 20, .call (.c (.fn 12 [])) [.t 17, .t 19],
  some (16, true), 0⟩, ⟨some 21, .pick (.t 16) (.t 20) (.c (.bool false)), none, 0⟩, ⟨some 22, .mv (.t 21), none, 0⟩, ⟨some 23, .bslice 1 [.c (.str [50, 53, 48, 45, 97])], some (22, true), 0⟩, ⟨some 24,
  .call (.c (.fn 15 [])) [.c (.int .i64 181), .t 23], some (22, true), 0⟩, ⟨some 25, .pick (.t 22) (.t 24) (.c (.bool false)), none, 0⟩, ⟨some 26, .mv (.t 25), none, 0⟩, ⟨some 27, .bslice 1 [.c (.str
  [50, 53, 48, 45, 97]), .c (.str [50, 53, 49, 32, 98])], some (26, true), 0⟩, ⟨some 28, .call (.c (.fn 15 [])) [.c (.int .i64 180), .t 27], some (26, true), 0⟩, ⟨some 29, .pick (.t 26) (.t 28) (.c
  (.bool false)), none, 0⟩, ⟨some 30, .mv (.t 29), none, 0⟩, ⟨some 31, .bslice 1 [.c (.str [49, 53, 48, 32, 97])], some (30, true), 0⟩, ⟨some 32, .call (.c (.fn 15 [])) [.c (.int .i64 180), .t 31], some
  (30, true), 0⟩, ⟨some 33, .pick (.t 30) (.t 32) (.c (.bool false)), none, 0⟩, ⟨some 34, .mv (.t 33), none, 0⟩, ⟨some 35, .bslice 1 [.c (.str [50, 53, 48, 97])], some (34, true), 0⟩, ⟨some 36, .call (.c
  (.fn 15 [])) [.c (.int .i64 180), .t 35], some (34, true), 0⟩, ⟨some 37, .pick (.t 34) (.t 36) (.c (.bool false)), none, 0⟩, ⟨some 38, .mv (.t 37), none, 0⟩, ⟨some 39, .bslice 1 [.c (.str [50, 53,
  48])], some (38, true), 0⟩, ⟨some 40, .call (.c (.fn 15 [])) [.c (.int .i64 180), .t 39], some (38, true), 0⟩, ⟨some 41, .pick (.t 38) (.t 40) (.c (.bool false)), none, 0⟩, ⟨some 42, .mv (.t 41), none,
  0⟩, ⟨some 43, .bslice 1 [.c (.str [50, 53, 32, 97])], some (42, true), 0⟩, ⟨some 44, .call (.c (.fn 15 [])) [.c (.int .i64 180), .t 43], some (42, true), 0⟩, ⟨some 45, .pick (.t 42) (.t 44) (.c (.bool
  false)), none, 0⟩, ⟨some 46, .mv (.t 45), none, 0⟩, ⟨some 47, .call (.c (.fn 13 [])) [.c (.int .i64 354)], some (46, true), 0⟩, ⟨some 48, .bin .eql (.t 47) (.c (.int .u8 3)), some (46, true), 0⟩, ⟨some
  49, .pick (.t 46) (.t 48) (.c (.bool false)), none, 0⟩, ⟨some 50, .mv (.t 49), none, 0⟩, ⟨some 51, .call (.c (.fn 13 [])) [.c (.int .i64 600)], some (50, true), 0⟩, ⟨some 52, .bin .eql (.t 51) (.c
  (.int .u8 0)), some (50, true), 0⟩, ⟨some 53, .pick (.t 50) (.t 52) (.c (.bool false)), none, 0⟩, ⟨some 0, .mv (.t 53), none, 0⟩] 0 false []) .ret))
def B8 := bB8
theorem wB8 : Wp O B8 Q σ h = Wp O bB8 Q σ h := rfl
def F8 : AF := ⟨B8, [.tmp 0], false⟩
theorem tab8 : T 8 = some F8 := by kernel_rfl
/-- franking/frankinglaw18.ReplyBack -/
abbrev bB3 : AC :=
  .seq (.region [⟨some 2, .box 2 (.t 0), none, 0⟩, ⟨some 4, .mv (.c (.bool false)), none, 1⟩] 1 false []) (.seq (.seq (.region [⟨some 10, .mv (.t 1), none, 0⟩, ⟨some 11, .len (.t 10), none, 0⟩, ⟨some 12,
  .bin .gtr (.t 11) (.c (.int .i64 50)), none, 0⟩] 0 false []) (.cond (.t 12) (.seq (.region [⟨some 13, .call (.c (.fn 8 [])) [], none, 0⟩, ⟨some 4, .mv (.t 13), none, 0⟩] 0 false []) .ret) .skip)) (.seq
  (.region [⟨some 15, .load (some 2) (.t 2), none, 0⟩, ⟨some 16, .call (.c (.fn 9 [])) [.t 15], none, 0⟩, ⟨some 14, .mv (.t 16), none, 0⟩, ⟨some 17, .ext (.t 14) 0, none, 0⟩, ⟨some 18, .ext (.t 14) 1,
  none, 0⟩, ⟨some 5, .mv (.t 17), none, 0⟩, ⟨some 6, .mv (.t 18), none, 0⟩] 0 false []) (.seq (.seq (.region [⟨some 19, .load (some 2) (.t 2), none, 0⟩, ⟨some 20, .call (.c (.fn 10 [])) [.t 19], none,
  0⟩, ⟨some 21, .not (.t 20), none, 0⟩] 0 false []) (.cond (.t 21) (.seq (.region [⟨some 22, .mv (.t 6), none, 0⟩, ⟨some 23, .bin .eql (.t 22) (.c (.int .i64 180)), none, 0⟩, ⟨some 24, .mv (.t 23), none,
  0⟩, ⟨some 25, .mv (.t 5), some (24, true), 0⟩, ⟨some 26, .len (.t 25), some (24, true), 0⟩, ⟨some 27, .bin .eql (.t 26) (.c (.int .i64 0)), some (24, true), 0⟩, ⟨some 28, .pick (.t 24) (.t 27) (.c
  (.bool false)), none, 0⟩, ⟨some 29, .mv (.t 28), none, 0⟩, ⟨some 30, .call (.c (.fn 8 [])) [], some (29, true), 0⟩, ⟨some 31, .pick (.t 29) (.t 30) (.c (.bool false)), none, 0⟩, ⟨some 4, .mv (.t 31),
  none, 0⟩] 0 false []) .ret) .skip)) (.seq (.region [⟨some 33, .bslice 1 [], none, 0⟩, ⟨some 34, .mv (.t 5), none, 0⟩, ⟨some 35, .append 1 16 9 (.t 33) (.t 34), none, 0⟩, ⟨some 36, .mv (.t 1), none, 1⟩,
  ⟨some 37, .append 1 16 9 (.t 35) (.t 36), none, 1⟩, ⟨some 38, .call (.c (.fn 11 [])) [.t 37], none, 2⟩, ⟨some 32, .mv (.t 38), none, 2⟩, ⟨some 39, .ext (.t 32) 0, none, 2⟩, ⟨some 40, .ext (.t 32) 1,
  none, 2⟩, ⟨some 41, .ext (.t 32) 2, none, 2⟩, ⟨some 7, .alloc [.int .i64 0, .list 1 [] .full], none, 2⟩, ⟨none, .store 2 (.t 7) (.t 39), none, 3⟩, ⟨some 8, .mv (.t 40), none, 3⟩, ⟨some 9, .mv (.t 41),
  none, 3⟩] 3 false []) (.seq (.region [⟨some 42, .mv (.t 6), none, 0⟩, ⟨some 43, .bin .eql (.t 42) (.c (.int .i64 0)), none, 0⟩, ⟨some 44, .mv (.t 43), none, 0⟩, ⟨some 45, .mv (.t 9), some (44, true),
  0⟩, ⟨some 46, .bin .eql (.t 45) (.c (.int .i64 0)), some (44, true), 0⟩, ⟨some 47, .pick (.t 44) (.t 46) (.c (.bool false)), none, 0⟩, ⟨some 48, .mv (.t 47), none, 0⟩, ⟨some 49, .mv (.t 8), some (48,
  true), 0⟩, ⟨some 50, .off 1 (.t 2), some (48, true), 0⟩, ⟨some 51, .load none (.t 50), some (48, true), 0⟩, ⟨some 52, .len (.t 51), some (48, true), 0⟩, ⟨some 53, .bin .eql (.t 49) (.t 52), some (48,
  true), 0⟩, ⟨some 54, .pick (.t 48) (.t 53) (.c (.bool false)), none, 0⟩, ⟨some 55, .mv (.t 54), none, 0⟩, ⟨some 56, .mv (.t 8), some (55, true), 0⟩, ⟨some 57, .mv (.t 5), some (55, true), 0⟩, ⟨some 58,
  .len (.t 57), some (55, true), 0⟩, ⟨some 59, .bin .eql (.t 56) (.t 58), some (55, true), 0⟩, ⟨some 60, .pick (.t 55) (.t 59) (.c (.bool false)), none, 0⟩, ⟨some 61, .mv (.t 60), none, 0⟩, ⟨some 62,
  .load (some 2) (.t 7), some (61, true), 0⟩, ⟨some 63, .load (some 2) (.t 2), some (61, true), 0⟩, ⟨some 64, .call (.c (.fn 12 [])) [.t 62, .t 63], some (61, true), 0⟩, ⟨some 65, .pick (.t 61) (.t 64)
  (.c (.bool false)), none, 0⟩, ⟨some 66, .mv (.t 65), none, 0⟩, ⟨some 67, .off 0 (.t 2), some (66, true), 0⟩, ⟨some 68, .load none (.t 67), some (66, true), 0⟩, ⟨some 69, .call (.c (.fn 13 [])) [.t 68],
  some (66, true), 0⟩, ⟨some 70, .bin .geq (.t 69) (.c (.int .u8 2)), some (66, true), 0⟩, ⟨some 71, .pick (.t 66) (.t 70) (.c (.bool false)), none, 0⟩, ⟨some 72, .mv (.t 71), none, 0⟩, ⟨some 73, .call
  (.c (.fn 8 [])) [], some (72, true), 0⟩, ⟨some 74, .pick (.t 72) (.t 73) (.c (.bool false)), none, 0⟩, ⟨some 4, .mv (.t 74), none, 0⟩] 0 false []) .ret)))))
def B3 := bB3
theorem wB3 : Wp O B3 Q σ h = Wp O bB3 Q σ h := rfl
def F3 : AF := ⟨B3, [.tmp 4], false⟩
theorem tab3 : T 3 = some F3 := by kernel_rfl
/-- franking/frankinglaw18.ReplyAgain -/
abbrev bB4 : AC :=
  .seq (.region [⟨some 4, .mv (.c (.bool false)), none, 0⟩] 0 false []) (.seq (.seq (.region [⟨some 10, .mv (.t 0), none, 0⟩, ⟨some 11, .len (.t 10), none, 0⟩, ⟨some 12, .bin .gtr (.t 11) (.c (.int .i64
  150)), none, 0⟩] 0 false []) (.cond (.t 12) (.seq (.region [⟨some 13, .call (.c (.fn 8 [])) [], none, 0⟩, ⟨some 4, .mv (.t 13), none, 0⟩] 0 false []) .ret) .skip)) (.seq (.region [⟨some 15, .mv (.t 0),
  none, 0⟩, ⟨some 16, .call (.c (.fn 11 [])) [.t 15], none, 0⟩, ⟨some 14, .mv (.t 16), none, 0⟩, ⟨some 17, .ext (.t 14) 0, none, 0⟩, ⟨some 18, .ext (.t 14) 1, none, 0⟩, ⟨some 19, .ext (.t 14) 2, none,
  0⟩, ⟨some 5, .alloc [.int .i64 0, .list 1 [] .full], none, 0⟩, ⟨none, .store 2 (.t 5) (.t 17), none, 1⟩, ⟨some 6, .mv (.t 18), none, 1⟩, ⟨some 7, .mv (.t 19), none, 1⟩] 1 false []) (.seq (.seq (.region
  [⟨some 20, .mv (.t 7), none, 0⟩, ⟨some 21, .bin .neq (.t 20) (.c (.int .i64 0)), none, 0⟩] 0 false []) (.cond (.t 21) (.seq (.region [⟨some 22, .mv (.t 7), none, 0⟩, ⟨some 23, .bin .eql (.t 22) (.c
  (.int .i64 180)), none, 0⟩, ⟨some 24, .mv (.t 23), none, 0⟩, ⟨some 25, .mv (.t 7), some (24, false), 0⟩, ⟨some 26, .bin .eql (.t 25) (.c (.int .i64 181)), some (24, false), 0⟩, ⟨some 27, .pick (.t 24)
  (.c (.bool true)) (.t 26), none, 0⟩, ⟨some 28, .mv (.t 27), none, 0⟩, ⟨some 29, .mv (.t 6), some (28, true), 0⟩, ⟨some 30, .bin .eql (.t 29) (.c (.int .i64 0)), some (28, true), 0⟩, ⟨some 31, .pick (.t
  28) (.t 30) (.c (.bool false)), none, 0⟩, ⟨some 32, .mv (.t 31), none, 0⟩, ⟨some 33, .load (some 2) (.t 5), some (32, true), 0⟩, ⟨some 34, .build [.int .i64 0, .list 1 [] .full] [], some (32, true),
  0⟩, ⟨some 35, .call (.c (.fn 12 [])) [.t 33, .t 34], some (32, true), 0⟩, ⟨some 36, .pick (.t 32) (.t 35) (.c (.bool false)), none, 0⟩, ⟨some 37, .mv (.t 36), none, 0⟩, ⟨some 38, .call (.c (.fn 8 []))
  [], some (37, true), 0⟩, ⟨some 39, .pick (.t 37) (.t 38) (.c (.bool false)), none, 0⟩, ⟨some 4, .mv (.t 39), none, 0⟩] 0 false []) .ret) .skip)) (.seq (.seq (.region [⟨some 40, .mv (.t 6), none, 0⟩,
  ⟨some 41, .bin .lss (.t 40) (.c (.int .i64 1)), none, 0⟩, ⟨some 42, .mv (.t 41), none, 0⟩, ⟨some 43, .mv (.t 6), some (42, false), 0⟩, ⟨some 44, .mv (.t 0), some (42, false), 0⟩, ⟨some 45, .len (.t
  44), some (42, false), 0⟩, ⟨some 46, .bin .gtr (.t 43) (.t 45), some (42, false), 0⟩, ⟨some 47, .pick (.t 42) (.c (.bool true)) (.t 46), none, 0⟩, ⟨some 48, .mv (.t 47), none, 0⟩, ⟨some 49, .load (some
  2) (.t 5), some (48, false), 0⟩, ⟨some 50, .call (.c (.fn 10 [])) [.t 49], some (48, false), 0⟩, ⟨some 51, .not (.t 50), some (48, false), 0⟩, ⟨some 52, .pick (.t 48) (.c (.bool true)) (.t 51), none,
  0⟩] 0 false []) (.cond (.t 52) (.seq (.region [⟨some 4, .mv (.c (.bool false)), none, 0⟩] 0 false []) .ret) .skip)) (.seq (.region [⟨some 54, .load (some 2) (.t 5), none, 0⟩, ⟨some 55, .call (.c (.fn 9
  [])) [.t 54], none, 0⟩, ⟨some 53, .mv (.t 55), none, 0⟩, ⟨some 56, .ext (.t 53) 0, none, 0⟩, ⟨some 57, .ext (.t 53) 1, none, 0⟩, ⟨some 8, .mv (.t 56), none, 0⟩, ⟨some 9, .mv (.t 57), none, 0⟩] 0 false
  []) (.seq (.region [⟨some 58, .mv (.t 9), none, 0⟩, ⟨some 59, .bin .eql (.t 58) (.c (.int .i64 0)), none, 0⟩, ⟨some 60, .mv (.t 59), none, 0⟩, ⟨some 61, .mv (.t 8), some (60, true), 0⟩, ⟨some 62, .mv
  (.t 0), some (60, true), 0⟩, ⟨some 63, .mv (.t 6), some (60, true), 0⟩, ⟨some 64, .slice 1 (.t 62) none (some (.t 63)) none, some (60, true), 0⟩, ⟨some 65, .call (.c (.fn 14 [])) [.t 61, .t 64], some
  (60, true), 0⟩, ⟨some 66, .pick (.t 60) (.t 65) (.c (.bool false)), none, 0⟩, ⟨some 67, .mv (.t 66), none, 0⟩, ⟨some 68, .mv (.t 0), some (67, true), 0⟩, ⟨some 69, .mv (.t 1), some (67, true), 0⟩,
  ⟨some 70, .cvInt .i64 (.t 69), some (67, true), 0⟩, ⟨some 71, .mv (.t 6), some (67, true), 0⟩, ⟨some 72, .bin .rem (.t 70) (.t 71), some (67, true), 0⟩, ⟨some 73, .slice 1 (.t 68) none (some (.t 72))
  none, some (67, true), 0⟩, ⟨some 74, .call (.c (.fn 15 [])) [.c (.int .i64 181), .t 73], some (67, true), 0⟩, ⟨some 75, .pick (.t 67) (.t 74) (.c (.bool false)), none, 0⟩, ⟨some 76, .mv (.t 75), none,
  0⟩, ⟨some 77, .call (.c (.fn 8 [])) [], some (76, true), 0⟩, ⟨some 78, .pick (.t 76) (.t 77) (.c (.bool false)), none, 0⟩, ⟨some 4, .mv (.t 78), none, 0⟩] 0 false []) .ret))))))
def B4 := bB4
theorem wB4 : Wp O B4 Q σ h = Wp O bB4 Q σ h := rfl
def F4 : AF := ⟨B4, [.tmp 4], false⟩
theorem tab4 : T 4 = some F4 := by kernel_rfl
/-- franking/frankinglaw18.ReplyWrong -/
abbrev bL5_0 : AC :=
  .seq (.region [⟨some 115, .bin .lss (.t 114) (.t 113), none, 0⟩] 0 false []) (.seq (.cond (.t 115) .skip (.exit 0)) (.seq (.block 1 (.seq (.region [⟨some 116, .idx 1 (.t 112) (.t 114), none, 0⟩, ⟨some
  117, .load none (.t 116), none, 0⟩, ⟨some 13, .mv (.t 117), none, 0⟩] 0 false []) (.seq (.region [⟨some 118, .bslice 1 [], none, 0⟩, ⟨some 119, .mv (.t 7), none, 0⟩, ⟨some 120, .mv (.t 9), none, 0⟩,
  ⟨some 121, .slice 1 (.t 119) none (some (.t 120)) none, none, 0⟩, ⟨some 122, .append 1 16 9 (.t 118) (.t 121), none, 0⟩, ⟨some 123, .mv (.t 13), none, 1⟩, ⟨some 124, .bslice 1 [.t 123], none, 1⟩, ⟨some
  125, .append 1 16 9 (.t 122) (.t 124), none, 1⟩, ⟨some 126, .mv (.t 7), none, 2⟩, ⟨some 127, .mv (.t 9), none, 2⟩, ⟨some 128, .bin .add (.t 127) (.c (.int .i64 1)), none, 2⟩, ⟨some 129, .slice 1 (.t
  126) (some (.t 128)) none none, none, 2⟩, ⟨some 130, .append 1 16 9 (.t 125) (.t 129), none, 2⟩, ⟨some 14, .mv (.t 130), none, 3⟩] 3 true []) (.seq (.region [⟨some 131, .mv (.t 14), none, 0⟩, ⟨some
  132, .call (.c (.fn 15 [])) [.c (.int .i64 180), .t 131], none, 0⟩, ⟨some 133, .not (.t 132), none, 0⟩] 0 false []) (.cond (.t 133) (.seq (.region [⟨some 6, .mv (.c (.bool false)), none, 0⟩] 0 false
  []) .ret) .skip))))) (.region [⟨some 134, .bin .add (.t 114) (.c (.int .i64 1)), none, 0⟩, ⟨some 114, .mv (.t 134), none, 0⟩] 0 false [])))
def L5_0 := bL5_0
theorem wL5_0 : Wp O L5_0 Q σ h = Wp O bL5_0 Q σ h := rfl
abbrev bK5_0 : AC :=
  .seq (.region [⟨some 136, .bslice 1 [], none, 0⟩, ⟨some 137, .mv (.t 7), none, 0⟩, ⟨some 138, .append 1 16 9 (.t 136) (.t 137), none, 0⟩, ⟨some 139, .bslice 1 [.c (.str [63])], none, 1⟩, ⟨some 140,
  .append 1 16 9 (.t 138) (.t 139), none, 1⟩, ⟨some 141, .call (.c (.fn 11 [])) [.t 140], none, 2⟩, ⟨some 135, .mv (.t 141), none, 2⟩, ⟨some 142, .ext (.t 135) 0, none, 2⟩, ⟨some 143, .ext (.t 135) 1,
  none, 2⟩, ⟨some 144, .ext (.t 135) 2, none, 2⟩, ⟨some 15, .alloc [.int .i64 0, .list 1 [] .full], none, 2⟩, ⟨none, .store 2 (.t 15) (.t 142), none, 3⟩, ⟨some 16, .mv (.t 143), none, 3⟩, ⟨some 17, .mv
  (.t 144), none, 3⟩] 3 false []) (.seq (.region [⟨some 145, .mv (.t 17), none, 0⟩, ⟨some 146, .bin .eql (.t 145) (.c (.int .i64 0)), none, 0⟩, ⟨some 147, .mv (.t 146), none, 0⟩, ⟨some 148, .mv (.t 16),
  some (147, true), 0⟩, ⟨some 149, .mv (.t 7), some (147, true), 0⟩, ⟨some 150, .len (.t 149), some (147, true), 0⟩, ⟨some 151, .bin .eql (.t 148) (.t 150), some (147, true), 0⟩, ⟨some 152, .pick (.t
  147) (.t 151) (.c (.bool false)), none, 0⟩, ⟨some 153, .mv (.t 152), none, 0⟩, ⟨some 154, .load (some 2) (.t 15), some (153, true), 0⟩, ⟨some 155, .load (some 2) (.t 3), some (153, true), 0⟩, ⟨some
  156, .call (.c (.fn 12 [])) [.t 154, .t 155], some (153, true), 0⟩, ⟨some 157, .pick (.t 153) (.t 156) (.c (.bool false)), none, 0⟩, ⟨some 158, .mv (.t 157), none, 0⟩, ⟨some 159, .call (.c (.fn 8 []))
  [], some (158, true), 0⟩, ⟨some 160, .pick (.t 158) (.t 159) (.c (.bool false)), none, 0⟩, ⟨some 6, .mv (.t 160), none, 0⟩] 0 false []) .ret)
def K5_0 := bK5_0
theorem wK5_0 : Wp O K5_0 Q σ h = Wp O bK5_0 Q σ h := rfl
abbrev bB5 : AC :=
  .seq (.region [⟨some 3, .box 2 (.t 0), none, 0⟩, ⟨some 6, .mv (.c (.bool false)), none, 1⟩] 1 false []) (.seq (.region [⟨some 19, .load (some 2) (.t 3), none, 0⟩, ⟨some 20, .call (.c (.fn 9 [])) [.t
  19], none, 0⟩, ⟨some 18, .mv (.t 20), none, 0⟩, ⟨some 21, .ext (.t 18) 0, none, 0⟩, ⟨some 22, .ext (.t 18) 1, none, 0⟩, ⟨some 7, .mv (.t 21), none, 0⟩, ⟨some 8, .mv (.t 22), none, 0⟩] 0 false []) (.seq
  (.seq (.region [⟨some 23, .mv (.t 8), none, 0⟩, ⟨some 24, .bin .neq (.t 23) (.c (.int .i64 0)), none, 0⟩, ⟨some 25, .mv (.t 24), none, 0⟩, ⟨some 26, .mv (.t 7), some (25, false), 0⟩, ⟨some 27, .len (.t
  26), some (25, false), 0⟩, ⟨some 28, .bin .eql (.t 27) (.c (.int .i64 0)), some (25, false), 0⟩, ⟨some 29, .pick (.t 25) (.c (.bool true)) (.t 28), none, 0⟩] 0 false []) (.cond (.t 29) (.seq (.region
  [⟨some 30, .mv (.t 8), none, 0⟩, ⟨some 31, .bin .neq (.t 30) (.c (.int .i64 0)), none, 0⟩, ⟨some 32, .mv (.t 31), none, 0⟩, ⟨some 33, .call (.c (.fn 8 [])) [], some (32, true), 0⟩, ⟨some 34, .pick (.t
  32) (.t 33) (.c (.bool false)), none, 0⟩, ⟨some 6, .mv (.t 34), none, 0⟩] 0 false []) .ret) .skip)) (.seq (.region [⟨some 35, .mv (.t 1), none, 0⟩, ⟨some 36, .cvInt .i64 (.t 35), none, 0⟩, ⟨some 37,
  .mv (.t 7), none, 0⟩, ⟨some 38, .len (.t 37), none, 0⟩, ⟨some 39, .bin .rem (.t 36) (.t 38), none, 0⟩, ⟨some 9, .mv (.t 39), none, 0⟩] 0 false []) (.seq (.region [⟨some 40, .mv (.t 7), none, 0⟩, ⟨some
  41, .mv (.t 9), none, 0⟩, ⟨some 42, .idx 1 (.t 40) (.t 41), none, 0⟩, ⟨some 43, .load none (.t 42), none, 0⟩, ⟨some 10, .mv (.t 43), none, 0⟩] 0 false []) (.seq (.seq (.region [⟨some 44, .mv (.t 10),
  none, 0⟩, ⟨some 45, .lenS (.t 44), none, 0⟩, ⟨some 46, .bin .lss (.t 45) (.c (.int .i64 4)), none, 0⟩] 0 false []) (.cond (.t 46) (.seq (.region [⟨some 6, .mv (.c (.bool false)), none, 0⟩] 0 false [])
  .ret) .skip)) (.seq (.region [⟨some 47, .mv (.t 10), none, 0⟩, ⟨some 48, .sliceS (.t 47) none (some (.c (.int .i64 3))), none, 0⟩, ⟨some 49, .mv (.t 10), none, 0⟩, ⟨some 50, .sliceS (.t 49) (some (.c
  (.int .i64 1))) none, none, 0⟩, ⟨some 51, .bin .add (.c (.str [49])) (.t 50), none, 0⟩, ⟨some 52, .mv (.t 10), none, 0⟩, ⟨some 53, .sliceS (.t 52) (some (.c (.int .i64 1))) none, none, 0⟩, ⟨some 54,
  .bin .add (.c (.str [54])) (.t 53), none, 0⟩, ⟨some 55, .mv (.t 10), none, 0⟩, ⟨some 56, .sliceS (.t 55) none (some (.c (.int .i64 2))), none, 0⟩, ⟨some 57, .bin .add (.t 56) (.c (.str [120])), none,
  0⟩, ⟨some 58, .mv (.t 10), none, 0⟩, ⟨some 59, .sliceS (.t 58) (some (.c (.int .i64 3))) none, none, 0⟩, ⟨some 60, .bin .add (.t 57) (.t 59), none, 0⟩, ⟨some 61, .mv (.t 10), none, 0⟩, ⟨some 62,
  .sliceS (.t 61) none (some (.c (.int .i64 3))), none, 0⟩, ⟨some 63, .bin .add (.t 62) (.c (.str [43])), none, 0⟩, ⟨some 64, .mv (.t 10), none, 0⟩, ⟨some 65, .sliceS (.t 64) (some (.c (.int .i64 4)))
  none, none, 0⟩, ⟨some 66, .bin .add (.t 63) (.t 65), none, 0⟩, ⟨some 67, .mv (.t 10), none, 0⟩, ⟨some 68, .bin .add (.t 67) (.c (.str [127])), none, 0⟩, ⟨some 69, .mv (.t 10), none, 0⟩, ⟨some 70, .bin
  .add (.t 69) (.c (.str [31])), none, 0⟩, ⟨some 71, .mv (.t 10), none, 0⟩, ⟨some 72, .sliceS (.t 71) none (some (.c (.int .i64 4))), none, 0⟩, ⟨some 73, .bin .add (.t 72) (.c (.str [233])), none, 0⟩,
  ⟨some 74, .bslice 1 [.c (.str []), .t 48, .t 51, .t 54, .t 60, .t 66, .t 68, .t 70, .t 73], none, 0⟩, ⟨some 11, .mv (.t 74), none, 0⟩] 0 true []) (.seq (.seq (.region [⟨some 75, .mv (.t 2), none, 0⟩,
  ⟨some 76, .bin .neq (.t 75) (.c (.int .u8 32)), none, 0⟩, ⟨some 77, .mv (.t 76), none, 0⟩, ⟨some 78, .mv (.t 2), some (77, true), 0⟩, ⟨some 79, .bin .neq (.t 78) (.c (.int .u8 45)), some (77, true),
  0⟩, ⟨some 80, .pick (.t 77) (.t 79) (.c (.bool false)), none, 0⟩] 0 false []) (.cond (.t 80) (.region [⟨some 81, .mv (.t 11), none, 0⟩, ⟨some 82, .mv (.t 10), none, 0⟩, ⟨some 83, .sliceS (.t 82) none
  (some (.c (.int .i64 3))), none, 0⟩, ⟨some 84, .mv (.t 2), none, 0⟩, ⟨some 85, .bslice 1 [.t 84], none, 0⟩, ⟨some 86, .cvBytesStr (.t 85), none, 0⟩, ⟨some 87, .bin .add (.t 83) (.t 86), none, 0⟩, ⟨some
  88, .mv (.t 10), none, 0⟩, ⟨some 89, .sliceS (.t 88) (some (.c (.int .i64 4))) none, none, 0⟩, ⟨some 90, .bin .add (.t 87) (.t 89), none, 0⟩, ⟨some 91, .bslice 1 [.t 90], none, 0⟩, ⟨some 92, .append 1
  16 9 (.t 81) (.t 91), none, 0⟩, ⟨some 11, .mv (.t 92), none, 1⟩] 1 true []) .skip)) (.seq (.seq (.region [⟨some 93, .mv (.t 9), none, 0⟩, ⟨some 94, .bin .gtr (.t 93) (.c (.int .i64 0)), none, 0⟩] 0
  false []) (.cond (.t 94) (.region [⟨some 95, .mv (.t 11), none, 0⟩, ⟨some 96, .mv (.t 10), none, 0⟩, ⟨some 97, .sliceS (.t 96) none (some (.c (.int .i64 2))), none, 0⟩, ⟨some 98, .mv (.t 10), none, 0⟩,
  ⟨some 99, .indexS (.t 98) (.c (.int .i64 2)), none, 0⟩, ⟨some 100, .bin .sub (.t 99) (.c (.int .u8 48)), none, 0⟩, ⟨some 101, .bin .add (.t 100) (.c (.int .u8 1)), none, 0⟩, ⟨some 102, .bin .rem (.t
  101) (.c (.int .u8 10)), none, 0⟩, ⟨some 103, .bin .add (.c (.int .u8 48)) (.t 102), none, 0⟩, ⟨some 104, .bslice 1 [.t 103], none, 0⟩, ⟨some 105, .cvBytesStr (.t 104), none, 0⟩, ⟨some 106, .bin .add
  (.t 97) (.t 105), none, 0⟩, ⟨some 107, .mv (.t 10), none, 0⟩, ⟨some 108, .sliceS (.t 107) (some (.c (.int .i64 3))) none, none, 0⟩, ⟨some 109, .bin .add (.t 106) (.t 108), none, 0⟩, ⟨some 110, .bslice
  1 [.t 109], none, 0⟩, ⟨some 111, .append 1 16 9 (.t 95) (.t 110), none, 0⟩, ⟨some 11, .mv (.t 111), none, 1⟩] 1 true []) .skip)) (.seq (.seq (.region [⟨some 112, .mv (.t 11), none, 0⟩, ⟨some 113, .len
  (.t 112), none, 0⟩, ⟨some 114, .mv (.c (.int .i64 0)), none, 0⟩] 0 false []) (.block 0 (.loop L5_0))) K5_0)))))))))
def B5 := bB5
theorem wB5 : Wp O B5 Q σ h = Wp O bB5 Q σ h := rfl
def F5 : AF := ⟨B5, [.tmp 6], false⟩
theorem tab5 : T 5 = some F5 := by kernel_rfl
/-- franking/frankingref18.Kind -/
abbrev bB18 : AC :=
  .seq (.region [⟨some 2, .mv (.c (.int .u8 0)), none, 0⟩] 0 false []) (.seq (.block 0 (.seq (.region [⟨some 4, .mv (.t 0), none, 0⟩, ⟨some 5, .bin .geq (.t 4) (.c (.int .i64 200)), none, 0⟩, ⟨some 6,
  .mv (.t 5), none, 0⟩, ⟨some 7, .mv (.t 0), some (6, true), 0⟩, ⟨some 8, .bin .leq (.t 7) (.c (.int .i64 299)), some (6, true), 0⟩, ⟨some 9, .pick (.t 6) (.t 8) (.c (.bool false)), none, 0⟩, ⟨some 3,
  .mv (.t 9), none, 0⟩] 0 false []) (.cond (.t 3) (.seq (.region [⟨some 2, .mv (.c (.int .u8 2)), none, 0⟩] 0 false []) .ret) (.seq (.region [⟨some 11, .mv (.t 0), none, 0⟩, ⟨some 12, .bin .geq (.t 11)
  (.c (.int .i64 300)), none, 0⟩, ⟨some 13, .mv (.t 12), none, 0⟩, ⟨some 14, .mv (.t 0), some (13, true), 0⟩, ⟨some 15, .bin .leq (.t 14) (.c (.int .i64 399)), some (13, true), 0⟩, ⟨some 16, .pick (.t
  13) (.t 15) (.c (.bool false)), none, 0⟩, ⟨some 10, .mv (.t 16), none, 0⟩] 0 false []) (.cond (.t 10) (.seq (.region [⟨some 2, .mv (.c (.int .u8 3)), none, 0⟩] 0 false []) .ret) (.seq (.region [⟨some
  18, .mv (.t 0), none, 0⟩, ⟨some 19, .bin .geq (.t 18) (.c (.int .i64 400)), none, 0⟩, ⟨some 20, .mv (.t 19), none, 0⟩, ⟨some 21, .mv (.t 0), some (20, true), 0⟩, ⟨some 22, .bin .leq (.t 21) (.c (.int
  .i64 499)), some (20, true), 0⟩, ⟨some 23, .pick (.t 20) (.t 22) (.c (.bool false)), none, 0⟩, ⟨some 17, .mv (.t 23), none, 0⟩] 0 false []) (.cond (.t 17) (.seq (.region [⟨some 2, .mv (.c (.int .u8
  4)), none, 0⟩] 0 false []) .ret) (.seq (.region [⟨some 25, .mv (.t 0), none, 0⟩, ⟨some 26, .bin .geq (.t 25) (.c (.int .i64 500)), none, 0⟩, ⟨some 27, .mv (.t 26), none, 0⟩, ⟨some 28, .mv (.t 0), some
  (27, true), 0⟩, ⟨some 29, .bin .leq (.t 28) (.c (.int .i64 599)), some (27, true), 0⟩, ⟨some 30, .pick (.t 27) (.t 29) (.c (.bool false)), none, 0⟩, ⟨some 24, .mv (.t 30), none, 0⟩] 0 false []) (.cond
  (.t 24) (.seq (.region [⟨some 2, .mv (.c (.int .u8 5)), none, 0⟩] 0 false []) .ret) .skip))))))))) (.seq (.region [⟨some 2, .mv (.c (.int .u8 0)), none, 0⟩] 0 false []) .ret))
def B18 := bB18
theorem wB18 : Wp O B18 Q σ h = Wp O bB18 Q σ h := rfl
def F18 : AF := ⟨B18, [.tmp 2], false⟩
theorem tab18 : T 18 = some F18 := by kernel_rfl
/-- franking/frankingref18.text -/
abbrev bL28_0 : AC :=
  .seq (.seq (.region [⟨some 4, .mv (.t 3), none, 0⟩, ⟨some 5, .mv (.t 0), none, 0⟩, ⟨some 6, .lenS (.t 5), none, 0⟩, ⟨some 7, .bin .lss (.t 4) (.t 6), none, 0⟩] 0 false []) (.cond (.t 7) .skip (.exit
  0))) (.seq (.block 1 (.seq (.region [⟨some 10, .mv (.t 0), none, 0⟩, ⟨some 11, .mv (.t 3), none, 0⟩, ⟨some 12, .indexS (.t 10) (.t 11), none, 0⟩, ⟨some 13, .bin .neq (.t 12) (.c (.int .u8 9)), none,
  0⟩, ⟨some 14, .mv (.t 13), none, 0⟩, ⟨some 15, .mv (.t 0), some (14, true), 0⟩, ⟨some 16, .mv (.t 3), some (14, true), 0⟩, ⟨some 17, .indexS (.t 15) (.t 16), some (14, true), 0⟩, ⟨some 18, .bin .lss
  (.t 17) (.c (.int .u8 32)), some (14, true), 0⟩, ⟨some 19, .mv (.t 18), some (14, true), 0⟩, ⟨some 20, .mv (.t 0), some (19, false), 0⟩, ⟨some 21, .mv (.t 3), some (19, false), 0⟩, ⟨some 22, .indexS
  (.t 20) (.t 21), some (19, false), 0⟩, ⟨some 23, .bin .gtr (.t 22) (.c (.int .u8 126)), some (19, false), 0⟩, ⟨some 24, .pick (.t 19) (.c (.bool true)) (.t 23), some (14, true), 0⟩, ⟨some 25, .pick (.t
  14) (.t 24) (.c (.bool false)), none, 0⟩] 0 false []) (.cond (.t 25) (.seq (.region [⟨some 2, .mv (.c (.bool false)), none, 0⟩] 0 false []) .ret) .skip))) (.region [⟨some 8, .mv (.t 3), none, 0⟩, ⟨some
  9, .bin .add (.t 8) (.c (.int .i64 1)), none, 0⟩, ⟨some 3, .mv (.t 9), none, 0⟩] 0 false []))
def L28_0 := bL28_0
theorem wL28_0 : Wp O L28_0 Q σ h = Wp O bL28_0 Q σ h := rfl
abbrev bK28_0 : AC :=
  .seq (.region [⟨some 26, .mv (.t 0), none, 0⟩, ⟨some 27, .lenS (.t 26), none, 0⟩, ⟨some 28, .bin .leq (.t 27) (.c (.int .i64 500)), none, 0⟩, ⟨some 2, .mv (.t 28), none, 0⟩] 0 false []) .ret
def K28_0 := bK28_0
theorem wK28_0 : Wp O K28_0 Q σ h = Wp O bK28_0 Q σ h := rfl
abbrev bB28 : AC :=
  .seq (.region [⟨some 2, .mv (.c (.bool false)), none, 0⟩] 0 false []) (.seq (.seq (.region [⟨some 3, .mv (.c (.int .i64 0)), none, 0⟩] 0 false []) (.block 0 (.loop L28_0))) K28_0)
def B28 := bB28
theorem wB28 : Wp O B28 Q σ h = Wp O bB28 Q σ h := rfl
def F28 : AF := ⟨B28, [.tmp 2], false⟩
theorem tab28 : T 28 = some F28 := by kernel_rfl
/-- franking/frankingref18.line -/
abbrev bB27 : AC :=
  .seq (.region [⟨some 2, .mv (.c (.bool false)), none, 0⟩] 0 false []) (.seq (.seq (.region [⟨some 3, .mv (.t 0), none, 0⟩, ⟨some 4, .lenS (.t 3), none, 0⟩, ⟨some 5, .bin .lss (.t 4) (.c (.int .i64 4)),
  none, 0⟩] 0 false []) (.cond (.t 5) (.seq (.region [⟨some 2, .mv (.c (.bool false)), none, 0⟩] 0 false []) .ret) .skip)) (.seq (.region [⟨some 6, .mv (.t 0), none, 0⟩, ⟨some 7, .indexS (.t 6) (.c (.int
  .i64 0)), none, 0⟩, ⟨some 8, .bin .geq (.t 7) (.c (.int .u8 50)), none, 0⟩, ⟨some 9, .mv (.t 8), none, 0⟩, ⟨some 10, .mv (.t 0), some (9, true), 0⟩, ⟨some 11, .indexS (.t 10) (.c (.int .i64 0)), some
  (9, true), 0⟩, ⟨some 12, .bin .leq (.t 11) (.c (.int .u8 53)), some (9, true), 0⟩, ⟨some 13, .pick (.t 9) (.t 12) (.c (.bool false)), none, 0⟩, ⟨some 14, .mv (.t 13), none, 0⟩, ⟨some 15, .mv (.t 0),
  some (14, true), 0⟩, ⟨some 16, .indexS (.t 15) (.c (.int .i64 1)), some (14, true), 0⟩, ⟨some 17, .bin .geq (.t 16) (.c (.int .u8 48)), some (14, true), 0⟩, ⟨some 18, .pick (.t 14) (.t 17) (.c (.bool
  false)), none, 0⟩, ⟨some 19, .mv (.t 18), none, 0⟩, ⟨some 20, .mv (.t 0), some (19, true), 0⟩, ⟨some 21, .indexS (.t 20) (.c (.int .i64 1)), some (19, true), 0⟩, ⟨some 22, .bin .leq (.t 21) (.c (.int
  .u8 57)), some (19, true), 0⟩, ⟨some 23, .pick (.t 19) (.t 22) (.c (.bool false)), none, 0⟩, ⟨some 24, .mv (.t 23), none, 0⟩, ⟨some 25, .mv (.t 0), some (24, true), 0⟩, ⟨some 26, .indexS (.t 25) (.c
  (.int .i64 2)), some (24, true), 0⟩, ⟨some 27, .bin .geq (.t 26) (.c (.int .u8 48)), some (24, true), 0⟩, ⟨some 28, .pick (.t 24) (.t 27) (.c (.bool false)), none, 0⟩, ⟨some 29, .mv (.t 28), none, 0⟩,
  ⟨some 30, .mv (.t 0), some (29, true), 0⟩, ⟨some 31, .indexS (.t 30) (.c (.int .i64 2)), some (29, true), 0⟩, ⟨some 32, .bin .leq (.t 31) (.c (.int .u8 57)), some (29, true), 0⟩, ⟨some 33, .pick (.t
  29) (.t 32) (.c (.bool false)), none, 0⟩, ⟨some 34, .mv (.t 33), none, 0⟩, ⟨some 35, .mv (.t 0), some (34, true), 0⟩, ⟨some 36, .indexS (.t 35) (.c (.int .i64 3)), some (34, true), 0⟩, ⟨some 37, .bin
  .eql (.t 36) (.c (.int .u8 45)), some (34, true), 0⟩, ⟨some 38, .mv (.t 37), some (34, true), 0⟩, ⟨some 39, .mv (.t 0), some (38, false), 0⟩, ⟨some 40, .indexS (.t 39) (.c (.int .i64 3)), some (38,
  false), 0⟩, ⟨some 41, .bin .eql (.t 40) (.c (.int .u8 32)), some (38, false), 0⟩, ⟨some 42, .pick (.t 38) (.c (.bool true)) (.t 41), some (34, true), 0⟩, ⟨some 43, .pick (.t 34) (.t 42) (.c (.bool
  false)), none, 0⟩, ⟨some 44, .mv (.t 43), none, 0⟩, ⟨some 45, .mv (.t 0), some (44, true), 0⟩, ⟨some 46, .sliceS (.t 45) (some (.c (.int .i64 4))) none, some (44, true), 0⟩, ⟨some 47, .call (.c (.fn 28
  [])) [.t 46], some (44, true), 0⟩, ⟨some 48, .pick (.t 44) (.t 47) (.c (.bool false)), none, 0⟩, ⟨some 2, .mv (.t 48), none, 0⟩] 0 false []) .ret))
def B27 := bB27
theorem wB27 : Wp O B27 Q σ h = Wp O bB27 Q σ h := rfl
def F27 : AF := ⟨B27, [.tmp 2], false⟩
theorem tab27 : T 27 = some F27 := by kernel_rfl
/-- franking/frankingref18.Parse -/
abbrev bL16_0 : AC :=
  .seq (.seq (.region [⟨some 8, .mv (.t 5), none, 0⟩, ⟨some 9, .mv (.t 0), none, 0⟩, ⟨some 10, .len (.t 9), none, 0⟩, ⟨some 11, .bin .lss (.t 8) (.t 10), none, 0⟩] 0 false []) (.cond (.t 11) .skip (.exit
  0))) (.block 1 (.seq (.seq (.region [⟨some 12, .mv (.t 0), none, 0⟩, ⟨some 13, .mv (.t 5), none, 0⟩, ⟨some 14, .idx 1 (.t 12) (.t 13), none, 0⟩, ⟨some 15, .load none (.t 14), none, 0⟩, ⟨some 16, .call
  (.c (.fn 27 [])) [.t 15], none, 0⟩, ⟨some 17, .not (.t 16), none, 0⟩, ⟨some 18, .mv (.t 17), none, 0⟩, ⟨some 19, .mv (.t 0), some (18, false), 0⟩, ⟨some 20, .mv (.t 5), some (18, false), 0⟩, ⟨some 21,
  .idx 1 (.t 19) (.t 20), some (18, false), 0⟩, ⟨some 22, .load none (.t 21), some (18, false), 0⟩, ⟨some 23, .sliceS (.t 22) none (some (.c (.int .i64 3))), some (18, false), 0⟩, ⟨some 24, .mv (.t 0),
  some (18, false), 0⟩, ⟨some 25, .idx 1 (.t 24) (.c (.int .i64 0)), some (18, false), 0⟩, ⟨some 26, .load none (.t 25), some (18, false), 0⟩, ⟨some 27, .sliceS (.t 26) none (some (.c (.int .i64 3))),
  some (18, false), 0⟩, ⟨some 28, .bin .neq (.t 23) (.t 27), some (18, false), 0⟩, ⟨some 29, .pick (.t 18) (.c (.bool true)) (.t 28), none, 0⟩, ⟨some 30, .mv (.t 29), none, 0⟩, ⟨some 31, .mv (.t 5), some
  (30, false), 0⟩, ⟨some 32, .bin .geq (.t 31) (.c (.int .i64 100)), some (30, false), 0⟩, ⟨some 33, .pick (.t 30) (.c (.bool true)) (.t 32), none, 0⟩] 0 true []) (.cond (.t 33) (.seq (.region [⟨some 34,
  .build [.int .i64 0, .list 1 [] .full] [], none, 0⟩, ⟨none, .store 2 (.t 2) (.t 34), none, 0⟩, ⟨some 3, .mv (.c (.int .i64 0)), none, 0⟩, ⟨some 4, .mv (.c (.int .i64 180)), none, 0⟩] 0 false []) .ret)
  .skip)) (.seq (.seq (.region [⟨some 35, .mv (.t 0), none, 0⟩, ⟨some 36, .mv (.t 5), none, 0⟩, ⟨some 37, .idx 1 (.t 35) (.t 36), none, 0⟩, ⟨some 38, .load none (.t 37), none, 0⟩, ⟨some 39, .indexS (.t
  38) (.c (.int .i64 3)), none, 0⟩, ⟨some 40, .bin .eql (.t 39) (.c (.int .u8 32)), none, 0⟩] 0 false []) (.cond (.t 40) (.exit 0) .skip)) (.region [⟨some 41, .mv (.t 5), none, 0⟩, ⟨some 42, .bin .add
  (.t 41) (.c (.int .i64 1)), none, 0⟩, ⟨some 5, .mv (.t 42), none, 0⟩] 0 false []))))
def L16_0 := bL16_0
theorem wL16_0 : Wp O L16_0 Q σ h = Wp O bL16_0 Q σ h := rfl
abbrev bL16_1 : AC :=
  .seq (.seq (.region [⟨some 71, .mv (.t 7), none, 0⟩, ⟨some 72, .mv (.t 5), none, 0⟩, ⟨some 73, .bin .leq (.t 71) (.t 72), none, 0⟩] 0 false []) (.cond (.t 73) .skip (.exit 2))) (.seq (.block 3 (.region
  [⟨some 76, .off 1 (.t 6), none, 0⟩, ⟨some 77, .load none (.t 76), none, 0⟩, ⟨some 78, .mv (.t 0), none, 0⟩, ⟨some 79, .mv (.t 7), none, 0⟩, ⟨some 80, .idx 1 (.t 78) (.t 79), none, 0⟩, ⟨some 81, .load
  none (.t 80), none, 0⟩, ⟨some 82, .sliceS (.t 81) (some (.c (.int .i64 4))) none, none, 0⟩, ⟨some 83, .bslice 1 [.t 82], none, 0⟩, ⟨some 84, .append 1 16 9 (.t 77) (.t 83), none, 0⟩, ⟨some 85, .off 1
  (.t 6), none, 1⟩, ⟨none, .store 1 (.t 85) (.t 84), none, 1⟩] 1 true [])) (.region [⟨some 74, .mv (.t 7), none, 0⟩, ⟨some 75, .bin .add (.t 74) (.c (.int .i64 1)), none, 0⟩, ⟨some 7, .mv (.t 75), none,
  0⟩] 0 false []))
def L16_1 := bL16_1
theorem wL16_1 : Wp O L16_1 Q σ h = Wp O bL16_1 Q σ h := rfl
abbrev bK16_0 : AC :=
  .seq (.region [⟨some 86, .load (some 2) (.t 6), none, 0⟩, ⟨some 87, .mv (.t 5), none, 0⟩, ⟨some 88, .bin .add (.t 87) (.c (.int .i64 1)), none, 0⟩, ⟨none, .store 2 (.t 2) (.t 86), none, 0⟩, ⟨some 3,
  .mv (.t 88), none, 0⟩, ⟨some 4, .mv (.c (.int .i64 0)), none, 0⟩] 0 false []) .ret
def K16_0 := bK16_0
theorem wK16_0 : Wp O K16_0 Q σ h = Wp O bK16_0 Q σ h := rfl
abbrev bK16_1 : AC :=
  .seq (.seq (.region [⟨some 43, .mv (.t 5), none, 0⟩, ⟨some 44, .mv (.t 0), none, 0⟩, ⟨some 45, .len (.t 44), none, 0⟩, ⟨some 46, .bin .eql (.t 43) (.t 45), none, 0⟩] 0 false []) (.cond (.t 46) (.seq
  (.region [⟨some 47, .build [.int .i64 0, .list 1 [] .full] [], none, 0⟩, ⟨none, .store 2 (.t 2) (.t 47), none, 0⟩, ⟨some 3, .mv (.c (.int .i64 0)), none, 0⟩, ⟨some 4, .mv (.c (.int .i64 181)), none,
  0⟩] 0 false []) .ret) .skip)) (.seq (.region [⟨some 48, .mv (.t 0), none, 0⟩, ⟨some 49, .idx 1 (.t 48) (.c (.int .i64 0)), none, 0⟩, ⟨some 50, .load none (.t 49), none, 0⟩, ⟨some 51, .indexS (.t 50)
  (.c (.int .i64 0)), none, 0⟩, ⟨some 52, .bin .sub (.t 51) (.c (.int .u8 48)), none, 0⟩, ⟨some 53, .cvInt .i64 (.t 52), none, 0⟩, ⟨some 54, .bin .mul (.c (.int .i64 100)) (.t 53), none, 0⟩, ⟨some 55,
  .mv (.t 0), none, 0⟩, ⟨some 56, .idx 1 (.t 55) (.c (.int .i64 0)), none, 0⟩, ⟨some 57, .load none (.t 56), none, 0⟩, ⟨some 58, .indexS (.t 57) (.c (.int .i64 1)), none, 0⟩, ⟨some 59, .bin .sub (.t 58)
  (.c (.int .u8 48)), none, 0⟩, ⟨some 60, .cvInt .i64 (.t 59), none, 0⟩, ⟨some 61, .bin .mul (.c (.int .i64 10)) (.t 60), none, 0⟩, ⟨some 62, .bin .add (.t 54) (.t 61), none, 0⟩, ⟨some 63, .mv (.t 0),
  none, 0⟩, ⟨some 64, .idx 1 (.t 63) (.c (.int .i64 0)), none, 0⟩, ⟨some 65, .load none (.t 64), none, 0⟩, ⟨some 66, .indexS (.t 65) (.c (.int .i64 2)), none, 0⟩, ⟨some 67, .bin .sub (.t 66) (.c (.int
  .u8 48)), none, 0⟩, ⟨some 68, .cvInt .i64 (.t 67), none, 0⟩, ⟨some 69, .bin .add (.t 62) (.t 68), none, 0⟩, ⟨some 70, .build [.int .i64 0, .list 1 [] .full] [(0, 1, .t 69)], none, 0⟩, ⟨some 6, .alloc
  [.int .i64 0, .list 1 [] .full], none, 0⟩, ⟨none, .store 2 (.t 6) (.t 70), none, 1⟩] 1 true [(2, 23), (9, 23), (17, 23)]) (.seq (.seq (.region [⟨some 7, .mv (.c (.int .i64 0)), none, 0⟩] 0 false [])
  (.block 2 (.loop L16_1))) K16_0))
def K16_1 := bK16_1
theorem wK16_1 : Wp O K16_1 Q σ h = Wp O bK16_1 Q σ h := rfl
abbrev bB16 : AC :=
  .seq (.region [⟨some 2, .alloc [.int .i64 0, .list 1 [] .full], none, 0⟩, ⟨some 3, .mv (.c (.int .i64 0)), none, 1⟩, ⟨some 4, .mv (.c (.int .i64 0)), none, 1⟩] 1 false []) (.seq (.region [⟨some 5, .mv
  (.c (.int .i64 0)), none, 0⟩] 0 false []) (.seq (.block 0 (.loop L16_0)) K16_1))
def B16 := bB16
theorem wB16 : Wp O B16 Q σ h = Wp O bB16 Q σ h := rfl
def F16 : AF := ⟨B16, [.cell 2 (some 2), .tmp 3, .tmp 4], false⟩
theorem tab16 : T 16 = some F16 := by kernel_rfl
/-- franking/frankingref18.Right -/
abbrev bL17_0 : AC :=
  .seq (.seq (.region [⟨some 4, .mv (.t 3), none, 0⟩, ⟨some 5, .off 1 (.t 1), none, 0⟩, ⟨some 6, .load none (.t 5), none, 0⟩, ⟨some 7, .len (.t 6), none, 0⟩, ⟨some 8, .bin .lss (.t 4) (.t 7), none, 0⟩] 0
  false []) (.cond (.t 8) .skip (.exit 0))) (.seq (.block 1 (.seq (.region [⟨some 11, .off 1 (.t 1), none, 0⟩, ⟨some 12, .load none (.t 11), none, 0⟩, ⟨some 13, .mv (.t 3), none, 0⟩, ⟨some 14, .idx 1 (.t
  12) (.t 13), none, 0⟩, ⟨some 15, .load none (.t 14), none, 0⟩, ⟨some 16, .call (.c (.fn 28 [])) [.t 15], none, 0⟩, ⟨some 17, .not (.t 16), none, 0⟩] 0 false []) (.cond (.t 17) (.seq (.region [⟨some 2,
  .mv (.c (.bool false)), none, 0⟩] 0 false []) .ret) .skip))) (.region [⟨some 9, .mv (.t 3), none, 0⟩, ⟨some 10, .bin .add (.t 9) (.c (.int .i64 1)), none, 0⟩, ⟨some 3, .mv (.t 10), none, 0⟩] 0 false
  []))
def L17_0 := bL17_0
theorem wL17_0 : Wp O L17_0 Q σ h = Wp O bL17_0 Q σ h := rfl
abbrev bK17_0 : AC :=
  .seq (.region [⟨some 18, .off 0 (.t 1), none, 0⟩, ⟨some 19, .load none (.t 18), none, 0⟩, ⟨some 20, .call (.c (.fn 18 [])) [.t 19], none, 0⟩, ⟨some 21, .bin .neq (.t 20) (.c (.int .u8 0)), none, 0⟩,
  ⟨some 22, .mv (.t 21), none, 0⟩, ⟨some 23, .off 1 (.t 1), some (22, true), 0⟩, ⟨some 24, .load none (.t 23), some (22, true), 0⟩, ⟨some 25, .len (.t 24), some (22, true), 0⟩, ⟨some 26, .bin .geq (.t
  25) (.c (.int .i64 1)), some (22, true), 0⟩, ⟨some 27, .pick (.t 22) (.t 26) (.c (.bool false)), none, 0⟩, ⟨some 28, .mv (.t 27), none, 0⟩, ⟨some 29, .off 1 (.t 1), some (28, true), 0⟩, ⟨some 30, .load
  none (.t 29), some (28, true), 0⟩, ⟨some 31, .len (.t 30), some (28, true), 0⟩, ⟨some 32, .bin .leq (.t 31) (.c (.int .i64 100)), some (28, true), 0⟩, ⟨some 33, .pick (.t 28) (.t 32) (.c (.bool
  false)), none, 0⟩, ⟨some 2, .mv (.t 33), none, 0⟩] 0 false []) .ret
def K17_0 := bK17_0
theorem wK17_0 : Wp O K17_0 Q σ h = Wp O bK17_0 Q σ h := rfl
abbrev bB17 : AC :=
  .seq (.region [⟨some 1, .box 2 (.t 0), none, 0⟩, ⟨some 2, .mv (.c (.bool false)), none, 1⟩] 1 false []) (.seq (.seq (.region [⟨some 3, .mv (.c (.int .i64 0)), none, 0⟩] 0 false []) (.block 0 (.loop
  L17_0))) K17_0)
def B17 := bB17
theorem wB17 : Wp O B17 Q σ h = Wp O bB17 Q σ h := rfl
def F17 : AF := ⟨B17, [.tmp 2], false⟩
theorem tab17 : T 17 = some F17 := by kernel_rfl
/-- franking/frankingref18.Print -/
abbrev bL19_0 : AC :=
  .seq (.seq (.region [⟨some 28, .mv (.t 6), none, 0⟩, ⟨some 29, .off 1 (.t 1), none, 0⟩, ⟨some 30, .load none (.t 29), none, 0⟩, ⟨some 31, .len (.t 30), none, 0⟩, ⟨some 32, .bin .lss (.t 28) (.t 31),
  none, 0⟩] 0 false []) (.cond (.t 32) .skip (.exit 0))) (.seq (.block 1 (.seq (.region [⟨some 35, .mv (.t 6), none, 0⟩, ⟨some 36, .off 1 (.t 1), none, 0⟩, ⟨some 37, .load none (.t 36), none, 0⟩, ⟨some
  38, .len (.t 37), none, 0⟩, ⟨some 39, .bin .sub (.t 38) (.c (.int .i64 1)), none, 0⟩, ⟨some 40, .bin .lss (.t 35) (.t 39), none, 0⟩] 0 false []) (.cond (.t 40) (.region [⟨some 41, .mv (.t 5), none, 0⟩,
  ⟨some 42, .mv (.t 4), none, 0⟩, ⟨some 43, .bin .add (.t 42) (.c (.str [45])), none, 0⟩, ⟨some 44, .off 1 (.t 1), none, 0⟩, ⟨some 45, .load none (.t 44), none, 0⟩, ⟨some 46, .mv (.t 6), none, 0⟩, ⟨some
  47, .idx 1 (.t 45) (.t 46), none, 0⟩, ⟨some 48, .load none (.t 47), none, 0⟩, ⟨some 49, .bin .add (.t 43) (.t 48), none, 0⟩, ⟨some 50, .bslice 1 [.t 49], none, 0⟩, ⟨some 51, .append 1 16 9 (.t 41) (.t
  50), none, 0⟩, ⟨some 5, .mv (.t 51), none, 1⟩] 1 false []) (.region [⟨some 52, .mv (.t 5), none, 0⟩, ⟨some 53, .mv (.t 4), none, 0⟩, ⟨some 54, .bin .add (.t 53) (.c (.str [32])), none, 0⟩, ⟨some 55,
  .off 1 (.t 1), none, 0⟩, ⟨some 56, .load none (.t 55), none, 0⟩, ⟨some 57, .mv (.t 6), none, 0⟩, ⟨some 58, .idx 1 (.t 56) (.t 57), none, 0⟩, ⟨some 59, .load none (.t 58), none, 0⟩, ⟨some 60, .bin .add
  (.t 54) (.t 59), none, 0⟩, ⟨some 61, .bslice 1 [.t 60], none, 0⟩, ⟨some 62, .append 1 16 9 (.t 52) (.t 61), none, 0⟩, ⟨some 5, .mv (.t 62), none, 1⟩] 1 false [])))) (.region [⟨some 33, .mv (.t 6),
  none, 0⟩, ⟨some 34, .bin .add (.t 33) (.c (.int .i64 1)), none, 0⟩, ⟨some 6, .mv (.t 34), none, 0⟩] 0 false []))
def L19_0 := bL19_0
theorem wL19_0 : Wp O L19_0 Q σ h = Wp O bL19_0 Q σ h := rfl
abbrev bK19_0 : AC :=
  .seq (.region [⟨some 63, .mv (.t 5), none, 0⟩, ⟨some 2, .mv (.t 63), none, 0⟩, ⟨some 3, .mv (.c (.int .i64 0)), none, 0⟩] 0 false []) .ret
def K19_0 := bK19_0
theorem wK19_0 : Wp O K19_0 Q σ h = Wp O bK19_0 Q σ h := rfl
abbrev bB19 : AC :=
  .seq (.region [⟨some 1, .box 2 (.t 0), none, 0⟩, ⟨some 2, .mv (.c (.list 1 [] .full)), none, 1⟩, ⟨some 3, .mv (.c (.int .i64 0)), none, 1⟩] 1 false []) (.seq (.seq (.region [⟨some 7, .load (some 2) (.t
  1), none, 0⟩, ⟨some 8, .call (.c (.fn 17 [])) [.t 7], none, 0⟩, ⟨some 9, .not (.t 8), none, 0⟩] 0 false []) (.cond (.t 9) (.seq (.region [⟨some 2, .mv (.c (.list 1 [] .full)), none, 0⟩, ⟨some 3, .mv
  (.c (.int .i64 180)), none, 0⟩] 0 false []) .ret) .skip)) (.seq (.region [⟨some 10, .off 0 (.t 1), none, 0⟩, ⟨some 11, .load none (.t 10), none, 0⟩, ⟨some 12, .bin .quo (.t 11) (.c (.int .i64 100)),
  none, 0⟩, ⟨some 13, .bin .add (.c (.int .i64 48)) (.t 12), none, 0⟩, ⟨some 14, .cvInt .u8 (.t 13), none, 0⟩, ⟨some 15, .off 0 (.t 1), none, 0⟩, ⟨some 16, .load none (.t 15), none, 0⟩, ⟨some 17, .bin
  .quo (.t 16) (.c (.int .i64 10)), none, 0⟩, ⟨some 18, .bin .rem (.t 17) (.c (.int .i64 10)), none, 0⟩, ⟨some 19, .bin .add (.c (.int .i64 48)) (.t 18), none, 0⟩, ⟨some 20, .cvInt .u8 (.t 19), none, 0⟩,
  ⟨some 21, .off 0 (.t 1), none, 0⟩, ⟨some 22, .load none (.t 21), none, 0⟩, ⟨some 23, .bin .rem (.t 22) (.c (.int .i64 10)), none, 0⟩, ⟨some 24, .bin .add (.c (.int .i64 48)) (.t 23), none, 0⟩, ⟨some
  25, .cvInt .u8 (.t 24), none, 0⟩, ⟨some 26, .bslice 1 [.t 14, .t 20, .t 25], none, 0⟩, ⟨some 27, .cvBytesStr (.t 26), none, 0⟩, ⟨some 4, .mv (.t 27), none, 0⟩] 0 false []) (.seq (.region [⟨some 5, .mv
  (.c (.list 1 [] .full)), none, 0⟩] 0 false []) (.seq (.seq (.region [⟨some 6, .mv (.c (.int .i64 0)), none, 0⟩] 0 false []) (.block 0 (.loop L19_0))) K19_0))))
def B19 := bB19
theorem wB19 : Wp O B19 Q σ h = Wp O bB19 Q σ h := rfl
def F19 : AF := ⟨B19, [.tmp 2, .tmp 3], false⟩
theorem tab19 : T 19 = some F19 := by kernel_rfl
/-- franking/reply.Say -/
abbrev bB20 : AC :=
  .seq (.region [⟨some 4, .alloc [.int .i64 0, .list 1 [] .full], none, 0⟩, ⟨some 5, .mv (.c (.int .i64 0)), none, 1⟩] 1 false []) (.seq (.region [⟨some 7, .mv (.t 0), none, 0⟩, ⟨some 8, .mv (.t 1),
  none, 0⟩, ⟨some 9, .call (.c (.fn 29 [])) [.t 8], none, 0⟩, ⟨some 10, .build [.int .i64 0, .list 1 [] .full] [(0, 1, .t 7), (1, 1, .t 9)], none, 0⟩, ⟨some 6, .alloc [.int .i64 0, .list 1 [] .full],
  none, 0⟩, ⟨none, .store 2 (.t 6) (.t 10), none, 1⟩] 1 false []) (.seq (.seq (.region [⟨some 11, .load (some 2) (.t 6), none, 0⟩, ⟨some 12, .call (.c (.fn 10 [])) [.t 11], none, 0⟩, ⟨some 13, .not (.t
  12), none, 0⟩] 0 false []) (.cond (.t 13) (.seq (.region [⟨some 14, .build [.int .i64 0, .list 1 [] .full] [], none, 0⟩, ⟨none, .store 2 (.t 4) (.t 14), none, 0⟩, ⟨some 5, .mv (.c (.int .i64 180)),
  none, 0⟩] 0 false []) .ret) .skip)) (.seq (.region [⟨some 15, .load (some 2) (.t 6), none, 0⟩, ⟨none, .store 2 (.t 4) (.t 15), none, 0⟩, ⟨some 5, .mv (.c (.int .i64 0)), none, 0⟩] 0 false []) .ret)))
def B20 := bB20
theorem wB20 : Wp O B20 Q σ h = Wp O bB20 Q σ h := rfl
def F20 : AF := ⟨B20, [.cell 4 (some 2), .tmp 5], false⟩
theorem tab20 : T 20 = some F20 := by kernel_rfl
/-- franking/frankinglaw18.ReplyTells -/
abbrev bL6_0 : AC :=
  .seq (.seq (.region [⟨some 29, .mv (.t 7), none, 0⟩, ⟨some 30, .mv (.t 0), none, 0⟩, ⟨some 31, .len (.t 30), none, 0⟩, ⟨some 32, .bin .lss (.t 29) (.t 31), none, 0⟩, ⟨some 33, .mv (.t 32), none, 0⟩,
  ⟨some 34, .mv (.t 7), some (33, false), 0⟩, ⟨some 35, .off 1 (.t 4), some (33, false), 0⟩, ⟨some 36, .load none (.t 35), some (33, false), 0⟩, ⟨some 37, .len (.t 36), some (33, false), 0⟩, ⟨some 38,
  .bin .lss (.t 34) (.t 37), some (33, false), 0⟩, ⟨some 39, .pick (.t 33) (.c (.bool true)) (.t 38), none, 0⟩] 0 false []) (.cond (.t 39) .skip (.exit 0))) (.seq (.block 1 (.seq (.region [⟨some 42, .mv
  (.t 7), none, 0⟩, ⟨some 43, .mv (.t 0), none, 0⟩, ⟨some 44, .len (.t 43), none, 0⟩, ⟨some 45, .bin .lss (.t 42) (.t 44), none, 0⟩, ⟨some 46, .mv (.t 45), none, 0⟩, ⟨some 47, .mv (.t 0), some (46,
  true), 0⟩, ⟨some 48, .mv (.t 7), some (46, true), 0⟩, ⟨some 49, .idx 1 (.t 47) (.t 48), some (46, true), 0⟩, ⟨some 50, .load none (.t 49), some (46, true), 0⟩, ⟨some 51, .lenS (.t 50), some (46, true),
  0⟩, ⟨some 52, .bin .gtr (.t 51) (.c (.int .i64 600)), some (46, true), 0⟩, ⟨some 53, .pick (.t 46) (.t 52) (.c (.bool false)), none, 0⟩, ⟨some 54, .mv (.t 53), none, 0⟩, ⟨some 55, .mv (.t 7), some (54,
  false), 0⟩, ⟨some 56, .off 1 (.t 4), some (54, false), 0⟩, ⟨some 57, .load none (.t 56), some (54, false), 0⟩, ⟨some 58, .len (.t 57), some (54, false), 0⟩, ⟨some 59, .bin .lss (.t 55) (.t 58), some
  (54, false), 0⟩, ⟨some 60, .mv (.t 59), some (54, false), 0⟩, ⟨some 61, .off 1 (.t 4), some (60, true), 0⟩, ⟨some 62, .load none (.t 61), some (60, true), 0⟩, ⟨some 63, .mv (.t 7), some (60, true), 0⟩,
  ⟨some 64, .idx 1 (.t 62) (.t 63), some (60, true), 0⟩, ⟨some 65, .load none (.t 64), some (60, true), 0⟩, ⟨some 66, .lenS (.t 65), some (60, true), 0⟩, ⟨some 67, .bin .gtr (.t 66) (.c (.int .i64 600)),
  some (60, true), 0⟩, ⟨some 68, .pick (.t 60) (.t 67) (.c (.bool false)), some (54, false), 0⟩, ⟨some 69, .pick (.t 54) (.c (.bool true)) (.t 68), none, 0⟩] 0 false []) (.cond (.t 69) (.seq (.region
  [⟨some 70, .call (.c (.fn 8 [])) [], none, 0⟩, ⟨some 6, .mv (.t 70), none, 0⟩] 0 false []) .ret) .skip))) (.region [⟨some 40, .mv (.t 7), none, 0⟩, ⟨some 41, .bin .add (.t 40) (.c (.int .i64 1)), none,
  0⟩, ⟨some 7, .mv (.t 41), none, 0⟩] 0 false []))
def L6_0 := bL6_0
theorem wL6_0 : Wp O L6_0 Q σ h = Wp O bL6_0 Q σ h := rfl
abbrev bL6_1 : AC :=
  .seq (.region [⟨some 144, .bin .lss (.t 143) (.t 142), none, 0⟩] 0 false []) (.seq (.cond (.t 144) .skip (.exit 2)) (.seq (.block 3 (.seq (.region [⟨some 145, .mv (.t 143), none, 0⟩, ⟨some 18, .mv (.t
  145), none, 0⟩] 0 false []) (.region [⟨some 146, .mv (.t 16), none, 0⟩, ⟨some 147, .mv (.t 18), none, 0⟩, ⟨some 148, .idx 1 (.t 146) (.t 147), none, 0⟩, ⟨some 149, .load none (.t 148), none, 0⟩, ⟨some
  150, .bin .add (.t 149) (.c (.str [46])), none, 0⟩, ⟨some 151, .idx 1 (.t 146) (.t 147), none, 0⟩, ⟨none, .store 1 (.t 151) (.t 150), none, 0⟩] 0 false []))) (.region [⟨some 152, .bin .add (.t 143) (.c
  (.int .i64 1)), none, 0⟩, ⟨some 143, .mv (.t 152), none, 0⟩] 0 false [])))
def L6_1 := bL6_1
theorem wL6_1 : Wp O L6_1 Q σ h = Wp O bL6_1 Q σ h := rfl
abbrev bK6_0 : AC :=
  .seq (.seq (.region [⟨some 153, .mv (.t 10), none, 0⟩, ⟨some 154, .mv (.t 13), none, 0⟩, ⟨some 155, .bin .neq (.t 153) (.t 154), none, 0⟩] 0 false []) (.cond (.t 155) (.seq (.region [⟨some 6, .mv (.c
  (.bool false)), none, 0⟩] 0 false []) .ret) .skip)) (.seq (.region [⟨some 156, .mv (.t 10), none, 0⟩, ⟨some 157, .bin .neq (.t 156) (.c (.int .i64 0)), none, 0⟩, ⟨some 158, .mv (.t 157), none, 0⟩,
  ⟨some 159, .load (some 2) (.t 17), some (158, true), 0⟩, ⟨some 160, .build [.int .i64 0, .list 1 [] .full] [], some (158, true), 0⟩, ⟨some 161, .call (.c (.fn 12 [])) [.t 159, .t 160], some (158,
  true), 0⟩, ⟨some 162, .pick (.t 158) (.t 161) (.c (.bool false)), none, 0⟩, ⟨some 163, .mv (.t 162), none, 0⟩, ⟨some 164, .mv (.t 10), some (163, false), 0⟩, ⟨some 165, .bin .eql (.t 164) (.c (.int
  .i64 0)), some (163, false), 0⟩, ⟨some 166, .mv (.t 165), some (163, false), 0⟩, ⟨some 167, .load (some 2) (.t 17), some (166, true), 0⟩, ⟨some 168, .load (some 2) (.t 4), some (166, true), 0⟩, ⟨some
  169, .call (.c (.fn 12 [])) [.t 167, .t 168], some (166, true), 0⟩, ⟨some 170, .pick (.t 166) (.t 169) (.c (.bool false)), some (163, false), 0⟩, ⟨some 171, .pick (.t 163) (.c (.bool true)) (.t 170),
  none, 0⟩, ⟨some 172, .mv (.t 171), none, 0⟩, ⟨some 173, .call (.c (.fn 8 [])) [], some (172, true), 0⟩, ⟨some 174, .pick (.t 172) (.t 173) (.c (.bool false)), none, 0⟩, ⟨some 6, .mv (.t 174), none, 0⟩]
  0 false []) .ret)
def K6_0 := bK6_0
theorem wK6_0 : Wp O K6_0 Q σ h = Wp O bK6_0 Q σ h := rfl
abbrev bK6_1 : AC :=
  .seq (.region [⟨some 72, .mv (.t 0), none, 0⟩, ⟨some 73, .call (.c (.fn 11 [])) [.t 72], none, 0⟩, ⟨some 71, .mv (.t 73), none, 0⟩, ⟨some 74, .ext (.t 71) 0, none, 0⟩, ⟨some 75, .ext (.t 71) 1, none,
  0⟩, ⟨some 76, .ext (.t 71) 2, none, 0⟩, ⟨some 8, .alloc [.int .i64 0, .list 1 [] .full], none, 0⟩, ⟨none, .store 2 (.t 8) (.t 74), none, 1⟩, ⟨some 9, .mv (.t 75), none, 1⟩, ⟨some 10, .mv (.t 76), none,
  1⟩] 1 false []) (.seq (.region [⟨some 78, .mv (.t 0), none, 0⟩, ⟨some 79, .call (.c (.fn 16 [])) [.t 78], none, 0⟩, ⟨some 77, .mv (.t 79), none, 0⟩, ⟨some 80, .ext (.t 77) 0, none, 0⟩, ⟨some 81, .ext
  (.t 77) 1, none, 0⟩, ⟨some 82, .ext (.t 77) 2, none, 0⟩, ⟨some 11, .alloc [.int .i64 0, .list 1 [] .full], none, 0⟩, ⟨none, .store 2 (.t 11) (.t 80), none, 1⟩, ⟨some 12, .mv (.t 81), none, 1⟩, ⟨some
  13, .mv (.t 82), none, 1⟩] 1 false []) (.seq (.seq (.region [⟨some 83, .load (some 2) (.t 8), none, 0⟩, ⟨some 84, .load (some 2) (.t 11), none, 0⟩, ⟨some 85, .call (.c (.fn 12 [])) [.t 83, .t 84],
  none, 0⟩, ⟨some 86, .not (.t 85), none, 0⟩, ⟨some 87, .mv (.t 86), none, 0⟩, ⟨some 88, .mv (.t 9), some (87, false), 0⟩, ⟨some 89, .mv (.t 12), some (87, false), 0⟩, ⟨some 90, .bin .neq (.t 88) (.t
  89), some (87, false), 0⟩, ⟨some 91, .pick (.t 87) (.c (.bool true)) (.t 90), none, 0⟩, ⟨some 92, .mv (.t 91), none, 0⟩, ⟨some 93, .mv (.t 10), some (92, false), 0⟩, ⟨some 94, .mv (.t 13), some (92,
  false), 0⟩, ⟨some 95, .bin .neq (.t 93) (.t 94), some (92, false), 0⟩, ⟨some 96, .pick (.t 92) (.c (.bool true)) (.t 95), none, 0⟩, ⟨some 97, .mv (.t 96), none, 0⟩, ⟨some 98, .load (some 2) (.t 4),
  some (97, false), 0⟩, ⟨some 99, .call (.c (.fn 10 [])) [.t 98], some (97, false), 0⟩, ⟨some 100, .load (some 2) (.t 4), some (97, false), 0⟩, ⟨some 101, .call (.c (.fn 17 [])) [.t 100], some (97,
  false), 0⟩, ⟨some 102, .eq true none [(0, LK.bool)] (.t 99) (.t 101), some (97, false), 0⟩, ⟨some 103, .pick (.t 97) (.c (.bool true)) (.t 102), none, 0⟩, ⟨some 104, .mv (.t 103), none, 0⟩, ⟨some 105,
  .mv (.t 2), some (104, false), 0⟩, ⟨some 106, .call (.c (.fn 13 [])) [.t 105], some (104, false), 0⟩, ⟨some 107, .mv (.t 2), some (104, false), 0⟩, ⟨some 108, .call (.c (.fn 18 [])) [.t 107], some
  (104, false), 0⟩, ⟨some 109, .bin .neq (.t 106) (.t 108), some (104, false), 0⟩, ⟨some 110, .pick (.t 104) (.c (.bool true)) (.t 109), none, 0⟩] 0 true [(16, 17)]) (.cond (.t 110) (.seq (.region [⟨some
  6, .mv (.c (.bool false)), none, 0⟩] 0 false []) .ret) .skip)) (.seq (.region [⟨some 112, .load (some 2) (.t 4), none, 0⟩, ⟨some 113, .call (.c (.fn 9 [])) [.t 112], none, 0⟩, ⟨some 111, .mv (.t 113),
  none, 0⟩, ⟨some 114, .ext (.t 111) 0, none, 0⟩, ⟨some 115, .ext (.t 111) 1, none, 0⟩, ⟨some 14, .mv (.t 114), none, 0⟩, ⟨some 10, .mv (.t 115), none, 0⟩] 0 false []) (.seq (.region [⟨some 117, .load
  (some 2) (.t 4), none, 0⟩, ⟨some 118, .call (.c (.fn 19 [])) [.t 117], none, 0⟩, ⟨some 116, .mv (.t 118), none, 0⟩, ⟨some 119, .ext (.t 116) 0, none, 0⟩, ⟨some 120, .ext (.t 116) 1, none, 0⟩, ⟨some 15,
  .mv (.t 119), none, 0⟩, ⟨some 13, .mv (.t 120), none, 0⟩] 0 false []) (.seq (.seq (.region [⟨some 121, .mv (.t 14), none, 0⟩, ⟨some 122, .mv (.t 15), none, 0⟩, ⟨some 123, .call (.c (.fn 14 [])) [.t
  121, .t 122], none, 0⟩, ⟨some 124, .not (.t 123), none, 0⟩, ⟨some 125, .mv (.t 124), none, 0⟩, ⟨some 126, .mv (.t 10), some (125, false), 0⟩, ⟨some 127, .mv (.t 13), some (125, false), 0⟩, ⟨some 128,
  .bin .neq (.t 126) (.t 127), some (125, false), 0⟩, ⟨some 129, .pick (.t 125) (.c (.bool true)) (.t 128), none, 0⟩] 0 false []) (.cond (.t 129) (.seq (.region [⟨some 6, .mv (.c (.bool false)), none,
  0⟩] 0 false []) .ret) .skip)) (.seq (.region [⟨some 130, .cvStrBytesM (.c (.str [])), none, 0⟩, ⟨some 131, .off 1 (.t 4), none, 1⟩, ⟨some 132, .load none (.t 131), none, 1⟩, ⟨some 133, .append 1 16 9
  (.t 130) (.t 132), none, 1⟩, ⟨some 16, .mv (.t 133), none, 2⟩] 2 false []) (.seq (.region [⟨some 135, .off 0 (.t 4), none, 0⟩, ⟨some 136, .load none (.t 135), none, 0⟩, ⟨some 137, .mv (.t 16), none,
  0⟩, ⟨some 138, .call (.c (.fn 20 [])) [.t 136, .t 137], none, 0⟩, ⟨some 134, .mv (.t 138), none, 0⟩, ⟨some 139, .ext (.t 134) 0, none, 0⟩, ⟨some 140, .ext (.t 134) 1, none, 0⟩, ⟨some 17, .alloc [.int
  .i64 0, .list 1 [] .full], none, 0⟩, ⟨none, .store 2 (.t 17) (.t 139), none, 1⟩, ⟨some 10, .mv (.t 140), none, 1⟩] 1 false []) (.seq (.seq (.region [⟨some 141, .mv (.t 16), none, 0⟩, ⟨some 142, .len
  (.t 141), none, 0⟩, ⟨some 143, .mv (.c (.int .i64 0)), none, 0⟩] 0 false []) (.block 2 (.loop L6_1))) K6_0))))))))
def K6_1 := bK6_1
theorem wK6_1 : Wp O K6_1 Q σ h = Wp O bK6_1 Q σ h := rfl
abbrev bB6 : AC :=
  .seq (.region [⟨some 4, .box 2 (.t 1), none, 0⟩, ⟨some 6, .mv (.c (.bool false)), none, 1⟩] 1 false []) (.seq (.seq (.region [⟨some 19, .mv (.t 0), none, 0⟩, ⟨some 20, .len (.t 19), none, 0⟩, ⟨some 21,
  .bin .gtr (.t 20) (.c (.int .i64 150)), none, 0⟩, ⟨some 22, .mv (.t 21), none, 0⟩, ⟨some 23, .off 1 (.t 4), some (22, false), 0⟩, ⟨some 24, .load none (.t 23), some (22, false), 0⟩, ⟨some 25, .len (.t
  24), some (22, false), 0⟩, ⟨some 26, .bin .gtr (.t 25) (.c (.int .i64 150)), some (22, false), 0⟩, ⟨some 27, .pick (.t 22) (.c (.bool true)) (.t 26), none, 0⟩] 0 false []) (.cond (.t 27) (.seq (.region
  [⟨some 28, .call (.c (.fn 8 [])) [], none, 0⟩, ⟨some 6, .mv (.t 28), none, 0⟩] 0 false []) .ret) .skip)) (.seq (.seq (.region [⟨some 7, .mv (.c (.int .i64 0)), none, 0⟩] 0 false []) (.block 0 (.loop
  L6_0))) K6_1))
def B6 := bB6
theorem wB6 : Wp O B6 Q σ h = Wp O bB6 Q σ h := rfl
def F6 : AF := ⟨B6, [.tmp 6], false⟩
theorem tab6 : T 6 = some F6 := by kernel_rfl
/-- franking/frankinglaw18.ReplyLimits -/
abbrev bL7_0 : AC :=
  .seq (.region [⟨some 76, .bin .lss (.t 75) (.t 74), none, 0⟩] 0 false []) (.seq (.cond (.t 76) .skip (.exit 0)) (.seq (.block 1 (.seq (.region [⟨some 77, .mv (.t 75), none, 0⟩, ⟨some 13, .mv (.t 77),
  none, 0⟩] 0 false []) (.region [⟨some 78, .mv (.t 5), none, 0⟩, ⟨some 79, .mv (.t 13), none, 0⟩, ⟨some 80, .idx 1 (.t 78) (.t 79), none, 0⟩, ⟨none, .store 1 (.t 80) (.c (.str [53, 53, 48, 45])), none,
  0⟩] 0 false []))) (.region [⟨some 81, .bin .add (.t 75) (.c (.int .i64 1)), none, 0⟩, ⟨some 75, .mv (.t 81), none, 0⟩] 0 false [])))
def L7_0 := bL7_0
theorem wL7_0 : Wp O L7_0 Q σ h = Wp O bL7_0 Q σ h := rfl
abbrev bK7_0 : AC :=
  .seq (.seq (.region [⟨some 82, .mv (.t 12), none, 0⟩, ⟨some 83, .bin .eql (.t 82) (.c (.int .i64 0)), none, 0⟩, ⟨some 84, .mv (.t 3), none, 0⟩, ⟨some 85, .bin .eql (.t 84) (.c (.int .i64 0)), none, 0⟩,
  ⟨some 86, .eq true none [(0, LK.bool)] (.t 83) (.t 85), none, 0⟩, ⟨some 87, .mv (.t 86), none, 0⟩, ⟨some 88, .mv (.t 3), some (87, false), 0⟩, ⟨some 89, .bin .eql (.t 88) (.c (.int .i64 0)), some (87,
  false), 0⟩, ⟨some 90, .mv (.t 89), some (87, false), 0⟩, ⟨some 91, .mv (.t 5), some (90, true), 0⟩, ⟨some 92, .call (.c (.fn 15 [])) [.c (.int .i64 181), .t 91], some (90, true), 0⟩, ⟨some 93, .not (.t
  92), some (90, true), 0⟩, ⟨some 94, .pick (.t 90) (.t 93) (.c (.bool false)), some (87, false), 0⟩, ⟨some 95, .pick (.t 87) (.c (.bool true)) (.t 94), none, 0⟩, ⟨some 96, .mv (.t 95), none, 0⟩, ⟨some
  97, .mv (.t 3), some (96, false), 0⟩, ⟨some 98, .bin .gtr (.t 97) (.c (.int .i64 0)), some (96, false), 0⟩, ⟨some 99, .mv (.t 98), some (96, false), 0⟩, ⟨some 100, .mv (.t 5), some (99, true), 0⟩,
  ⟨some 101, .call (.c (.fn 15 [])) [.c (.int .i64 180), .t 100], some (99, true), 0⟩, ⟨some 102, .not (.t 101), some (99, true), 0⟩, ⟨some 103, .pick (.t 99) (.t 102) (.c (.bool false)), some (96,
  false), 0⟩, ⟨some 104, .pick (.t 96) (.c (.bool true)) (.t 103), none, 0⟩] 0 false []) (.cond (.t 104) (.seq (.region [⟨some 2, .mv (.c (.bool false)), none, 0⟩] 0 false []) .ret) .skip)) (.seq
  (.region [⟨some 105, .mv (.t 5), none, 0⟩, ⟨some 106, .mv (.t 5), none, 0⟩, ⟨some 107, .len (.t 106), none, 0⟩, ⟨some 108, .bin .sub (.t 107) (.c (.int .i64 1)), none, 0⟩, ⟨some 109, .idx 1 (.t 105)
  (.t 108), none, 0⟩, ⟨none, .store 1 (.t 109) (.c (.str [53, 53, 48, 32])), none, 0⟩] 0 false []) (.seq (.region [⟨some 111, .mv (.t 5), none, 0⟩, ⟨some 112, .call (.c (.fn 11 [])) [.t 111], none, 0⟩,
  ⟨some 110, .mv (.t 112), none, 0⟩, ⟨some 113, .ext (.t 110) 0, none, 0⟩, ⟨some 114, .ext (.t 110) 1, none, 0⟩, ⟨some 115, .ext (.t 110) 2, none, 0⟩, ⟨some 14, .alloc [.int .i64 0, .list 1 [] .full],
  none, 0⟩, ⟨none, .store 2 (.t 14) (.t 113), none, 1⟩, ⟨some 15, .mv (.t 114), none, 1⟩, ⟨some 16, .mv (.t 115), none, 1⟩] 1 false []) (.seq (.region [⟨some 116, .mv (.t 16), none, 0⟩, ⟨some 117, .bin
  .eql (.t 116) (.c (.int .i64 0)), none, 0⟩, ⟨some 118, .mv (.t 3), none, 0⟩, ⟨some 119, .bin .eql (.t 118) (.c (.int .i64 0)), none, 0⟩, ⟨some 120, .eq false none [(0, LK.bool)] (.t 117) (.t 119),
  none, 0⟩, ⟨some 121, .mv (.t 120), none, 0⟩, ⟨some 122, .mv (.t 3), some (121, true), 0⟩, ⟨some 123, .bin .gtr (.t 122) (.c (.int .i64 0)), some (121, true), 0⟩, ⟨some 124, .mv (.t 123), some (121,
  true), 0⟩, ⟨some 125, .mv (.t 15), some (124, true), 0⟩, ⟨some 126, .bin .eql (.t 125) (.c (.int .i64 0)), some (124, true), 0⟩, ⟨some 127, .pick (.t 124) (.t 126) (.c (.bool false)), some (121, true),
  0⟩, ⟨some 128, .mv (.t 127), some (121, true), 0⟩, ⟨some 129, .mv (.t 15), some (128, false), 0⟩, ⟨some 130, .bin .eql (.t 129) (.c (.int .i64 100)), some (128, false), 0⟩, ⟨some 131, .pick (.t 128)
  (.c (.bool true)) (.t 130), some (121, true), 0⟩, ⟨some 132, .pick (.t 121) (.t 131) (.c (.bool false)), none, 0⟩, ⟨some 133, .mv (.t 132), none, 0⟩, ⟨some 134, .call (.c (.fn 8 [])) [], some (133,
  true), 0⟩, ⟨some 135, .pick (.t 133) (.t 134) (.c (.bool false)), none, 0⟩, ⟨some 2, .mv (.t 135), none, 0⟩] 0 false []) .ret)))
def K7_0 := bK7_0
theorem wK7_0 : Wp O K7_0 Q σ h = Wp O bK7_0 Q σ h := rfl
abbrev bB7 : AC :=
  .seq (.region [⟨some 2, .mv (.c (.bool false)), none, 0⟩] 0 false []) (.seq (.region [⟨some 17, .mv (.t 0), none, 0⟩, ⟨some 18, .bin .rem (.t 17) (.c (.int .u8 3)), none, 0⟩, ⟨some 19, .cvInt .i64 (.t
  18), none, 0⟩, ⟨some 3, .mv (.t 19), none, 0⟩] 0 false []) (.seq (.region [⟨some 20, .mv (.t 3), none, 0⟩, ⟨some 21, .bin .add (.c (.int .i64 500)) (.t 20), none, 0⟩, ⟨some 22, .call (.c (.fn 21 []))
  [.c (.str [120]), .t 21], none, 0⟩, ⟨some 4, .mv (.t 22), none, 0⟩] 0 false []) (.seq (.region [⟨some 23, .mv (.t 3), none, 0⟩, ⟨some 24, .bin .add (.c (.int .i64 100)) (.t 23), none, 0⟩, ⟨some 25,
  .mksliceM [.str []] 1 16 (.t 24) (.t 24), none, 0⟩, ⟨some 5, .mv (.t 25), none, 1⟩] 1 false []) (.seq (.region [⟨some 27, .mv (.t 4), none, 0⟩, ⟨some 28, .bslice 1 [.t 27], none, 0⟩, ⟨some 29, .call
  (.c (.fn 20 [])) [.c (.int .i64 250), .t 28], none, 0⟩, ⟨some 26, .mv (.t 29), none, 0⟩, ⟨some 30, .ext (.t 26) 0, none, 0⟩, ⟨some 31, .ext (.t 26) 1, none, 0⟩, ⟨some 6, .alloc [.int .i64 0, .list 1 []
  .full], none, 0⟩, ⟨none, .store 2 (.t 6) (.t 30), none, 1⟩, ⟨some 7, .mv (.t 31), none, 1⟩] 1 false []) (.seq (.region [⟨some 33, .mv (.t 5), none, 0⟩, ⟨some 34, .call (.c (.fn 20 [])) [.c (.int .i64
  550), .t 33], none, 0⟩, ⟨some 32, .mv (.t 34), none, 0⟩, ⟨some 35, .ext (.t 32) 0, none, 0⟩, ⟨some 36, .ext (.t 32) 1, none, 0⟩, ⟨some 8, .alloc [.int .i64 0, .list 1 [] .full], none, 0⟩, ⟨none, .store
  2 (.t 8) (.t 35), none, 1⟩, ⟨some 9, .mv (.t 36), none, 1⟩] 1 false []) (.seq (.seq (.region [⟨some 37, .mv (.t 7), none, 0⟩, ⟨some 38, .bin .eql (.t 37) (.c (.int .i64 0)), none, 0⟩, ⟨some 39, .mv (.t
  3), none, 0⟩, ⟨some 40, .bin .eql (.t 39) (.c (.int .i64 0)), none, 0⟩, ⟨some 41, .eq true none [(0, LK.bool)] (.t 38) (.t 40), none, 0⟩, ⟨some 42, .mv (.t 41), none, 0⟩, ⟨some 43, .mv (.t 9), some
  (42, false), 0⟩, ⟨some 44, .bin .eql (.t 43) (.c (.int .i64 0)), some (42, false), 0⟩, ⟨some 45, .mv (.t 3), some (42, false), 0⟩, ⟨some 46, .bin .eql (.t 45) (.c (.int .i64 0)), some (42, false), 0⟩,
  ⟨some 47, .eq true none [(0, LK.bool)] (.t 44) (.t 46), some (42, false), 0⟩, ⟨some 48, .pick (.t 42) (.c (.bool true)) (.t 47), none, 0⟩, ⟨some 49, .mv (.t 48), none, 0⟩, ⟨some 50, .mv (.t 3), some
  (49, false), 0⟩, ⟨some 51, .bin .eql (.t 50) (.c (.int .i64 0)), some (49, false), 0⟩, ⟨some 52, .mv (.t 51), some (49, false), 0⟩, ⟨some 53, .off 1 (.t 6), some (52, true), 0⟩, ⟨some 54, .load none
  (.t 53), some (52, true), 0⟩, ⟨some 55, .len (.t 54), some (52, true), 0⟩, ⟨some 56, .bin .neq (.t 55) (.c (.int .i64 1)), some (52, true), 0⟩, ⟨some 57, .mv (.t 56), some (52, true), 0⟩, ⟨some 58,
  .off 1 (.t 8), some (57, false), 0⟩, ⟨some 59, .load none (.t 58), some (57, false), 0⟩, ⟨some 60, .len (.t 59), some (57, false), 0⟩, ⟨some 61, .bin .neq (.t 60) (.c (.int .i64 100)), some (57,
  false), 0⟩, ⟨some 62, .pick (.t 57) (.c (.bool true)) (.t 61), some (52, true), 0⟩, ⟨some 63, .pick (.t 52) (.t 62) (.c (.bool false)), some (49, false), 0⟩, ⟨some 64, .pick (.t 49) (.c (.bool true))
  (.t 63), none, 0⟩] 0 false []) (.cond (.t 64) (.seq (.region [⟨some 2, .mv (.c (.bool false)), none, 0⟩] 0 false []) .ret) .skip)) (.seq (.region [⟨some 66, .mv (.t 4), none, 0⟩, ⟨some 67, .bin .add
  (.c (.str [50, 53, 48, 32])) (.t 66), none, 0⟩, ⟨some 68, .bslice 1 [.t 67], none, 0⟩, ⟨some 69, .call (.c (.fn 11 [])) [.t 68], none, 0⟩, ⟨some 65, .mv (.t 69), none, 0⟩, ⟨some 70, .ext (.t 65) 0,
  none, 0⟩, ⟨some 71, .ext (.t 65) 1, none, 0⟩, ⟨some 72, .ext (.t 65) 2, none, 0⟩, ⟨some 10, .alloc [.int .i64 0, .list 1 [] .full], none, 0⟩, ⟨none, .store 2 (.t 10) (.t 70), none, 1⟩, ⟨some 11, .mv
  (.t 71), none, 1⟩, ⟨some 12, .mv (.t 72), none, 1⟩] 1 false []) (.seq (.seq (.region [⟨some 73, .mv (.t 5), none, 0⟩, ⟨some 74, .len (.t 73), none, 0⟩, ⟨some 75, .mv (.c (.int .i64 0)), none, 0⟩] 0
  false []) (.block 0 (.loop L7_0))) K7_0))))))))
def B7 := bB7
theorem wB7 : Wp O B7 Q σ h = Wp O bB7 Q σ h := rfl
def F7 : AF := ⟨B7, [.tmp 2], false⟩
theorem tab7 : T 7 = some F7 := by kernel_rfl
theorem mixed : Tryd.prog.follows .mixedOrders = true := by kernel_rfl
end Go.Proofs.YtjdpneceeinhhaaDoor
