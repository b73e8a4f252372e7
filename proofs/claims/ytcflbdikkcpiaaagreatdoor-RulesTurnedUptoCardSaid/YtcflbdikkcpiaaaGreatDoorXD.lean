/-
  The abstract code of the functions that the laws reach.
-/
import Derived.Test.YtcflbdikkcpiaaaGreatDoorProg
import Derived.Test.YtcflbdikkcpiaaaGreatDoorXC
import Derived.KernelRfl
set_option linter.unusedVariables false
set_option linter.unusedSimpArgs false
set_option maxRecDepth 100000
namespace Go.Proofs.YtcflbdikkcpiaaaGreatDoor
open Go Go.Am
noncomputable def T : FuncId → Option AF := table Tryz.prog ["abnf.go:134", "abnf.go:163", "rules.go:47", "=rules.go:47", "rules.go:102", "rules.go:111", "=rules.go:111", "wrules.go:53", "rules.go:114", "rules.go:159", "rules.go:205", "ref.go:56", "ref.go:115", "=ref.go:115", "ref.go:116", "=ref.go:116", "grown.go:84", "ggrown.go:84", "lgrown.go:93"] ["franking/frankinglow.GrownRules", "franking/lex.rows", "franking/lex.rows$1", "franking/lex.sign", "franking/lex.value$1", "franking/rules.gather", "franking/rules.each", "(*franking/rules.ways).through", "(*franking/rules.ways).through$1", "(franking/rules.book).loops$1"]
variable {O : Orc} {Q : Ex → Slots → Heap → Prop} {σ : Slots} {h : Heap}
abbrev mvT (d t : Nat) : AO := ⟨some d, .mv (.t t), none, 0⟩
abbrev opT (d : Nat) (x : AOp) : AO := ⟨some d, x, none, 0⟩
abbrev rgT (l : List AO) : AC := .region l 0 false []
abbrev bJ63_0 : AC :=
 .cond (.t 55) (.seq (rgT [mvT 70 8, opT 2 (.mv (.c (.list 7 [] .full))), mvT 3 70, opT 4 (.mv (.c (.int .i64 10)))]) .ret) (.seq (rgT [mvT 72 13, opT 73 (.bin .eql (.t 72) (.c (.int .i64 0))), mvT 74
 73, ⟨some 75, .mv (.t 7), some (74, true), 0⟩, opT 76 (.pick (.t 74) (.t 75) (.c (.bool false))), mvT 71 76]) (.cond (.t 71) (.region [mvT 77 5, mvT 78 8, opT 79 (.build [.int .u8 0, .int .i64 0, .str
 [], .int .i64 0, .int .i64 0, .int .u8 0, .int .u8 0] [(0, 1, .c (.int .u8 13)), (1, 1, .t 78)]), opT 80 (.bslice 7 [.t 79]), opT 81 (.append 7 56 125 (.t 77) (.t 80)), ⟨some 5, .mv (.t 81), none, 1⟩]
 1 false []) .skip))
def J63_0 := bJ63_0
theorem wJ63_0 : Wp O J63_0 Q σ h = Wp O bJ63_0 Q σ h := rfl
abbrev bJ63_1 : AC :=
 .seq (rgT [opT 7 (.mv (.c (.bool true)))]) (.seq (rgT [mvT 83 9, mvT 84 8, mvT 85 6, opT 86 (.call (.c (.fn 78 [])) [.t 83, .t 84, .t 85]), mvT 82 86, opT 87 (.ext (.t 82) 0), opT 88 (.ext (.t 82) 1),
 opT 89 (.ext (.t 82) 2), mvT 14 87, mvT 15 88, mvT 16 89]) (.seq (.seq (rgT [mvT 90 16, opT 91 (.bin .neq (.t 90) (.c (.int .i64 0)))]) (.cond (.t 91) (.seq (rgT [mvT 92 15, mvT 93 16, opT 2 (.mv (.c
 (.list 7 [] .full))), mvT 3 92, mvT 4 93]) .ret) .skip)) (.region [mvT 94 5, mvT 95 14, opT 96 (.append 7 56 125 (.t 94) (.t 95)), ⟨some 97, .mv (.t 12), none, 1⟩, ⟨some 5, .mv (.t 96), none, 1⟩, ⟨some
 8, .mv (.t 97), none, 1⟩] 1 false [])))
def J63_1 := bJ63_1
theorem wJ63_1 : Wp O J63_1 Q σ h = Wp O bJ63_1 Q σ h := rfl
abbrev bJ63_2 : AC :=
 .seq (rgT [mvT 41 9, opT 42 (.call (.c (.fn 75 [])) [.t 41, .c (.fn 76 [])]), mvT 13 42]) (.seq (.block 2 (.seq (rgT [mvT 44 13, mvT 45 9, opT 46 (.lenS (.t 45)), opT 47 (.bin .eql (.t 44) (.t 46)),
 mvT 48 47, ⟨some 49, .mv (.t 9), some (48, false), 0⟩, ⟨some 50, .mv (.t 13), some (48, false), 0⟩, ⟨some 51, .indexS (.t 49) (.t 50), some (48, false), 0⟩, ⟨some 52, .bin .eql (.t 51) (.c (.int .u8
 59)), some (48, false), 0⟩, opT 53 (.pick (.t 48) (.c (.bool true)) (.t 52)), mvT 43 53]) (.cond (.t 43) (.seq (rgT [mvT 54 12, mvT 8 54]) (.exit 1)) (.seq (.seq (rgT [mvT 56 13, opT 57 (.bin .eql (.t
 56) (.c (.int .i64 0))), mvT 58 57, ⟨some 59, .mv (.t 9), some (58, true), 0⟩, ⟨some 60, .indexS (.t 59) (.c (.int .i64 0)), some (58, true), 0⟩, ⟨some 61, .call (.c (.fn 77 [])) [.t 60], some (58,
 true), 0⟩, ⟨some 62, .not (.t 61), some (58, true), 0⟩, opT 63 (.pick (.t 58) (.t 62) (.c (.bool false))), mvT 55 63]) (.cond (.t 55) .skip (rgT [mvT 64 13, opT 65 (.bin .gtr (.t 64) (.c (.int .i64
 0))), mvT 66 65, ⟨some 67, .mv (.t 7), some (66, true), 0⟩, ⟨some 68, .not (.t 67), some (66, true), 0⟩, opT 69 (.pick (.t 66) (.t 68) (.c (.bool false))), mvT 55 69]))) J63_0)))) J63_1)
def J63_2 := bJ63_2
theorem wJ63_2 : Wp O J63_2 Q σ h = Wp O bJ63_2 Q σ h := rfl
abbrev bL63_0 : AC :=
 .seq (.seq (rgT [mvT 21 8, mvT 22 0, opT 23 (.lenS (.t 22)), opT 24 (.bin .lss (.t 21) (.t 23))]) (.cond (.t 24) .skip (.exit 0))) (.block 1 (.seq (rgT [mvT 26 0, mvT 27 8, opT 28 (.sliceS (.t 26)
 (some (.t 27)) none), opT 29 (.call (.c (.fn 73 [])) [.t 28, .c (.str [10])]), mvT 25 29, opT 30 (.ext (.t 25) 0), opT 31 (.ext (.t 25) 1), opT 32 (.ext (.t 25) 2), mvT 9 30, mvT 10 31, mvT 11 32])
 (.seq (rgT [mvT 33 8, mvT 34 9, opT 35 (.lenS (.t 34)), opT 36 (.bin .add (.t 33) (.t 35)), opT 37 (.bin .add (.t 36) (.c (.int .i64 1))), mvT 12 37]) (.seq (.seq (rgT [mvT 38 11]) (.cond (.t 38) (rgT
 [mvT 39 9, opT 40 (.call (.c (.fn 74 [])) [.t 39, .c (.str [13])]), mvT 9 40]) .skip)) J63_2))))
def L63_0 := bL63_0
theorem wL63_0 : Wp O L63_0 Q σ h = Wp O bL63_0 Q σ h := rfl
abbrev bJ63_3 : AC :=
 .seq (rgT [mvT 105 5, mvT 2 105, opT 3 (.mv (.c (.int .i64 0))), opT 4 (.mv (.c (.int .i64 0)))]) .ret
def J63_3 := bJ63_3
theorem wJ63_3 : Wp O J63_3 Q σ h = Wp O bJ63_3 Q σ h := rfl
abbrev bK63_0 : AC :=
 .seq (.seq (rgT [mvT 98 7]) (.cond (.t 98) (.region [mvT 99 5, mvT 100 0, opT 101 (.lenS (.t 100)), opT 102 (.build [.int .u8 0, .int .i64 0, .str [], .int .i64 0, .int .i64 0, .int .u8 0, .int .u8 0]
 [(0, 1, .c (.int .u8 13)), (1, 1, .t 101)]), opT 103 (.bslice 7 [.t 102]), opT 104 (.append 7 56 125 (.t 99) (.t 103)), ⟨some 5, .mv (.t 104), none, 1⟩] 1 false []) .skip)) J63_3
def K63_0 := bK63_0
theorem wK63_0 : Wp O K63_0 Q σ h = Wp O bK63_0 Q σ h := rfl
abbrev bB63 : AC :=
 .seq (rgT [opT 2 (.mv (.c (.list 7 [] .full))), opT 3 (.mv (.c (.int .i64 0))), opT 4 (.mv (.c (.int .i64 0)))]) (.seq (.seq (rgT [mvT 17 0, opT 18 (.lenS (.t 17)), opT 19 (.bin .gtr (.t 18) (.c (.int
 .i64 65536)))]) (.cond (.t 19) (.seq (rgT [opT 2 (.mv (.c (.list 7 [] .full))), opT 3 (.mv (.c (.int .i64 65536))), opT 4 (.mv (.c (.int .i64 3)))]) .ret) .skip)) (.seq (rgT [opT 5 (.mv (.c (.list 7 []
 .full)))]) (.seq (rgT [opT 20 (.call (.c (.fn 72 [])) []), mvT 6 20, opT 7 (.mv (.c (.bool false)))]) (.seq (.seq (rgT [opT 8 (.mv (.c (.int .i64 0)))]) (.block 0 (.loop L63_0))) K63_0))))
def B63 := bB63
theorem wB63 : Wp O B63 Q σ h = Wp O bB63 Q σ h := rfl
def F63 : AF := ⟨B63, [.tmp 2, .tmp 3, .tmp 4], false⟩
theorem tab63 : T 63 = some F63 := by kernel_rfl
abbrev bB72 : AC :=
 .seq (rgT [opT 0 (.mv (.c (.list 2 [] .full)))]) (.seq (rgT [opT 1 (.mv (.c (.fn 89 [])))]) (.seq (rgT [opT 2 (.build [.nilf, .nilf] [(0, 1, .c (.fn 77 [])), (1, 1, .c (.fn 91 []))]), mvT 3 1, opT 4
 (.call (.t 3) [.c (.int .u8 61)]), opT 5 (.build [.nilf, .nilf] [(0, 1, .t 4), (1, 1, .c (.fn 92 []))]), mvT 6 1, opT 7 (.call (.t 6) [.c (.int .u8 47)]), opT 8 (.call (.c (.fn 93 [])) [.c (.int .u8
 4)]), opT 9 (.build [.nilf, .nilf] [(0, 1, .t 7), (1, 1, .t 8)]), mvT 10 1, opT 11 (.call (.t 10) [.c (.int .u8 40)]), opT 12 (.call (.c (.fn 93 [])) [.c (.int .u8 5)]), opT 13 (.build [.nilf, .nilf]
 [(0, 1, .t 11), (1, 1, .t 12)]), mvT 14 1, opT 15 (.call (.t 14) [.c (.int .u8 41)]), opT 16 (.call (.c (.fn 93 [])) [.c (.int .u8 6)]), opT 17 (.build [.nilf, .nilf] [(0, 1, .t 15), (1, 1, .t 16)]),
 mvT 18 1, opT 19 (.call (.t 18) [.c (.int .u8 91)]), opT 20 (.call (.c (.fn 93 [])) [.c (.int .u8 7)]), opT 21 (.build [.nilf, .nilf] [(0, 1, .t 19), (1, 1, .t 20)]), mvT 22 1, opT 23 (.call (.t 22)
 [.c (.int .u8 93)]), opT 24 (.call (.c (.fn 93 [])) [.c (.int .u8 8)]), opT 25 (.build [.nilf, .nilf] [(0, 1, .t 23), (1, 1, .t 24)]), opT 26 (.build [.nilf, .nilf] [(0, 1, .c (.fn 94 [])), (1, 1, .c
 (.fn 96 []))]), mvT 27 1, opT 28 (.call (.t 27) [.c (.int .u8 34)]), opT 29 (.build [.nilf, .nilf] [(0, 1, .t 28), (1, 1, .c (.fn 97 []))]), mvT 30 1, opT 31 (.call (.t 30) [.c (.int .u8 37)]), opT 32
 (.build [.nilf, .nilf] [(0, 1, .t 31), (1, 1, .c (.fn 98 []))]), mvT 33 1, opT 34 (.call (.t 33) [.c (.int .u8 60)]), opT 35 (.build [.nilf, .nilf] [(0, 1, .t 34), (1, 1, .c (.fn 99 []))]), opT 36
 (.build [.nilf, .nilf] [(0, 1, .c (.fn 100 [])), (1, 1, .c (.fn 101 []))]), opT 37 (.bslice 2 [.t 2, .t 5, .t 9, .t 13, .t 17, .t 21, .t 25, .t 26, .t 29, .t 32, .t 35, .t 36]), mvT 0 37]) .ret))
def B72 := bB72
theorem wB72 : Wp O B72 Q σ h = Wp O bB72 Q σ h := rfl
def F72 : AF := ⟨B72, [.tmp 0], true⟩
theorem tab72 : T 72 = some F72 := by kernel_rfl
abbrev bB73 : AC :=
 .seq (rgT [opT 4 (.mv (.c (.str []))), opT 5 (.mv (.c (.str []))), opT 6 (.mv (.c (.bool false)))]) (.seq (rgT [mvT 7 0, mvT 8 1, opT 9 (.call (.c (.fn 102 [])) [.t 7, .t 8]), opT 10 (.ext (.t 9) 0),
 opT 11 (.ext (.t 9) 1), opT 12 (.ext (.t 9) 2), mvT 4 10, mvT 5 11, mvT 6 12]) .ret)
def B73 := bB73
theorem wB73 : Wp O B73 Q σ h = Wp O bB73 Q σ h := rfl
def F73 : AF := ⟨B73, [.tmp 4, .tmp 5, .tmp 6], false⟩
theorem tab73 : T 73 = some F73 := by kernel_rfl
abbrev bB74 : AC :=
 .seq (rgT [opT 4 (.mv (.c (.str [])))]) (.seq (rgT [mvT 5 0, mvT 6 1, opT 7 (.call (.c (.fn 103 [])) [.t 5, .t 6]), mvT 4 7]) .ret)
def B74 := bB74
theorem wB74 : Wp O B74 Q σ h = Wp O bB74 Q σ h := rfl
def F74 : AF := ⟨B74, [.tmp 4], false⟩
theorem tab74 : T 74 = some F74 := by kernel_rfl
abbrev bL75_0 : AC :=
 .seq (.seq (rgT [mvT 6 5, mvT 7 0, opT 8 (.lenS (.t 7)), opT 9 (.bin .lss (.t 6) (.t 8)), mvT 10 9, ⟨some 11, .mv (.t 1), some (10, true), 0⟩, ⟨some 12, .mv (.t 0), some (10, true), 0⟩, ⟨some 13, .mv
 (.t 5), some (10, true), 0⟩, ⟨some 14, .indexS (.t 12) (.t 13), some (10, true), 0⟩, ⟨some 15, .call (.t 11) [.t 14], some (10, true), 0⟩, opT 16 (.pick (.t 10) (.t 15) (.c (.bool false)))]) (.cond (.t
 16) .skip (.exit 0))) (.block 1 (rgT [mvT 17 5, opT 18 (.bin .add (.t 17) (.c (.int .i64 1))), mvT 5 18]))
def L75_0 := bL75_0
theorem wL75_0 : Wp O L75_0 Q σ h = Wp O bL75_0 Q σ h := rfl
abbrev bK75_0 : AC :=
 .seq (rgT [mvT 19 5, mvT 4 19]) .ret
def K75_0 := bK75_0
theorem wK75_0 : Wp O K75_0 Q σ h = Wp O bK75_0 Q σ h := rfl
abbrev bB75 : AC :=
 .seq (rgT [opT 4 (.mv (.c (.int .i64 0)))]) (.seq (rgT [opT 5 (.mv (.c (.int .i64 0)))]) (.seq (.block 0 (.loop L75_0)) K75_0))
def B75 := bB75
theorem wB75 : Wp O B75 Q σ h = Wp O bB75 Q σ h := rfl
def F75 : AF := ⟨B75, [.tmp 4], false⟩
theorem tab75 : T 75 = some F75 := by kernel_rfl
abbrev bB76 : AC :=
 .seq (rgT [opT 2 (.mv (.c (.bool false)))]) (.seq (rgT [mvT 3 0, opT 4 (.bin .eql (.t 3) (.c (.int .u8 32))), mvT 5 4, ⟨some 6, .mv (.t 0), some (5, false), 0⟩, ⟨some 7, .bin .eql (.t 6) (.c (.int .u8
 9)), some (5, false), 0⟩, opT 8 (.pick (.t 5) (.c (.bool true)) (.t 7)), mvT 2 8]) .ret)
def B76 := bB76
theorem wB76 : Wp O B76 Q σ h = Wp O bB76 Q σ h := rfl
def F76 : AF := ⟨B76, [.tmp 2], false⟩
theorem tab76 : T 76 = some F76 := by kernel_rfl
abbrev bB77 : AC :=
 .seq (rgT [opT 2 (.mv (.c (.bool false)))]) (.seq (rgT [mvT 3 0, opT 4 (.bin .or (.t 3) (.c (.int .u8 32))), opT 5 (.bin .geq (.t 4) (.c (.int .u8 97))), mvT 6 5, ⟨some 7, .mv (.t 0), some (6, true),
 0⟩, ⟨some 8, .bin .or (.t 7) (.c (.int .u8 32)), some (6, true), 0⟩, ⟨some 9, .bin .leq (.t 8) (.c (.int .u8 122)), some (6, true), 0⟩, opT 10 (.pick (.t 6) (.t 9) (.c (.bool false))), mvT 2 10]) .ret)
def B77 := bB77
theorem wB77 : Wp O B77 Q σ h = Wp O bB77 Q σ h := rfl
def F77 : AF := ⟨B77, [.tmp 2], false⟩
theorem tab77 : T 77 = some F77 := by kernel_rfl
abbrev bL78_0 : AC :=
 .seq (rgT [opT 33 (.bin .lss (.t 32) (.t 31))]) (.seq (.cond (.t 33) .skip (.exit 2)) (.seq (.block 3 (.seq (.region [opT 34 (.idx 2 (.t 30) (.t 32)), opT 35 (.load (some 2) (.t 34)), opT 12 (.alloc
 [.nilf, .nilf]), ⟨none, .store 2 (.t 12) (.t 35), none, 1⟩] 1 false []) (.seq (.seq (.region [opT 36 (.off 0 (.t 12)), opT 37 (.load none (.t 36)), mvT 38 0, mvT 39 10, opT 40 (.indexS (.t 38) (.t
 39)), opT 41 (.call (.t 37) [.t 40]), opT 42 (.not (.t 41))] 0 true []) (.cond (.t 42) (.exit 3) .skip)) (.seq (.region [opT 43 (.off 1 (.t 12)), opT 44 (.load none (.t 43)), mvT 45 0, mvT 46 10, opT
 47 (.sliceS (.t 45) (some (.t 46)) none), opT 48 (.call (.t 44) [.t 47]), opT 13 (.alloc [.int .u8 0, .int .i64 0, .str [], .int .i64 0, .int .i64 0, .int .u8 0, .int .u8 0, .int .i64 0, .int .i64 0]),
 ⟨none, .store 9 (.t 13) (.t 48), none, 1⟩] 1 true [(1, 6), (5, 6)]) (.seq (.seq (rgT [opT 49 (.off 8 (.t 13)), opT 50 (.load none (.t 49)), opT 51 (.bin .neq (.t 50) (.c (.int .i64 0)))]) (.cond (.t
 51) (.seq (.region [mvT 52 1, mvT 53 10, opT 54 (.bin .add (.t 52) (.t 53)), opT 55 (.off 7 (.t 13)), opT 56 (.load none (.t 55)), opT 57 (.bin .add (.t 54) (.t 56)), opT 58 (.off 8 (.t 13)), opT 59
 (.load none (.t 58)), opT 6 (.mv (.c (.list 7 [] .full))), mvT 7 57, mvT 8 59] 0 true []) .ret) .skip)) (.seq (rgT [mvT 60 1, mvT 61 10, opT 62 (.bin .add (.t 60) (.t 61)), opT 63 (.off 0 (.t 13)), opT
 64 (.off 1 (.t 63)), ⟨none, .store 1 (.t 64) (.t 62), none, 0⟩]) (.seq (.region [mvT 65 9, opT 66 (.off 0 (.t 13)), opT 67 (.load (some 7) (.t 66)), opT 68 (.bslice 7 [.t 67]), opT 69 (.append 7 56 125
 (.t 65) (.t 68)), ⟨some 9, .mv (.t 69), none, 1⟩] 1 false []) (.seq (rgT [mvT 70 10, opT 71 (.off 7 (.t 13)), opT 72 (.load none (.t 71)), opT 73 (.bin .add (.t 70) (.t 72)), mvT 10 73]) (.exit
 2))))))))) (rgT [opT 74 (.bin .add (.t 32) (.c (.int .i64 1))), mvT 32 74])))
def L78_0 := bL78_0
theorem wL78_0 : Wp O L78_0 Q σ h = Wp O bL78_0 Q σ h := rfl
abbrev bL78_1 : AC :=
 .seq (.seq (rgT [mvT 14 10, mvT 15 0, opT 16 (.lenS (.t 15)), opT 17 (.bin .lss (.t 14) (.t 16)), mvT 18 17, ⟨some 19, .mv (.t 0), some (18, true), 0⟩, ⟨some 20, .mv (.t 10), some (18, true), 0⟩, ⟨some
 21, .indexS (.t 19) (.t 20), some (18, true), 0⟩, ⟨some 22, .bin .neq (.t 21) (.c (.int .u8 59)), some (18, true), 0⟩, opT 23 (.pick (.t 18) (.t 22) (.c (.bool false)))]) (.cond (.t 23) .skip (.exit
 0))) (.block 1 (.seq (.seq (rgT [mvT 24 0, mvT 25 10, opT 26 (.indexS (.t 24) (.t 25)), opT 27 (.call (.c (.fn 76 [])) [.t 26])]) (.cond (.t 27) (.seq (rgT [mvT 28 10, opT 29 (.bin .add (.t 28) (.c
 (.int .i64 1))), mvT 10 29]) (.exit 1)) .skip)) (.seq (rgT [mvT 30 2, opT 31 (.len (.t 30)), opT 32 (.mv (.c (.int .i64 0)))]) (.block 2 (.loop L78_0)))))
def L78_1 := bL78_1
theorem wL78_1 : Wp O L78_1 Q σ h = Wp O bL78_1 Q σ h := rfl
abbrev bK78_0 : AC :=
 .seq (rgT [mvT 75 9, mvT 6 75, opT 7 (.mv (.c (.int .i64 0))), opT 8 (.mv (.c (.int .i64 0)))]) .ret
def K78_0 := bK78_0
theorem wK78_0 : Wp O K78_0 Q σ h = Wp O bK78_0 Q σ h := rfl
abbrev bB78 : AC :=
 .seq (rgT [opT 6 (.mv (.c (.list 7 [] .full))), opT 7 (.mv (.c (.int .i64 0))), opT 8 (.mv (.c (.int .i64 0)))]) (.seq (rgT [opT 9 (.mv (.c (.list 7 [] .full)))]) (.seq (.seq (rgT [opT 10 (.mv (.c
 (.int .i64 0)))]) (.block 0 (.loop L78_1))) K78_0))
def B78 := bB78
theorem wB78 : Wp O B78 Q σ h = Wp O bB78 Q σ h := rfl
def F78 : AF := ⟨B78, [.tmp 6, .tmp 7, .tmp 8], false⟩
theorem tab78 : T 78 = some F78 := by kernel_rfl
abbrev bB112 : AC :=
 .seq (rgT [opT 4 (.mv (.c (.bool false)))]) (.seq (rgT [mvT 5 0, mvT 6 1, opT 7 (.call (.c (.fn 126 [])) [.t 5, .t 6]), mvT 4 7]) .ret)
def B112 := bB112
theorem wB112 : Wp O B112 Q σ h = Wp O bB112 Q σ h := rfl
def F112 : AF := ⟨B112, [.tmp 4], false⟩
theorem tab112 : T 112 = some F112 := by kernel_rfl
abbrev bB89 : AC :=
 .seq (.region [opT 1 (.box 1 (.t 0)), ⟨some 2, .mv (.c (.nilf)), none, 1⟩] 1 false []) (.seq (rgT [opT 3 (.mkfn 90 [.t 1]), mvT 2 3]) .ret)
def B89 := bB89
theorem wB89 : Wp O B89 Q σ h = Wp O bB89 Q σ h := rfl
def F89 : AF := ⟨B89, [.tmp 2], true⟩
theorem tab89 : T 89 = some F89 := by kernel_rfl
abbrev bB90 : AC :=
 .seq (rgT [opT 3 (.mv (.c (.bool false)))]) (.seq (rgT [opT 4 (.load none (.t 1)), mvT 5 0, opT 6 (.bin .eql (.t 4) (.t 5)), mvT 3 6]) .ret)
def B90 := bB90
theorem wB90 : Wp O B90 Q σ h = Wp O bB90 Q σ h := rfl
def F90 : AF := ⟨B90, [.tmp 3], false⟩
theorem tab90 : T 90 = some F90 := by kernel_rfl
abbrev bB91 : AC :=
 .seq (.region [opT 2 (.alloc [.int .u8 0, .int .i64 0, .str [], .int .i64 0, .int .i64 0, .int .u8 0, .int .u8 0, .int .i64 0, .int .i64 0])] 1 false []) (.seq (rgT [mvT 4 0, opT 5 (.call (.c (.fn 75
 [])) [.t 4, .c (.fn 111 [])]), mvT 3 5]) (.seq (rgT [mvT 6 0, mvT 7 3, opT 8 (.sliceS (.t 6) none (some (.t 7))), opT 9 (.build [.int .u8 0, .int .i64 0, .str [], .int .i64 0, .int .i64 0, .int .u8 0,
 .int .u8 0] [(0, 1, .c (.int .u8 1)), (2, 1, .t 8)]), mvT 10 3, opT 11 (.build [.int .u8 0, .int .i64 0, .str [], .int .i64 0, .int .i64 0, .int .u8 0, .int .u8 0, .int .i64 0, .int .i64 0] [(0, 7, .t
 9), (7, 1, .t 10)]), ⟨none, .store 9 (.t 2) (.t 11), none, 0⟩]) .ret))
def B91 := bB91
theorem wB91 : Wp O B91 Q σ h = Wp O bB91 Q σ h := rfl
def F91 : AF := ⟨B91, [.cell 2 (some 9)], false⟩
theorem tab91 : T 91 = some F91 := by kernel_rfl
abbrev bB92 : AC :=
 .seq (.region [opT 2 (.alloc [.int .u8 0, .int .i64 0, .str [], .int .i64 0, .int .i64 0, .int .u8 0, .int .u8 0, .int .i64 0, .int .i64 0])] 1 false []) (.seq (.seq (rgT [mvT 3 0, opT 4 (.call (.c
 (.fn 112 [])) [.t 3, .c (.str [61, 47])])]) (.cond (.t 4) (.seq (rgT [opT 5 (.build [.int .u8 0, .int .i64 0, .str [], .int .i64 0, .int .i64 0, .int .u8 0, .int .u8 0] [(0, 1, .c (.int .u8 3))]), opT
 6 (.build [.int .u8 0, .int .i64 0, .str [], .int .i64 0, .int .i64 0, .int .u8 0, .int .u8 0, .int .i64 0, .int .i64 0] [(0, 7, .t 5), (7, 1, .c (.int .i64 2))]), ⟨none, .store 9 (.t 2) (.t 6), none,
 0⟩]) .ret) .skip)) (.seq (rgT [opT 7 (.build [.int .u8 0, .int .i64 0, .str [], .int .i64 0, .int .i64 0, .int .u8 0, .int .u8 0] [(0, 1, .c (.int .u8 2))]), opT 8 (.build [.int .u8 0, .int .i64 0,
 .str [], .int .i64 0, .int .i64 0, .int .u8 0, .int .u8 0, .int .i64 0, .int .i64 0] [(0, 7, .t 7), (7, 1, .c (.int .i64 1))]), ⟨none, .store 9 (.t 2) (.t 8), none, 0⟩]) .ret))
def B92 := bB92
theorem wB92 : Wp O B92 Q σ h = Wp O bB92 Q σ h := rfl
def F92 : AF := ⟨B92, [.cell 2 (some 9)], false⟩
theorem tab92 : T 92 = some F92 := by kernel_rfl
abbrev bB93 : AC :=
 .seq (.region [opT 1 (.box 1 (.t 0)), ⟨some 2, .mv (.c (.nilf)), none, 1⟩] 1 false []) (.seq (rgT [opT 3 (.mkfn 113 [.t 1]), mvT 2 3]) .ret)
def B93 := bB93
theorem wB93 : Wp O B93 Q σ h = Wp O bB93 Q σ h := rfl
def F93 : AF := ⟨B93, [.tmp 2], true⟩
theorem tab93 : T 93 = some F93 := by kernel_rfl
abbrev bB94 : AC :=
 .seq (rgT [opT 2 (.mv (.c (.bool false)))]) (.seq (rgT [mvT 3 0, opT 4 (.call (.c (.fn 95 [])) [.t 3]), mvT 5 4, ⟨some 6, .mv (.t 0), some (5, false), 0⟩, ⟨some 7, .bin .eql (.t 6) (.c (.int .u8 42)),
 some (5, false), 0⟩, opT 8 (.pick (.t 5) (.c (.bool true)) (.t 7)), mvT 2 8]) .ret)
def B94 := bB94
theorem wB94 : Wp O B94 Q σ h = Wp O bB94 Q σ h := rfl
def F94 : AF := ⟨B94, [.tmp 2], false⟩
theorem tab94 : T 94 = some F94 := by kernel_rfl
abbrev bB95 : AC :=
 .seq (rgT [opT 2 (.mv (.c (.bool false)))]) (.seq (rgT [mvT 3 0, opT 4 (.bin .geq (.t 3) (.c (.int .u8 48))), mvT 5 4, ⟨some 6, .mv (.t 0), some (5, true), 0⟩, ⟨some 7, .bin .leq (.t 6) (.c (.int .u8
 57)), some (5, true), 0⟩, opT 8 (.pick (.t 5) (.t 7) (.c (.bool false))), mvT 2 8]) .ret)
def B95 := bB95
theorem wB95 : Wp O B95 Q σ h = Wp O bB95 Q σ h := rfl
def F95 : AF := ⟨B95, [.tmp 2], false⟩
theorem tab95 : T 95 = some F95 := by kernel_rfl
abbrev bJ96_0 : AC :=
 .seq (.seq (rgT [opT 60 (.off 4 (.t 6)), opT 61 (.load none (.t 60)), opT 62 (.bin .geq (.t 61) (.c (.int .i64 0))), mvT 63 62, ⟨some 64, .off 4 (.t 6), some (63, true), 0⟩, ⟨some 65, .load none (.t
 64), some (63, true), 0⟩, ⟨some 66, .off 3 (.t 6), some (63, true), 0⟩, ⟨some 67, .load none (.t 66), some (63, true), 0⟩, ⟨some 68, .bin .lss (.t 65) (.t 67), some (63, true), 0⟩, opT 69 (.pick (.t
 63) (.t 68) (.c (.bool false)))]) (.cond (.t 69) (.seq (rgT [opT 70 (.build [.int .u8 0, .int .i64 0, .str [], .int .i64 0, .int .i64 0, .int .u8 0, .int .u8 0, .int .i64 0, .int .i64 0] [(8, 1, .c
 (.int .i64 13))]), ⟨none, .store 9 (.t 2) (.t 70), none, 0⟩]) .ret) .skip)) (.seq (rgT [opT 71 (.load (some 7) (.t 6)), mvT 72 3, opT 73 (.bin .add (.t 72) (.c (.int .i64 1))), mvT 74 5, opT 75 (.bin
 .add (.t 73) (.t 74)), opT 76 (.build [.int .u8 0, .int .i64 0, .str [], .int .i64 0, .int .i64 0, .int .u8 0, .int .u8 0, .int .i64 0, .int .i64 0] [(0, 7, .t 71), (7, 1, .t 75)]), ⟨none, .store 9 (.t
 2) (.t 76), none, 0⟩]) .ret)
def J96_0 := bJ96_0
theorem wJ96_0 : Wp O J96_0 Q σ h = Wp O bJ96_0 Q σ h := rfl
abbrev bJ96_1 : AC :=
 .seq (.block 0 (.seq (rgT [mvT 26 3, opT 27 (.bin .gtr (.t 26) (.c (.int .i64 4))), mvT 25 27]) (.cond (.t 25) (.seq (rgT [opT 28 (.build [.int .u8 0, .int .i64 0, .str [], .int .i64 0, .int .i64 0,
 .int .u8 0, .int .u8 0, .int .i64 0, .int .i64 0] [(8, 1, .c (.int .i64 12))]), ⟨none, .store 9 (.t 2) (.t 28), none, 0⟩]) .ret) (.seq (rgT [mvT 30 5, opT 31 (.bin .gtr (.t 30) (.c (.int .i64 4))), mvT
 29 31]) (.cond (.t 29) (.seq (rgT [mvT 32 3, opT 33 (.bin .add (.t 32) (.c (.int .i64 1))), opT 34 (.build [.int .u8 0, .int .i64 0, .str [], .int .i64 0, .int .i64 0, .int .u8 0, .int .u8 0, .int .i64
 0, .int .i64 0] [(7, 1, .t 33), (8, 1, .c (.int .i64 12))]), ⟨none, .store 9 (.t 2) (.t 34), none, 0⟩]) .ret) .skip))))) (.seq (.region [mvT 35 0, mvT 36 3, opT 37 (.sliceS (.t 35) none (some (.t
 36))), opT 38 (.call (.c (.fn 114 [])) [.t 37, .c (.int .i64 10)]), opT 39 (.build [.int .u8 0, .int .i64 0, .str [], .int .i64 0, .int .i64 0, .int .u8 0, .int .u8 0] [(0, 1, .c (.int .u8 9)), (3, 1,
 .t 38), (4, 1, .c (.int .i64 (-1)))]), opT 6 (.alloc [.int .u8 0, .int .i64 0, .str [], .int .i64 0, .int .i64 0, .int .u8 0, .int .u8 0]), ⟨none, .store 7 (.t 6) (.t 39), none, 1⟩] 1 false []) (.seq
 (.seq (rgT [mvT 40 4, opT 41 (.not (.t 40))]) (.cond (.t 41) (.seq (rgT [opT 42 (.off 3 (.t 6)), opT 43 (.load none (.t 42)), opT 44 (.off 4 (.t 6)), ⟨none, .store 1 (.t 44) (.t 43), none, 0⟩]) (.seq
 (rgT [opT 45 (.load (some 7) (.t 6)), mvT 46 3, opT 47 (.build [.int .u8 0, .int .i64 0, .str [], .int .i64 0, .int .i64 0, .int .u8 0, .int .u8 0, .int .i64 0, .int .i64 0] [(0, 7, .t 45), (7, 1, .t
 46)]), ⟨none, .store 9 (.t 2) (.t 47), none, 0⟩]) .ret)) .skip)) (.seq (.seq (rgT [mvT 48 5, opT 49 (.bin .gtr (.t 48) (.c (.int .i64 0)))]) (.cond (.t 49) (rgT [mvT 50 0, mvT 51 3, opT 52 (.bin .add
 (.t 51) (.c (.int .i64 1))), mvT 53 3, opT 54 (.bin .add (.t 53) (.c (.int .i64 1))), mvT 55 5, opT 56 (.bin .add (.t 54) (.t 55)), opT 57 (.sliceS (.t 50) (some (.t 52)) (some (.t 56))), opT 58 (.call
 (.c (.fn 114 [])) [.t 57, .c (.int .i64 10)]), opT 59 (.off 4 (.t 6)), ⟨none, .store 1 (.t 59) (.t 58), none, 0⟩]) .skip)) J96_0)))
def J96_1 := bJ96_1
theorem wJ96_1 : Wp O J96_1 Q σ h = Wp O bJ96_1 Q σ h := rfl
abbrev bB96 : AC :=
 .seq (.region [opT 2 (.alloc [.int .u8 0, .int .i64 0, .str [], .int .i64 0, .int .i64 0, .int .u8 0, .int .u8 0, .int .i64 0, .int .i64 0])] 1 false []) (.seq (rgT [mvT 7 0, opT 8 (.call (.c (.fn 75
 [])) [.t 7, .c (.fn 95 [])]), mvT 3 8]) (.seq (rgT [mvT 9 3, mvT 10 0, opT 11 (.lenS (.t 10)), opT 12 (.bin .lss (.t 9) (.t 11)), mvT 13 12, ⟨some 14, .mv (.t 0), some (13, true), 0⟩, ⟨some 15, .mv (.t
 3), some (13, true), 0⟩, ⟨some 16, .indexS (.t 14) (.t 15), some (13, true), 0⟩, ⟨some 17, .bin .eql (.t 16) (.c (.int .u8 42)), some (13, true), 0⟩, opT 18 (.pick (.t 13) (.t 17) (.c (.bool false))),
 mvT 4 18]) (.seq (rgT [opT 5 (.mv (.c (.int .i64 0)))]) (.seq (.seq (rgT [mvT 19 4]) (.cond (.t 19) (rgT [mvT 20 0, mvT 21 3, opT 22 (.bin .add (.t 21) (.c (.int .i64 1))), opT 23 (.sliceS (.t 20)
 (some (.t 22)) none), opT 24 (.call (.c (.fn 75 [])) [.t 23, .c (.fn 95 [])]), mvT 5 24]) .skip)) J96_1))))
def B96 := bB96
theorem wB96 : Wp O B96 Q σ h = Wp O bB96 Q σ h := rfl
def F96 : AF := ⟨B96, [.cell 2 (some 9)], false⟩
theorem tab96 : T 96 = some F96 := by kernel_rfl
abbrev bL97_0 : AC :=
 .seq (rgT [opT 17 (.next (.t 16)), opT 18 (.ext (.t 17) 0)]) (.seq (.cond (.t 18) .skip (.exit 0)) (.block 1 (.seq (rgT [opT 19 (.ext (.t 17) 2), mvT 7 19]) (rgT [mvT 20 5, mvT 21 20, ⟨some 22, .mv (.t
 7), some (21, true), 0⟩, ⟨some 23, .bin .geq (.t 22) (.c (.int .i32 32)), some (21, true), 0⟩, opT 24 (.pick (.t 21) (.t 23) (.c (.bool false))), mvT 25 24, ⟨some 26, .mv (.t 7), some (25, true), 0⟩,
 ⟨some 27, .bin .leq (.t 26) (.c (.int .i32 126)), some (25, true), 0⟩, opT 28 (.pick (.t 25) (.t 27) (.c (.bool false))), mvT 5 28]))))
def L97_0 := bL97_0
theorem wL97_0 : Wp O L97_0 Q σ h = Wp O bL97_0 Q σ h := rfl
abbrev bK97_0 : AC :=
 .seq (.seq (rgT [mvT 29 5, opT 30 (.not (.t 29))]) (.cond (.t 30) (.seq (rgT [opT 31 (.build [.int .u8 0, .int .i64 0, .str [], .int .i64 0, .int .i64 0, .int .u8 0, .int .u8 0, .int .i64 0, .int .i64
 0] [(8, 1, .c (.int .i64 14))]), ⟨none, .store 9 (.t 2) (.t 31), none, 0⟩]) .ret) .skip)) (.seq (rgT [mvT 32 3, opT 33 (.build [.int .u8 0, .int .i64 0, .str [], .int .i64 0, .int .i64 0, .int .u8 0,
 .int .u8 0] [(0, 1, .c (.int .u8 10)), (2, 1, .t 32)]), mvT 34 3, opT 35 (.lenS (.t 34)), opT 36 (.bin .add (.t 35) (.c (.int .i64 2))), opT 37 (.build [.int .u8 0, .int .i64 0, .str [], .int .i64 0,
 .int .i64 0, .int .u8 0, .int .u8 0, .int .i64 0, .int .i64 0] [(0, 7, .t 33), (7, 1, .t 36)]), ⟨none, .store 9 (.t 2) (.t 37), none, 0⟩]) .ret)
def K97_0 := bK97_0
theorem wK97_0 : Wp O K97_0 Q σ h = Wp O bK97_0 Q σ h := rfl
abbrev bB97 : AC :=
 .seq (.region [opT 2 (.alloc [.int .u8 0, .int .i64 0, .str [], .int .i64 0, .int .i64 0, .int .u8 0, .int .u8 0, .int .i64 0, .int .i64 0])] 1 false []) (.seq (rgT [mvT 9 0, opT 10 (.sliceS (.t 9)
 (some (.c (.int .i64 1))) none), opT 11 (.call (.c (.fn 73 [])) [.t 10, .c (.str [34])]), mvT 8 11, opT 12 (.ext (.t 8) 0), opT 13 (.ext (.t 8) 1), opT 14 (.ext (.t 8) 2), mvT 3 12, mvT 4 13, mvT 5
 14]) (.seq (.seq (.region [mvT 15 3, opT 16 (.rangeS (.t 15))] 1 false []) (.block 0 (.loop L97_0))) K97_0))
def B97 := bB97
theorem wB97 : Wp O B97 Q σ h = Wp O bB97 Q σ h := rfl
def F97 : AF := ⟨B97, [.cell 2 (some 9)], false⟩
theorem tab97 : T 97 = some F97 := by kernel_rfl
abbrev bL98_0 : AC :=
 .seq (.seq (rgT [opT 59 (.load none (.t 4)), opT 60 (.load none (.t 1)), opT 61 (.lenS (.t 60)), opT 62 (.bin .lss (.t 59) (.t 61)), mvT 63 62, ⟨some 64, .load none (.t 1), some (63, true), 0⟩, ⟨some
 65, .load none (.t 4), some (63, true), 0⟩, ⟨some 66, .indexS (.t 64) (.t 65), some (63, true), 0⟩, ⟨some 67, .bin .eql (.t 66) (.c (.int .u8 46)), some (63, true), 0⟩, opT 68 (.pick (.t 63) (.t 67)
 (.c (.bool false)))]) (.cond (.t 68) .skip (.exit 0))) (.block 1 (.seq (rgT [opT 69 (.load none (.t 4)), opT 70 (.bin .add (.t 69) (.c (.int .i64 1))), ⟨none, .store 1 (.t 4) (.t 70), none, 0⟩]) (.seq
 (rgT [mvT 72 5, opT 73 (.call (.t 72) []), mvT 71 73, opT 74 (.ext (.t 71) 0), opT 75 (.ext (.t 71) 1), mvT 12 74, mvT 13 75]) (.seq (.seq (rgT [mvT 76 13, opT 77 (.not (.t 76))]) (.cond (.t 77) (.seq
 (rgT [opT 78 (.load (some 9) (.t 6)), ⟨none, .store 9 (.t 2) (.t 78), none, 0⟩]) .ret) .skip)) (.region [mvT 79 11, mvT 80 12, opT 81 (.bslice 1 [.t 80]), opT 82 (.append 1 1 5 (.t 79) (.t 81)), ⟨some
 11, .mv (.t 82), none, 1⟩] 1 false [])))))
def L98_0 := bL98_0
theorem wL98_0 : Wp O L98_0 Q σ h = Wp O bL98_0 Q σ h := rfl
abbrev bK98_0 : AC :=
 .seq (rgT [mvT 83 11, opT 84 (.cvBytesStr (.t 83)), opT 85 (.build [.int .u8 0, .int .i64 0, .str [], .int .i64 0, .int .i64 0, .int .u8 0, .int .u8 0] [(0, 1, .c (.int .u8 11)), (2, 1, .t 84)]), opT
 86 (.load none (.t 4)), opT 87 (.build [.int .u8 0, .int .i64 0, .str [], .int .i64 0, .int .i64 0, .int .u8 0, .int .u8 0, .int .i64 0, .int .i64 0] [(0, 7, .t 85), (7, 1, .t 86)]), ⟨none, .store 9
 (.t 2) (.t 87), none, 0⟩]) .ret
def K98_0 := bK98_0
theorem wK98_0 : Wp O K98_0 Q σ h = Wp O bK98_0 Q σ h := rfl
abbrev bB98 : AC :=
 .seq (.region [opT 1 (.box 1 (.t 0)), ⟨some 2, .alloc [.int .u8 0, .int .i64 0, .str [], .int .i64 0, .int .i64 0, .int .u8 0, .int .u8 0, .int .i64 0, .int .i64 0], none, 1⟩] 2 false []) (.seq
 (.region [opT 14 (.load none (.t 1)), opT 15 (.sliceS (.t 14) (some (.c (.int .i64 1))) none), opT 16 (.call (.c (.fn 115 [])) [.t 15]), opT 3 (.alloc [.int .i64 0]), ⟨some 4, .alloc [.int .i64 0],
 none, 1⟩, ⟨none, .store 1 (.t 3) (.t 16), none, 2⟩, ⟨none, .store 1 (.t 4) (.c (.int .i64 2)), none, 2⟩] 2 false []) (.seq (rgT [opT 17 (.mkfn 116 [.t 1, .t 4, .t 3]), mvT 5 17]) (.seq (.region [opT 18
 (.build [.int .u8 0, .int .i64 0, .str [], .int .i64 0, .int .i64 0, .int .u8 0, .int .u8 0, .int .i64 0, .int .i64 0] [(8, 1, .c (.int .i64 15))]), opT 6 (.alloc [.int .u8 0, .int .i64 0, .str [],
 .int .i64 0, .int .i64 0, .int .u8 0, .int .u8 0, .int .i64 0, .int .i64 0]), ⟨none, .store 9 (.t 6) (.t 18), none, 1⟩] 1 false []) (.seq (rgT [mvT 20 5, opT 21 (.call (.t 20) []), mvT 19 21, opT 22
 (.ext (.t 19) 0), opT 23 (.ext (.t 19) 1), mvT 7 22, mvT 8 23]) (.seq (.seq (rgT [mvT 24 8, opT 25 (.not (.t 24))]) (.cond (.t 25) (.seq (rgT [opT 26 (.load (some 9) (.t 6)), ⟨none, .store 9 (.t 2) (.t
 26), none, 0⟩]) .ret) .skip)) (.seq (.seq (rgT [opT 27 (.load none (.t 4)), opT 28 (.load none (.t 1)), opT 29 (.lenS (.t 28)), opT 30 (.bin .lss (.t 27) (.t 29)), mvT 31 30, ⟨some 32, .load none (.t
 1), some (31, true), 0⟩, ⟨some 33, .load none (.t 4), some (31, true), 0⟩, ⟨some 34, .indexS (.t 32) (.t 33), some (31, true), 0⟩, ⟨some 35, .bin .eql (.t 34) (.c (.int .u8 45)), some (31, true), 0⟩,
 opT 36 (.pick (.t 31) (.t 35) (.c (.bool false)))]) (.cond (.t 36) (.seq (rgT [opT 37 (.load none (.t 4)), opT 38 (.bin .add (.t 37) (.c (.int .i64 1))), ⟨none, .store 1 (.t 4) (.t 38), none, 0⟩])
 (.seq (rgT [mvT 40 5, opT 41 (.call (.t 40) []), mvT 39 41, opT 42 (.ext (.t 39) 0), opT 43 (.ext (.t 39) 1), mvT 9 42, mvT 10 43]) (.seq (.seq (rgT [mvT 44 10, opT 45 (.not (.t 44)), mvT 46 45, ⟨some
 47, .mv (.t 7), some (46, false), 0⟩, ⟨some 48, .mv (.t 9), some (46, false), 0⟩, ⟨some 49, .bin .gtr (.t 47) (.t 48), some (46, false), 0⟩, opT 50 (.pick (.t 46) (.c (.bool true)) (.t 49))]) (.cond
 (.t 50) (.seq (rgT [opT 51 (.load (some 9) (.t 6)), ⟨none, .store 9 (.t 2) (.t 51), none, 0⟩]) .ret) .skip)) (.seq (rgT [mvT 52 7, mvT 53 9, opT 54 (.build [.int .u8 0, .int .i64 0, .str [], .int .i64
 0, .int .i64 0, .int .u8 0, .int .u8 0] [(0, 1, .c (.int .u8 12)), (5, 1, .t 52), (6, 1, .t 53)]), opT 55 (.load none (.t 4)), opT 56 (.build [.int .u8 0, .int .i64 0, .str [], .int .i64 0, .int .i64
 0, .int .u8 0, .int .u8 0, .int .i64 0, .int .i64 0] [(0, 7, .t 54), (7, 1, .t 55)]), ⟨none, .store 9 (.t 2) (.t 56), none, 0⟩]) .ret)))) .skip)) (.seq (rgT [mvT 57 7, opT 58 (.bslice 1 [.t 57]), mvT
 11 58]) (.seq (.block 0 (.loop L98_0)) K98_0))))))))
def B98 := bB98
theorem wB98 : Wp O B98 Q σ h = Wp O bB98 Q σ h := rfl
def F98 : AF := ⟨B98, [.cell 2 (some 9)], false⟩
theorem tab98 : T 98 = some F98 := by kernel_rfl
abbrev bB99 : AC :=
 .seq (.region [opT 2 (.alloc [.int .u8 0, .int .i64 0, .str [], .int .i64 0, .int .i64 0, .int .u8 0, .int .u8 0, .int .i64 0, .int .i64 0])] 1 false []) (.seq (rgT [opT 3 (.build [.int .u8 0, .int
 .i64 0, .str [], .int .i64 0, .int .i64 0, .int .u8 0, .int .u8 0, .int .i64 0, .int .i64 0] [(8, 1, .c (.int .i64 16))]), ⟨none, .store 9 (.t 2) (.t 3), none, 0⟩]) .ret)
def B99 := bB99
theorem wB99 : Wp O B99 Q σ h = Wp O bB99 Q σ h := rfl
def F99 : AF := ⟨B99, [.cell 2 (some 9)], false⟩
theorem tab99 : T 99 = some F99 := by kernel_rfl
abbrev bB100 : AC :=
 .seq (rgT [opT 2 (.mv (.c (.bool false)))]) (.seq (rgT [opT 2 (.mv (.c (.bool true)))]) .ret)
def B100 := bB100
theorem wB100 : Wp O B100 Q σ h = Wp O bB100 Q σ h := rfl
def F100 : AF := ⟨B100, [.tmp 2], false⟩
theorem tab100 : T 100 = some F100 := by kernel_rfl
abbrev bB101 : AC :=
 .seq (.region [opT 2 (.alloc [.int .u8 0, .int .i64 0, .str [], .int .i64 0, .int .i64 0, .int .u8 0, .int .u8 0, .int .i64 0, .int .i64 0])] 1 false []) (.seq (rgT [opT 3 (.build [.int .u8 0, .int
 .i64 0, .str [], .int .i64 0, .int .i64 0, .int .u8 0, .int .u8 0, .int .i64 0, .int .i64 0] [(8, 1, .c (.int .i64 11))]), ⟨none, .store 9 (.t 2) (.t 3), none, 0⟩]) .ret)
def B101 := bB101
theorem wB101 : Wp O B101 Q σ h = Wp O bB101 Q σ h := rfl
def F101 : AF := ⟨B101, [.cell 2 (some 9)], false⟩
theorem tab101 : T 101 = some F101 := by kernel_rfl
abbrev bB102 : AC :=
 .seq (rgT [opT 4 (.mv (.c (.str []))), opT 5 (.mv (.c (.str []))), opT 6 (.mv (.c (.bool false)))]) (.seq (.seq (rgT [mvT 8 0, mvT 9 1, opT 10 (.call (.c (.fn 119 [])) [.t 8, .t 9]), mvT 7 10]) (.seq
 (rgT [mvT 11 7, opT 12 (.bin .geq (.t 11) (.c (.int .i64 0)))]) (.cond (.t 12) (.seq (.region [mvT 13 0, mvT 14 7, opT 15 (.sliceS (.t 13) none (some (.t 14))), mvT 16 0, mvT 17 7, mvT 18 1, opT 19
 (.lenS (.t 18)), opT 20 (.bin .add (.t 17) (.t 19)), opT 21 (.sliceS (.t 16) (some (.t 20)) none), mvT 4 15, mvT 5 21, opT 6 (.mv (.c (.bool true)))] 0 true []) .ret) .skip))) (.seq (rgT [mvT 22 0, mvT
 4 22, opT 5 (.mv (.c (.str []))), opT 6 (.mv (.c (.bool false)))]) .ret))
def B102 := bB102
theorem wB102 : Wp O B102 Q σ h = Wp O bB102 Q σ h := rfl
def F102 : AF := ⟨B102, [.tmp 4, .tmp 5, .tmp 6], false⟩
theorem tab102 : T 102 = some F102 := by kernel_rfl
abbrev bB103 : AC :=
 .seq (rgT [opT 4 (.mv (.c (.str [])))]) (.seq (.seq (rgT [mvT 5 0, mvT 6 1, opT 7 (.call (.c (.fn 120 [])) [.t 5, .t 6])]) (.cond (.t 7) (.seq (rgT [mvT 8 0, mvT 9 0, opT 10 (.lenS (.t 9)), mvT 11 1,
 opT 12 (.lenS (.t 11)), opT 13 (.bin .sub (.t 10) (.t 12)), opT 14 (.sliceS (.t 8) none (some (.t 13))), mvT 4 14]) .ret) .skip)) (.seq (rgT [mvT 15 0, mvT 4 15]) .ret))
def B103 := bB103
theorem wB103 : Wp O B103 Q σ h = Wp O bB103 Q σ h := rfl
def F103 : AF := ⟨B103, [.tmp 4], false⟩
theorem tab103 : T 103 = some F103 := by kernel_rfl
abbrev bB126 : AC :=
 .seq (rgT [opT 4 (.mv (.c (.bool false)))]) (.seq (rgT [mvT 5 0, opT 6 (.lenS (.t 5)), mvT 7 1, opT 8 (.lenS (.t 7)), opT 9 (.bin .geq (.t 6) (.t 8)), mvT 10 9, ⟨some 11, .mv (.t 0), some (10, true),
 0⟩, ⟨some 12, .mv (.t 1), some (10, true), 0⟩, ⟨some 13, .lenS (.t 12), some (10, true), 0⟩, ⟨some 14, .sliceS (.t 11) none (some (.t 13)), some (10, true), 0⟩, ⟨some 15, .mv (.t 1), some (10, true),
 0⟩, ⟨some 16, .bin .eql (.t 14) (.t 15), some (10, true), 0⟩, opT 17 (.pick (.t 10) (.t 16) (.c (.bool false))), mvT 4 17]) .ret)
def B126 := bB126
theorem wB126 : Wp O B126 Q σ h = Wp O bB126 Q σ h := rfl
def F126 : AF := ⟨B126, [.tmp 4], false⟩
theorem tab126 : T 126 = some F126 := by kernel_rfl
abbrev bL119_0 : AC :=
 .seq (.seq (rgT [mvT 57 8, mvT 58 9, opT 59 (.bin .lss (.t 57) (.t 58))]) (.cond (.t 59) .skip (.exit 1))) (.block 2 (.seq (.seq (rgT [mvT 60 0, mvT 61 8, opT 62 (.indexS (.t 60) (.t 61)), mvT 63 6,
 opT 64 (.bin .neq (.t 62) (.t 63))]) (.cond (.t 64) (.seq (rgT [mvT 65 0, mvT 66 8, opT 67 (.bin .add (.t 66) (.c (.int .i64 1))), mvT 68 9, opT 69 (.sliceS (.t 65) (some (.t 67)) (some (.t 68))), mvT
 70 6, opT 71 (.call (.c (.fn 127 [])) [.t 69, .t 70]), mvT 11 71]) (.seq (.seq (rgT [mvT 72 11, opT 73 (.bin .lss (.t 72) (.c (.int .i64 0)))]) (.cond (.t 73) (.seq (rgT [opT 4 (.mv (.c (.int .i64
 (-1))))]) .ret) .skip)) (rgT [mvT 74 8, mvT 75 11, opT 76 (.bin .add (.t 75) (.c (.int .i64 1))), opT 77 (.bin .add (.t 74) (.t 76)), mvT 8 77]))) .skip)) (.seq (.seq (rgT [mvT 78 0, mvT 79 8, opT 80
 (.bin .add (.t 79) (.c (.int .i64 1))), opT 81 (.indexS (.t 78) (.t 80)), mvT 82 7, opT 83 (.bin .eql (.t 81) (.t 82)), mvT 84 83, ⟨some 85, .mv (.t 0), some (84, true), 0⟩, ⟨some 86, .mv (.t 8), some
 (84, true), 0⟩, ⟨some 87, .mv (.t 8), some (84, true), 0⟩, ⟨some 88, .mv (.t 5), some (84, true), 0⟩, ⟨some 89, .bin .add (.t 87) (.t 88), some (84, true), 0⟩, ⟨some 90, .sliceS (.t 85) (some (.t 86))
 (some (.t 89)), some (84, true), 0⟩, ⟨some 91, .mv (.t 1), some (84, true), 0⟩, ⟨some 92, .bin .eql (.t 90) (.t 91), some (84, true), 0⟩, opT 93 (.pick (.t 84) (.t 92) (.c (.bool false)))]) (.cond (.t
 93) (.seq (rgT [mvT 94 8, mvT 4 94]) .ret) .skip)) (.seq (rgT [mvT 95 8, opT 96 (.bin .add (.t 95) (.c (.int .i64 1))), mvT 8 96]) (.seq (rgT [mvT 97 10, opT 98 (.bin .add (.t 97) (.c (.int .i64 1))),
 mvT 10 98]) (.seq (rgT [mvT 99 5, opT 100 (.fail), opT 101 (.bin .leq (.t 99) (.t 100)), mvT 102 101, ⟨some 103, .mv (.t 10), some (102, true), 0⟩, ⟨some 104, .mv (.t 8), some (102, true), 0⟩, ⟨some
 105, .call (.c (.fn 129 [])) [.t 104], some (102, true), 0⟩, ⟨some 106, .bin .gtr (.t 103) (.t 105), some (102, true), 0⟩, opT 107 (.pick (.t 102) (.t 106) (.c (.bool false)))]) (.cond (.t 107) (.seq
 (rgT [mvT 108 0, mvT 109 8, opT 110 (.sliceS (.t 108) (some (.t 109)) none), mvT 111 1, opT 112 (.call (.c (.fn 128 [])) [.t 110, .t 111]), mvT 12 112]) (.seq (.seq (rgT [mvT 113 12, opT 114 (.bin .geq
 (.t 113) (.c (.int .i64 0)))]) (.cond (.t 114) (.seq (rgT [mvT 115 12, mvT 116 8, opT 117 (.bin .add (.t 115) (.t 116)), mvT 4 117]) .ret) .skip)) (.seq (rgT [opT 4 (.mv (.c (.int .i64 (-1))))])
 .ret))) (.seq (rgT [mvT 118 5, opT 119 (.fail), opT 120 (.bin .gtr (.t 118) (.t 119)), mvT 121 120, ⟨some 122, .mv (.t 10), some (121, true), 0⟩, ⟨some 123, .mv (.t 8), some (121, true), 0⟩, ⟨some 124,
 .bin .shr (.t 123) (.c (.int .u64 4)), some (121, true), 0⟩, ⟨some 125, .bin .add (.c (.int .i64 4)) (.t 124), some (121, true), 0⟩, ⟨some 126, .bin .geq (.t 122) (.t 125), some (121, true), 0⟩, opT
 127 (.pick (.t 121) (.t 126) (.c (.bool false))), mvT 128 127, ⟨some 129, .mv (.t 8), some (128, true), 0⟩, ⟨some 130, .mv (.t 9), some (128, true), 0⟩, ⟨some 131, .bin .lss (.t 129) (.t 130), some
 (128, true), 0⟩, opT 132 (.pick (.t 128) (.t 131) (.c (.bool false)))]) (.cond (.t 132) (.seq (rgT [mvT 133 0, mvT 134 8, opT 135 (.sliceS (.t 133) (some (.t 134)) none), mvT 136 1, opT 137 (.call (.c
 (.fn 130 [])) [.t 135, .t 136]), mvT 13 137]) (.seq (.seq (rgT [mvT 138 13, opT 139 (.bin .lss (.t 138) (.c (.int .i64 0)))]) (.cond (.t 139) (.seq (rgT [opT 4 (.mv (.c (.int .i64 (-1))))]) .ret)
 .skip)) (.seq (rgT [mvT 140 8, mvT 141 13, opT 142 (.bin .add (.t 140) (.t 141)), mvT 4 142]) .ret))) .skip)))))))))
def L119_0 := bL119_0
abbrev bK119_0 : AC :=
 .seq (rgT [opT 4 (.mv (.c (.int .i64 (-1))))]) .ret
def K119_0 := bK119_0
abbrev bB119 : AC :=
 .seq (rgT [opT 4 (.mv (.c (.int .i64 0)))]) (.seq (rgT [mvT 14 1, opT 15 (.lenS (.t 14)), mvT 5 15]) (.seq (.block 0 (.seq (rgT [mvT 17 5, opT 18 (.bin .eql (.t 17) (.c (.int .i64 0))), mvT 19 18,
 ⟨some 20, .mv (.t 1), some (19, false), 0⟩, ⟨some 21, .mv (.t 0), some (19, false), 0⟩, ⟨some 22, .bin .eql (.t 20) (.t 21), some (19, false), 0⟩, opT 23 (.pick (.t 19) (.c (.bool true)) (.t 22)), mvT
 16 23]) (.cond (.t 16) (.seq (rgT [opT 4 (.mv (.c (.int .i64 0)))]) .ret) (.seq (rgT [mvT 25 5, opT 26 (.bin .eql (.t 25) (.c (.int .i64 1))), mvT 24 26]) (.cond (.t 24) (.seq (rgT [mvT 27 0, mvT 28 1,
 opT 29 (.indexS (.t 28) (.c (.int .i64 0))), opT 30 (.call (.c (.fn 127 [])) [.t 27, .t 29]), mvT 4 30]) .ret) (.seq (rgT [mvT 32 5, mvT 33 0, opT 34 (.lenS (.t 33)), opT 35 (.bin .geq (.t 32) (.t
 34)), mvT 31 35]) (.cond (.t 31) (.seq (rgT [opT 4 (.mv (.c (.int .i64 (-1))))]) .ret) (.seq (rgT [mvT 37 5, opT 38 (.fail), opT 39 (.bin .leq (.t 37) (.t 38)), mvT 40 39, ⟨some 41, .mv (.t 0), some
 (40, true), 0⟩, ⟨some 42, .lenS (.t 41), some (40, true), 0⟩, ⟨some 43, .bin .leq (.t 42) (.c (.int .i64 64)), some (40, true), 0⟩, opT 44 (.pick (.t 40) (.t 43) (.c (.bool false))), mvT 36 44]) (.cond
 (.t 36) (.seq (rgT [mvT 45 0, mvT 46 1, opT 47 (.call (.c (.fn 128 [])) [.t 45, .t 46]), mvT 4 47]) .ret) .skip))))))))) (.seq (rgT [mvT 48 1, opT 49 (.indexS (.t 48) (.c (.int .i64 0))), mvT 6 49])
 (.seq (rgT [mvT 50 1, opT 51 (.indexS (.t 50) (.c (.int .i64 1))), mvT 7 51]) (.seq (rgT [opT 8 (.mv (.c (.int .i64 0)))]) (.seq (rgT [mvT 52 0, opT 53 (.lenS (.t 52)), mvT 54 5, opT 55 (.bin .sub (.t
 53) (.t 54)), opT 56 (.bin .add (.t 55) (.c (.int .i64 1))), mvT 9 56]) (.seq (rgT [opT 10 (.mv (.c (.int .i64 0)))]) (.seq (.block 1 (.loop L119_0)) K119_0))))))))
def B119 := bB119
theorem wB119 : Wp O B119 Q σ h = Wp O bB119 Q σ h := rfl
def F119 : AF := ⟨B119, [.tmp 4], false⟩
theorem tab119 : T 119 = some F119 := by kernel_rfl
abbrev bB111 : AC :=
 .seq (rgT [opT 2 (.mv (.c (.bool false)))]) (.seq (rgT [mvT 3 0, opT 4 (.call (.c (.fn 77 [])) [.t 3]), mvT 5 4, ⟨some 6, .mv (.t 0), some (5, false), 0⟩, ⟨some 7, .call (.c (.fn 95 [])) [.t 6], some
 (5, false), 0⟩, opT 8 (.pick (.t 5) (.c (.bool true)) (.t 7)), mvT 9 8, ⟨some 10, .mv (.t 0), some (9, false), 0⟩, ⟨some 11, .bin .eql (.t 10) (.c (.int .u8 45)), some (9, false), 0⟩, opT 12 (.pick (.t
 9) (.c (.bool true)) (.t 11)), mvT 2 12]) .ret)
def B111 := bB111
theorem wB111 : Wp O B111 Q σ h = Wp O bB111 Q σ h := rfl
def F111 : AF := ⟨B111, [.tmp 2], false⟩
theorem tab111 : T 111 = some F111 := by kernel_rfl
abbrev bB113 : AC :=
 .seq (.region [opT 3 (.alloc [.int .u8 0, .int .i64 0, .str [], .int .i64 0, .int .i64 0, .int .u8 0, .int .u8 0, .int .i64 0, .int .i64 0])] 1 false []) (.seq (rgT [opT 4 (.load none (.t 1)), opT 5
 (.build [.int .u8 0, .int .i64 0, .str [], .int .i64 0, .int .i64 0, .int .u8 0, .int .u8 0] [(0, 1, .t 4)]), opT 6 (.build [.int .u8 0, .int .i64 0, .str [], .int .i64 0, .int .i64 0, .int .u8 0, .int
 .u8 0, .int .i64 0, .int .i64 0] [(0, 7, .t 5), (7, 1, .c (.int .i64 1))]), ⟨none, .store 9 (.t 3) (.t 6), none, 0⟩]) .ret)
def B113 := bB113
theorem wB113 : Wp O B113 Q σ h = Wp O bB113 Q σ h := rfl
def F113 : AF := ⟨B113, [.cell 3 (some 9)], false⟩
theorem tab113 : T 113 = some F113 := by kernel_rfl
abbrev bL114_0 : AC :=
 .seq (rgT [opT 10 (.bin .lss (.t 9) (.t 8))]) (.seq (.cond (.t 10) .skip (.exit 0)) (.seq (.block 1 (.seq (rgT [mvT 11 9, mvT 6 11]) (rgT [mvT 12 5, mvT 13 1, opT 14 (.bin .mul (.t 12) (.t 13)), mvT 15
 0, mvT 16 6, opT 17 (.indexS (.t 15) (.t 16)), opT 18 (.call (.c (.fn 118 [])) [.t 17]), opT 19 (.bin .add (.t 14) (.t 18)), mvT 5 19]))) (rgT [opT 20 (.bin .add (.t 9) (.c (.int .i64 1))), mvT 9
 20])))
def L114_0 := bL114_0
theorem wL114_0 : Wp O L114_0 Q σ h = Wp O bL114_0 Q σ h := rfl
abbrev bK114_0 : AC :=
 .seq (rgT [mvT 21 5, mvT 4 21]) .ret
def K114_0 := bK114_0
theorem wK114_0 : Wp O K114_0 Q σ h = Wp O bK114_0 Q σ h := rfl
abbrev bB114 : AC :=
 .seq (rgT [opT 4 (.mv (.c (.int .i64 0)))]) (.seq (rgT [opT 5 (.mv (.c (.int .i64 0)))]) (.seq (.seq (rgT [mvT 7 0, opT 8 (.lenS (.t 7)), opT 9 (.mv (.c (.int .i64 0)))]) (.block 0 (.loop L114_0)))
 K114_0))
def B114 := bB114
theorem wB114 : Wp O B114 Q σ h = Wp O bB114 Q σ h := rfl
def F114 : AF := ⟨B114, [.tmp 4], false⟩
theorem tab114 : T 114 = some F114 := by kernel_rfl
abbrev bB115 : AC :=
 .seq (rgT [opT 2 (.mv (.c (.int .i64 0)))]) (.seq (.seq (rgT [mvT 3 0, opT 4 (.bin .eql (.t 3) (.c (.str [])))]) (.cond (.t 4) (.seq (rgT [opT 2 (.mv (.c (.int .i64 0)))]) .ret) .skip)) (.seq (.seq
 (rgT [mvT 5 0, opT 6 (.indexS (.t 5) (.c (.int .i64 0))), opT 7 (.bin .or (.t 6) (.c (.int .u8 32)))]) (.block 0 (.seq (rgT [opT 9 (.bin .eql (.t 7) (.c (.int .u8 120))), mvT 8 9]) (.cond (.t 8) (.seq
 (rgT [opT 2 (.mv (.c (.int .i64 16)))]) .ret) (.seq (rgT [opT 11 (.bin .eql (.t 7) (.c (.int .u8 100))), mvT 10 11]) (.cond (.t 10) (.seq (rgT [opT 2 (.mv (.c (.int .i64 10)))]) .ret) (.seq (rgT [opT
 13 (.bin .eql (.t 7) (.c (.int .u8 98))), mvT 12 13]) (.cond (.t 12) (.seq (rgT [opT 2 (.mv (.c (.int .i64 2)))]) .ret) .skip)))))))) (.seq (rgT [opT 2 (.mv (.c (.int .i64 0)))]) .ret)))
def B115 := bB115
theorem wB115 : Wp O B115 Q σ h = Wp O bB115 Q σ h := rfl
def F115 : AF := ⟨B115, [.tmp 2], false⟩
theorem tab115 : T 115 = some F115 := by kernel_rfl
abbrev bB116 : AC :=
 .seq (rgT [opT 3 (.mv (.c (.int .u8 0))), opT 4 (.mv (.c (.bool false)))]) (.seq (rgT [opT 7 (.load none (.t 0)), opT 8 (.load none (.t 1)), opT 9 (.load none (.t 0)), opT 10 (.lenS (.t 9)), opT 11
 (.min (.t 8) (.t 10)), opT 12 (.sliceS (.t 7) (some (.t 11)) none), opT 13 (.mkfn 117 [.t 2]), opT 14 (.call (.c (.fn 75 [])) [.t 12, .t 13]), mvT 5 14]) (.seq (.seq (rgT [mvT 15 5, opT 16 (.bin .eql
 (.t 15) (.c (.int .i64 0))), mvT 17 16, ⟨some 18, .mv (.t 5), some (17, false), 0⟩, ⟨some 19, .bin .gtr (.t 18) (.c (.int .i64 8)), some (17, false), 0⟩, opT 20 (.pick (.t 17) (.c (.bool true)) (.t
 19))]) (.cond (.t 20) (.seq (rgT [opT 3 (.mv (.c (.int .u8 0))), opT 4 (.mv (.c (.bool false)))]) .ret) .skip)) (.seq (.region [opT 21 (.load none (.t 0)), opT 22 (.load none (.t 1)), opT 23 (.load
 none (.t 1)), mvT 24 5, opT 25 (.bin .add (.t 23) (.t 24)), opT 26 (.sliceS (.t 21) (some (.t 22)) (some (.t 25))), opT 27 (.load none (.t 2)), opT 28 (.call (.c (.fn 114 [])) [.t 26, .t 27]), mvT 6
 28] 0 true []) (.seq (rgT [opT 29 (.load none (.t 1)), mvT 30 5, opT 31 (.bin .add (.t 29) (.t 30)), ⟨none, .store 1 (.t 1) (.t 31), none, 0⟩]) (.seq (rgT [mvT 32 6, opT 33 (.cvInt .u8 (.t 32)), mvT 34
 6, opT 35 (.bin .leq (.t 34) (.c (.int .i64 255))), mvT 3 33, mvT 4 35]) .ret)))))
def B116 := bB116
theorem wB116 : Wp O B116 Q σ h = Wp O bB116 Q σ h := rfl
def F116 : AF := ⟨B116, [.tmp 3, .tmp 4], true⟩
theorem tab116 : T 116 = some F116 := by kernel_rfl
abbrev bB117 : AC :=
 .seq (rgT [opT 3 (.mv (.c (.bool false)))]) (.seq (.region [mvT 4 0, opT 5 (.call (.c (.fn 118 [])) [.t 4]), opT 6 (.load none (.t 1)), opT 7 (.bin .lss (.t 5) (.t 6)), mvT 3 7] 0 true [(1, 2)]) .ret)
def B117 := bB117
theorem wB117 : Wp O B117 Q σ h = Wp O bB117 Q σ h := rfl
def F117 : AF := ⟨B117, [.tmp 3], false⟩
theorem tab117 : T 117 = some F117 := by kernel_rfl
abbrev bB118 : AC :=
 .seq (rgT [opT 2 (.mv (.c (.int .i64 0)))]) (.seq (.block 0 (.seq (rgT [mvT 4 0, opT 5 (.call (.c (.fn 95 [])) [.t 4]), mvT 3 5]) (.cond (.t 3) (.seq (rgT [mvT 6 0, opT 7 (.bin .sub (.t 6) (.c (.int
 .u8 48))), opT 8 (.cvInt .i64 (.t 7)), mvT 2 8]) .ret) (.seq (rgT [mvT 10 0, opT 11 (.bin .or (.t 10) (.c (.int .u8 32))), opT 12 (.bin .geq (.t 11) (.c (.int .u8 97))), mvT 13 12, ⟨some 14, .mv (.t
 0), some (13, true), 0⟩, ⟨some 15, .bin .or (.t 14) (.c (.int .u8 32)), some (13, true), 0⟩, ⟨some 16, .bin .leq (.t 15) (.c (.int .u8 102)), some (13, true), 0⟩, opT 17 (.pick (.t 13) (.t 16) (.c
 (.bool false))), mvT 9 17]) (.cond (.t 9) (.seq (rgT [mvT 18 0, opT 19 (.bin .or (.t 18) (.c (.int .u8 32))), opT 20 (.bin .sub (.t 19) (.c (.int .u8 97))), opT 21 (.cvInt .i64 (.t 20)), opT 22 (.bin
 .add (.t 21) (.c (.int .i64 10))), mvT 2 22]) .ret) .skip))))) (.seq (rgT [opT 2 (.mv (.c (.int .i64 16)))]) .ret))
def B118 := bB118
theorem wB118 : Wp O B118 Q σ h = Wp O bB118 Q σ h := rfl
def F118 : AF := ⟨B118, [.tmp 2], false⟩
theorem tab118 : T 118 = some F118 := by kernel_rfl
abbrev bB120 : AC :=
 .seq (rgT [opT 4 (.mv (.c (.bool false)))]) (.seq (rgT [mvT 5 0, opT 6 (.lenS (.t 5)), mvT 7 1, opT 8 (.lenS (.t 7)), opT 9 (.bin .geq (.t 6) (.t 8)), mvT 10 9, ⟨some 11, .mv (.t 0), some (10, true),
 0⟩, ⟨some 12, .mv (.t 0), some (10, true), 0⟩, ⟨some 13, .lenS (.t 12), some (10, true), 0⟩, ⟨some 14, .mv (.t 1), some (10, true), 0⟩, ⟨some 15, .lenS (.t 14), some (10, true), 0⟩, ⟨some 16, .bin .sub
 (.t 13) (.t 15), some (10, true), 0⟩, ⟨some 17, .sliceS (.t 11) (some (.t 16)) none, some (10, true), 0⟩, ⟨some 18, .mv (.t 1), some (10, true), 0⟩, ⟨some 19, .bin .eql (.t 17) (.t 18), some (10,
 true), 0⟩, opT 20 (.pick (.t 10) (.t 19) (.c (.bool false))), mvT 4 20]) .ret)
def B120 := bB120
theorem wB120 : Wp O B120 Q σ h = Wp O bB120 Q σ h := rfl
def F120 : AF := ⟨B120, [.tmp 4], false⟩
theorem tab120 : T 120 = some F120 := by kernel_rfl
abbrev bB127 : AC :=
 .seq (rgT [opT 4 (.mv (.c (.int .i64 0)))]) (.seq (rgT [mvT 5 0, mvT 6 1, opT 7 (.call (.c (.fn 137 [])) [.t 5, .t 6]), mvT 4 7]) .ret)
def B127 := bB127
theorem wB127 : Wp O B127 Q σ h = Wp O bB127 Q σ h := rfl
def F127 : AF := ⟨B127, [.tmp 4], false⟩
theorem tab127 : T 127 = some F127 := by kernel_rfl
abbrev bL64_0 : AC :=
 .seq (.seq (rgT [mvT 13 5, opT 14 (.nilchk (.t 13)), opT 15 (.off 1 (.t 14)), opT 16 (.load none (.t 15)), mvT 17 0, opT 18 (.len (.t 17)), opT 19 (.bin .lss (.t 16) (.t 18))]) (.cond (.t 19) .skip
 (.exit 0))) (.block 1 (.seq (.region [mvT 20 5, opT 21 (.cvStrBytes 5 (.c (.str [1]))), ⟨some 22, .call (.c (.fn 79 [])) [.t 20, .t 21], none, 1⟩, ⟨some 7, .alloc [.int .u8 0, .int .i64 0, .str [],
 .int .i64 0, .int .i64 0, .int .u8 0, .int .u8 0], none, 1⟩, ⟨none, .store 7 (.t 7) (.t 22), none, 2⟩] 2 false []) (.seq (rgT [mvT 23 5, opT 24 (.off 2 (.t 7)), opT 25 (.load none (.t 24)), opT 26
 (.call (.c (.fn 81 [])) [.t 25]), opT 27 (.build [.int .u8 0, .str [], .int .u8 0, .int .u8 0, .int .i64 0, .int .i64 0, .list 7 [] .full] [(0, 1, .c (.int .u8 1)), (1, 1, .t 26)]), opT 28 (.call (.c
 (.fn 80 [])) [.t 23, .t 27])]) (.seq (.region [mvT 29 5, opT 30 (.cvStrBytes 5 (.c (.str [2, 3]))), ⟨some 31, .call (.c (.fn 79 [])) [.t 29, .t 30], none, 1⟩, ⟨some 8, .alloc [.int .u8 0, .int .i64 0,
 .str [], .int .i64 0, .int .i64 0, .int .u8 0, .int .u8 0], none, 1⟩, ⟨none, .store 7 (.t 8) (.t 31), none, 2⟩] 2 false []) (.seq (.region [mvT 32 5, opT 33 (.call (.c (.fn 82 [])) [.t 32]), opT 9
 (.alloc [.int .u8 0, .str [], .int .u8 0, .int .u8 0, .int .i64 0, .int .i64 0, .list 7 [] .full]), ⟨none, .store 7 (.t 9) (.t 33), none, 1⟩] 1 false []) (.seq (.region [mvT 34 5, opT 35 (.cvStrBytes 5
 (.c (.str [13]))), ⟨some 36, .call (.c (.fn 79 [])) [.t 34, .t 35], none, 1⟩] 1 false []) (.seq (.block 2 (.seq (rgT [mvT 38 5, opT 39 (.nilchk (.t 38)), opT 40 (.off 2 (.t 39)), opT 41 (.load none (.t
 40)), mvT 37 41]) (.cond (.t 37) (.seq (.region [mvT 42 0, mvT 43 5, opT 44 (.nilchk (.t 43)), opT 45 (.off 1 (.t 44)), opT 46 (.load none (.t 45)), mvT 47 0, opT 48 (.len (.t 47)), opT 49 (.bin .sub
 (.t 48) (.c (.int .i64 1))), opT 50 (.min (.t 46) (.t 49)), opT 51 (.idx 7 (.t 42) (.t 50)), opT 52 (.off 1 (.t 51)), opT 53 (.load none (.t 52)), opT 2 (.mv (.c (.list 10 [] .full))), mvT 3 53, opT 4
 (.mv (.c (.int .i64 20)))] 0 true []) .ret) (.seq (rgT [opT 55 (.load (some 7) (.t 9)), opT 56 (.call (.c (.fn 46 [])) [.t 55]), opT 57 (.not (.t 56)), mvT 54 57]) (.cond (.t 54) (.seq (.region [opT 58
 (.off 1 (.t 7)), opT 59 (.load none (.t 58)), opT 2 (.mv (.c (.list 10 [] .full))), mvT 3 59, opT 4 (.mv (.c (.int .i64 21)))] 0 true []) .ret) .skip))))) (.region [mvT 60 6, opT 61 (.off 2 (.t 7)),
 opT 62 (.load none (.t 61)), opT 63 (.call (.c (.fn 81 [])) [.t 62]), opT 64 (.off 1 (.t 7)), opT 65 (.load none (.t 64)), opT 66 (.off 0 (.t 8)), opT 67 (.load none (.t 66)), opT 68 (.bin .eql (.t 67)
 (.c (.int .u8 3))), opT 69 (.load (some 7) (.t 9)), opT 70 (.build [.str [], .int .i64 0, .bool false, .int .u8 0, .str [], .int .u8 0, .int .u8 0, .int .i64 0, .int .i64 0, .list 7 [] .full] [(0, 1,
 .t 63), (1, 1, .t 65), (2, 1, .t 68), (3, 7, .t 69)]), opT 71 (.bslice 10 [.t 70]), opT 72 (.append 10 104 38 (.t 60) (.t 71)), ⟨some 6, .mv (.t 72), none, 1⟩] 1 true [(3, 5), (3, 7), (3, 9)]))))))))
def L64_0 := bL64_0
theorem wL64_0 : Wp O L64_0 Q σ h = Wp O bL64_0 Q σ h := rfl
abbrev bK64_0 : AC :=
 .seq (rgT [mvT 73 6, mvT 2 73, opT 3 (.mv (.c (.int .i64 0))), opT 4 (.mv (.c (.int .i64 0)))]) .ret
def K64_0 := bK64_0
theorem wK64_0 : Wp O K64_0 Q σ h = Wp O bK64_0 Q σ h := rfl
abbrev bB64 : AC :=
 .seq (rgT [opT 2 (.mv (.c (.list 10 [] .full))), opT 3 (.mv (.c (.int .i64 0))), opT 4 (.mv (.c (.int .i64 0)))]) (.seq (.region [mvT 10 0, opT 11 (.build [.list 7 [] .full, .int .i64 0, .bool false]
 [(0, 1, .t 10)]), opT 12 (.box 3 (.t 11)), ⟨some 5, .mv (.t 12), none, 1⟩] 1 false []) (.seq (rgT [opT 6 (.mv (.c (.list 10 [] .full)))]) (.seq (.block 0 (.loop L64_0)) K64_0)))
def B64 := bB64
theorem wB64 : Wp O B64 Q σ h = Wp O bB64 Q σ h := rfl
def F64 : AF := ⟨B64, [.tmp 2, .tmp 3, .tmp 4], false⟩
theorem tab64 : T 64 = some F64 := by kernel_rfl
abbrev bB46 : AC :=
 .seq (.region [opT 1 (.box 7 (.t 0)), ⟨some 2, .mv (.c (.bool false)), none, 1⟩] 1 false []) (.seq (rgT [opT 3 (.load (some 7) (.t 1)), opT 4 (.call (.c (.fn 58 [])) [.t 3, .c (.int .i64 100)]), mvT 2
 4]) .ret)
def B46 := bB46
theorem wB46 : Wp O B46 Q σ h = Wp O bB46 Q σ h := rfl
def F46 : AF := ⟨B46, [.tmp 2], false⟩
theorem tab46 : T 46 = some F46 := by kernel_rfl
abbrev bJ25_0 : AC :=
 .seq (.region [opT 17 (.off 0 (.t 1)), opT 18 (.load none (.t 17)), mvT 19 4, opT 20 (.bin .add (.t 18) (.t 19)), opT 21 (.off 3 (.t 1)), opT 22 (.load (some 7) (.t 21)), opT 23 (.call (.c (.fn 47 []))
 [.t 22]), opT 24 (.bin .add (.t 20) (.t 23)), mvT 2 24, opT 3 (.mv (.c (.int .i64 0)))] 0 true [(1, 6)]) .ret
def J25_0 := bJ25_0
theorem wJ25_0 : Wp O J25_0 Q σ h = Wp O bJ25_0 Q σ h := rfl
abbrev bB25 : AC :=
 .seq (.region [opT 1 (.box 10 (.t 0)), ⟨some 2, .mv (.c (.str [])), none, 1⟩, ⟨some 3, .mv (.c (.int .i64 0)), none, 1⟩] 1 false []) (.seq (.seq (rgT [opT 5 (.off 0 (.t 1)), opT 6 (.load none (.t 5)),
 opT 7 (.call (.c (.fn 45 [])) [.t 6]), opT 8 (.not (.t 7)), mvT 9 8, ⟨some 10, .off 3 (.t 1), some (9, false), 0⟩, ⟨some 11, .load (some 7) (.t 10), some (9, false), 0⟩, ⟨some 12, .call (.c (.fn 46
 [])) [.t 11], some (9, false), 0⟩, ⟨some 13, .not (.t 12), some (9, false), 0⟩, opT 14 (.pick (.t 9) (.c (.bool true)) (.t 13))]) (.cond (.t 14) (.seq (rgT [opT 2 (.mv (.c (.str []))), opT 3 (.mv (.c
 (.int .i64 2)))]) .ret) .skip)) (.seq (rgT [opT 4 (.mv (.c (.str [32, 61, 32])))]) (.seq (.seq (rgT [opT 15 (.off 2 (.t 1)), opT 16 (.load none (.t 15))]) (.cond (.t 16) (rgT [opT 4 (.mv (.c (.str [32,
 61, 47, 32])))]) .skip)) J25_0)))
def B25 := bB25
theorem wB25 : Wp O B25 Q σ h = Wp O bB25 Q σ h := rfl
def F25 : AF := ⟨B25, [.tmp 2, .tmp 3], false⟩
theorem tab25 : T 25 = some F25 := by kernel_rfl
abbrev bB79 : AC :=
 .seq (.region [opT 4 (.alloc [.int .u8 0, .int .i64 0, .str [], .int .i64 0, .int .i64 0, .int .u8 0, .int .u8 0])] 1 false []) (.seq (.seq (rgT [mvT 5 0, mvT 6 1, opT 7 (.call (.c (.fn 104 [])) [.t 5,
 .t 6]), opT 8 (.not (.t 7))]) (.cond (.t 8) (.seq (rgT [mvT 9 0, opT 10 (.nilchk (.t 9)), opT 11 (.off 2 (.t 10)), ⟨none, .store 1 (.t 11) (.c (.bool true)), none, 0⟩]) (.seq (rgT [opT 12 (.build [.int
 .u8 0, .int .i64 0, .str [], .int .i64 0, .int .i64 0, .int .u8 0, .int .u8 0] []), ⟨none, .store 7 (.t 4) (.t 12), none, 0⟩]) .ret)) .skip)) (.seq (rgT [mvT 13 0, opT 14 (.nilchk (.t 13)), opT 15
 (.off 1 (.t 14)), opT 16 (.load none (.t 15)), opT 17 (.bin .add (.t 16) (.c (.int .i64 1))), opT 18 (.nilchk (.t 13)), opT 19 (.off 1 (.t 18)), ⟨none, .store 1 (.t 19) (.t 17), none, 0⟩]) (.seq
 (.region [mvT 20 0, opT 21 (.nilchk (.t 20)), opT 22 (.off 0 (.t 21)), opT 23 (.load none (.t 22)), mvT 24 0, opT 25 (.nilchk (.t 24)), opT 26 (.off 1 (.t 25)), opT 27 (.load none (.t 26)), opT 28
 (.bin .sub (.t 27) (.c (.int .i64 1))), opT 29 (.idx 7 (.t 23) (.t 28)), opT 30 (.load (some 7) (.t 29)), ⟨none, .store 7 (.t 4) (.t 30), none, 0⟩] 0 true []) .ret)))
def B79 := bB79
theorem wB79 : Wp O B79 Q σ h = Wp O bB79 Q σ h := rfl
def F79 : AF := ⟨B79, [.cell 4 (some 7)], false⟩
theorem tab79 : T 79 = some F79 := by kernel_rfl
abbrev bB80 : AC :=
 .seq (.region [opT 3 (.box 7 (.t 1)), ⟨some 4, .alloc [.int .u8 0, .str [], .int .u8 0, .int .u8 0, .int .i64 0, .int .i64 0, .list 7 [] .full], none, 1⟩] 2 false []) (.seq (.seq (rgT [mvT 5 0, opT 6
 (.nilchk (.t 5)), opT 7 (.off 2 (.t 6)), opT 8 (.load none (.t 7)), opT 9 (.not (.t 8)), mvT 10 9, ⟨some 11, .load (some 7) (.t 3), some (10, true), 0⟩, ⟨some 12, .call (.c (.fn 67 [])) [.t 11], some
 (10, true), 0⟩, ⟨some 13, .not (.t 12), some (10, true), 0⟩, opT 14 (.pick (.t 10) (.t 13) (.c (.bool false)))]) (.cond (.t 14) (.seq (rgT [mvT 15 0, opT 16 (.nilchk (.t 15)), opT 17 (.off 2 (.t 16)),
 ⟨none, .store 1 (.t 17) (.c (.bool true)), none, 0⟩]) (rgT [mvT 18 0, opT 19 (.nilchk (.t 18)), opT 20 (.off 1 (.t 19)), opT 21 (.load none (.t 20)), opT 22 (.bin .sub (.t 21) (.c (.int .i64 1))), opT
 23 (.nilchk (.t 18)), opT 24 (.off 1 (.t 23)), ⟨none, .store 1 (.t 24) (.t 22), none, 0⟩])) .skip)) (.seq (rgT [opT 25 (.load (some 7) (.t 3)), ⟨none, .store 7 (.t 4) (.t 25), none, 0⟩]) .ret))
def B80 := bB80
theorem wB80 : Wp O B80 Q σ h = Wp O bB80 Q σ h := rfl
def F80 : AF := ⟨B80, [.cell 4 (some 7)], false⟩
theorem tab80 : T 80 = some F80 := by kernel_rfl
abbrev bL81_0 : AC :=
 .seq (rgT [opT 11 (.bin .lss (.t 10) (.t 9))]) (.seq (.cond (.t 11) .skip (.exit 0)) (.seq (.block 1 (.seq (rgT [mvT 12 10, opT 13 (.idx 1 (.t 8) (.t 10)), opT 14 (.load none (.t 13)), mvT 4 12, mvT 5
 14]) (.seq (rgT [mvT 15 5, opT 16 (.bin .geq (.t 15) (.c (.int .u8 65))), mvT 17 16, ⟨some 18, .mv (.t 5), some (17, true), 0⟩, ⟨some 19, .bin .leq (.t 18) (.c (.int .u8 90)), some (17, true), 0⟩, opT
 20 (.pick (.t 17) (.t 19) (.c (.bool false)))]) (.cond (.t 20) (rgT [mvT 21 3, mvT 22 4, mvT 23 5, opT 24 (.bin .or (.t 23) (.c (.int .u8 32))), opT 25 (.idx 1 (.t 21) (.t 22)), ⟨none, .store 1 (.t 25)
 (.t 24), none, 0⟩]) .skip)))) (rgT [opT 26 (.bin .add (.t 10) (.c (.int .i64 1))), mvT 10 26])))
def L81_0 := bL81_0
theorem wL81_0 : Wp O L81_0 Q σ h = Wp O bL81_0 Q σ h := rfl
abbrev bK81_0 : AC :=
 .seq (rgT [mvT 27 3, opT 28 (.cvBytesStr (.t 27)), mvT 2 28]) .ret
def K81_0 := bK81_0
theorem wK81_0 : Wp O K81_0 Q σ h = Wp O bK81_0 Q σ h := rfl
abbrev bB81 : AC :=
 .seq (rgT [opT 2 (.mv (.c (.str [])))]) (.seq (.region [mvT 6 0, opT 7 (.cvStrBytesM (.t 6)), ⟨some 3, .mv (.t 7), none, 1⟩] 1 false []) (.seq (.seq (rgT [mvT 8 3, opT 9 (.len (.t 8)), opT 10 (.mv (.c
 (.int .i64 0)))]) (.block 0 (.loop L81_0))) K81_0))
def B81 := bB81
theorem wB81 : Wp O B81 Q σ h = Wp O bB81 Q σ h := rfl
def F81 : AF := ⟨B81, [.tmp 2], false⟩
theorem tab81 : T 81 = some F81 := by kernel_rfl
abbrev bL82_0 : AC :=
 .seq (.seq (.region [mvT 7 0, opT 8 (.cvStrBytes 5 (.c (.str [4]))), ⟨some 9, .call (.c (.fn 104 [])) [.t 7, .t 8], none, 1⟩] 1 false []) (.cond (.t 9) .skip (.exit 0))) (.block 1 (.seq (.region [mvT
 10 0, opT 11 (.cvStrBytes 5 (.c (.str [4]))), ⟨some 12, .call (.c (.fn 79 [])) [.t 10, .t 11], none, 1⟩] 1 false []) (.region [mvT 13 3, mvT 14 0, opT 15 (.call (.c (.fn 105 [])) [.t 14]), opT 16
 (.bslice 7 [.t 15]), opT 17 (.append 7 72 36 (.t 13) (.t 16)), ⟨some 3, .mv (.t 17), none, 1⟩] 1 false [])))
def L82_0 := bL82_0
theorem wL82_0 : Wp O L82_0 Q σ h = Wp O bL82_0 Q σ h := rfl
abbrev bK82_0 : AC :=
 .seq (rgT [mvT 18 3, opT 19 (.call (.c (.fn 106 [])) [.c (.int .u8 6), .t 18]), ⟨none, .store 7 (.t 2) (.t 19), none, 0⟩]) .ret
def K82_0 := bK82_0
theorem wK82_0 : Wp O K82_0 Q σ h = Wp O bK82_0 Q σ h := rfl
abbrev bB82 : AC :=
 .seq (.region [opT 2 (.alloc [.int .u8 0, .str [], .int .u8 0, .int .u8 0, .int .i64 0, .int .i64 0, .list 7 [] .full])] 1 false []) (.seq (rgT [mvT 4 0, opT 5 (.call (.c (.fn 105 [])) [.t 4]), opT 6
 (.bslice 7 [.t 5]), mvT 3 6]) (.seq (.block 0 (.loop L82_0)) K82_0))
def B82 := bB82
theorem wB82 : Wp O B82 Q σ h = Wp O bB82 Q σ h := rfl
def F82 : AF := ⟨B82, [.cell 2 (some 7)], false⟩
theorem tab82 : T 82 = some F82 := by kernel_rfl
abbrev bL58_0 : AC :=
 .seq (rgT [opT 18 (.bin .lss (.t 17) (.t 16))]) (.seq (.cond (.t 18) .skip (.exit 0)) (.seq (.block 1 (.seq (.region [opT 19 (.idx 7 (.t 15) (.t 17)), opT 20 (.load (some 7) (.t 19)), opT 6 (.alloc
 [.int .u8 0, .str [], .int .u8 0, .int .u8 0, .int .i64 0, .int .i64 0, .list 7 [] .full]), ⟨none, .store 7 (.t 6) (.t 20), none, 1⟩] 1 false []) (.seq (rgT [opT 21 (.load (some 7) (.t 6)), mvT 22 1,
 opT 23 (.bin .sub (.t 22) (.c (.int .i64 1))), opT 24 (.call (.c (.fn 58 [])) [.t 21, .t 23]), opT 25 (.not (.t 24))]) (.cond (.t 25) (.seq (rgT [opT 4 (.mv (.c (.bool false)))]) .ret) .skip)))) (rgT
 [opT 26 (.bin .add (.t 17) (.c (.int .i64 1))), mvT 17 26])))
def L58_0 := bL58_0
theorem wL58_0 : Wp O L58_0 Q σ h = Wp O bL58_0 Q σ h := rfl
abbrev bK58_0 : AC :=
 .seq (rgT [opT 4 (.mv (.c (.bool true)))]) .ret
def K58_0 := bK58_0
theorem wK58_0 : Wp O K58_0 Q σ h = Wp O bK58_0 Q σ h := rfl
abbrev bB58 : AC :=
 .seq (.region [opT 2 (.box 7 (.t 0)), ⟨some 4, .mv (.c (.bool false)), none, 1⟩] 1 false []) (.seq (.seq (rgT [mvT 7 1, opT 8 (.bin .lss (.t 7) (.c (.int .i64 1))), mvT 9 8, ⟨some 10, .load (some 7)
 (.t 2), some (9, false), 0⟩, ⟨some 11, .call (.c (.fn 67 [])) [.t 10], some (9, false), 0⟩, ⟨some 12, .not (.t 11), some (9, false), 0⟩, opT 13 (.pick (.t 9) (.c (.bool true)) (.t 12))]) (.cond (.t 13)
 (.seq (rgT [opT 4 (.mv (.c (.bool false)))]) .ret) .skip)) (.seq (.seq (rgT [opT 14 (.off 6 (.t 2)), opT 15 (.load none (.t 14)), opT 16 (.len (.t 15)), opT 17 (.mv (.c (.int .i64 0)))]) (.block 0
 (.loop L58_0))) K58_0))
def B58 := bB58
theorem wB58 : Wp O B58 Q σ h = Wp O bB58 Q σ h := rfl
def F58 : AF := ⟨B58, [.tmp 4], false⟩
theorem tab58 : T 58 = some F58 := by kernel_rfl
abbrev bL45_0 : AC :=
 .seq (rgT [opT 8 (.bin .lss (.t 7) (.t 6))]) (.seq (.cond (.t 8) .skip (.exit 0)) (.seq (.block 1 (.seq (rgT [mvT 9 7, mvT 3 9]) (.seq (rgT [mvT 10 0, mvT 11 3, opT 12 (.indexS (.t 10) (.t 11)), opT 13
 (.bin .geq (.t 12) (.c (.int .u8 97))), mvT 14 13, ⟨some 15, .mv (.t 0), some (14, true), 0⟩, ⟨some 16, .mv (.t 3), some (14, true), 0⟩, ⟨some 17, .indexS (.t 15) (.t 16), some (14, true), 0⟩, ⟨some
 18, .bin .leq (.t 17) (.c (.int .u8 122)), some (14, true), 0⟩, opT 19 (.pick (.t 14) (.t 18) (.c (.bool false))), mvT 4 19]) (.seq (rgT [mvT 20 4, opT 21 (.not (.t 20)), mvT 22 21, ⟨some 23, .mv (.t
 3), some (22, true), 0⟩, ⟨some 24, .bin .eql (.t 23) (.c (.int .i64 0)), some (22, true), 0⟩, ⟨some 25, .mv (.t 24), some (22, true), 0⟩, ⟨some 26, .mv (.t 0), some (25, false), 0⟩, ⟨some 27, .mv (.t
 3), some (25, false), 0⟩, ⟨some 28, .indexS (.t 26) (.t 27), some (25, false), 0⟩, ⟨some 29, .bin .neq (.t 28) (.c (.int .u8 45)), some (25, false), 0⟩, ⟨some 30, .mv (.t 29), some (25, false), 0⟩,
 ⟨some 31, .mv (.t 0), some (30, true), 0⟩, ⟨some 32, .mv (.t 3), some (30, true), 0⟩, ⟨some 33, .indexS (.t 31) (.t 32), some (30, true), 0⟩, ⟨some 34, .bin .lss (.t 33) (.c (.int .u8 48)), some (30,
 true), 0⟩, ⟨some 35, .mv (.t 34), some (30, true), 0⟩, ⟨some 36, .mv (.t 0), some (35, false), 0⟩, ⟨some 37, .mv (.t 3), some (35, false), 0⟩, ⟨some 38, .indexS (.t 36) (.t 37), some (35, false), 0⟩,
 ⟨some 39, .bin .gtr (.t 38) (.c (.int .u8 57)), some (35, false), 0⟩, ⟨some 40, .pick (.t 35) (.c (.bool true)) (.t 39), some (30, true), 0⟩, ⟨some 41, .pick (.t 30) (.t 40) (.c (.bool false)), some
 (25, false), 0⟩, ⟨some 42, .pick (.t 25) (.c (.bool true)) (.t 41), some (22, true), 0⟩, opT 43 (.pick (.t 22) (.t 42) (.c (.bool false)))]) (.cond (.t 43) (.seq (rgT [opT 2 (.mv (.c (.bool false)))])
 .ret) .skip))))) (rgT [opT 44 (.bin .add (.t 7) (.c (.int .i64 1))), mvT 7 44])))
def L45_0 := bL45_0
theorem wL45_0 : Wp O L45_0 Q σ h = Wp O bL45_0 Q σ h := rfl
abbrev bK45_0 : AC :=
 .seq (rgT [mvT 45 0, opT 46 (.bin .neq (.t 45) (.c (.str []))), mvT 2 46]) .ret
def K45_0 := bK45_0
theorem wK45_0 : Wp O K45_0 Q σ h = Wp O bK45_0 Q σ h := rfl
abbrev bB45 : AC :=
 .seq (rgT [opT 2 (.mv (.c (.bool false)))]) (.seq (.seq (rgT [mvT 5 0, opT 6 (.lenS (.t 5)), opT 7 (.mv (.c (.int .i64 0)))]) (.block 0 (.loop L45_0))) K45_0)
def B45 := bB45
theorem wB45 : Wp O B45 Q σ h = Wp O bB45 Q σ h := rfl
def F45 : AF := ⟨B45, [.tmp 2], false⟩
theorem tab45 : T 45 = some F45 := by kernel_rfl
abbrev bL47_0 : AC :=
 .seq (rgT [opT 27 (.bin .lss (.t 26) (.t 25))]) (.seq (.cond (.t 27) .skip (.exit 1)) (.seq (.block 2 (.seq (rgT [mvT 28 26, mvT 4 28]) (.region [mvT 29 3, opT 30 (.off 1 (.t 1)), opT 31 (.load none
 (.t 30)), mvT 32 4, opT 33 (.indexS (.t 31) (.t 32)), opT 34 (.call (.c (.fn 59 [])) [.t 33]), opT 35 (.bslice 1 [.t 34]), opT 36 (.append 1 16 9 (.t 29) (.t 35)), ⟨some 3, .mv (.t 36), none, 1⟩] 1
 false []))) (rgT [opT 37 (.bin .add (.t 26) (.c (.int .i64 1))), mvT 26 37])))
def L47_0 := bL47_0
theorem wL47_0 : Wp O L47_0 Q σ h = Wp O bL47_0 Q σ h := rfl
abbrev bK47_0 : AC :=
 .seq (rgT [mvT 38 3, opT 39 (.call (.c (.fn 60 [])) [.t 38, .c (.str [46])]), opT 40 (.bin .add (.c (.str [37, 120])) (.t 39)), mvT 2 40]) .ret
def K47_0 := bK47_0
theorem wK47_0 : Wp O K47_0 Q σ h = Wp O bK47_0 Q σ h := rfl
abbrev bL47_1 : AC :=
 .seq (rgT [opT 72 (.bin .lss (.t 71) (.t 70))]) (.seq (.cond (.t 72) .skip (.exit 3)) (.seq (.block 4 (.seq (.region [opT 73 (.idx 7 (.t 69) (.t 71)), opT 74 (.load (some 7) (.t 73)), opT 6 (.alloc
 [.int .u8 0, .str [], .int .u8 0, .int .u8 0, .int .i64 0, .int .i64 0, .list 7 [] .full]), ⟨none, .store 7 (.t 6) (.t 74), none, 1⟩] 1 false []) (.region [mvT 75 3, opT 76 (.load (some 7) (.t 6)), opT
 77 (.cvStrBytes 5 (.c (.str [5, 6]))), ⟨some 78, .call (.c (.fn 62 [])) [.t 76, .t 77], none, 1⟩, ⟨some 79, .bslice 1 [.t 78], none, 1⟩, ⟨some 80, .append 1 16 9 (.t 75) (.t 79), none, 1⟩, ⟨some 3, .mv
 (.t 80), none, 2⟩] 2 false []))) (rgT [opT 81 (.bin .add (.t 71) (.c (.int .i64 1))), mvT 71 81])))
def L47_1 := bL47_1
theorem wL47_1 : Wp O L47_1 Q σ h = Wp O bL47_1 Q σ h := rfl
abbrev bK47_1 : AC :=
 .seq (rgT [mvT 82 3, opT 83 (.call (.c (.fn 60 [])) [.t 82, .c (.str [32])]), mvT 2 83]) .ret
def K47_1 := bK47_1
theorem wK47_1 : Wp O K47_1 Q σ h = Wp O bK47_1 Q σ h := rfl
abbrev bL47_2 : AC :=
 .seq (rgT [opT 88 (.bin .lss (.t 87) (.t 86))]) (.seq (.cond (.t 88) .skip (.exit 5)) (.seq (.block 6 (.seq (.region [opT 89 (.idx 7 (.t 85) (.t 87)), opT 90 (.load (some 7) (.t 89)), opT 8 (.alloc
 [.int .u8 0, .str [], .int .u8 0, .int .u8 0, .int .i64 0, .int .i64 0, .list 7 [] .full]), ⟨none, .store 7 (.t 8) (.t 90), none, 1⟩] 1 false []) (.region [mvT 91 3, opT 92 (.load (some 7) (.t 8)), opT
 93 (.cvStrBytes 5 (.c (.str [6]))), ⟨some 94, .call (.c (.fn 62 [])) [.t 92, .t 93], none, 1⟩, ⟨some 95, .bslice 1 [.t 94], none, 1⟩, ⟨some 96, .append 1 16 9 (.t 91) (.t 95), none, 1⟩, ⟨some 3, .mv
 (.t 96), none, 2⟩] 2 false []))) (rgT [opT 97 (.bin .add (.t 87) (.c (.int .i64 1))), mvT 87 97])))
def L47_2 := bL47_2
theorem wL47_2 : Wp O L47_2 Q σ h = Wp O bL47_2 Q σ h := rfl
abbrev bK47_2 : AC :=
 .seq (rgT [mvT 98 3, opT 99 (.call (.c (.fn 60 [])) [.t 98, .c (.str [32, 47, 32])]), mvT 2 99]) .ret
def K47_2 := bK47_2
theorem wK47_2 : Wp O K47_2 Q σ h = Wp O bK47_2 Q σ h := rfl
abbrev bK47_3 : AC :=
 .seq (.seq (rgT [opT 84 (.off 6 (.t 1)), opT 85 (.load none (.t 84)), opT 86 (.len (.t 85)), opT 87 (.mv (.c (.int .i64 0)))]) (.block 5 (.loop L47_2))) K47_2
def K47_3 := bK47_3
theorem wK47_3 : Wp O K47_3 Q σ h = Wp O bK47_3 Q σ h := rfl
abbrev bB47 : AC :=
 .seq (.region [opT 1 (.box 7 (.t 0)), ⟨some 2, .mv (.c (.str [])), none, 1⟩] 1 false []) (.seq (rgT [opT 3 (.mv (.c (.list 1 [] .full)))]) (.seq (.seq (rgT [opT 9 (.off 0 (.t 1)), opT 10 (.load none
 (.t 9))]) (.block 0 (.seq (rgT [opT 12 (.bin .eql (.t 10) (.c (.int .u8 1))), mvT 11 12]) (.cond (.t 11) (.seq (rgT [opT 13 (.off 1 (.t 1)), opT 14 (.load none (.t 13)), mvT 2 14]) .ret) (.seq (rgT
 [opT 16 (.bin .eql (.t 10) (.c (.int .u8 2))), mvT 15 16]) (.cond (.t 15) (.seq (rgT [opT 17 (.off 1 (.t 1)), opT 18 (.load none (.t 17)), opT 19 (.bin .add (.c (.str [34])) (.t 18)), opT 20 (.bin .add
 (.t 19) (.c (.str [34]))), mvT 2 20]) .ret) (.seq (rgT [opT 22 (.bin .eql (.t 10) (.c (.int .u8 3))), mvT 21 22]) (.cond (.t 21) (.seq (.seq (rgT [opT 23 (.off 1 (.t 1)), opT 24 (.load none (.t 23)),
 opT 25 (.lenS (.t 24)), opT 26 (.mv (.c (.int .i64 0)))]) (.block 1 (.loop L47_0))) K47_0) (.seq (rgT [opT 42 (.bin .eql (.t 10) (.c (.int .u8 4))), mvT 41 42]) (.cond (.t 41) (.seq (.region [opT 43
 (.off 2 (.t 1)), opT 44 (.load none (.t 43)), opT 45 (.call (.c (.fn 59 [])) [.t 44]), opT 46 (.bin .add (.c (.str [37, 120])) (.t 45)), opT 47 (.bin .add (.t 46) (.c (.str [45]))), opT 48 (.off 3 (.t
 1)), opT 49 (.load none (.t 48)), opT 50 (.call (.c (.fn 59 [])) [.t 49]), opT 51 (.bin .add (.t 47) (.t 50)), mvT 2 51] 0 true [(2, 6)]) .ret) (.seq (rgT [opT 53 (.bin .eql (.t 10) (.c (.int .u8 7))),
 mvT 52 53]) (.cond (.t 52) (.seq (.region [opT 54 (.off 4 (.t 1)), opT 55 (.load none (.t 54)), opT 56 (.off 5 (.t 1)), opT 57 (.load none (.t 56)), opT 58 (.call (.c (.fn 61 [])) [.t 55, .t 57]), opT
 59 (.off 6 (.t 1)), opT 60 (.load none (.t 59)), opT 61 (.idx 7 (.t 60) (.c (.int .i64 0))), opT 62 (.load (some 7) (.t 61)), opT 63 (.cvStrBytes 5 (.c (.str [7, 5, 6]))), ⟨some 64, .call (.c (.fn 62
 [])) [.t 62, .t 63], none, 1⟩, ⟨some 65, .bin .add (.t 58) (.t 64), none, 1⟩, ⟨some 2, .mv (.t 65), none, 1⟩] 1 true [(4, 6), (4, 8), (1, 9), (3, 9), (4, 9), (6, 9), (8, 9)]) .ret) (.seq (rgT [opT 67
 (.bin .eql (.t 10) (.c (.int .u8 5))), mvT 66 67]) (.cond (.t 66) (.seq (.seq (rgT [opT 68 (.off 6 (.t 1)), opT 69 (.load none (.t 68)), opT 70 (.len (.t 69)), opT 71 (.mv (.c (.int .i64 0)))]) (.block
 3 (.loop L47_1))) K47_1) .skip)))))))))))))) K47_3))
def B47 := bB47
theorem wB47 : Wp O B47 Q σ h = Wp O bB47 Q σ h := rfl
def F47 : AF := ⟨B47, [.tmp 2], false⟩
theorem tab47 : T 47 = some F47 := by kernel_rfl
abbrev bL104_0 : AC :=
 .seq (rgT [opT 26 (.bin .lss (.t 25) (.t 24))]) (.seq (.cond (.t 26) .skip (.exit 0)) (.seq (.block 1 (.seq (rgT [opT 27 (.idx 1 (.t 23) (.t 25)), opT 28 (.load none (.t 27)), mvT 6 28]) (.seq (.region
 [mvT 29 0, opT 30 (.nilchk (.t 29)), opT 31 (.off 0 (.t 30)), opT 32 (.load none (.t 31)), mvT 33 0, opT 34 (.nilchk (.t 33)), opT 35 (.off 1 (.t 34)), opT 36 (.load none (.t 35)), opT 37 (.idx 7 (.t
 32) (.t 36)), opT 38 (.off 0 (.t 37)), opT 39 (.load none (.t 38)), mvT 40 6, opT 41 (.bin .eql (.t 39) (.t 40))] 0 true []) (.cond (.t 41) (.seq (rgT [opT 4 (.mv (.c (.bool true)))]) .ret) .skip))))
 (rgT [opT 42 (.bin .add (.t 25) (.c (.int .i64 1))), mvT 25 42])))
def L104_0 := bL104_0
theorem wL104_0 : Wp O L104_0 Q σ h = Wp O bL104_0 Q σ h := rfl
abbrev bK104_0 : AC :=
 .seq (rgT [opT 4 (.mv (.c (.bool false)))]) .ret
def K104_0 := bK104_0
theorem wK104_0 : Wp O K104_0 Q σ h = Wp O bK104_0 Q σ h := rfl
abbrev bB104 : AC :=
 .seq (rgT [opT 4 (.mv (.c (.bool false)))]) (.seq (.seq (.region [mvT 7 0, opT 8 (.nilchk (.t 7)), opT 9 (.off 2 (.t 8)), opT 10 (.load none (.t 9)), mvT 11 10, ⟨some 12, .mv (.t 0), some (11, false),
 0⟩, ⟨some 13, .nilchk (.t 12), some (11, false), 0⟩, ⟨some 14, .off 1 (.t 13), some (11, false), 0⟩, ⟨some 15, .load none (.t 14), some (11, false), 0⟩, ⟨some 16, .mv (.t 0), some (11, false), 0⟩,
 ⟨some 17, .nilchk (.t 16), some (11, false), 0⟩, ⟨some 18, .off 0 (.t 17), some (11, false), 0⟩, ⟨some 19, .load none (.t 18), some (11, false), 0⟩, ⟨some 20, .len (.t 19), some (11, false), 0⟩, ⟨some
 21, .bin .geq (.t 15) (.t 20), some (11, false), 0⟩, opT 22 (.pick (.t 11) (.c (.bool true)) (.t 21))] 0 true []) (.cond (.t 22) (.seq (rgT [opT 4 (.mv (.c (.bool false)))]) .ret) .skip)) (.seq (.seq
 (rgT [mvT 23 1, opT 24 (.len (.t 23)), opT 25 (.mv (.c (.int .i64 0)))]) (.block 0 (.loop L104_0))) K104_0))
def B104 := bB104
theorem wB104 : Wp O B104 Q σ h = Wp O bB104 Q σ h := rfl
def F104 : AF := ⟨B104, [.tmp 4], false⟩
theorem tab104 : T 104 = some F104 := by kernel_rfl
abbrev bJ67_0 : AC :=
 .cond (.t 47) (.seq (rgT [opT 50 (.off 1 (.t 3)), ⟨none, .store 1 (.t 50) (.c (.str [])), none, 0⟩]) (rgT [opT 51 (.off 6 (.t 1)), opT 52 (.load none (.t 51)), opT 53 (.len (.t 52)), opT 54 (.bin .geq
 (.t 53) (.c (.int .i64 2))), mvT 4 54, opT 5 (.mv (.c (.bool true)))])) (.seq (rgT [opT 56 (.bin .eql (.t 16) (.c (.int .u8 7))), mvT 55 56]) (.cond (.t 55) (.seq (.region [opT 57 (.off 4 (.t 1)), opT
 58 (.load none (.t 57)), opT 59 (.off 5 (.t 1)), opT 60 (.load none (.t 59)), opT 61 (.off 4 (.t 3)), ⟨none, .store 1 (.t 61) (.t 58), none, 0⟩, opT 62 (.off 5 (.t 3)), ⟨none, .store 1 (.t 62) (.t 60),
 none, 0⟩, opT 63 (.off 1 (.t 3)), ⟨none, .store 1 (.t 63) (.c (.str [])), none, 0⟩] 0 true [(3, 5)]) (.region [opT 64 (.off 6 (.t 1)), opT 65 (.load none (.t 64)), opT 66 (.len (.t 65)), opT 67 (.bin
 .eql (.t 66) (.c (.int .i64 1))), opT 68 (.off 4 (.t 1)), opT 69 (.load none (.t 68)), opT 70 (.bin .geq (.t 69) (.c (.int .i64 0))), mvT 71 70, ⟨some 72, .off 4 (.t 1), some (71, true), 0⟩, ⟨some 73,
 .load none (.t 72), some (71, true), 0⟩, ⟨some 74, .bin .leq (.t 73) (.c (.int .i64 9999)), some (71, true), 0⟩, opT 75 (.pick (.t 71) (.t 74) (.c (.bool false))), mvT 76 75, ⟨some 77, .off 5 (.t 1),
 some (76, true), 0⟩, ⟨some 78, .load none (.t 77), some (76, true), 0⟩, ⟨some 79, .bin .eql (.t 78) (.c (.int .i64 (-1))), some (76, true), 0⟩, ⟨some 80, .mv (.t 79), some (76, true), 0⟩, ⟨some 81,
 .off 5 (.t 1), some (80, false), 0⟩, ⟨some 82, .load none (.t 81), some (80, false), 0⟩, ⟨some 83, .off 4 (.t 1), some (80, false), 0⟩, ⟨some 84, .load none (.t 83), some (80, false), 0⟩, ⟨some 85,
 .bin .geq (.t 82) (.t 84), some (80, false), 0⟩, ⟨some 86, .mv (.t 85), some (80, false), 0⟩, ⟨some 87, .off 5 (.t 1), some (86, true), 0⟩, ⟨some 88, .load none (.t 87), some (86, true), 0⟩, ⟨some 89,
 .bin .leq (.t 88) (.c (.int .i64 9999)), some (86, true), 0⟩, ⟨some 90, .pick (.t 86) (.t 89) (.c (.bool false)), some (80, false), 0⟩, ⟨some 91, .pick (.t 80) (.c (.bool true)) (.t 90), some (76,
 true), 0⟩, opT 92 (.pick (.t 76) (.t 91) (.c (.bool false))), mvT 4 67, mvT 5 92] 0 true [])) .skip))
def J67_0 := bJ67_0
theorem wJ67_0 : Wp O J67_0 Q σ h = Wp O bJ67_0 Q σ h := rfl
abbrev bJ67_1 : AC :=
 .seq (rgT [mvT 93 5, mvT 94 93, ⟨some 95, .mv (.t 4), some (94, true), 0⟩, opT 96 (.pick (.t 94) (.t 95) (.c (.bool false))), mvT 97 96, ⟨some 98, .off 1 (.t 3), some (97, true), 0⟩, ⟨some 99, .load
 none (.t 98), some (97, true), 0⟩, ⟨some 100, .off 1 (.t 1), some (97, true), 0⟩, ⟨some 101, .load none (.t 100), some (97, true), 0⟩, ⟨some 102, .bin .eql (.t 99) (.t 101), some (97, true), 0⟩, opT
 103 (.pick (.t 97) (.t 102) (.c (.bool false))), mvT 104 103, ⟨some 105, .off 2 (.t 3), some (104, true), 0⟩, ⟨some 106, .load none (.t 105), some (104, true), 0⟩, ⟨some 107, .off 2 (.t 1), some (104,
 true), 0⟩, ⟨some 108, .load none (.t 107), some (104, true), 0⟩, ⟨some 109, .bin .eql (.t 106) (.t 108), some (104, true), 0⟩, opT 110 (.pick (.t 104) (.t 109) (.c (.bool false))), mvT 111 110, ⟨some
 112, .off 3 (.t 3), some (111, true), 0⟩, ⟨some 113, .load none (.t 112), some (111, true), 0⟩, ⟨some 114, .off 3 (.t 1), some (111, true), 0⟩, ⟨some 115, .load none (.t 114), some (111, true), 0⟩,
 ⟨some 116, .bin .eql (.t 113) (.t 115), some (111, true), 0⟩, opT 117 (.pick (.t 111) (.t 116) (.c (.bool false))), mvT 118 117, ⟨some 119, .off 4 (.t 3), some (118, true), 0⟩, ⟨some 120, .load none
 (.t 119), some (118, true), 0⟩, ⟨some 121, .off 4 (.t 1), some (118, true), 0⟩, ⟨some 122, .load none (.t 121), some (118, true), 0⟩, ⟨some 123, .bin .eql (.t 120) (.t 122), some (118, true), 0⟩, opT
 124 (.pick (.t 118) (.t 123) (.c (.bool false))), mvT 125 124, ⟨some 126, .off 5 (.t 3), some (125, true), 0⟩, ⟨some 127, .load none (.t 126), some (125, true), 0⟩, ⟨some 128, .off 5 (.t 1), some (125,
 true), 0⟩, ⟨some 129, .load none (.t 128), some (125, true), 0⟩, ⟨some 130, .bin .eql (.t 127) (.t 129), some (125, true), 0⟩, opT 131 (.pick (.t 125) (.t 130) (.c (.bool false))), mvT 2 131]) .ret
def J67_1 := bJ67_1
theorem wJ67_1 : Wp O J67_1 Q σ h = Wp O bJ67_1 Q σ h := rfl
abbrev bB67 : AC :=
 .seq (.region [opT 1 (.box 7 (.t 0)), ⟨some 2, .mv (.c (.bool false)), none, 1⟩] 1 false []) (.seq (.region [opT 6 (.off 0 (.t 1)), opT 7 (.load none (.t 6)), opT 8 (.off 1 (.t 1)), opT 9 (.load none
 (.t 8)), opT 10 (.build [.int .u8 0, .str [], .int .u8 0, .int .u8 0, .int .i64 0, .int .i64 0, .list 7 [] .full] [(0, 1, .t 7), (1, 1, .t 9)]), opT 3 (.alloc [.int .u8 0, .str [], .int .u8 0, .int .u8
 0, .int .i64 0, .int .i64 0, .list 7 [] .full]), ⟨none, .store 7 (.t 3) (.t 10), none, 1⟩] 1 false []) (.seq (rgT [opT 11 (.off 6 (.t 1)), opT 12 (.load none (.t 11)), opT 13 (.len (.t 12)), opT 14
 (.bin .eql (.t 13) (.c (.int .i64 0))), mvT 4 14, opT 5 (.mv (.c (.bool false)))]) (.seq (.seq (rgT [opT 15 (.off 0 (.t 1)), opT 16 (.load none (.t 15))]) (.block 0 (.seq (rgT [opT 18 (.bin .eql (.t
 16) (.c (.int .u8 1))), mvT 17 18]) (.cond (.t 17) (rgT [opT 19 (.off 1 (.t 1)), opT 20 (.load none (.t 19)), opT 21 (.call (.c (.fn 45 [])) [.t 20]), mvT 5 21]) (.seq (rgT [opT 23 (.bin .eql (.t 16)
 (.c (.int .u8 2))), mvT 22 23]) (.cond (.t 22) (rgT [opT 24 (.off 1 (.t 1)), opT 25 (.load none (.t 24)), opT 26 (.call (.c (.fn 84 [])) [.t 25, .c (.fn 85 [])]), opT 27 (.bin .lss (.t 26) (.c (.int
 .i64 0))), mvT 5 27]) (.seq (rgT [opT 29 (.bin .eql (.t 16) (.c (.int .u8 3))), mvT 28 29]) (.cond (.t 28) (rgT [opT 30 (.off 1 (.t 1)), opT 31 (.load none (.t 30)), opT 32 (.bin .neq (.t 31) (.c (.str
 []))), mvT 5 32]) (.seq (rgT [opT 34 (.bin .eql (.t 16) (.c (.int .u8 4))), mvT 33 34]) (.cond (.t 33) (.seq (.region [opT 35 (.off 2 (.t 1)), opT 36 (.load none (.t 35)), opT 37 (.off 3 (.t 1)), opT
 38 (.load none (.t 37)), opT 39 (.off 2 (.t 3)), ⟨none, .store 1 (.t 39) (.t 36), none, 0⟩, opT 40 (.off 3 (.t 3)), ⟨none, .store 1 (.t 40) (.t 38), none, 0⟩, opT 41 (.off 1 (.t 3)), ⟨none, .store 1
 (.t 41) (.c (.str [])), none, 0⟩] 0 true [(3, 5)]) (rgT [opT 42 (.off 2 (.t 1)), opT 43 (.load none (.t 42)), opT 44 (.off 3 (.t 1)), opT 45 (.load none (.t 44)), opT 46 (.bin .leq (.t 43) (.t 45)),
 mvT 5 46])) (.seq (.seq (rgT [opT 48 (.bin .eql (.t 16) (.c (.int .u8 5))), mvT 47 48]) (.cond (.t 47) .skip (rgT [opT 49 (.bin .eql (.t 16) (.c (.int .u8 6))), mvT 47 49]))) J67_0))))))))))) J67_1)))
def B67 := bB67
theorem wB67 : Wp O B67 Q σ h = Wp O bB67 Q σ h := rfl
def F67 : AF := ⟨B67, [.tmp 2], false⟩
theorem tab67 : T 67 = some F67 := by kernel_rfl
abbrev bL105_0 : AC :=
 .seq (.seq (.region [mvT 7 0, opT 8 (.cvStrBytes 5 (.c (.str [9, 1, 10, 11, 12, 5, 7]))), ⟨some 9, .call (.c (.fn 104 [])) [.t 7, .t 8], none, 1⟩] 1 false []) (.cond (.t 9) .skip (.exit 0))) (.block 1
 (.region [mvT 10 3, mvT 11 0, opT 12 (.call (.c (.fn 121 [])) [.t 11]), opT 13 (.bslice 7 [.t 12]), opT 14 (.append 7 72 36 (.t 10) (.t 13)), ⟨some 3, .mv (.t 14), none, 1⟩] 1 false []))
def L105_0 := bL105_0
theorem wL105_0 : Wp O L105_0 Q σ h = Wp O bL105_0 Q σ h := rfl
abbrev bK105_0 : AC :=
 .seq (rgT [mvT 15 3, opT 16 (.call (.c (.fn 106 [])) [.c (.int .u8 5), .t 15]), ⟨none, .store 7 (.t 2) (.t 16), none, 0⟩]) .ret
def K105_0 := bK105_0
theorem wK105_0 : Wp O K105_0 Q σ h = Wp O bK105_0 Q σ h := rfl
abbrev bB105 : AC :=
 .seq (.region [opT 2 (.alloc [.int .u8 0, .str [], .int .u8 0, .int .u8 0, .int .i64 0, .int .i64 0, .list 7 [] .full])] 1 false []) (.seq (rgT [mvT 4 0, opT 5 (.call (.c (.fn 121 [])) [.t 4]), opT 6
 (.bslice 7 [.t 5]), mvT 3 6]) (.seq (.block 0 (.loop L105_0)) K105_0))
def B105 := bB105
theorem wB105 : Wp O B105 Q σ h = Wp O bB105 Q σ h := rfl
def F105 : AF := ⟨B105, [.cell 2 (some 7)], false⟩
theorem tab105 : T 105 = some F105 := by kernel_rfl
abbrev bB106 : AC :=
 .seq (.region [opT 4 (.alloc [.int .u8 0, .str [], .int .u8 0, .int .u8 0, .int .i64 0, .int .i64 0, .list 7 [] .full])] 1 false []) (.seq (.seq (rgT [mvT 5 1, opT 6 (.len (.t 5)), opT 7 (.bin .eql (.t
 6) (.c (.int .i64 1)))]) (.cond (.t 7) (.seq (rgT [mvT 8 1, opT 9 (.idx 7 (.t 8) (.c (.int .i64 0))), opT 10 (.load (some 7) (.t 9)), ⟨none, .store 7 (.t 4) (.t 10), none, 0⟩]) .ret) .skip)) (.seq (rgT
 [mvT 11 0, mvT 12 1, opT 13 (.build [.int .u8 0, .str [], .int .u8 0, .int .u8 0, .int .i64 0, .int .i64 0, .list 7 [] .full] [(0, 1, .t 11), (6, 1, .t 12)]), ⟨none, .store 7 (.t 4) (.t 13), none, 0⟩])
 .ret))
def B106 := bB106
theorem wB106 : Wp O B106 Q σ h = Wp O bB106 Q σ h := rfl
def F106 : AF := ⟨B106, [.cell 4 (some 7)], false⟩
theorem tab106 : T 106 = some F106 := by kernel_rfl
abbrev bB59 : AC :=
 .seq (rgT [opT 2 (.mv (.c (.str [])))]) (.seq (.region [mvT 3 0, opT 4 (.bin .shr (.t 3) (.c (.int .u64 4))), opT 5 (.indexS (.c (.str [48, 49, 50, 51, 52, 53, 54, 55, 56, 57, 65, 66, 67, 68, 69, 70]))
 (.t 4)), mvT 6 0, opT 7 (.bin .and (.t 6) (.c (.int .u8 15))), opT 8 (.indexS (.c (.str [48, 49, 50, 51, 52, 53, 54, 55, 56, 57, 65, 66, 67, 68, 69, 70])) (.t 7)), opT 9 (.bslice 1 [.t 5, .t 8]), opT
 10 (.cvBytesStr (.t 9)), mvT 2 10] 0 true []) .ret)
def B59 := bB59
theorem wB59 : Wp O B59 Q σ h = Wp O bB59 Q σ h := rfl
def F59 : AF := ⟨B59, [.tmp 2], false⟩
theorem tab59 : T 59 = some F59 := by kernel_rfl
abbrev bJ61_0 : AC :=
 .seq (rgT [mvT 25 5, mvT 4 25]) .ret
def J61_0 := bJ61_0
theorem wJ61_0 : Wp O J61_0 Q σ h = Wp O bJ61_0 Q σ h := rfl
abbrev bJ61_1 : AC :=
 .seq (.block 0 (.seq (rgT [mvT 13 0, mvT 14 1, opT 15 (.bin .eql (.t 13) (.t 14)), mvT 12 15]) (.cond (.t 12) (.seq (rgT [mvT 16 0, opT 17 (.call (.c (.fn 71 [])) [.t 16]), mvT 4 17]) .ret) (.seq (rgT
 [mvT 19 1, opT 20 (.bin .geq (.t 19) (.c (.int .i64 0))), mvT 18 20]) (.cond (.t 18) (rgT [mvT 21 5, mvT 22 1, opT 23 (.call (.c (.fn 71 [])) [.t 22]), opT 24 (.bin .add (.t 21) (.t 23)), mvT 5 24])
 .skip))))) J61_0
def J61_1 := bJ61_1
theorem wJ61_1 : Wp O J61_1 Q σ h = Wp O bJ61_1 Q σ h := rfl
abbrev bB61 : AC :=
 .seq (rgT [opT 4 (.mv (.c (.str [])))]) (.seq (rgT [opT 5 (.mv (.c (.str [42])))]) (.seq (.seq (rgT [mvT 6 0, opT 7 (.bin .gtr (.t 6) (.c (.int .i64 0)))]) (.cond (.t 7) (rgT [mvT 8 0, opT 9 (.call (.c
 (.fn 71 [])) [.t 8]), mvT 10 5, opT 11 (.bin .add (.t 9) (.t 10)), mvT 5 11]) .skip)) J61_1))
def B61 := bB61
theorem wB61 : Wp O B61 Q σ h = Wp O bB61 Q σ h := rfl
def F61 : AF := ⟨B61, [.tmp 4], false⟩
theorem tab61 : T 61 = some F61 := by kernel_rfl
abbrev bL62_0 : AC :=
 .seq (rgT [opT 10 (.bin .lss (.t 9) (.t 8))]) (.seq (.cond (.t 10) .skip (.exit 0)) (.seq (.block 1 (.seq (rgT [opT 11 (.idx 1 (.t 7) (.t 9)), opT 12 (.load none (.t 11)), mvT 6 12]) (.seq (rgT [opT 13
 (.off 0 (.t 2)), opT 14 (.load none (.t 13)), mvT 15 6, opT 16 (.bin .eql (.t 14) (.t 15))]) (.cond (.t 16) (.seq (rgT [opT 17 (.load (some 7) (.t 2)), opT 18 (.call (.c (.fn 47 [])) [.t 17]), opT 19
 (.bin .add (.c (.str [40])) (.t 18)), opT 20 (.bin .add (.t 19) (.c (.str [41]))), mvT 4 20]) .ret) .skip)))) (rgT [opT 21 (.bin .add (.t 9) (.c (.int .i64 1))), mvT 9 21])))
def L62_0 := bL62_0
theorem wL62_0 : Wp O L62_0 Q σ h = Wp O bL62_0 Q σ h := rfl
abbrev bK62_0 : AC :=
 .seq (rgT [opT 22 (.load (some 7) (.t 2)), opT 23 (.call (.c (.fn 47 [])) [.t 22]), mvT 4 23]) .ret
def K62_0 := bK62_0
theorem wK62_0 : Wp O K62_0 Q σ h = Wp O bK62_0 Q σ h := rfl
abbrev bB62 : AC :=
 .seq (.region [opT 2 (.box 7 (.t 0)), ⟨some 4, .mv (.c (.str [])), none, 1⟩] 1 false []) (.seq (.seq (rgT [mvT 7 1, opT 8 (.len (.t 7)), opT 9 (.mv (.c (.int .i64 0)))]) (.block 0 (.loop L62_0)))
 K62_0)
def B62 := bB62
theorem wB62 : Wp O B62 Q σ h = Wp O bB62 Q σ h := rfl
def F62 : AF := ⟨B62, [.tmp 4], false⟩
theorem tab62 : T 62 = some F62 := by kernel_rfl
abbrev bB84 : AC :=
 .seq (rgT [opT 4 (.mv (.c (.int .i64 0)))]) (.seq (rgT [mvT 5 0, mvT 6 1, opT 7 (.call (.c (.fn 107 [])) [.t 5, .t 6, .c (.bool true)]), mvT 4 7]) .ret)
def B84 := bB84
theorem wB84 : Wp O B84 Q σ h = Wp O bB84 Q σ h := rfl
def F84 : AF := ⟨B84, [.tmp 4], false⟩
theorem tab84 : T 84 = some F84 := by kernel_rfl
abbrev bB85 : AC :=
 .seq (rgT [opT 2 (.mv (.c (.bool false)))]) (.seq (rgT [mvT 3 0, opT 4 (.bin .lss (.t 3) (.c (.int .i32 32))), mvT 5 4, ⟨some 6, .mv (.t 0), some (5, false), 0⟩, ⟨some 7, .bin .gtr (.t 6) (.c (.int
 .i32 126)), some (5, false), 0⟩, opT 8 (.pick (.t 5) (.c (.bool true)) (.t 7)), mvT 9 8, ⟨some 10, .mv (.t 0), some (9, false), 0⟩, ⟨some 11, .bin .eql (.t 10) (.c (.int .i32 34)), some (9, false), 0⟩,
 opT 12 (.pick (.t 9) (.c (.bool true)) (.t 11)), mvT 2 12]) .ret)
def B85 := bB85
theorem wB85 : Wp O B85 Q σ h = Wp O bB85 Q σ h := rfl
def F85 : AF := ⟨B85, [.tmp 2], false⟩
theorem tab85 : T 85 = some F85 := by kernel_rfl
abbrev bB121 : AC :=
 .seq (.region [opT 2 (.alloc [.int .u8 0, .str [], .int .u8 0, .int .u8 0, .int .i64 0, .int .i64 0, .list 7 [] .full])] 1 false []) (.seq (.seq (.region [mvT 5 0, opT 6 (.cvStrBytes 5 (.c (.str
 [9]))), ⟨some 7, .call (.c (.fn 104 [])) [.t 5, .t 6], none, 1⟩, ⟨some 8, .not (.t 7), none, 1⟩] 1 false []) (.cond (.t 8) (.seq (rgT [mvT 9 0, opT 10 (.call (.c (.fn 131 [])) [.t 9]), ⟨none, .store 7
 (.t 2) (.t 10), none, 0⟩]) .ret) .skip)) (.seq (.region [mvT 11 0, opT 12 (.cvStrBytes 5 (.c (.str [9]))), ⟨some 13, .call (.c (.fn 79 [])) [.t 11, .t 12], none, 1⟩, ⟨some 3, .alloc [.int .u8 0, .int
 .i64 0, .str [], .int .i64 0, .int .i64 0, .int .u8 0, .int .u8 0], none, 1⟩, ⟨none, .store 7 (.t 3) (.t 13), none, 2⟩] 2 false []) (.seq (.region [mvT 14 0, opT 15 (.off 3 (.t 3)), opT 16 (.load none
 (.t 15)), opT 17 (.off 4 (.t 3)), opT 18 (.load none (.t 17)), opT 19 (.mksliceM [.int .u8 0, .str [], .int .u8 0, .int .u8 0, .int .i64 0, .int .i64 0, .list 7 [] .full] 7 72 (.c (.int .i64 1)) (.c
 (.int .i64 1))), ⟨some 20, .build [.int .u8 0, .str [], .int .u8 0, .int .u8 0, .int .i64 0, .int .i64 0, .list 7 [] .full] [(0, 1, .c (.int .u8 7)), (4, 1, .t 16), (5, 1, .t 18), (6, 1, .t 19)], none,
 1⟩, ⟨some 21, .call (.c (.fn 80 [])) [.t 14, .t 20], none, 1⟩, ⟨some 4, .alloc [.int .u8 0, .str [], .int .u8 0, .int .u8 0, .int .i64 0, .int .i64 0, .list 7 [] .full], none, 1⟩, ⟨none, .store 7 (.t
 4) (.t 21), none, 2⟩] 2 true [(2, 5), (4, 5), (2, 8), (4, 8), (5, 8), (7, 8)]) (.seq (.region [opT 22 (.off 6 (.t 4)), opT 23 (.load none (.t 22)), mvT 24 0, opT 25 (.call (.c (.fn 131 [])) [.t 24]),
 opT 26 (.idx 7 (.t 23) (.c (.int .i64 0))), ⟨none, .store 7 (.t 26) (.t 25), none, 0⟩] 0 true [(1, 3)]) (.seq (rgT [opT 27 (.load (some 7) (.t 4)), ⟨none, .store 7 (.t 2) (.t 27), none, 0⟩]) .ret)))))
def B121 := bB121
theorem wB121 : Wp O B121 Q σ h = Wp O bB121 Q σ h := rfl
def F121 : AF := ⟨B121, [.cell 2 (some 7)], false⟩
theorem tab121 : T 121 = some F121 := by kernel_rfl
abbrev bL107_0 : AC :=
 .seq (rgT [opT 11 (.next (.t 10)), opT 12 (.ext (.t 11) 0)]) (.seq (.cond (.t 12) .skip (.exit 0)) (.block 1 (.seq (rgT [opT 13 (.ext (.t 11) 1), opT 14 (.ext (.t 11) 2), mvT 7 13, mvT 8 14]) (.seq
 (rgT [mvT 15 1, mvT 16 8, opT 17 (.call (.t 15) [.t 16]), mvT 18 2, opT 19 (.eq false none [(0, LK.bool)] (.t 17) (.t 18))]) (.cond (.t 19) (.seq (rgT [mvT 20 7, mvT 6 20]) .ret) .skip)))))
def L107_0 := bL107_0
theorem wL107_0 : Wp O L107_0 Q σ h = Wp O bL107_0 Q σ h := rfl
abbrev bK107_0 : AC :=
 .seq (rgT [opT 6 (.mv (.c (.int .i64 (-1))))]) .ret
def K107_0 := bK107_0
theorem wK107_0 : Wp O K107_0 Q σ h = Wp O bK107_0 Q σ h := rfl
abbrev bB107 : AC :=
 .seq (rgT [opT 6 (.mv (.c (.int .i64 0)))]) (.seq (.seq (.region [mvT 9 0, opT 10 (.rangeS (.t 9))] 1 false []) (.block 0 (.loop L107_0))) K107_0)
def B107 := bB107
theorem wB107 : Wp O B107 Q σ h = Wp O bB107 Q σ h := rfl
def F107 : AF := ⟨B107, [.tmp 6], false⟩
theorem tab107 : T 107 = some F107 := by kernel_rfl
abbrev bB131 : AC :=
 .seq (.region [opT 2 (.alloc [.int .u8 0, .str [], .int .u8 0, .int .u8 0, .int .i64 0, .int .i64 0, .list 7 [] .full])] 1 false []) (.seq (.region [mvT 8 0, opT 9 (.cvStrBytes 5 (.c (.str [1, 10, 11,
 12, 5, 7]))), ⟨some 10, .call (.c (.fn 79 [])) [.t 8, .t 9], none, 1⟩, ⟨some 3, .alloc [.int .u8 0, .int .i64 0, .str [], .int .i64 0, .int .i64 0, .int .u8 0, .int .u8 0], none, 1⟩, ⟨none, .store 7
 (.t 3) (.t 10), none, 2⟩] 2 false []) (.seq (.region [opT 11 (.build [.int .u8 0, .int .u8 0, .int .u8 0, .int .u8 0, .int .u8 0, .int .u8 0, .int .u8 0, .int .u8 0, .int .u8 0, .int .u8 0, .int .u8 0,
 .int .u8 0, .int .u8 0] [(1, 1, .c (.int .u8 1)), (10, 1, .c (.int .u8 2)), (11, 1, .c (.int .u8 3)), (12, 1, .c (.int .u8 4))]), opT 4 (.alloc [.int .u8 0, .int .u8 0, .int .u8 0, .int .u8 0, .int .u8
 0, .int .u8 0, .int .u8 0, .int .u8 0, .int .u8 0, .int .u8 0, .int .u8 0, .int .u8 0, .int .u8 0]), ⟨none, .store 13 (.t 4) (.t 11), none, 1⟩] 1 false []) (.seq (.seq (rgT [opT 12 (.off 0 (.t 3)), opT
 13 (.load none (.t 12))]) (.block 0 (.seq (rgT [opT 15 (.bin .eql (.t 13) (.c (.int .u8 5))), mvT 14 15]) (.cond (.t 14) (.seq (.region [mvT 16 0, opT 17 (.call (.c (.fn 82 [])) [.t 16]), opT 5 (.alloc
 [.int .u8 0, .str [], .int .u8 0, .int .u8 0, .int .i64 0, .int .i64 0, .list 7 [] .full]), ⟨none, .store 7 (.t 5) (.t 17), none, 1⟩] 1 false []) (.seq (.region [mvT 18 0, opT 19 (.cvStrBytes 5 (.c
 (.str [6]))), ⟨some 20, .call (.c (.fn 79 [])) [.t 18, .t 19], none, 1⟩] 1 false []) (.seq (rgT [opT 21 (.load (some 7) (.t 5)), ⟨none, .store 7 (.t 2) (.t 21), none, 0⟩]) .ret))) (.seq (rgT [opT 23
 (.bin .eql (.t 13) (.c (.int .u8 7))), mvT 22 23]) (.cond (.t 22) (.seq (.region [mvT 24 0, opT 25 (.call (.c (.fn 82 [])) [.t 24]), opT 6 (.alloc [.int .u8 0, .str [], .int .u8 0, .int .u8 0, .int
 .i64 0, .int .i64 0, .list 7 [] .full]), ⟨none, .store 7 (.t 6) (.t 25), none, 1⟩] 1 false []) (.seq (.region [mvT 26 0, opT 27 (.cvStrBytes 5 (.c (.str [8]))), ⟨some 28, .call (.c (.fn 79 [])) [.t 26,
 .t 27], none, 1⟩] 1 false []) (.seq (rgT [opT 29 (.load (some 7) (.t 6)), opT 30 (.bslice 7 [.t 29]), opT 31 (.build [.int .u8 0, .str [], .int .u8 0, .int .u8 0, .int .i64 0, .int .i64 0, .list 7 []
 .full] [(0, 1, .c (.int .u8 7)), (5, 1, .c (.int .i64 1)), (6, 1, .t 30)]), ⟨none, .store 7 (.t 2) (.t 31), none, 0⟩]) .ret))) (.seq (rgT [opT 33 (.bin .eql (.t 13) (.c (.int .u8 1))), mvT 32 33])
 (.cond (.t 32) (.seq (rgT [mvT 34 0, opT 35 (.off 2 (.t 3)), opT 36 (.load none (.t 35)), opT 37 (.call (.c (.fn 81 [])) [.t 36]), opT 38 (.build [.int .u8 0, .str [], .int .u8 0, .int .u8 0, .int .i64
 0, .int .i64 0, .list 7 [] .full] [(0, 1, .c (.int .u8 1)), (1, 1, .t 37)]), opT 39 (.call (.c (.fn 80 [])) [.t 34, .t 38]), ⟨none, .store 7 (.t 2) (.t 39), none, 0⟩]) .ret) .skip)))))))) (.seq
 (.region [opT 40 (.off 0 (.t 3)), opT 41 (.load none (.t 40)), opT 42 (.idxA 1 13 (.t 4) (.t 41)), opT 43 (.load none (.t 42)), opT 44 (.off 2 (.t 3)), opT 45 (.load none (.t 44)), opT 46 (.build [.int
 .u8 0, .str [], .int .u8 0, .int .u8 0, .int .i64 0, .int .i64 0, .list 7 [] .full] [(0, 1, .t 43), (1, 1, .t 45)]), opT 7 (.alloc [.int .u8 0, .str [], .int .u8 0, .int .u8 0, .int .i64 0, .int .i64
 0, .list 7 [] .full]), ⟨none, .store 7 (.t 7) (.t 46), none, 1⟩] 1 true [(1, 7), (3, 7), (5, 7)]) (.seq (.seq (rgT [opT 47 (.off 0 (.t 3)), opT 48 (.load none (.t 47)), opT 49 (.bin .eql (.t 48) (.c
 (.int .u8 12)))]) (.cond (.t 49) (.region [opT 50 (.off 5 (.t 3)), opT 51 (.load none (.t 50)), opT 52 (.off 6 (.t 3)), opT 53 (.load none (.t 52)), opT 54 (.off 1 (.t 7)), ⟨none, .store 1 (.t 54) (.c
 (.str [])), none, 0⟩, opT 55 (.off 2 (.t 7)), ⟨none, .store 1 (.t 55) (.t 51), none, 0⟩, opT 56 (.off 3 (.t 7)), ⟨none, .store 1 (.t 56) (.t 53), none, 0⟩] 0 true [(1, 5), (3, 5), (3, 7)]) .skip))
 (.seq (rgT [mvT 57 0, opT 58 (.load (some 7) (.t 7)), opT 59 (.call (.c (.fn 80 [])) [.t 57, .t 58]), ⟨none, .store 7 (.t 2) (.t 59), none, 0⟩]) .ret))))))
def B131 := bB131
theorem wB131 : Wp O B131 Q σ h = Wp O bB131 Q σ h := rfl
def F131 : AF := ⟨B131, [.cell 2 (some 7)], false⟩
theorem tab131 : T 131 = some F131 := by kernel_rfl
abbrev bB27 : AC :=
 .seq (.region [opT 2 (.box 7 (.t 0)), ⟨some 4, .mv (.c (.int .i64 0)), none, 1⟩] 1 false []) (.seq (rgT [opT 5 (.load (some 7) (.t 2)), mvT 6 1, opT 7 (.call (.c (.fn 49 [])) [.t 5, .t 6, .c (.int .i64
 0)]), mvT 4 7]) .ret)
def B27 := bB27
theorem wB27 : Wp O B27 Q σ h = Wp O bB27 Q σ h := rfl
def F27 : AF := ⟨B27, [.tmp 4], false⟩
theorem tab27 : T 27 = some F27 := by kernel_rfl
abbrev bL49_0 : AC :=
 .seq (rgT [opT 13 (.bin .lss (.t 12) (.t 11))]) (.seq (.cond (.t 13) .skip (.exit 0)) (.seq (.block 1 (.seq (rgT [mvT 14 12, mvT 8 14]) (.seq (.seq (rgT [mvT 15 7, mvT 16 1, opT 17 (.bin .gtr (.t 15)
 (.t 16)), mvT 18 17, ⟨some 19, .mv (.t 2), some (18, false), 0⟩, ⟨some 20, .bin .gtr (.t 19) (.c (.int .i64 200)), some (18, false), 0⟩, opT 21 (.pick (.t 18) (.c (.bool true)) (.t 20))]) (.cond (.t
 21) (.seq (rgT [mvT 22 1, opT 23 (.bin .add (.t 22) (.c (.int .i64 1))), mvT 6 23]) .ret) .skip)) (rgT [mvT 24 7, opT 25 (.off 6 (.t 3)), opT 26 (.load none (.t 25)), mvT 27 8, opT 28 (.idx 7 (.t 26)
 (.t 27)), opT 29 (.load (some 7) (.t 28)), mvT 30 1, mvT 31 7, opT 32 (.bin .sub (.t 30) (.t 31)), mvT 33 2, opT 34 (.bin .add (.t 33) (.c (.int .i64 1))), opT 35 (.call (.c (.fn 49 [])) [.t 29, .t 32,
 .t 34]), opT 36 (.bin .add (.t 24) (.t 35)), mvT 7 36])))) (rgT [opT 37 (.bin .add (.t 12) (.c (.int .i64 1))), mvT 12 37])))
def L49_0 := bL49_0
theorem wL49_0 : Wp O L49_0 Q σ h = Wp O bL49_0 Q σ h := rfl
abbrev bK49_0 : AC :=
 .seq (rgT [mvT 38 7, mvT 6 38]) .ret
def K49_0 := bK49_0
theorem wK49_0 : Wp O K49_0 Q σ h = Wp O bK49_0 Q σ h := rfl
abbrev bB49 : AC :=
 .seq (.region [opT 3 (.box 7 (.t 0)), ⟨some 6, .mv (.c (.int .i64 0)), none, 1⟩] 1 false []) (.seq (rgT [opT 7 (.mv (.c (.int .i64 1)))]) (.seq (.seq (rgT [opT 9 (.off 6 (.t 3)), opT 10 (.load none (.t
 9)), opT 11 (.len (.t 10)), opT 12 (.mv (.c (.int .i64 0)))]) (.block 0 (.loop L49_0))) K49_0))
def B49 := bB49
theorem wB49 : Wp O B49 Q σ h = Wp O bB49 Q σ h := rfl
def F49 : AF := ⟨B49, [.tmp 6], false⟩
theorem tab49 : T 49 = some F49 := by kernel_rfl
abbrev bL22_0 : AC :=
 .seq (rgT [opT 59 (.bin .lss (.t 58) (.t 57))]) (.seq (.cond (.t 59) .skip (.exit 0)) (.seq (.block 1 (.seq (rgT [mvT 60 58, mvT 5 60]) (.seq (.region [opT 61 (.off 6 (.t 2)), opT 62 (.load none (.t
 61)), mvT 63 5, opT 64 (.idx 7 (.t 62) (.t 63)), opT 65 (.load (some 7) (.t 64)), opT 66 (.off 6 (.t 3)), opT 67 (.load none (.t 66)), mvT 68 5, opT 69 (.idx 7 (.t 67) (.t 68)), opT 70 (.load (some 7)
 (.t 69)), opT 71 (.call (.c (.fn 22 [])) [.t 65, .t 70]), opT 72 (.not (.t 71))] 0 true []) (.cond (.t 72) (.seq (rgT [opT 4 (.mv (.c (.bool false)))]) .ret) .skip)))) (rgT [opT 73 (.bin .add (.t 58)
 (.c (.int .i64 1))), mvT 58 73])))
def L22_0 := bL22_0
theorem wL22_0 : Wp O L22_0 Q σ h = Wp O bL22_0 Q σ h := rfl
abbrev bK22_0 : AC :=
 .seq (rgT [opT 4 (.mv (.c (.bool true)))]) .ret
def K22_0 := bK22_0
theorem wK22_0 : Wp O K22_0 Q σ h = Wp O bK22_0 Q σ h := rfl
abbrev bB22 : AC :=
 .seq (.region [opT 2 (.box 7 (.t 0)), ⟨some 3, .box 7 (.t 1), none, 1⟩, ⟨some 4, .mv (.c (.bool false)), none, 2⟩] 2 false []) (.seq (.seq (rgT [opT 6 (.off 0 (.t 2)), opT 7 (.load none (.t 6)), opT 8
 (.off 0 (.t 3)), opT 9 (.load none (.t 8)), opT 10 (.bin .neq (.t 7) (.t 9)), mvT 11 10, ⟨some 12, .off 1 (.t 2), some (11, false), 0⟩, ⟨some 13, .load none (.t 12), some (11, false), 0⟩, ⟨some 14,
 .off 1 (.t 3), some (11, false), 0⟩, ⟨some 15, .load none (.t 14), some (11, false), 0⟩, ⟨some 16, .bin .neq (.t 13) (.t 15), some (11, false), 0⟩, opT 17 (.pick (.t 11) (.c (.bool true)) (.t 16)), mvT
 18 17, ⟨some 19, .off 2 (.t 2), some (18, false), 0⟩, ⟨some 20, .load none (.t 19), some (18, false), 0⟩, ⟨some 21, .off 2 (.t 3), some (18, false), 0⟩, ⟨some 22, .load none (.t 21), some (18, false),
 0⟩, ⟨some 23, .bin .neq (.t 20) (.t 22), some (18, false), 0⟩, opT 24 (.pick (.t 18) (.c (.bool true)) (.t 23)), mvT 25 24, ⟨some 26, .off 3 (.t 2), some (25, false), 0⟩, ⟨some 27, .load none (.t 26),
 some (25, false), 0⟩, ⟨some 28, .off 3 (.t 3), some (25, false), 0⟩, ⟨some 29, .load none (.t 28), some (25, false), 0⟩, ⟨some 30, .bin .neq (.t 27) (.t 29), some (25, false), 0⟩, opT 31 (.pick (.t 25)
 (.c (.bool true)) (.t 30)), mvT 32 31, ⟨some 33, .off 4 (.t 2), some (32, false), 0⟩, ⟨some 34, .load none (.t 33), some (32, false), 0⟩, ⟨some 35, .off 4 (.t 3), some (32, false), 0⟩, ⟨some 36, .load
 none (.t 35), some (32, false), 0⟩, ⟨some 37, .bin .neq (.t 34) (.t 36), some (32, false), 0⟩, opT 38 (.pick (.t 32) (.c (.bool true)) (.t 37)), mvT 39 38, ⟨some 40, .off 5 (.t 2), some (39, false),
 0⟩, ⟨some 41, .load none (.t 40), some (39, false), 0⟩, ⟨some 42, .off 5 (.t 3), some (39, false), 0⟩, ⟨some 43, .load none (.t 42), some (39, false), 0⟩, ⟨some 44, .bin .neq (.t 41) (.t 43), some (39,
 false), 0⟩, opT 45 (.pick (.t 39) (.c (.bool true)) (.t 44)), mvT 46 45, ⟨some 47, .off 6 (.t 2), some (46, false), 0⟩, ⟨some 48, .load none (.t 47), some (46, false), 0⟩, ⟨some 49, .len (.t 48), some
 (46, false), 0⟩, ⟨some 50, .off 6 (.t 3), some (46, false), 0⟩, ⟨some 51, .load none (.t 50), some (46, false), 0⟩, ⟨some 52, .len (.t 51), some (46, false), 0⟩, ⟨some 53, .bin .neq (.t 49) (.t 52),
 some (46, false), 0⟩, opT 54 (.pick (.t 46) (.c (.bool true)) (.t 53))]) (.cond (.t 54) (.seq (rgT [opT 4 (.mv (.c (.bool false)))]) .ret) .skip)) (.seq (.seq (rgT [opT 55 (.off 6 (.t 2)), opT 56
 (.load none (.t 55)), opT 57 (.len (.t 56)), opT 58 (.mv (.c (.int .i64 0)))]) (.block 0 (.loop L22_0))) K22_0))
def B22 := bB22
theorem wB22 : Wp O B22 Q σ h = Wp O bB22 Q σ h := rfl
def F22 : AF := ⟨B22, [.tmp 4], false⟩
theorem tab22 : T 22 = some F22 := by kernel_rfl
abbrev bB48 : AC :=
 .seq (rgT [opT 2 (.mv (.c (.list 10 [] .full))), opT 3 (.mv (.c (.int .i64 0))), opT 4 (.mv (.c (.int .i64 0)))]) (.seq (rgT [mvT 9 0, opT 10 (.call (.c (.fn 63 [])) [.t 9]), mvT 8 10, opT 11 (.ext (.t
 8) 0), opT 12 (.ext (.t 8) 1), opT 13 (.ext (.t 8) 2), mvT 5 11, mvT 6 12, mvT 7 13]) (.seq (.seq (rgT [mvT 14 7, opT 15 (.bin .neq (.t 14) (.c (.int .i64 0)))]) (.cond (.t 15) (.seq (rgT [mvT 16 6,
 mvT 17 7, opT 2 (.mv (.c (.list 10 [] .full))), mvT 3 16, mvT 4 17]) .ret) .skip)) (.seq (rgT [mvT 18 5, opT 19 (.call (.c (.fn 64 [])) [.t 18]), opT 20 (.ext (.t 19) 0), opT 21 (.ext (.t 19) 1), opT
 22 (.ext (.t 19) 2), mvT 2 20, mvT 3 21, mvT 4 22]) .ret)))
def B48 := bB48
theorem wB48 : Wp O B48 Q σ h = Wp O bB48 Q σ h := rfl
def F48 : AF := ⟨B48, [.tmp 2, .tmp 3, .tmp 4], false⟩
theorem tab48 : T 48 = some F48 := by kernel_rfl
abbrev bB23 : AC :=
 .seq (.region [opT 4 (.alloc [.int .u8 0, .str [], .int .u8 0, .int .u8 0, .int .i64 0, .int .i64 0, .list 7 [] .full])] 1 false []) (.seq (.region [mvT 6 0, mvT 7 1, opT 8 (.build [.list 1 [] .full,
 .int .i64 0, .list 1 [] .full] [(0, 1, .t 6), (2, 1, .t 7)]), opT 9 (.box 3 (.t 8)), ⟨some 5, .mv (.t 9), none, 1⟩] 1 false []) (.seq (rgT [mvT 10 5, opT 11 (.call (.c (.fn 44 [])) [.t 10, .c (.int
 .i64 0)]), ⟨none, .store 7 (.t 4) (.t 11), none, 0⟩]) .ret))
def B23 := bB23
theorem wB23 : Wp O B23 Q σ h = Wp O bB23 Q σ h := rfl
def F23 : AF := ⟨B23, [.cell 4 (some 7)], false⟩
theorem tab23 : T 23 = some F23 := by kernel_rfl
abbrev bJ44_0 : AC :=
 .cond (.t 93) (.seq (rgT [mvT 96 0, mvT 97 1, opT 98 (.call (.c (.fn 57 [])) [.t 96, .c (.int .u8 6), .t 97]), ⟨none, .store 7 (.t 4) (.t 98), none, 0⟩]) .ret) .skip
def J44_0 := bJ44_0
theorem wJ44_0 : Wp O J44_0 Q σ h = Wp O bJ44_0 Q σ h := rfl
abbrev bJ44_1 : AC :=
 .cond (.t 86) (.seq (rgT [mvT 90 0, mvT 91 1, opT 92 (.call (.c (.fn 57 [])) [.t 90, .c (.int .u8 5), .t 91]), ⟨none, .store 7 (.t 4) (.t 92), none, 0⟩]) .ret) (.seq (.seq (rgT [opT 94 (.bin .eql (.t
 26) (.c (.int .i64 7))), mvT 93 94]) (.cond (.t 93) .skip (rgT [opT 95 (.bin .eql (.t 26) (.c (.int .i64 8))), mvT 93 95]))) J44_0)
def J44_1 := bJ44_1
theorem wJ44_1 : Wp O J44_1 Q σ h = Wp O bJ44_1 Q σ h := rfl
abbrev bJ44_2 : AC :=
 .seq (rgT [mvT 123 0, mvT 124 1, opT 125 (.bin .add (.t 124) (.c (.int .i64 1))), opT 126 (.call (.c (.fn 44 [])) [.t 123, .t 125]), opT 127 (.bslice 7 [.t 126]), opT 128 (.off 6 (.t 9)), ⟨none, .store
 1 (.t 128) (.t 127), none, 0⟩]) (.seq (rgT [opT 129 (.load (some 7) (.t 9)), ⟨none, .store 7 (.t 4) (.t 129), none, 0⟩]) .ret)
def J44_2 := bJ44_2
theorem wJ44_2 : Wp O J44_2 Q σ h = Wp O bJ44_2 Q σ h := rfl
abbrev bJ44_3 : AC :=
 .seq (.region [opT 99 (.build [.int .u8 0, .str [], .int .u8 0, .int .u8 0, .int .i64 0, .int .i64 0, .list 7 [] .full] [(0, 1, .c (.int .u8 7)), (5, 1, .c (.int .i64 (-1)))]), opT 9 (.alloc [.int .u8
 0, .str [], .int .u8 0, .int .u8 0, .int .i64 0, .int .i64 0, .list 7 [] .full]), ⟨none, .store 7 (.t 9) (.t 99), none, 1⟩] 1 false []) (.seq (.seq (rgT [mvT 100 0, opT 101 (.call (.c (.fn 56 [])) [.t
 100, .c (.int .i64 5)])]) (.block 1 (.seq (rgT [opT 103 (.bin .eql (.t 101) (.c (.int .i64 1))), mvT 102 103]) (.cond (.t 102) (rgT [opT 104 (.off 5 (.t 9)), ⟨none, .store 1 (.t 104) (.c (.int .i64
 1)), none, 0⟩]) (.seq (rgT [opT 106 (.bin .eql (.t 101) (.c (.int .i64 2))), mvT 105 106]) (.cond (.t 105) (rgT [opT 107 (.off 4 (.t 9)), ⟨none, .store 1 (.t 107) (.c (.int .i64 1)), none, 0⟩]) (.seq
 (rgT [opT 109 (.bin .eql (.t 101) (.c (.int .i64 3))), mvT 108 109]) (.cond (.t 108) (rgT [opT 110 (.off 4 (.t 9)), ⟨none, .store 1 (.t 110) (.c (.int .i64 2)), none, 0⟩, opT 111 (.off 5 (.t 9)),
 ⟨none, .store 1 (.t 111) (.c (.int .i64 2)), none, 0⟩]) (.seq (rgT [opT 113 (.bin .eql (.t 101) (.c (.int .i64 4))), mvT 112 113]) (.cond (.t 112) (.seq (rgT [mvT 114 0, opT 115 (.call (.c (.fn 56 []))
 [.t 114, .c (.int .i64 3)]), opT 116 (.off 4 (.t 9)), ⟨none, .store 1 (.t 116) (.t 115), none, 0⟩]) (.region [opT 117 (.off 4 (.t 9)), opT 118 (.load none (.t 117)), mvT 119 0, opT 120 (.call (.c (.fn
 56 [])) [.t 119, .c (.int .i64 3)]), opT 121 (.bin .add (.t 118) (.t 120)), opT 122 (.off 5 (.t 9)), ⟨none, .store 1 (.t 122) (.t 121), none, 0⟩] 0 true [(1, 3)])) .skip)))))))))) J44_2)
def J44_3 := bJ44_3
theorem wJ44_3 : Wp O J44_3 Q σ h = Wp O bJ44_3 Q σ h := rfl
abbrev bJ44_4 : AC :=
 .seq (.seq (rgT [mvT 24 0, mvT 25 5, opT 26 (.call (.c (.fn 56 [])) [.t 24, .t 25])]) (.block 0 (.seq (rgT [opT 28 (.bin .eql (.t 26) (.c (.int .i64 0))), mvT 27 28]) (.cond (.t 27) (.seq (.seq (rgT
 [mvT 29 0, opT 30 (.nilchk (.t 29)), opT 31 (.off 2 (.t 30)), opT 32 (.load none (.t 31)), opT 33 (.len (.t 32)), opT 34 (.bin .gtr (.t 33) (.c (.int .i64 0)))]) (.cond (.t 34) (.seq (.region [mvT 35
 0, opT 36 (.nilchk (.t 35)), opT 37 (.off 2 (.t 36)), opT 38 (.load none (.t 37)), mvT 39 0, mvT 40 0, opT 41 (.nilchk (.t 40)), opT 42 (.off 2 (.t 41)), opT 43 (.load none (.t 42)), opT 44 (.len (.t
 43)), opT 45 (.call (.c (.fn 56 [])) [.t 39, .t 44]), opT 46 (.idx 1 (.t 38) (.t 45)), opT 47 (.load none (.t 46)), opT 48 (.build [.int .u8 0, .str [], .int .u8 0, .int .u8 0, .int .i64 0, .int .i64
 0, .list 7 [] .full] [(0, 1, .c (.int .u8 1)), (1, 1, .t 47)]), ⟨none, .store 7 (.t 4) (.t 48), none, 0⟩] 0 true [(3, 10)]) .ret) .skip)) (.seq (rgT [opT 49 (.build [.int .u8 0, .str [], .int .u8 0,
 .int .u8 0, .int .i64 0, .int .i64 0, .list 7 [] .full] [(0, 1, .c (.int .u8 2)), (1, 1, .c (.str [98]))]), ⟨none, .store 7 (.t 4) (.t 49), none, 0⟩]) .ret)) (.seq (rgT [opT 51 (.bin .eql (.t 26) (.c
 (.int .i64 1))), mvT 50 51]) (.cond (.t 50) (.seq (rgT [opT 52 (.bslice 1 [.c (.str [97]), .c (.str [97, 98]), .c (.str []), .c (.str [98, 32, 99]), .c (.str [65, 45, 98]), .c (.str [43])]), mvT 6 52])
 (.seq (rgT [mvT 53 6, mvT 54 0, mvT 55 6, opT 56 (.len (.t 55)), opT 57 (.call (.c (.fn 56 [])) [.t 54, .t 56]), opT 58 (.idx 1 (.t 53) (.t 57)), opT 59 (.load none (.t 58)), opT 60 (.build [.int .u8
 0, .str [], .int .u8 0, .int .u8 0, .int .i64 0, .int .i64 0, .list 7 [] .full] [(0, 1, .c (.int .u8 2)), (1, 1, .t 59)]), ⟨none, .store 7 (.t 4) (.t 60), none, 0⟩]) .ret)) (.seq (rgT [opT 62 (.bin
 .eql (.t 26) (.c (.int .i64 2))), mvT 61 62]) (.cond (.t 61) (.seq (rgT [opT 63 (.bslice 1 [.c (.str [97]), .c (.str [13, 10]), .c (.str [65]), .c (.str [0, 255]), .c (.str [128])]), mvT 7 63]) (.seq
 (rgT [mvT 64 7, mvT 65 0, mvT 66 7, opT 67 (.len (.t 66)), opT 68 (.call (.c (.fn 56 [])) [.t 65, .t 67]), opT 69 (.idx 1 (.t 64) (.t 68)), opT 70 (.load none (.t 69)), opT 71 (.build [.int .u8 0, .str
 [], .int .u8 0, .int .u8 0, .int .i64 0, .int .i64 0, .list 7 [] .full] [(0, 1, .c (.int .u8 3)), (1, 1, .t 70)]), ⟨none, .store 7 (.t 4) (.t 71), none, 0⟩]) .ret)) (.seq (rgT [opT 73 (.bin .eql (.t
 26) (.c (.int .i64 3))), mvT 72 73]) (.cond (.t 72) (.seq (rgT [mvT 74 0, opT 75 (.call (.c (.fn 56 [])) [.t 74, .c (.int .i64 256)]), mvT 8 75]) (.seq (rgT [mvT 76 8, opT 77 (.cvInt .u8 (.t 76)), mvT
 78 8, mvT 79 0, mvT 80 8, opT 81 (.bin .sub (.c (.int .i64 256)) (.t 80)), opT 82 (.call (.c (.fn 56 [])) [.t 79, .t 81]), opT 83 (.bin .add (.t 78) (.t 82)), opT 84 (.cvInt .u8 (.t 83)), opT 85
 (.build [.int .u8 0, .str [], .int .u8 0, .int .u8 0, .int .i64 0, .int .i64 0, .list 7 [] .full] [(0, 1, .c (.int .u8 4)), (2, 1, .t 77), (3, 1, .t 84)]), ⟨none, .store 7 (.t 4) (.t 85), none, 0⟩])
 .ret)) (.seq (.seq (rgT [opT 87 (.bin .eql (.t 26) (.c (.int .i64 4))), mvT 86 87]) (.cond (.t 86) .skip (.seq (rgT [opT 88 (.bin .eql (.t 26) (.c (.int .i64 5))), mvT 86 88]) (.cond (.t 86) .skip (rgT
 [opT 89 (.bin .eql (.t 26) (.c (.int .i64 6))), mvT 86 89]))))) J44_1))))))))))) J44_3
def J44_4 := bJ44_4
theorem wJ44_4 : Wp O J44_4 Q σ h = Wp O bJ44_4 Q σ h := rfl
abbrev bB44 : AC :=
 .seq (.region [opT 4 (.alloc [.int .u8 0, .str [], .int .u8 0, .int .u8 0, .int .i64 0, .int .i64 0, .list 7 [] .full])] 1 false []) (.seq (rgT [opT 5 (.mv (.c (.int .i64 10)))]) (.seq (.seq (.region
 [mvT 10 1, opT 11 (.bin .geq (.t 10) (.c (.int .i64 6))), mvT 12 11, ⟨some 13, .mv (.t 0), some (12, false), 0⟩, ⟨some 14, .nilchk (.t 13), some (12, false), 0⟩, ⟨some 15, .off 1 (.t 14), some (12,
 false), 0⟩, ⟨some 16, .load none (.t 15), some (12, false), 0⟩, ⟨some 17, .mv (.t 0), some (12, false), 0⟩, ⟨some 18, .nilchk (.t 17), some (12, false), 0⟩, ⟨some 19, .off 0 (.t 18), some (12, false),
 0⟩, ⟨some 20, .load none (.t 19), some (12, false), 0⟩, ⟨some 21, .len (.t 20), some (12, false), 0⟩, ⟨some 22, .bin .geq (.t 16) (.t 21), some (12, false), 0⟩, opT 23 (.pick (.t 12) (.c (.bool true))
 (.t 22))] 0 true []) (.cond (.t 23) (rgT [opT 5 (.mv (.c (.int .i64 4)))]) .skip)) J44_4))
def B44 := bB44
theorem wB44 : Wp O B44 Q σ h = Wp O bB44 Q σ h := rfl
def F44 : AF := ⟨B44, [.cell 4 (some 7)], false⟩
theorem tab44 : T 44 = some F44 := by kernel_rfl
abbrev bB56 : AC :=
 .seq (rgT [opT 4 (.mv (.c (.int .i64 0)))]) (.seq (.seq (.region [mvT 5 0, opT 6 (.nilchk (.t 5)), opT 7 (.off 1 (.t 6)), opT 8 (.load none (.t 7)), mvT 9 0, opT 10 (.nilchk (.t 9)), opT 11 (.off 0 (.t
 10)), opT 12 (.load none (.t 11)), opT 13 (.len (.t 12)), opT 14 (.bin .geq (.t 8) (.t 13))] 0 true []) (.cond (.t 14) (.seq (rgT [opT 4 (.mv (.c (.int .i64 0)))]) .ret) .skip)) (.seq (rgT [mvT 15 0,
 opT 16 (.nilchk (.t 15)), opT 17 (.off 1 (.t 16)), opT 18 (.load none (.t 17)), opT 19 (.bin .add (.t 18) (.c (.int .i64 1))), opT 20 (.nilchk (.t 15)), opT 21 (.off 1 (.t 20)), ⟨none, .store 1 (.t 21)
 (.t 19), none, 0⟩]) (.seq (.region [mvT 22 0, opT 23 (.nilchk (.t 22)), opT 24 (.off 0 (.t 23)), opT 25 (.load none (.t 24)), mvT 26 0, opT 27 (.nilchk (.t 26)), opT 28 (.off 1 (.t 27)), opT 29 (.load
 none (.t 28)), opT 30 (.bin .sub (.t 29) (.c (.int .i64 1))), opT 31 (.idx 1 (.t 25) (.t 30)), opT 32 (.load none (.t 31)), opT 33 (.cvInt .i64 (.t 32)), mvT 34 1, opT 35 (.bin .rem (.t 33) (.t 34)),
 mvT 4 35] 0 true []) .ret)))
def B56 := bB56
theorem wB56 : Wp O B56 Q σ h = Wp O bB56 Q σ h := rfl
def F56 : AF := ⟨B56, [.tmp 4], false⟩
theorem tab56 : T 56 = some F56 := by kernel_rfl
abbrev bL57_0 : AC :=
 .seq (rgT [opT 14 (.bin .lss (.t 13) (.t 12))]) (.seq (.cond (.t 14) .skip (.exit 0)) (.seq (.block 1 (.region [opT 15 (.off 6 (.t 7)), opT 16 (.load none (.t 15)), mvT 17 0, mvT 18 2, opT 19 (.bin
 .add (.t 18) (.c (.int .i64 1))), opT 20 (.call (.c (.fn 44 [])) [.t 17, .t 19]), opT 21 (.bslice 7 [.t 20]), opT 22 (.append 7 72 36 (.t 16) (.t 21)), ⟨some 23, .off 6 (.t 7), none, 1⟩, ⟨none, .store
 1 (.t 23) (.t 22), none, 1⟩] 1 true [(1, 5)])) (rgT [opT 24 (.bin .add (.t 13) (.c (.int .i64 1))), mvT 13 24])))
def L57_0 := bL57_0
theorem wL57_0 : Wp O L57_0 Q σ h = Wp O bL57_0 Q σ h := rfl
abbrev bK57_0 : AC :=
 .seq (rgT [opT 25 (.load (some 7) (.t 7)), ⟨none, .store 7 (.t 6) (.t 25), none, 0⟩]) .ret
def K57_0 := bK57_0
theorem wK57_0 : Wp O K57_0 Q σ h = Wp O bK57_0 Q σ h := rfl
abbrev bB57 : AC :=
 .seq (.region [opT 6 (.alloc [.int .u8 0, .str [], .int .u8 0, .int .u8 0, .int .i64 0, .int .i64 0, .list 7 [] .full])] 1 false []) (.seq (.region [mvT 8 1, opT 9 (.build [.int .u8 0, .str [], .int
 .u8 0, .int .u8 0, .int .i64 0, .int .i64 0, .list 7 [] .full] [(0, 1, .t 8)]), opT 7 (.alloc [.int .u8 0, .str [], .int .u8 0, .int .u8 0, .int .i64 0, .int .i64 0, .list 7 [] .full]), ⟨none, .store 7
 (.t 7) (.t 9), none, 1⟩] 1 false []) (.seq (.seq (rgT [mvT 10 0, opT 11 (.call (.c (.fn 56 [])) [.t 10, .c (.int .i64 2)]), opT 12 (.bin .add (.c (.int .i64 2)) (.t 11)), opT 13 (.mv (.c (.int .i64
 0)))]) (.block 0 (.loop L57_0))) K57_0))
def B57 := bB57
theorem wB57 : Wp O B57 Q σ h = Wp O bB57 Q σ h := rfl
def F57 : AF := ⟨B57, [.cell 6 (some 7)], false⟩
theorem tab57 : T 57 = some F57 := by kernel_rfl
abbrev bB30 : AC :=
 .seq (rgT [opT 0 (.mv (.c (.list 1 [] .full)))]) (.seq (rgT [opT 1 (.bslice 1 [.c (.str [97]), .c (.str [98]), .c (.str [99, 50]), .c (.str [100, 45, 101]), .c (.str [102]), .c (.str [103]), .c (.str
 [104]), .c (.str [105])]), mvT 0 1]) .ret)
def B30 := bB30
theorem wB30 : Wp O B30 Q σ h = Wp O bB30 Q σ h := rfl
def F30 : AF := ⟨B30, [.tmp 0], false⟩
theorem tab30 : T 30 = some F30 := by kernel_rfl
theorem mixed : Tryz.prog.follows .mixedOrders = true := by kernel_rfl
end Go.Proofs.YtcflbdikkcpiaaaGreatDoor
set_option maxRecDepth 100000
namespace Go.Proofs.YtcflbdikkcpiaaaGreatDoor
open Go Go.Am
variable {O : Orc} {Q : Ex → Slots → Heap → Prop} {σ : Slots} {h : Heap}
abbrev bL8_0 : AC :=
 .seq (rgT [opT 8 (.bin .lss (.t 7) (.t 6))]) (.seq (.cond (.t 8) .skip (.exit 0)) (.seq (.block 1 (.seq (.region [mvT 9 7, opT 10 (.idx 10 (.t 5) (.t 7)), opT 11 (.load (some 10) (.t 10)), opT 4
 (.alloc [.str [], .int .i64 0, .bool false, .int .u8 0, .str [], .int .u8 0, .int .u8 0, .int .i64 0, .int .i64 0, .list 7 [] .full]), ⟨some 3, .mv (.t 9), none, 1⟩, ⟨none, .store 10 (.t 4) (.t 11),
 none, 1⟩] 1 false []) (.seq (rgT [mvT 12 3, opT 13 (.bin .geq (.t 12) (.c (.int .i64 12))), mvT 14 13, ⟨some 15, .off 3 (.t 4), some (14, false), 0⟩, ⟨some 16, .load (some 7) (.t 15), some (14, false),
 0⟩, ⟨some 17, .call (.c (.fn 27 [])) [.t 16, .c (.int .i64 60)], some (14, false), 0⟩, ⟨some 18, .bin .gtr (.t 17) (.c (.int .i64 60)), some (14, false), 0⟩, opT 19 (.pick (.t 14) (.c (.bool true)) (.t
 18))]) (.cond (.t 19) (.seq (rgT [opT 2 (.mv (.c (.bool false)))]) .ret) .skip)))) (rgT [opT 20 (.bin .add (.t 7) (.c (.int .i64 1))), mvT 7 20])))
def L8_0 := bL8_0
theorem wL8_0 : Wp O L8_0 Q σ h = Wp O bL8_0 Q σ h := rfl
abbrev bK8_0 : AC :=
 .seq (rgT [opT 2 (.mv (.c (.bool true)))]) .ret
def K8_0 := bK8_0
theorem wK8_0 : Wp O K8_0 Q σ h = Wp O bK8_0 Q σ h := rfl
abbrev bB8 : AC :=
 .seq (rgT [opT 2 (.mv (.c (.bool false)))]) (.seq (.seq (rgT [mvT 5 0, opT 6 (.len (.t 5)), opT 7 (.mv (.c (.int .i64 0)))]) (.block 0 (.loop L8_0))) K8_0)
def B8 := bB8
theorem wB8 : Wp O B8 Q σ h = Wp O bB8 Q σ h := rfl
def F8 : AF := ⟨B8, [.tmp 2], false⟩
theorem tab8 : T 8 = some F8 := by kernel_rfl
abbrev bB9 : AC :=
 .seq (rgT [opT 0 (.mv (.c (.bool false)))]) (.seq (.region [opT 11 (.call (.c (.fn 26 [])) [.c (.str [97, 32, 61, 32, 98, 32, 99, 10, 98, 32, 61, 32, 34, 120, 34, 10, 99, 32, 61, 32, 98])]), mvT 10 11,
 opT 12 (.ext (.t 10) 0), opT 13 (.ext (.t 10) 1), opT 14 (.ext (.t 10) 2), opT 1 (.alloc [.list 10 [] .full]), ⟨none, .store 1 (.t 1) (.t 12), none, 1⟩, ⟨some 2, .mv (.t 13), none, 1⟩, ⟨some 3, .mv (.t
 14), none, 1⟩] 1 false []) (.seq (.region [opT 16 (.call (.c (.fn 26 [])) [.c (.str [97, 32, 61, 32, 34, 120, 34, 10, 97, 32, 61, 47, 32, 34, 121, 34])]), mvT 15 16, opT 17 (.ext (.t 15) 0), opT 18
 (.ext (.t 15) 1), opT 19 (.ext (.t 15) 2), opT 4 (.alloc [.list 10 [] .full]), ⟨none, .store 1 (.t 4) (.t 17), none, 1⟩, ⟨some 5, .mv (.t 18), none, 1⟩, ⟨some 6, .mv (.t 19), none, 1⟩] 1 false [])
 (.seq (rgT [opT 21 (.load (some 1) (.t 1)), opT 22 (.call (.c (.fn 16 [])) [.t 21, .c (.str [97])]), mvT 20 22, opT 23 (.ext (.t 20) 0), opT 24 (.ext (.t 20) 1), mvT 7 23, mvT 8 24]) (.seq (.seq (rgT
 [mvT 25 3, mvT 26 6, opT 27 (.bin .add (.t 25) (.t 26)), opT 28 (.bin .neq (.t 27) (.c (.int .i64 0))), mvT 29 28, ⟨some 30, .mv (.t 8), some (29, false), 0⟩, ⟨some 31, .not (.t 30), some (29, false),
 0⟩, opT 32 (.pick (.t 29) (.c (.bool true)) (.t 31)), mvT 33 32, ⟨some 34, .load (some 1) (.t 1), some (33, false), 0⟩, ⟨some 35, .call (.c (.fn 28 [])) [.t 34], some (33, false), 0⟩, ⟨some 36, .bslice
 1 [.c (.str [98]), .c (.str [99]), .c (.str [97])], some (33, false), 0⟩, ⟨some 37, .call (.c (.fn 20 [])) [.t 35, .t 36], some (33, false), 0⟩, ⟨some 38, .not (.t 37), some (33, false), 0⟩, opT 39
 (.pick (.t 33) (.c (.bool true)) (.t 38)), mvT 40 39, ⟨some 41, .mv (.t 7), some (40, false), 0⟩, ⟨some 42, .bslice 1 [.c (.str [98]), .c (.str [99])], some (40, false), 0⟩, ⟨some 43, .call (.c (.fn 20
 [])) [.t 41, .t 42], some (40, false), 0⟩, ⟨some 44, .not (.t 43), some (40, false), 0⟩, opT 45 (.pick (.t 40) (.c (.bool true)) (.t 44))]) (.cond (.t 45) (.seq (rgT [opT 0 (.mv (.c (.bool false)))])
 .ret) .skip)) (.seq (.region [opT 46 (.build [.int .u8 0, .str [], .int .u8 0, .int .u8 0, .int .i64 0, .int .i64 0, .list 7 [] .full] [(0, 1, .c (.int .u8 2)), (1, 1, .c (.str [120]))]), opT 47
 (.build [.int .u8 0, .str [], .int .u8 0, .int .u8 0, .int .i64 0, .int .i64 0, .list 7 [] .full] [(0, 1, .c (.int .u8 2)), (1, 1, .c (.str [121]))]), opT 48 (.bslice 7 [.t 46, .t 47]), opT 49 (.build
 [.int .u8 0, .str [], .int .u8 0, .int .u8 0, .int .i64 0, .int .i64 0, .list 7 [] .full] [(0, 1, .c (.int .u8 6)), (6, 1, .t 48)]), opT 9 (.alloc [.int .u8 0, .str [], .int .u8 0, .int .u8 0, .int
 .i64 0, .int .i64 0, .list 7 [] .full]), ⟨none, .store 7 (.t 9) (.t 49), none, 1⟩] 1 false []) (.seq (.region [opT 50 (.off 0 (.t 4)), opT 51 (.load none (.t 50)), opT 52 (.len (.t 51)), opT 53 (.bin
 .eql (.t 52) (.c (.int .i64 1))), mvT 54 53, ⟨some 55, .off 0 (.t 4), some (54, true), 0⟩, ⟨some 56, .load none (.t 55), some (54, true), 0⟩, ⟨some 57, .idx 10 (.t 56) (.c (.int .i64 0)), some (54,
 true), 0⟩, ⟨some 58, .off 3 (.t 57), some (54, true), 0⟩, ⟨some 59, .load (some 7) (.t 58), some (54, true), 0⟩, ⟨some 60, .load (some 7) (.t 9), some (54, true), 0⟩, ⟨some 61, .call (.c (.fn 22 []))
 [.t 59, .t 60], some (54, true), 0⟩, opT 62 (.pick (.t 54) (.t 61) (.c (.bool false))), mvT 63 62, ⟨some 64, .call (.c (.fn 29 [])) [.c (.str [97, 32, 61, 32, 98]), .c (.str [98]), .c (.int .i64 32)],
 some (63, true), 0⟩, opT 65 (.pick (.t 63) (.t 64) (.c (.bool false))), mvT 66 65, ⟨some 67, .call (.c (.fn 29 [])) [.c (.str [97, 32, 61, 32, 98, 10, 98, 32, 61, 32, 97]), .c (.str [97]), .c (.int
 .i64 33)], some (66, true), 0⟩, opT 68 (.pick (.t 66) (.t 67) (.c (.bool false))), mvT 69 68, ⟨some 70, .call (.c (.fn 29 [])) [.c (.str [97, 32, 61, 32, 34, 120, 34, 10, 97, 32, 61, 32, 34, 121, 34]),
 .c (.str [97]), .c (.int .i64 30)], some (69, true), 0⟩, opT 71 (.pick (.t 69) (.t 70) (.c (.bool false))), mvT 72 71, ⟨some 73, .call (.c (.fn 29 [])) [.c (.str [97, 32, 61, 47, 32, 34, 120, 34]), .c
 (.str [97]), .c (.int .i64 31)], some (72, true), 0⟩, opT 74 (.pick (.t 72) (.t 73) (.c (.bool false))), mvT 0 74] 0 true []) .ret))))))
def B9 := bB9
theorem wB9 : Wp O B9 Q σ h = Wp O bB9 Q σ h := rfl
def F9 : AF := ⟨B9, [.tmp 0], false⟩
theorem tab9 : T 9 = some F9 := by kernel_rfl
abbrev bL10_0 : AC :=
 .seq (rgT [opT 24 (.bin .lss (.t 23) (.t 22))]) (.seq (.cond (.t 24) .skip (.exit 0)) (.seq (.block 1 (.seq (rgT [mvT 25 23, opT 26 (.idx 1 (.t 21) (.t 23)), opT 27 (.load none (.t 26)), mvT 5 25, mvT
 6 27]) (.seq (.region [mvT 28 3, mvT 29 5, opT 30 (.idx 1 (.t 28) (.t 29)), opT 31 (.load none (.t 30)), mvT 32 6, mvT 33 3, mvT 34 5, opT 35 (.slice 1 (.t 33) none (some (.t 34)) none), opT 36 (.call
 (.c (.fn 23 [])) [.t 32, .t 35]), opT 37 (.build [.str [], .int .i64 0, .bool false, .int .u8 0, .str [], .int .u8 0, .int .u8 0, .int .i64 0, .int .i64 0, .list 7 [] .full] [(0, 1, .t 31), (3, 7, .t
 36)]), opT 7 (.alloc [.str [], .int .i64 0, .bool false, .int .u8 0, .str [], .int .u8 0, .int .u8 0, .int .i64 0, .int .i64 0, .list 7 [] .full]), ⟨none, .store 10 (.t 7) (.t 37), none, 1⟩] 1 true
 [(3, 8), (3, 10), (8, 10)]) (.seq (rgT [mvT 38 5, opT 39 (.bin .eql (.t 38) (.c (.int .i64 0)))]) (.cond (.t 39) (rgT [mvT 40 4, opT 41 (.load (some 10) (.t 7)), opT 42 (.idx 10 (.t 40) (.c (.int .i64
 0))), ⟨none, .store 10 (.t 42) (.t 41), none, 0⟩]) (.region [mvT 43 4, opT 44 (.load (some 10) (.t 7)), opT 45 (.bslice 10 [.t 44]), opT 46 (.append 10 104 38 (.t 43) (.t 45)), ⟨some 4, .mv (.t 46),
 none, 1⟩] 1 false [])))))) (rgT [opT 47 (.bin .add (.t 23) (.c (.int .i64 1))), mvT 23 47])))
def L10_0 := bL10_0
theorem wL10_0 : Wp O L10_0 Q σ h = Wp O bL10_0 Q σ h := rfl
abbrev bK10_0 : AC :=
 .seq (.region [opT 48 (.frz 10 38 (.t 4)), ⟨some 2, .frz 10 38 (.t 48), none, 1⟩] 2 false []) .ret
def K10_0 := bK10_0
theorem wK10_0 : Wp O K10_0 Q σ h = Wp O bK10_0 Q σ h := rfl
abbrev bB10 : AC :=
 .seq (rgT [opT 2 (.mv (.c (.list 10 [] .full)))]) (.seq (rgT [opT 8 (.call (.c (.fn 30 [])) []), mvT 3 8]) (.seq (.region [mvT 9 3, opT 10 (.idx 1 (.t 9) (.c (.int .i64 0))), opT 11 (.load none (.t
 10)), opT 12 (.call (.c (.fn 23 [])) [.c (.list 1 [] .full), .c (.list 1 [] .full)]), opT 13 (.build [.str [], .int .i64 0, .bool false, .int .u8 0, .str [], .int .u8 0, .int .u8 0, .int .i64 0, .int
 .i64 0, .list 7 [] .full] [(0, 1, .t 11), (3, 7, .t 12)]), opT 14 (.bsliceG 10 [.t 13]), ⟨some 4, .mv (.t 14), none, 1⟩] 1 true [(2, 3)]) (.seq (.seq (rgT [mvT 15 0, mvT 16 0, opT 17 (.len (.t 16)),
 mvT 18 3, opT 19 (.len (.t 18)), opT 20 (.min (.t 17) (.t 19)), opT 21 (.slice 1 (.t 15) none (some (.t 20)) none), opT 22 (.len (.t 21)), opT 23 (.mv (.c (.int .i64 0)))]) (.block 0 (.loop L10_0)))
 K10_0)))
def B10 := bB10
theorem wB10 : Wp O B10 Q σ h = Wp O bB10 Q σ h := rfl
def F10 : AF := ⟨B10, [.tmp 2], true⟩
theorem tab10 : T 10 = some F10 := by kernel_rfl
abbrev bL11_0 : AC :=
 .seq (rgT [opT 23 (.bin .lss (.t 22) (.t 21))]) (.seq (.cond (.t 23) .skip (.exit 0)) (.seq (.block 1 (.seq (.region [opT 24 (.idx 10 (.t 20) (.t 22)), opT 25 (.load (some 10) (.t 24)), opT 6 (.alloc
 [.str [], .int .i64 0, .bool false, .int .u8 0, .str [], .int .u8 0, .int .u8 0, .int .i64 0, .int .i64 0, .list 7 [] .full]), ⟨none, .store 10 (.t 6) (.t 25), none, 1⟩] 1 false []) (.seq (rgT [opT 26
 (.load (some 10) (.t 6)), opT 27 (.call (.c (.fn 31 [])) [.t 26]), opT 28 (.not (.t 27))]) (.cond (.t 28) (.seq (rgT [opT 29 (.build [.list 10 [] .full] []), ⟨none, .store 1 (.t 2) (.t 29), none, 0⟩,
 opT 3 (.mv (.c (.str []))), opT 4 (.mv (.c (.int .i64 2)))]) .ret) .skip)))) (rgT [opT 30 (.bin .add (.t 22) (.c (.int .i64 1))), mvT 22 30])))
def L11_0 := bL11_0
theorem wL11_0 : Wp O L11_0 Q σ h = Wp O bL11_0 Q σ h := rfl
abbrev bL11_1 : AC :=
 .seq (rgT [opT 69 (.bin .lss (.t 68) (.t 67))]) (.seq (.cond (.t 69) .skip (.exit 2)) (.seq (.block 3 (.seq (rgT [mvT 70 68, mvT 15 70]) (rgT [mvT 71 14, mvT 72 15, opT 73 (.call (.c (.fn 35 [])) [.t
 71, .t 72])]))) (rgT [opT 74 (.bin .add (.t 68) (.c (.int .i64 1))), mvT 68 74])))
def L11_1 := bL11_1
theorem wL11_1 : Wp O L11_1 Q σ h = Wp O bL11_1 Q σ h := rfl
abbrev bL11_2 : AC :=
 .seq (rgT [opT 81 (.bin .lss (.t 80) (.t 79))]) (.seq (.cond (.t 81) .skip (.exit 4)) (.seq (.block 5 (.seq (rgT [opT 82 (.idx 1 (.t 78) (.t 80)), opT 83 (.load none (.t 82)), mvT 18 83]) (.seq
 (.region [opT 84 (.off 0 (.t 7)), opT 85 (.load none (.t 84)), mvT 86 18, opT 87 (.idx 10 (.t 85) (.t 86)), opT 88 (.load (some 10) (.t 87)), opT 19 (.alloc [.str [], .int .i64 0, .bool false, .int .u8
 0, .str [], .int .u8 0, .int .u8 0, .int .i64 0, .int .i64 0, .list 7 [] .full]), ⟨none, .store 10 (.t 19) (.t 88), none, 1⟩] 1 false []) (.seq (rgT [opT 89 (.off 3 (.t 19)), opT 90 (.load (some 7) (.t
 89)), opT 91 (.call (.c (.fn 36 [])) [.t 90]), opT 92 (.off 3 (.t 19)), ⟨none, .store 7 (.t 92) (.t 91), none, 0⟩]) (.region [opT 93 (.off 0 (.t 16)), opT 94 (.load none (.t 93)), opT 95 (.load (some
 10) (.t 19)), opT 96 (.bslice 10 [.t 95]), opT 97 (.append 10 104 38 (.t 94) (.t 96)), ⟨some 98, .off 0 (.t 16), none, 1⟩, ⟨none, .store 1 (.t 98) (.t 97), none, 1⟩] 1 false []))))) (rgT [opT 99 (.bin
 .add (.t 80) (.c (.int .i64 1))), mvT 80 99])))
def L11_2 := bL11_2
theorem wL11_2 : Wp O L11_2 Q σ h = Wp O bL11_2 Q σ h := rfl
abbrev bK11_0 : AC :=
 .seq (rgT [opT 100 (.load (some 1) (.t 16)), ⟨none, .store 1 (.t 2) (.t 100), none, 0⟩, opT 3 (.mv (.c (.str []))), opT 4 (.mv (.c (.int .i64 0)))]) .ret
def K11_0 := bK11_0
theorem wK11_0 : Wp O K11_0 Q σ h = Wp O bK11_0 Q σ h := rfl
abbrev bK11_1 : AC :=
 .seq (.region [opT 16 (.alloc [.list 10 [] .full])] 1 false []) (.seq (.seq (rgT [mvT 75 14, opT 76 (.nilchk (.t 75)), opT 77 (.off 3 (.t 76)), opT 78 (.load none (.t 77)), opT 79 (.len (.t 78)), opT
 80 (.mv (.c (.int .i64 0)))]) (.block 4 (.loop L11_2))) K11_0)
def K11_1 := bK11_1
theorem wK11_1 : Wp O K11_1 Q σ h = Wp O bK11_1 Q σ h := rfl
abbrev bK11_2 : AC :=
 .seq (.region [mvT 32 0, opT 33 (.call (.c (.fn 32 [])) [.t 32]), mvT 31 33, opT 34 (.ext (.t 31) 0), opT 35 (.ext (.t 31) 1), opT 36 (.ext (.t 31) 2), opT 7 (.alloc [.list 10 [] .full, .nilm]), ⟨none,
 .store 2 (.t 7) (.t 34), none, 1⟩, ⟨some 8, .mv (.t 35), none, 1⟩, ⟨some 9, .mv (.t 36), none, 1⟩] 1 false []) (.seq (.seq (rgT [mvT 37 9, opT 38 (.bin .neq (.t 37) (.c (.int .i64 0)))]) (.cond (.t 38)
 (.seq (rgT [opT 39 (.build [.list 10 [] .full] []), mvT 40 8, mvT 41 9, ⟨none, .store 1 (.t 2) (.t 39), none, 0⟩, mvT 3 40, mvT 4 41]) .ret) .skip)) (.seq (.seq (rgT [opT 43 (.load (some 2) (.t 7)),
 opT 44 (.call (.c (.fn 33 [])) [.t 43]), mvT 42 44, opT 45 (.ext (.t 42) 0), opT 46 (.ext (.t 42) 1), mvT 10 45, mvT 11 46]) (.seq (rgT [mvT 47 11]) (.cond (.t 47) (.seq (rgT [opT 48 (.build [.list 10
 [] .full] []), mvT 49 10, ⟨none, .store 1 (.t 2) (.t 48), none, 0⟩, mvT 3 49, opT 4 (.mv (.c (.int .i64 32)))]) .ret) .skip))) (.seq (.seq (rgT [opT 51 (.load (some 2) (.t 7)), opT 52 (.call (.c (.fn
 34 [])) [.t 51]), mvT 50 52, opT 53 (.ext (.t 50) 0), opT 54 (.ext (.t 50) 1), mvT 12 53, mvT 13 54]) (.seq (rgT [mvT 55 13]) (.cond (.t 55) (.seq (rgT [opT 56 (.build [.list 10 [] .full] []), mvT 57
 12, ⟨none, .store 1 (.t 2) (.t 56), none, 0⟩, mvT 3 57, opT 4 (.mv (.c (.int .i64 33)))]) .ret) .skip))) (.seq (.region [opT 58 (.load (some 2) (.t 7)), opT 59 (.off 0 (.t 7)), opT 60 (.load none (.t
 59)), opT 61 (.len (.t 60)), opT 62 (.mksliceM [.bool false] 1 1 (.t 61) (.t 61)), ⟨some 63, .build [.list 10 [] .full, .nilm, .list 1 [] .full, .list 1 [] .full] [(0, 2, .t 58), (2, 1, .t 62)], none,
 1⟩, ⟨some 64, .box 4 (.t 63), none, 1⟩, ⟨some 14, .mv (.t 64), none, 2⟩] 2 true [(0, 4)]) (.seq (.seq (rgT [opT 65 (.off 0 (.t 7)), opT 66 (.load none (.t 65)), opT 67 (.len (.t 66)), opT 68 (.mv (.c
 (.int .i64 0)))]) (.block 2 (.loop L11_1))) K11_1)))))
def K11_2 := bK11_2
theorem wK11_2 : Wp O K11_2 Q σ h = Wp O bK11_2 Q σ h := rfl
abbrev bB11 : AC :=
 .seq (.region [opT 2 (.alloc [.list 10 [] .full]), ⟨some 3, .mv (.c (.str [])), none, 1⟩, ⟨some 4, .mv (.c (.int .i64 0)), none, 1⟩] 1 false []) (.seq (.seq (rgT [mvT 20 0, opT 21 (.len (.t 20)), opT
 22 (.mv (.c (.int .i64 0)))]) (.block 0 (.loop L11_0))) K11_2)
def B11 := bB11
theorem wB11 : Wp O B11 Q σ h = Wp O bB11 Q σ h := rfl
def F11 : AF := ⟨B11, [.cell 2 (some 1), .tmp 3, .tmp 4], false⟩
theorem tab11 : T 11 = some F11 := by kernel_rfl
abbrev bL14_0 : AC :=
 .seq (rgT [opT 12 (.bin .lss (.t 11) (.t 10))]) (.seq (.cond (.t 12) .skip (.exit 0)) (.seq (.block 1 (.seq (.region [mvT 13 11, opT 14 (.idx 10 (.t 9) (.t 11)), opT 15 (.load (some 10) (.t 14)), opT 7
 (.alloc [.str [], .int .i64 0, .bool false, .int .u8 0, .str [], .int .u8 0, .int .u8 0, .int .i64 0, .int .i64 0, .list 7 [] .full]), ⟨some 6, .mv (.t 13), none, 1⟩, ⟨none, .store 10 (.t 7) (.t 15),
 none, 1⟩] 1 false []) (.seq (rgT [opT 16 (.off 0 (.t 7)), opT 17 (.load none (.t 16)), mvT 18 1, opT 19 (.bin .eql (.t 17) (.t 18))]) (.cond (.t 19) (.seq (rgT [mvT 20 6, mvT 4 20, opT 5 (.mv (.c
 (.bool true)))]) .ret) .skip)))) (rgT [opT 21 (.bin .add (.t 11) (.c (.int .i64 1))), mvT 11 21])))
def L14_0 := bL14_0
theorem wL14_0 : Wp O L14_0 Q σ h = Wp O bL14_0 Q σ h := rfl
abbrev bK14_0 : AC :=
 .seq (rgT [opT 4 (.mv (.c (.int .i64 0))), opT 5 (.mv (.c (.bool false)))]) .ret
def K14_0 := bK14_0
theorem wK14_0 : Wp O K14_0 Q σ h = Wp O bK14_0 Q σ h := rfl
abbrev bB14 : AC :=
 .seq (.region [opT 2 (.box 1 (.t 0)), ⟨some 4, .mv (.c (.int .i64 0)), none, 1⟩, ⟨some 5, .mv (.c (.bool false)), none, 1⟩] 1 false []) (.seq (.seq (rgT [opT 8 (.off 0 (.t 2)), opT 9 (.load none (.t
 8)), opT 10 (.len (.t 9)), opT 11 (.mv (.c (.int .i64 0)))]) (.block 0 (.loop L14_0))) K14_0)
def B14 := bB14
theorem wB14 : Wp O B14 Q σ h = Wp O bB14 Q σ h := rfl
def F14 : AF := ⟨B14, [.tmp 4, .tmp 5], false⟩
theorem tab14 : T 14 = some F14 := by kernel_rfl
abbrev bL16_0 : AC :=
 .seq (rgT [opT 36 (.bin .lss (.t 35) (.t 34))]) (.seq (.cond (.t 36) .skip (.exit 0)) (.seq (.block 1 (.seq (.region [mvT 37 35, opT 38 (.idx 10 (.t 33) (.t 35)), opT 39 (.load (some 10) (.t 38)), opT
 10 (.alloc [.str [], .int .i64 0, .bool false, .int .u8 0, .str [], .int .u8 0, .int .u8 0, .int .i64 0, .int .i64 0, .list 7 [] .full]), ⟨some 9, .mv (.t 37), none, 1⟩, ⟨none, .store 10 (.t 10) (.t
 39), none, 1⟩] 1 false []) (rgT [opT 40 (.off 1 (.t 8)), opT 41 (.load none (.t 40)), opT 42 (.off 0 (.t 10)), opT 43 (.load none (.t 42)), mvT 44 9, ⟨none, .update true (.t 41) (.t 43) (.t 44), none,
 0⟩]))) (rgT [opT 45 (.bin .add (.t 35) (.c (.int .i64 1))), mvT 35 45])))
def L16_0 := bL16_0
theorem wL16_0 : Wp O L16_0 Q σ h = Wp O bL16_0 Q σ h := rfl
abbrev bJ16_0 : AC :=
 rgT [opT 81 (.bin .add (.t 59) (.c (.int .i64 1))), mvT 59 81]
def J16_0 := bJ16_0
theorem wJ16_0 : Wp O J16_0 Q σ h = Wp O bJ16_0 Q σ h := rfl
abbrev bL16_1 : AC :=
 .seq (rgT [opT 60 (.bin .lss (.t 59) (.t 58))]) (.seq (.cond (.t 60) .skip (.exit 2)) (.seq (.block 3 (.seq (.region [mvT 61 59, opT 62 (.idx 10 (.t 57) (.t 59)), opT 63 (.load (some 10) (.t 62)), opT
 14 (.alloc [.str [], .int .i64 0, .bool false, .int .u8 0, .str [], .int .u8 0, .int .u8 0, .int .i64 0, .int .i64 0, .list 7 [] .full]), ⟨some 13, .mv (.t 61), none, 1⟩, ⟨none, .store 10 (.t 14) (.t
 63), none, 1⟩] 1 false []) (.seq (rgT [mvT 64 11, opT 65 (.nilchk (.t 64)), opT 66 (.off 2 (.t 65)), opT 67 (.load none (.t 66)), mvT 68 13, opT 69 (.idx 1 (.t 67) (.t 68)), opT 70 (.load none (.t
 69)), mvT 71 70, ⟨some 72, .mv (.t 13), some (71, true), 0⟩, ⟨some 73, .mv (.t 6), some (71, true), 0⟩, ⟨some 74, .bin .neq (.t 72) (.t 73), some (71, true), 0⟩, opT 75 (.pick (.t 71) (.t 74) (.c
 (.bool false)))]) (.cond (.t 75) (.region [mvT 76 12, opT 77 (.off 0 (.t 14)), opT 78 (.load none (.t 77)), opT 79 (.bslice 1 [.t 78]), opT 80 (.append 1 16 9 (.t 76) (.t 79)), ⟨some 12, .mv (.t 80),
 none, 1⟩] 1 false []) .skip)))) J16_0))
def L16_1 := bL16_1
theorem wL16_1 : Wp O L16_1 Q σ h = Wp O bL16_1 Q σ h := rfl
abbrev bK16_0 : AC :=
 .seq (rgT [mvT 82 12, mvT 4 82, opT 5 (.mv (.c (.bool true)))]) .ret
def K16_0 := bK16_0
theorem wK16_0 : Wp O K16_0 Q σ h = Wp O bK16_0 Q σ h := rfl
abbrev bK16_1 : AC :=
 .seq (.region [opT 46 (.load (some 2) (.t 8)), opT 47 (.off 0 (.t 8)), opT 48 (.load none (.t 47)), opT 49 (.len (.t 48)), opT 50 (.mksliceM [.bool false] 1 1 (.t 49) (.t 49)), ⟨some 51, .build [.list
 10 [] .full, .nilm, .list 1 [] .full, .list 1 [] .full] [(0, 2, .t 46), (2, 1, .t 50)], none, 1⟩, ⟨some 52, .box 4 (.t 51), none, 1⟩, ⟨some 11, .mv (.t 52), none, 2⟩] 2 true [(0, 4)]) (.seq (rgT [mvT
 53 11, mvT 54 6, opT 55 (.call (.c (.fn 35 [])) [.t 53, .t 54])]) (.seq (rgT [opT 12 (.mv (.c (.list 1 [] .full)))]) (.seq (.seq (rgT [opT 56 (.off 0 (.t 2)), opT 57 (.load none (.t 56)), opT 58 (.len
 (.t 57)), opT 59 (.mv (.c (.int .i64 0)))]) (.block 2 (.loop L16_1))) K16_0)))
def K16_1 := bK16_1
theorem wK16_1 : Wp O K16_1 Q σ h = Wp O bK16_1 Q σ h := rfl
abbrev bB16 : AC :=
 .seq (.region [opT 2 (.box 1 (.t 0)), ⟨some 4, .mv (.c (.list 1 [] .full)), none, 1⟩, ⟨some 5, .mv (.c (.bool false)), none, 1⟩] 1 false []) (.seq (rgT [opT 16 (.load (some 1) (.t 2)), mvT 17 1, opT 18
 (.call (.c (.fn 14 [])) [.t 16, .t 17]), mvT 15 18, opT 19 (.ext (.t 15) 0), opT 20 (.ext (.t 15) 1), mvT 6 19, mvT 7 20]) (.seq (.seq (rgT [mvT 21 7, opT 22 (.not (.t 21)), mvT 23 22, ⟨some 24, .load
 (some 1) (.t 2), some (23, false), 0⟩, ⟨some 25, .call (.c (.fn 18 [])) [.t 24], some (23, false), 0⟩, ⟨some 26, .not (.t 25), some (23, false), 0⟩, opT 27 (.pick (.t 23) (.c (.bool true)) (.t 26))])
 (.cond (.t 27) (.seq (rgT [opT 4 (.mv (.c (.list 1 [] .full))), opT 5 (.mv (.c (.bool false)))]) .ret) .skip)) (.seq (.region [opT 28 (.off 0 (.t 2)), opT 29 (.load none (.t 28)), opT 30 (.mkmap),
 ⟨some 31, .build [.list 10 [] .full, .nilm] [(0, 1, .t 29), (1, 1, .t 30)], none, 1⟩, ⟨some 8, .alloc [.list 10 [] .full, .nilm], none, 1⟩, ⟨none, .store 2 (.t 8) (.t 31), none, 2⟩] 2 false []) (.seq
 (.seq (rgT [opT 32 (.off 0 (.t 2)), opT 33 (.load none (.t 32)), opT 34 (.len (.t 33)), opT 35 (.mv (.c (.int .i64 0)))]) (.block 0 (.loop L16_0))) K16_1))))
def B16 := bB16
theorem wB16 : Wp O B16 Q σ h = Wp O bB16 Q σ h := rfl
def F16 : AF := ⟨B16, [.tmp 4, .tmp 5], false⟩
theorem tab16 : T 16 = some F16 := by kernel_rfl
abbrev bL18_0 : AC :=
 .seq (rgT [opT 12 (.bin .lss (.t 11) (.t 10))]) (.seq (.cond (.t 12) .skip (.exit 0)) (.seq (.block 1 (.seq (.region [mvT 13 11, opT 14 (.idx 10 (.t 9) (.t 11)), opT 15 (.load (some 10) (.t 14)), opT 5
 (.alloc [.str [], .int .i64 0, .bool false, .int .u8 0, .str [], .int .u8 0, .int .u8 0, .int .i64 0, .int .i64 0, .list 7 [] .full]), ⟨some 4, .mv (.t 13), none, 1⟩, ⟨none, .store 10 (.t 5) (.t 15),
 none, 1⟩] 1 false []) (.seq (rgT [opT 16 (.mkfn 42 [.t 3]), mvT 6 16]) (.seq (.seq (rgT [opT 17 (.off 2 (.t 5)), opT 18 (.load none (.t 17)), mvT 19 18, ⟨some 20, .load (some 10) (.t 5), some (19,
 false), 0⟩, ⟨some 21, .call (.c (.fn 31 [])) [.t 20], some (19, false), 0⟩, ⟨some 22, .not (.t 21), some (19, false), 0⟩, opT 23 (.pick (.t 19) (.c (.bool true)) (.t 22)), mvT 24 23, ⟨some 25, .load
 none (.t 3), some (24, false), 0⟩, ⟨some 26, .off 0 (.t 5), some (24, false), 0⟩, ⟨some 27, .load none (.t 26), some (24, false), 0⟩, ⟨some 28, .lookup true (.int .i64 0) false (.t 25) (.t 27), some
 (24, false), 0⟩, ⟨some 29, .bin .gtr (.t 28) (.c (.int .i64 0)), some (24, false), 0⟩, opT 30 (.pick (.t 24) (.c (.bool true)) (.t 29)), mvT 31 30, ⟨some 32, .off 3 (.t 5), some (31, false), 0⟩, ⟨some
 33, .load (some 7) (.t 32), some (31, false), 0⟩, ⟨some 34, .mv (.t 6), some (31, false), 0⟩, ⟨some 35, .call (.c (.fn 43 [])) [.t 33, .t 34], some (31, false), 0⟩, ⟨some 36, .not (.t 35), some (31,
 false), 0⟩, opT 37 (.pick (.t 31) (.c (.bool true)) (.t 36))]) (.cond (.t 37) (.seq (rgT [opT 2 (.mv (.c (.bool false)))]) .ret) .skip)) (rgT [opT 38 (.load none (.t 3)), opT 39 (.off 0 (.t 5)), opT 40
 (.load none (.t 39)), mvT 41 4, opT 42 (.bin .add (.t 41) (.c (.int .i64 1))), ⟨none, .update true (.t 38) (.t 40) (.t 42), none, 0⟩]))))) (rgT [opT 43 (.bin .add (.t 11) (.c (.int .i64 1))), mvT 11
 43])))
def L18_0 := bL18_0
theorem wL18_0 : Wp O L18_0 Q σ h = Wp O bL18_0 Q σ h := rfl
abbrev bK18_0 : AC :=
 .seq (rgT [opT 2 (.mv (.c (.bool true)))]) .ret
def K18_0 := bK18_0
theorem wK18_0 : Wp O K18_0 Q σ h = Wp O bK18_0 Q σ h := rfl
abbrev bB18 : AC :=
 .seq (.region [opT 1 (.box 1 (.t 0)), ⟨some 2, .mv (.c (.bool false)), none, 1⟩] 1 false []) (.seq (.region [opT 7 (.mkmap), ⟨some 3, .alloc [.nilm], none, 1⟩, ⟨none, .store 1 (.t 3) (.t 7), none, 2⟩]
 2 false []) (.seq (.seq (rgT [opT 8 (.off 0 (.t 1)), opT 9 (.load none (.t 8)), opT 10 (.len (.t 9)), opT 11 (.mv (.c (.int .i64 0)))]) (.block 0 (.loop L18_0))) K18_0))
def B18 := bB18
theorem wB18 : Wp O B18 Q σ h = Wp O bB18 Q σ h := rfl
def F18 : AF := ⟨B18, [.tmp 2], false⟩
theorem tab18 : T 18 = some F18 := by kernel_rfl
abbrev bL20_0 : AC :=
 .seq (rgT [opT 14 (.bin .lss (.t 13) (.t 12))]) (.seq (.cond (.t 14) .skip (.exit 0)) (.seq (.block 1 (.seq (rgT [mvT 15 13, mvT 5 15]) (.seq (.region [mvT 16 0, mvT 17 5, opT 18 (.idx 1 (.t 16) (.t
 17)), opT 19 (.load none (.t 18)), mvT 20 1, mvT 21 5, opT 22 (.idx 1 (.t 20) (.t 21)), opT 23 (.load none (.t 22)), opT 24 (.bin .neq (.t 19) (.t 23))] 0 true []) (.cond (.t 24) (.seq (rgT [opT 4 (.mv
 (.c (.bool false)))]) .ret) .skip)))) (rgT [opT 25 (.bin .add (.t 13) (.c (.int .i64 1))), mvT 13 25])))
def L20_0 := bL20_0
theorem wL20_0 : Wp O L20_0 Q σ h = Wp O bL20_0 Q σ h := rfl
abbrev bK20_0 : AC :=
 .seq (rgT [opT 4 (.mv (.c (.bool true)))]) .ret
def K20_0 := bK20_0
theorem wK20_0 : Wp O K20_0 Q σ h = Wp O bK20_0 Q σ h := rfl
abbrev bB20 : AC :=
 .seq (rgT [opT 4 (.mv (.c (.bool false)))]) (.seq (.seq (rgT [mvT 6 0, opT 7 (.len (.t 6)), mvT 8 1, opT 9 (.len (.t 8)), opT 10 (.bin .neq (.t 7) (.t 9))]) (.cond (.t 10) (.seq (rgT [opT 4 (.mv (.c
 (.bool false)))]) .ret) .skip)) (.seq (.seq (rgT [mvT 11 0, opT 12 (.len (.t 11)), opT 13 (.mv (.c (.int .i64 0)))]) (.block 0 (.loop L20_0))) K20_0))
def B20 := bB20
theorem wB20 : Wp O B20 Q σ h = Wp O bB20 Q σ h := rfl
def F20 : AF := ⟨B20, [.tmp 4], false⟩
theorem tab20 : T 20 = some F20 := by kernel_rfl
abbrev bB26 : AC :=
 .seq (.region [opT 2 (.alloc [.list 10 [] .full]), ⟨some 3, .mv (.c (.str [])), none, 1⟩, ⟨some 4, .mv (.c (.int .i64 0)), none, 1⟩] 1 false []) (.seq (rgT [mvT 9 0, opT 10 (.call (.c (.fn 48 [])) [.t
 9]), mvT 8 10, opT 11 (.ext (.t 8) 0), opT 12 (.ext (.t 8) 1), opT 13 (.ext (.t 8) 2), mvT 5 11, mvT 6 12, mvT 7 13]) (.seq (.seq (rgT [mvT 14 7, opT 15 (.bin .neq (.t 14) (.c (.int .i64 0)))]) (.cond
 (.t 15) (.seq (rgT [opT 16 (.build [.list 10 [] .full] []), mvT 17 7, ⟨none, .store 1 (.t 2) (.t 16), none, 0⟩, opT 3 (.mv (.c (.str []))), mvT 4 17]) .ret) .skip)) (.seq (rgT [mvT 18 5, opT 19 (.call
 (.c (.fn 11 [])) [.t 18]), opT 20 (.ext (.t 19) 0), opT 21 (.ext (.t 19) 1), opT 22 (.ext (.t 19) 2), ⟨none, .store 1 (.t 2) (.t 20), none, 0⟩, mvT 3 21, mvT 4 22]) .ret)))
def B26 := bB26
theorem wB26 : Wp O B26 Q σ h = Wp O bB26 Q σ h := rfl
def F26 : AF := ⟨B26, [.cell 2 (some 1), .tmp 3, .tmp 4], false⟩
theorem tab26 : T 26 = some F26 := by kernel_rfl
abbrev bL28_0 : AC :=
 .seq (rgT [opT 10 (.bin .lss (.t 9) (.t 8))]) (.seq (.cond (.t 10) .skip (.exit 0)) (.seq (.block 1 (.seq (.region [opT 11 (.idx 10 (.t 7) (.t 9)), opT 12 (.load (some 10) (.t 11)), opT 5 (.alloc [.str
 [], .int .i64 0, .bool false, .int .u8 0, .str [], .int .u8 0, .int .u8 0, .int .i64 0, .int .i64 0, .list 7 [] .full]), ⟨none, .store 10 (.t 5) (.t 12), none, 1⟩] 1 false []) (.region [mvT 13 3, opT
 14 (.off 0 (.t 5)), opT 15 (.load none (.t 14)), opT 16 (.bslice 1 [.t 15]), opT 17 (.append 1 16 9 (.t 13) (.t 16)), ⟨some 3, .mv (.t 17), none, 1⟩] 1 false []))) (rgT [opT 18 (.bin .add (.t 9) (.c
 (.int .i64 1))), mvT 9 18])))
def L28_0 := bL28_0
theorem wL28_0 : Wp O L28_0 Q σ h = Wp O bL28_0 Q σ h := rfl
abbrev bK28_0 : AC :=
 .seq (rgT [mvT 19 3, mvT 2 19]) .ret
def K28_0 := bK28_0
theorem wK28_0 : Wp O K28_0 Q σ h = Wp O bK28_0 Q σ h := rfl
abbrev bB28 : AC :=
 .seq (.region [opT 1 (.box 1 (.t 0)), ⟨some 2, .mv (.c (.list 1 [] .full)), none, 1⟩] 1 false []) (.seq (rgT [opT 3 (.mv (.c (.list 1 [] .full)))]) (.seq (.seq (rgT [opT 6 (.off 0 (.t 1)), opT 7 (.load
 none (.t 6)), opT 8 (.len (.t 7)), opT 9 (.mv (.c (.int .i64 0)))]) (.block 0 (.loop L28_0))) K28_0))
def B28 := bB28
theorem wB28 : Wp O B28 Q σ h = Wp O bB28 Q σ h := rfl
def F28 : AF := ⟨B28, [.tmp 2], false⟩
theorem tab28 : T 28 = some F28 := by kernel_rfl
abbrev bB29 : AC :=
 .seq (rgT [opT 6 (.mv (.c (.bool false)))]) (.seq (.region [mvT 11 0, opT 12 (.call (.c (.fn 26 [])) [.t 11]), mvT 10 12, opT 13 (.ext (.t 10) 0), opT 14 (.ext (.t 10) 1), opT 15 (.ext (.t 10) 2), opT
 7 (.alloc [.list 10 [] .full]), ⟨none, .store 1 (.t 7) (.t 13), none, 1⟩, ⟨some 8, .mv (.t 14), none, 1⟩, ⟨some 9, .mv (.t 15), none, 1⟩] 1 false []) (.seq (rgT [mvT 16 9, mvT 17 2, opT 18 (.bin .eql
 (.t 16) (.t 17)), mvT 19 18, ⟨some 20, .mv (.t 8), some (19, true), 0⟩, ⟨some 21, .mv (.t 1), some (19, true), 0⟩, ⟨some 22, .bin .eql (.t 20) (.t 21), some (19, true), 0⟩, opT 23 (.pick (.t 19) (.t
 22) (.c (.bool false))), mvT 24 23, ⟨some 25, .off 0 (.t 7), some (24, true), 0⟩, ⟨some 26, .load none (.t 25), some (24, true), 0⟩, ⟨some 27, .len (.t 26), some (24, true), 0⟩, ⟨some 28, .bin .eql (.t
 27) (.c (.int .i64 0)), some (24, true), 0⟩, opT 29 (.pick (.t 24) (.t 28) (.c (.bool false))), mvT 6 29]) .ret))
def B29 := bB29
theorem wB29 : Wp O B29 Q σ h = Wp O bB29 Q σ h := rfl
def F29 : AF := ⟨B29, [.tmp 6], false⟩
theorem tab29 : T 29 = some F29 := by kernel_rfl
abbrev bB31 : AC :=
 .seq (.region [opT 1 (.box 10 (.t 0)), ⟨some 2, .mv (.c (.bool false)), none, 1⟩] 1 false []) (.seq (rgT [opT 6 (.load (some 10) (.t 1)), opT 7 (.call (.c (.fn 25 [])) [.t 6]), mvT 5 7, opT 8 (.ext (.t
 5) 0), opT 9 (.ext (.t 5) 1), mvT 3 8, mvT 4 9]) (.seq (rgT [mvT 10 4, opT 11 (.bin .eql (.t 10) (.c (.int .i64 0))), mvT 2 11]) .ret))
def B31 := bB31
theorem wB31 : Wp O B31 Q σ h = Wp O bB31 Q σ h := rfl
def F31 : AF := ⟨B31, [.tmp 2], false⟩
theorem tab31 : T 31 = some F31 := by kernel_rfl
abbrev bJ32_0 : AC :=
 .region [mvT 67 6, opT 68 (.off 0 (.t 8)), opT 69 (.load none (.t 68)), mvT 70 6, opT 71 (.off 0 (.t 8)), opT 72 (.load none (.t 71)), opT 73 (.lookup true (.list 7 [] .full) false (.t 70) (.t 72)),
 opT 74 (.off 3 (.t 8)), opT 75 (.load (some 7) (.t 74)), opT 76 (.bslice 7 [.t 75]), opT 77 (.append 7 72 36 (.t 73) (.t 76)), ⟨none, .update true (.t 67) (.t 69) (.t 77), none, 1⟩] 1 true [(2, 10)]
def J32_0 := bJ32_0
theorem wJ32_0 : Wp O J32_0 Q σ h = Wp O bJ32_0 Q σ h := rfl
abbrev bJ32_1 : AC :=
 rgT [opT 78 (.bin .add (.t 19) (.c (.int .i64 1))), mvT 19 78]
def J32_1 := bJ32_1
theorem wJ32_1 : Wp O J32_1 Q σ h = Wp O bJ32_1 Q σ h := rfl
abbrev bL32_0 : AC :=
 .seq (rgT [opT 20 (.bin .lss (.t 19) (.t 18))]) (.seq (.cond (.t 20) .skip (.exit 0)) (.seq (.block 1 (.seq (.region [opT 21 (.idx 10 (.t 17) (.t 19)), opT 22 (.load (some 10) (.t 21)), opT 8 (.alloc
 [.str [], .int .i64 0, .bool false, .int .u8 0, .str [], .int .u8 0, .int .u8 0, .int .i64 0, .int .i64 0, .list 7 [] .full]), ⟨none, .store 10 (.t 8) (.t 22), none, 1⟩] 1 false []) (.seq (rgT [opT 24
 (.off 1 (.t 5)), opT 25 (.load none (.t 24)), opT 26 (.off 0 (.t 8)), opT 27 (.load none (.t 26)), opT 28 (.lookup true (.int .i64 0) true (.t 25) (.t 27)), mvT 23 28, opT 29 (.ext (.t 23) 0), opT 30
 (.ext (.t 23) 1), mvT 9 29, mvT 10 30]) (.seq (.block 2 (.seq (rgT [opT 32 (.off 2 (.t 8)), opT 33 (.load none (.t 32)), opT 34 (.not (.t 33)), mvT 35 34, ⟨some 36, .mv (.t 10), some (35, true), 0⟩,
 opT 37 (.pick (.t 35) (.t 36) (.c (.bool false))), mvT 31 37]) (.cond (.t 31) (.seq (.region [opT 38 (.build [.list 10 [] .full, .nilm] []), opT 39 (.off 0 (.t 8)), opT 40 (.load none (.t 39)), ⟨none,
 .store 2 (.t 2) (.t 38), none, 0⟩, mvT 3 40, opT 4 (.mv (.c (.int .i64 30)))] 0 true [(2, 3)]) .ret) (.seq (rgT [opT 42 (.off 2 (.t 8)), opT 43 (.load none (.t 42)), mvT 44 43, ⟨some 45, .mv (.t 10),
 some (44, true), 0⟩, ⟨some 46, .not (.t 45), some (44, true), 0⟩, opT 47 (.pick (.t 44) (.t 46) (.c (.bool false))), mvT 41 47]) (.cond (.t 41) (.seq (.region [opT 48 (.build [.list 10 [] .full, .nilm]
 []), opT 49 (.off 0 (.t 8)), opT 50 (.load none (.t 49)), ⟨none, .store 2 (.t 2) (.t 48), none, 0⟩, mvT 3 50, opT 4 (.mv (.c (.int .i64 31)))] 0 true [(2, 3)]) .ret) (.seq (rgT [mvT 52 10, opT 53 (.not
 (.t 52)), mvT 51 53]) (.cond (.t 51) (.seq (rgT [opT 54 (.off 1 (.t 5)), opT 55 (.load none (.t 54)), opT 56 (.off 0 (.t 8)), opT 57 (.load none (.t 56)), opT 58 (.off 0 (.t 5)), opT 59 (.load none (.t
 58)), opT 60 (.len (.t 59)), ⟨none, .update true (.t 55) (.t 57) (.t 60), none, 0⟩]) (.region [opT 61 (.off 0 (.t 5)), opT 62 (.load none (.t 61)), opT 63 (.load (some 10) (.t 8)), opT 64 (.bslice 10
 [.t 63]), opT 65 (.appendM 10 104 38 (.t 62) (.t 64)), ⟨some 66, .off 0 (.t 5), none, 1⟩, ⟨none, .store 1 (.t 66) (.t 65), none, 1⟩] 1 false [])) .skip))))))) J32_0)))) J32_1))
def L32_0 := bL32_0
theorem wL32_0 : Wp O L32_0 Q σ h = Wp O bL32_0 Q σ h := rfl
abbrev bJ32_2 : AC :=
 .seq (rgT [opT 101 (.off 0 (.t 5)), opT 102 (.load none (.t 101)), mvT 103 11, opT 104 (.idx 10 (.t 102) (.t 103)), opT 105 (.off 3 (.t 104)), opT 106 (.load (some 7) (.t 105)), opT 107 (.call (.c (.fn
 46 [])) [.t 106]), opT 108 (.not (.t 107))]) (.cond (.t 108) (.seq (.region [opT 109 (.build [.list 10 [] .full, .nilm] []), opT 110 (.off 0 (.t 12)), opT 111 (.load none (.t 110)), ⟨none, .store 2 (.t
 2) (.t 109), none, 0⟩, mvT 3 111, opT 4 (.mv (.c (.int .i64 21)))] 0 true [(2, 3)]) .ret) .skip)
def J32_2 := bJ32_2
theorem wJ32_2 : Wp O J32_2 Q σ h = Wp O bJ32_2 Q σ h := rfl
abbrev bJ32_3 : AC :=
 rgT [opT 112 (.bin .add (.t 82) (.c (.int .i64 1))), mvT 82 112]
def J32_3 := bJ32_3
theorem wJ32_3 : Wp O J32_3 Q σ h = Wp O bJ32_3 Q σ h := rfl
abbrev bL32_1 : AC :=
 .seq (rgT [opT 83 (.bin .lss (.t 82) (.t 81))]) (.seq (.cond (.t 83) .skip (.exit 3)) (.seq (.block 4 (.seq (.region [mvT 84 82, opT 85 (.idx 10 (.t 80) (.t 82)), opT 86 (.load (some 10) (.t 85)), opT
 12 (.alloc [.str [], .int .i64 0, .bool false, .int .u8 0, .str [], .int .u8 0, .int .u8 0, .int .i64 0, .int .i64 0, .list 7 [] .full]), ⟨some 11, .mv (.t 84), none, 1⟩, ⟨none, .store 10 (.t 12) (.t
 86), none, 1⟩] 1 false []) (.seq (.seq (rgT [mvT 87 6, opT 88 (.off 0 (.t 12)), opT 89 (.load none (.t 88)), opT 90 (.lookup true (.list 7 [] .full) false (.t 87) (.t 89)), mvT 13 90]) (.seq (rgT [mvT
 91 13, opT 92 (.len (.t 91)), opT 93 (.bin .gtr (.t 92) (.c (.int .i64 1)))]) (.cond (.t 93) (rgT [opT 94 (.off 0 (.t 5)), opT 95 (.load none (.t 94)), opT 96 (.mvW (.t 11)), opT 97 (.mvW (.t 13)), opT
 98 (.build [.int .u8 0, .str [], .int .u8 0, .int .u8 0, .int .i64 0, .int .i64 0, .list 7 [] .full] [(0, 1, .c (.int .u8 6)), (6, 1, .t 97)]), opT 99 (.idx 10 (.t 95) (.t 96)), opT 100 (.off 3 (.t
 99)), ⟨none, .store 7 (.t 100) (.t 98), none, 0⟩]) .skip))) J32_2))) J32_3))
def L32_1 := bL32_1
theorem wL32_1 : Wp O L32_1 Q σ h = Wp O bL32_1 Q σ h := rfl
abbrev bK32_0 : AC :=
 .seq (rgT [opT 113 (.load (some 2) (.t 5)), ⟨none, .store 2 (.t 2) (.t 113), none, 0⟩, opT 3 (.mv (.c (.str []))), opT 4 (.mv (.c (.int .i64 0)))]) .ret
def K32_0 := bK32_0
theorem wK32_0 : Wp O K32_0 Q σ h = Wp O bK32_0 Q σ h := rfl
abbrev bK32_1 : AC :=
 .seq (.seq (rgT [opT 79 (.off 0 (.t 5)), opT 80 (.load none (.t 79)), opT 81 (.len (.t 80)), opT 82 (.mv (.c (.int .i64 0)))]) (.block 3 (.loop L32_1))) K32_0
def K32_1 := bK32_1
theorem wK32_1 : Wp O K32_1 Q σ h = Wp O bK32_1 Q σ h := rfl
abbrev bB32 : AC :=
 .seq (.region [opT 2 (.alloc [.list 10 [] .full, .nilm]), ⟨some 3, .mv (.c (.str [])), none, 1⟩, ⟨some 4, .mv (.c (.int .i64 0)), none, 1⟩] 1 false []) (.seq (.region [opT 14 (.mkmap), ⟨some 15, .build
 [.list 10 [] .full, .nilm] [(1, 1, .t 14)], none, 1⟩, ⟨some 5, .alloc [.list 10 [] .full, .nilm], none, 1⟩, ⟨none, .store 2 (.t 5) (.t 15), none, 2⟩] 2 false []) (.seq (.region [opT 16 (.mkmap), ⟨some
 6, .mv (.t 16), none, 1⟩] 1 false []) (.seq (.seq (rgT [mvT 17 0, opT 18 (.len (.t 17)), opT 19 (.mv (.c (.int .i64 0)))]) (.block 0 (.loop L32_0))) K32_1)))
def B32 := bB32
theorem wB32 : Wp O B32 Q σ h = Wp O bB32 Q σ h := rfl
def F32 : AF := ⟨B32, [.cell 2 (some 2), .tmp 3, .tmp 4], true⟩
theorem tab32 : T 32 = some F32 := by kernel_rfl
abbrev bL33_0 : AC :=
 .seq (rgT [opT 12 (.bin .lss (.t 11) (.t 10))]) (.seq (.cond (.t 12) .skip (.exit 0)) (.seq (.block 1 (.seq (.region [opT 13 (.idx 10 (.t 9) (.t 11)), opT 14 (.load (some 10) (.t 13)), opT 6 (.alloc
 [.str [], .int .i64 0, .bool false, .int .u8 0, .str [], .int .u8 0, .int .u8 0, .int .i64 0, .int .i64 0, .list 7 [] .full]), ⟨none, .store 10 (.t 6) (.t 14), none, 1⟩] 1 false []) (.seq (rgT [opT 15
 (.off 3 (.t 6)), opT 16 (.load (some 7) (.t 15)), opT 17 (.mkfn 50 [.t 1, .t 4]), opT 18 (.call (.c (.fn 43 [])) [.t 16, .t 17]), mvT 7 18]) (.seq (rgT [mvT 19 7, opT 20 (.not (.t 19))]) (.cond (.t 20)
 (.seq (rgT [opT 21 (.load none (.t 4)), mvT 2 21, opT 3 (.mv (.c (.bool true)))]) .ret) .skip))))) (rgT [opT 22 (.bin .add (.t 11) (.c (.int .i64 1))), mvT 11 22])))
def L33_0 := bL33_0
theorem wL33_0 : Wp O L33_0 Q σ h = Wp O bL33_0 Q σ h := rfl
abbrev bK33_0 : AC :=
 .seq (rgT [opT 2 (.mv (.c (.str []))), opT 3 (.mv (.c (.bool false)))]) .ret
def K33_0 := bK33_0
theorem wK33_0 : Wp O K33_0 Q σ h = Wp O bK33_0 Q σ h := rfl
abbrev bB33 : AC :=
 .seq (.region [opT 1 (.box 2 (.t 0)), ⟨some 2, .mv (.c (.str [])), none, 1⟩, ⟨some 3, .mv (.c (.bool false)), none, 1⟩] 1 false []) (.seq (.region [opT 4 (.alloc [.str []]), ⟨none, .store 1 (.t 4) (.c
 (.str [])), none, 1⟩] 1 false []) (.seq (.seq (rgT [opT 8 (.off 0 (.t 1)), opT 9 (.load none (.t 8)), opT 10 (.len (.t 9)), opT 11 (.mv (.c (.int .i64 0)))]) (.block 0 (.loop L33_0))) K33_0))
def B33 := bB33
theorem wB33 : Wp O B33 Q σ h = Wp O bB33 Q σ h := rfl
def F33 : AF := ⟨B33, [.tmp 2, .tmp 3], false⟩
theorem tab33 : T 33 = some F33 := by kernel_rfl
abbrev bL34_0 : AC :=
 .seq (rgT [opT 22 (.bin .lss (.t 21) (.t 20))]) (.seq (.cond (.t 22) .skip (.exit 0)) (.seq (.block 1 (.seq (.region [mvT 23 21, opT 24 (.idx 10 (.t 19) (.t 21)), opT 25 (.load (some 10) (.t 24)), opT
 5 (.alloc [.int .i64 0]), ⟨some 6, .alloc [.str [], .int .i64 0, .bool false, .int .u8 0, .str [], .int .u8 0, .int .u8 0, .int .i64 0, .int .i64 0, .list 7 [] .full], none, 1⟩, ⟨none, .store 1 (.t 5)
 (.t 23), none, 2⟩, ⟨none, .store 10 (.t 6) (.t 25), none, 2⟩] 2 false []) (rgT [opT 26 (.off 3 (.t 6)), opT 27 (.load (some 7) (.t 26)), opT 28 (.mkfn 51 [.t 4, .t 5, .t 1]), opT 29 (.call (.c (.fn 43
 [])) [.t 27, .t 28])]))) (rgT [opT 30 (.bin .add (.t 21) (.c (.int .i64 1))), mvT 21 30])))
def L34_0 := bL34_0
theorem wL34_0 : Wp O L34_0 Q σ h = Wp O bL34_0 Q σ h := rfl
abbrev bJ34_0 : AC :=
 rgT [opT 79 (.bin .add (.t 58) (.c (.int .i64 1))), mvT 58 79]
def J34_0 := bJ34_0
theorem wJ34_0 : Wp O J34_0 Q σ h = Wp O bJ34_0 Q σ h := rfl
abbrev bL34_1 : AC :=
 .seq (rgT [opT 59 (.bin .lss (.t 58) (.t 57))]) (.seq (.cond (.t 59) .skip (.exit 6)) (.seq (.block 7 (.seq (rgT [opT 60 (.idx 1 (.t 56) (.t 58)), opT 61 (.load none (.t 60)), mvT 13 61]) (.seq (.seq
 (rgT [mvT 62 13, mvT 63 7, opT 64 (.bin .eql (.t 62) (.t 63))]) (.cond (.t 64) (.seq (rgT [opT 65 (.off 0 (.t 8)), opT 66 (.load none (.t 65)), mvT 2 66, opT 3 (.mv (.c (.bool true)))]) .ret) .skip))
 (.seq (rgT [mvT 67 9, mvT 68 13, opT 69 (.idx 1 (.t 67) (.t 68)), opT 70 (.load none (.t 69)), opT 71 (.not (.t 70))]) (.cond (.t 71) (.seq (rgT [mvT 72 9, mvT 73 13, opT 74 (.idx 1 (.t 72) (.t 73)),
 ⟨none, .store 1 (.t 74) (.c (.bool true)), none, 0⟩]) (.region [mvT 75 10, mvT 76 13, opT 77 (.bslice 1 [.t 76]), opT 78 (.append 1 8 3 (.t 75) (.t 77)), ⟨some 10, .mv (.t 78), none, 1⟩] 1 false []))
 .skip))))) J34_0))
def L34_1 := bL34_1
theorem wL34_1 : Wp O L34_1 Q σ h = Wp O bL34_1 Q σ h := rfl
abbrev bK34_0 : AC :=
 .seq (rgT [mvT 80 10, opT 81 (.len (.t 80)), opT 82 (.bin .eql (.t 81) (.c (.int .i64 0)))]) (.cond (.t 82) (.exit 3) .skip)
def K34_0 := bK34_0
theorem wK34_0 : Wp O K34_0 Q σ h = Wp O bK34_0 Q σ h := rfl
abbrev bL34_2 : AC :=
 .seq (.seq (rgT [mvT 45 10, opT 46 (.len (.t 45)), opT 47 (.bin .gtr (.t 46) (.c (.int .i64 0)))]) (.cond (.t 47) .skip (.exit 4))) (.block 5 (.seq (rgT [mvT 48 10, opT 49 (.idx 1 (.t 48) (.c (.int
 .i64 0))), opT 50 (.load none (.t 49)), mvT 11 50]) (.seq (.region [mvT 51 10, opT 52 (.sliceT 1 (.t 51) (.c (.int .i64 1))), ⟨some 10, .mv (.t 52), none, 1⟩] 1 false []) (.seq (.seq (rgT [opT 53
 (.load none (.t 4)), mvT 54 11, opT 55 (.idx 1 (.t 53) (.t 54)), opT 56 (.load none (.t 55)), opT 57 (.len (.t 56)), opT 58 (.mv (.c (.int .i64 0)))]) (.block 6 (.loop L34_1))) K34_0))))
def L34_2 := bL34_2
theorem wL34_2 : Wp O L34_2 Q σ h = Wp O bL34_2 Q σ h := rfl
abbrev bK34_1 : AC :=
 rgT [opT 83 (.bin .add (.t 34) (.c (.int .i64 1))), mvT 34 83]
def K34_1 := bK34_1
theorem wK34_1 : Wp O K34_1 Q σ h = Wp O bK34_1 Q σ h := rfl
abbrev bL34_3 : AC :=
 .seq (rgT [opT 35 (.bin .lss (.t 34) (.t 33))]) (.seq (.cond (.t 35) .skip (.exit 2)) (.seq (.block 3 (.seq (.region [mvT 36 34, opT 37 (.idx 10 (.t 32) (.t 34)), opT 38 (.load (some 10) (.t 37)), opT
 8 (.alloc [.str [], .int .i64 0, .bool false, .int .u8 0, .str [], .int .u8 0, .int .u8 0, .int .i64 0, .int .i64 0, .list 7 [] .full]), ⟨some 7, .mv (.t 36), none, 1⟩, ⟨none, .store 10 (.t 8) (.t 38),
 none, 1⟩] 1 false []) (.seq (.region [opT 39 (.off 0 (.t 1)), opT 40 (.load none (.t 39)), opT 41 (.len (.t 40)), opT 42 (.mksliceM [.bool false] 1 1 (.t 41) (.t 41)), ⟨some 43, .mv (.t 7), none, 1⟩,
 ⟨some 44, .bslice 1 [.t 43], none, 1⟩, ⟨some 9, .mv (.t 42), none, 1⟩, ⟨some 10, .mv (.t 44), none, 1⟩] 1 false []) (.block 4 (.loop L34_2))))) K34_1))
def L34_3 := bL34_3
theorem wL34_3 : Wp O L34_3 Q σ h = Wp O bL34_3 Q σ h := rfl
abbrev bK34_2 : AC :=
 .seq (rgT [opT 2 (.mv (.c (.str []))), opT 3 (.mv (.c (.bool false)))]) .ret
def K34_2 := bK34_2
theorem wK34_2 : Wp O K34_2 Q σ h = Wp O bK34_2 Q σ h := rfl
abbrev bK34_3 : AC :=
 .seq (.label 0) (.seq (.seq (rgT [opT 31 (.off 0 (.t 1)), opT 32 (.load none (.t 31)), opT 33 (.len (.t 32)), opT 34 (.mv (.c (.int .i64 0)))]) (.block 2 (.loop L34_3))) K34_2)
def K34_3 := bK34_3
theorem wK34_3 : Wp O K34_3 Q σ h = Wp O bK34_3 Q σ h := rfl
abbrev bB34 : AC :=
 .seq (.region [opT 1 (.box 2 (.t 0)), ⟨some 2, .mv (.c (.str [])), none, 1⟩, ⟨some 3, .mv (.c (.bool false)), none, 1⟩] 1 false []) (.scope (.seq (.region [opT 14 (.off 0 (.t 1)), opT 15 (.load none
 (.t 14)), opT 16 (.len (.t 15)), opT 17 (.mksliceM [.list 1 [] .full] 1 24 (.t 16) (.t 16)), ⟨some 4, .alloc [.list 1 [] .full], none, 1⟩, ⟨none, .store 1 (.t 4) (.t 17), none, 2⟩] 2 false []) (.seq
 (.seq (rgT [opT 18 (.off 0 (.t 1)), opT 19 (.load none (.t 18)), opT 20 (.len (.t 19)), opT 21 (.mv (.c (.int .i64 0)))]) (.block 0 (.loop L34_0))) K34_3)))
def B34 := bB34
theorem wB34 : Wp O B34 Q σ h = Wp O bB34 Q σ h := rfl
def F34 : AF := ⟨B34, [.tmp 2, .tmp 3], false⟩
theorem tab34 : T 34 = some F34 := by kernel_rfl
abbrev bB35 : AC :=
 .seq (.region [opT 2 (.box 1 (.t 0))] 1 false []) (.seq (.seq (rgT [opT 4 (.load none (.t 2)), opT 5 (.nilchk (.t 4)), opT 6 (.off 2 (.t 5)), opT 7 (.load none (.t 6)), mvT 8 1, opT 9 (.idx 1 (.t 7)
 (.t 8)), opT 10 (.load none (.t 9))]) (.cond (.t 10) .ret .skip)) (.seq (rgT [opT 11 (.load none (.t 2)), opT 12 (.nilchk (.t 11)), opT 13 (.off 2 (.t 12)), opT 14 (.load none (.t 13)), mvT 15 1, opT
 16 (.idx 1 (.t 14) (.t 15)), ⟨none, .store 1 (.t 16) (.c (.bool true)), none, 0⟩]) (.seq (rgT [opT 17 (.load none (.t 2)), opT 18 (.nilchk (.t 17)), opT 19 (.off 0 (.t 18)), opT 20 (.off 0 (.t 19)),
 opT 21 (.load none (.t 20)), mvT 22 1, opT 23 (.idx 10 (.t 21) (.t 22)), opT 24 (.off 3 (.t 23)), opT 25 (.load (some 7) (.t 24)), opT 26 (.mkfn 52 [.t 2]), opT 27 (.call (.c (.fn 43 [])) [.t 25, .t
 26])]) (.region [opT 28 (.load none (.t 2)), opT 29 (.load none (.t 2)), opT 30 (.nilchk (.t 29)), opT 31 (.off 3 (.t 30)), opT 32 (.load none (.t 31)), mvT 33 1, opT 34 (.bslice 1 [.t 33]), opT 35
 (.append 1 8 3 (.t 32) (.t 34)), ⟨some 36, .nilchk (.t 28), none, 1⟩, ⟨some 37, .off 3 (.t 36), none, 1⟩, ⟨none, .store 1 (.t 37) (.t 35), none, 1⟩] 1 true [(0, 7)]))))
def B35 := bB35
theorem wB35 : Wp O B35 Q σ h = Wp O bB35 Q σ h := rfl
def F35 : AF := ⟨B35, [], true⟩
theorem tab35 : T 35 = some F35 := by kernel_rfl
abbrev bL36_0 : AC :=
 .seq (rgT [opT 10 (.bin .lss (.t 9) (.t 8))]) (.seq (.cond (.t 10) .skip (.exit 0)) (.seq (.block 1 (.seq (.region [opT 11 (.idx 7 (.t 7) (.t 9)), opT 12 (.load (some 7) (.t 11)), opT 5 (.alloc [.int
 .u8 0, .str [], .int .u8 0, .int .u8 0, .int .i64 0, .int .i64 0, .list 7 [] .full]), ⟨none, .store 7 (.t 5) (.t 12), none, 1⟩] 1 false []) (.region [mvT 13 3, opT 14 (.load (some 7) (.t 5)), opT 15
 (.call (.c (.fn 36 [])) [.t 14]), opT 16 (.bslice 7 [.t 15]), opT 17 (.append 7 72 36 (.t 13) (.t 16)), ⟨some 3, .mv (.t 17), none, 1⟩] 1 false []))) (rgT [opT 18 (.bin .add (.t 9) (.c (.int .i64 1))),
 mvT 9 18])))
def L36_0 := bL36_0
theorem wL36_0 : Wp O L36_0 Q σ h = Wp O bL36_0 Q σ h := rfl
abbrev bK36_0 : AC :=
 .seq (rgT [mvT 19 3, opT 20 (.off 6 (.t 1)), ⟨none, .store 1 (.t 20) (.t 19), none, 0⟩]) (.seq (rgT [opT 21 (.load (some 7) (.t 1)), ⟨none, .store 7 (.t 2) (.t 21), none, 0⟩]) .ret)
def K36_0 := bK36_0
theorem wK36_0 : Wp O K36_0 Q σ h = Wp O bK36_0 Q σ h := rfl
abbrev bB36 : AC :=
 .seq (.region [opT 1 (.box 7 (.t 0)), ⟨some 2, .alloc [.int .u8 0, .str [], .int .u8 0, .int .u8 0, .int .i64 0, .int .i64 0, .list 7 [] .full], none, 1⟩] 2 false []) (.seq (rgT [opT 3 (.mv (.c (.list
 7 [] .full)))]) (.seq (.seq (rgT [opT 6 (.off 6 (.t 1)), opT 7 (.load none (.t 6)), opT 8 (.len (.t 7)), opT 9 (.mv (.c (.int .i64 0)))]) (.block 0 (.loop L36_0))) K36_0))
def B36 := bB36
theorem wB36 : Wp O B36 Q σ h = Wp O bB36 Q σ h := rfl
def F36 : AF := ⟨B36, [.cell 2 (some 7)], false⟩
theorem tab36 : T 36 = some F36 := by kernel_rfl
abbrev bB42 : AC :=
 .seq (rgT [opT 3 (.mv (.c (.bool false)))]) (.seq (rgT [opT 4 (.load none (.t 1)), mvT 5 0, opT 6 (.lookup true (.int .i64 0) false (.t 4) (.t 5)), opT 7 (.bin .gtr (.t 6) (.c (.int .i64 0))), mvT 3
 7]) .ret)
def B42 := bB42
theorem wB42 : Wp O B42 Q σ h = Wp O bB42 Q σ h := rfl
def F42 : AF := ⟨B42, [.tmp 3], false⟩
theorem tab42 : T 42 = some F42 := by kernel_rfl
abbrev bL43_0 : AC :=
 .seq (rgT [opT 18 (.bin .lss (.t 17) (.t 16))]) (.seq (.cond (.t 18) .skip (.exit 0)) (.seq (.block 1 (.seq (.region [opT 19 (.idx 7 (.t 15) (.t 17)), opT 20 (.load (some 7) (.t 19)), opT 6 (.alloc
 [.int .u8 0, .str [], .int .u8 0, .int .u8 0, .int .i64 0, .int .i64 0, .list 7 [] .full]), ⟨none, .store 7 (.t 6) (.t 20), none, 1⟩] 1 false []) (.seq (rgT [opT 21 (.load (some 7) (.t 6)), mvT 22 1,
 opT 23 (.call (.c (.fn 43 [])) [.t 21, .t 22]), opT 24 (.not (.t 23))]) (.cond (.t 24) (.seq (rgT [opT 4 (.mv (.c (.bool false)))]) .ret) .skip)))) (rgT [opT 25 (.bin .add (.t 17) (.c (.int .i64 1))),
 mvT 17 25])))
def L43_0 := bL43_0
theorem wL43_0 : Wp O L43_0 Q σ h = Wp O bL43_0 Q σ h := rfl
abbrev bK43_0 : AC :=
 .seq (rgT [opT 4 (.mv (.c (.bool true)))]) .ret
def K43_0 := bK43_0
theorem wK43_0 : Wp O K43_0 Q σ h = Wp O bK43_0 Q σ h := rfl
abbrev bB43 : AC :=
 .seq (.region [opT 2 (.box 7 (.t 0)), ⟨some 4, .mv (.c (.bool false)), none, 1⟩] 1 false []) (.seq (.seq (rgT [opT 7 (.off 0 (.t 2)), opT 8 (.load none (.t 7)), opT 9 (.bin .eql (.t 8) (.c (.int .u8
 1)))]) (.cond (.t 9) (.seq (rgT [mvT 10 1, opT 11 (.off 1 (.t 2)), opT 12 (.load none (.t 11)), opT 13 (.call (.t 10) [.t 12]), mvT 4 13]) .ret) .skip)) (.seq (.seq (rgT [opT 14 (.off 6 (.t 2)), opT 15
 (.load none (.t 14)), opT 16 (.len (.t 15)), opT 17 (.mv (.c (.int .i64 0)))]) (.block 0 (.loop L43_0))) K43_0))
def B43 := bB43
theorem wB43 : Wp O B43 Q σ h = Wp O bB43 Q σ h := rfl
def F43 : AF := ⟨B43, [.tmp 4], true⟩
theorem tab43 : T 43 = some F43 := by kernel_rfl
abbrev bB50 : AC :=
 .seq (rgT [opT 4 (.mv (.c (.bool false)))]) (.seq (rgT [opT 8 (.off 1 (.t 1)), opT 9 (.load none (.t 8)), mvT 10 0, opT 11 (.lookup true (.int .i64 0) true (.t 9) (.t 10)), mvT 7 11, opT 12 (.ext (.t
 7) 0), opT 13 (.ext (.t 7) 1), mvT 5 12, mvT 6 13]) (.seq (.seq (rgT [mvT 14 6, opT 15 (.not (.t 14))]) (.cond (.t 15) (rgT [mvT 16 0, ⟨none, .store 1 (.t 2) (.t 16), none, 0⟩]) .skip)) (.seq (rgT [mvT
 17 6, mvT 4 17]) .ret)))
def B50 := bB50
theorem wB50 : Wp O B50 Q σ h = Wp O bB50 Q σ h := rfl
def F50 : AF := ⟨B50, [.tmp 4], false⟩
theorem tab50 : T 50 = some F50 := by kernel_rfl
abbrev bB51 : AC :=
 .seq (rgT [opT 5 (.mv (.c (.bool false)))]) (.seq (.region [opT 6 (.load none (.t 1)), opT 7 (.load none (.t 2)), opT 8 (.load none (.t 1)), opT 9 (.load none (.t 2)), opT 10 (.idx 1 (.t 8) (.t 9)),
 opT 11 (.load none (.t 10)), opT 12 (.off 1 (.t 3)), opT 13 (.load none (.t 12)), mvT 14 0, opT 15 (.lookup true (.int .i64 0) false (.t 13) (.t 14)), opT 16 (.bslice 1 [.t 15]), opT 17 (.append 1 8 3
 (.t 11) (.t 16)), ⟨some 18, .idx 1 (.t 6) (.t 7), none, 1⟩, ⟨none, .store 1 (.t 18) (.t 17), none, 1⟩] 1 true [(0, 11), (1, 11)]) (.seq (rgT [opT 5 (.mv (.c (.bool true)))]) .ret))
def B51 := bB51
theorem wB51 : Wp O B51 Q σ h = Wp O bB51 Q σ h := rfl
def F51 : AF := ⟨B51, [.tmp 5], true⟩
theorem tab51 : T 51 = some F51 := by kernel_rfl
abbrev bB52 : AC :=
 .seq (rgT [opT 3 (.mv (.c (.bool false)))]) (.seq (.region [opT 4 (.load none (.t 1)), opT 5 (.load none (.t 1)), opT 6 (.nilchk (.t 5)), opT 7 (.off 0 (.t 6)), opT 8 (.off 1 (.t 7)), opT 9 (.load none
 (.t 8)), mvT 10 0, opT 11 (.lookup true (.int .i64 0) false (.t 9) (.t 10)), opT 12 (.call (.c (.fn 35 [])) [.t 4, .t 11])] 0 true []) (.seq (rgT [opT 3 (.mv (.c (.bool true)))]) .ret))
def B52 := bB52
theorem wB52 : Wp O B52 Q σ h = Wp O bB52 Q σ h := rfl
def F52 : AF := ⟨B52, [.tmp 3], true⟩
theorem tab52 : T 52 = some F52 := by kernel_rfl
abbrev bL5_0 : AC :=
 .seq (.seq (rgT [mvT 64 12, mvT 65 8, opT 66 (.len (.t 65)), opT 67 (.bin .lss (.t 64) (.t 66))]) (.cond (.t 67) .skip (.exit 2))) (.seq (.block 3 (.seq (.region [mvT 70 8, mvT 71 12, opT 72 (.idx 10
 (.t 70) (.t 71)), opT 73 (.off 0 (.t 72)), opT 74 (.load none (.t 73)), opT 75 (.off 0 (.t 10)), opT 76 (.load none (.t 75)), opT 77 (.bin .eql (.t 74) (.t 76))] 0 true []) (.cond (.t 77) (rgT [mvT 78
 12, opT 79 (.bin .add (.t 78) (.c (.int .i64 1))), mvT 11 79]) .skip))) (rgT [mvT 68 12, opT 69 (.bin .add (.t 68) (.c (.int .i64 1))), mvT 12 69]))
def L5_0 := bL5_0
theorem wL5_0 : Wp O L5_0 Q σ h = Wp O bL5_0 Q σ h := rfl
abbrev bK5_0 : AC :=
 .region [mvT 80 8, mvT 81 11, mvT 82 11, opT 83 (.slice 10 (.t 80) none (some (.t 81)) (some (.t 82))), opT 84 (.load (some 10) (.t 10)), opT 85 (.bslice 10 [.t 84]), mvT 86 8, mvT 87 11, opT 88
 (.slice 10 (.t 86) (some (.t 87)) none none), opT 89 (.append 10 104 38 (.t 85) (.t 88)), ⟨some 90, .append 10 104 38 (.t 83) (.t 89), none, 1⟩, ⟨some 8, .mv (.t 90), none, 2⟩] 2 true []
def K5_0 := bK5_0
theorem wK5_0 : Wp O K5_0 Q σ h = Wp O bK5_0 Q σ h := rfl
abbrev bK5_1 : AC :=
 rgT [opT 91 (.bin .add (.t 43) (.c (.int .i64 1))), mvT 43 91]
def K5_1 := bK5_1
theorem wK5_1 : Wp O K5_1 Q σ h = Wp O bK5_1 Q σ h := rfl
abbrev bL5_1 : AC :=
 .seq (rgT [opT 44 (.bin .lss (.t 43) (.t 42))]) (.seq (.cond (.t 44) .skip (.exit 0)) (.seq (.block 1 (.seq (.region [mvT 45 43, opT 46 (.idx 10 (.t 41) (.t 43)), opT 47 (.load (some 10) (.t 46)), opT
 10 (.alloc [.str [], .int .i64 0, .bool false, .int .u8 0, .str [], .int .u8 0, .int .u8 0, .int .i64 0, .int .i64 0, .list 7 [] .full]), ⟨some 9, .mv (.t 45), none, 1⟩, ⟨none, .store 10 (.t 10) (.t
 47), none, 1⟩] 1 false []) (.seq (rgT [mvT 48 8, opT 49 (.len (.t 48)), mvT 11 49]) (.seq (.seq (rgT [mvT 50 9, mvT 51 2, opT 52 (.len (.t 51)), opT 53 (.bin .lss (.t 50) (.t 52))]) (.cond (.t 53) (rgT
 [mvT 54 2, mvT 55 9, opT 56 (.idx 1 (.t 54) (.t 55)), opT 57 (.load none (.t 56)), opT 58 (.cvInt .i64 (.t 57)), mvT 59 8, opT 60 (.len (.t 59)), opT 61 (.bin .add (.t 60) (.c (.int .i64 1))), opT 62
 (.bin .rem (.t 58) (.t 61)), mvT 11 62]) .skip)) (.seq (.seq (rgT [mvT 63 11, mvT 12 63]) (.block 2 (.loop L5_0))) K5_0))))) K5_1))
def L5_1 := bL5_1
theorem wL5_1 : Wp O L5_1 Q σ h = Wp O bL5_1 Q σ h := rfl
abbrev bL5_2 : AC :=
 .seq (rgT [opT 151 (.bin .lss (.t 150) (.t 149))]) (.seq (.cond (.t 151) .skip (.exit 4)) (.seq (.block 5 (.seq (.region [opT 152 (.idx 10 (.t 148) (.t 150)), opT 153 (.load (some 10) (.t 152)), opT 20
 (.alloc [.str [], .int .i64 0, .bool false, .int .u8 0, .str [], .int .u8 0, .int .u8 0, .int .i64 0, .int .i64 0, .list 7 [] .full]), ⟨none, .store 10 (.t 20) (.t 153), none, 1⟩] 1 false []) (.seq
 (rgT [opT 155 (.load (some 1) (.t 16)), opT 156 (.off 0 (.t 20)), opT 157 (.load none (.t 156)), opT 158 (.call (.c (.fn 14 [])) [.t 155, .t 157]), mvT 154 158, opT 159 (.ext (.t 154) 0), opT 160 (.ext
 (.t 154) 1), mvT 21 159, mvT 22 160]) (.seq (.region [mvT 161 22, opT 162 (.not (.t 161)), mvT 163 162, ⟨some 164, .off 0 (.t 16), some (163, false), 0⟩, ⟨some 165, .load none (.t 164), some (163,
 false), 0⟩, ⟨some 166, .mv (.t 21), some (163, false), 0⟩, ⟨some 167, .idx 10 (.t 165) (.t 166), some (163, false), 0⟩, ⟨some 168, .off 3 (.t 167), some (163, false), 0⟩, ⟨some 169, .load (some 7) (.t
 168), some (163, false), 0⟩, ⟨some 170, .off 3 (.t 20), some (163, false), 0⟩, ⟨some 171, .load (some 7) (.t 170), some (163, false), 0⟩, ⟨some 172, .call (.c (.fn 22 [])) [.t 169, .t 171], some (163,
 false), 0⟩, ⟨some 173, .not (.t 172), some (163, false), 0⟩, opT 174 (.pick (.t 163) (.c (.bool true)) (.t 173)), mvT 175 174, ⟨some 176, .off 0 (.t 16), some (175, false), 0⟩, ⟨some 177, .load none
 (.t 176), some (175, false), 0⟩, ⟨some 178, .mv (.t 21), some (175, false), 0⟩, ⟨some 179, .idx 10 (.t 177) (.t 178), some (175, false), 0⟩, ⟨some 180, .off 1 (.t 179), some (175, false), 0⟩, ⟨some
 181, .load none (.t 180), some (175, false), 0⟩, ⟨some 182, .off 1 (.t 20), some (175, false), 0⟩, ⟨some 183, .load none (.t 182), some (175, false), 0⟩, ⟨some 184, .bin .neq (.t 181) (.t 183), some
 (175, false), 0⟩, opT 185 (.pick (.t 175) (.c (.bool true)) (.t 184))] 0 true []) (.cond (.t 185) (.seq (rgT [opT 6 (.mv (.c (.bool false)))]) .ret) .skip))))) (rgT [opT 186 (.bin .add (.t 150) (.c
 (.int .i64 1))), mvT 150 186])))
def L5_2 := bL5_2
theorem wL5_2 : Wp O L5_2 Q σ h = Wp O bL5_2 Q σ h := rfl
abbrev bK5_2 : AC :=
 .seq (rgT [opT 187 (.call (.c (.fn 9 [])) []), mvT 6 187]) .ret
def K5_2 := bK5_2
theorem wK5_2 : Wp O K5_2 Q σ h = Wp O bK5_2 Q σ h := rfl
abbrev bK5_3 : AC :=
 .seq (.region [mvT 93 7, opT 94 (.call (.c (.fn 11 [])) [.t 93]), mvT 92 94, opT 95 (.ext (.t 92) 0), opT 96 (.ext (.t 92) 1), opT 97 (.ext (.t 92) 2), opT 13 (.alloc [.list 10 [] .full]), ⟨none,
 .store 1 (.t 13) (.t 95), none, 1⟩, ⟨some 14, .mv (.t 96), none, 1⟩, ⟨some 15, .mv (.t 97), none, 1⟩] 1 false []) (.seq (.region [mvT 99 8, opT 100 (.call (.c (.fn 11 [])) [.t 99]), mvT 98 100, opT 101
 (.ext (.t 98) 0), opT 102 (.ext (.t 98) 1), opT 103 (.ext (.t 98) 2), opT 16 (.alloc [.list 10 [] .full]), ⟨none, .store 1 (.t 16) (.t 101), none, 1⟩, ⟨some 17, .mv (.t 102), none, 1⟩, ⟨some 18, .mv
 (.t 103), none, 1⟩] 1 false []) (.seq (.seq (rgT [mvT 104 15, opT 105 (.bin .eql (.t 104) (.c (.int .i64 30))), mvT 106 105, ⟨some 107, .mv (.t 15), some (106, false), 0⟩, ⟨some 108, .bin .eql (.t 107)
 (.c (.int .i64 31)), some (106, false), 0⟩, opT 109 (.pick (.t 106) (.c (.bool true)) (.t 108)), mvT 110 109, ⟨some 111, .mv (.t 18), some (110, false), 0⟩, ⟨some 112, .bin .eql (.t 111) (.c (.int .i64
 30)), some (110, false), 0⟩, opT 113 (.pick (.t 110) (.c (.bool true)) (.t 112)), mvT 114 113, ⟨some 115, .mv (.t 18), some (114, false), 0⟩, ⟨some 116, .bin .eql (.t 115) (.c (.int .i64 31)), some
 (114, false), 0⟩, opT 117 (.pick (.t 114) (.c (.bool true)) (.t 116))]) (.cond (.t 117) (.seq (rgT [mvT 118 15, opT 119 (.bin .eql (.t 118) (.c (.int .i64 30))), mvT 120 119, ⟨some 121, .mv (.t 15),
 some (120, false), 0⟩, ⟨some 122, .bin .eql (.t 121) (.c (.int .i64 31)), some (120, false), 0⟩, opT 123 (.pick (.t 120) (.c (.bool true)) (.t 122)), mvT 124 123, ⟨some 125, .mv (.t 18), some (124,
 true), 0⟩, ⟨some 126, .bin .eql (.t 125) (.c (.int .i64 30)), some (124, true), 0⟩, ⟨some 127, .mv (.t 126), some (124, true), 0⟩, ⟨some 128, .mv (.t 18), some (127, false), 0⟩, ⟨some 129, .bin .eql
 (.t 128) (.c (.int .i64 31)), some (127, false), 0⟩, ⟨some 130, .pick (.t 127) (.c (.bool true)) (.t 129), some (124, true), 0⟩, opT 131 (.pick (.t 124) (.t 130) (.c (.bool false))), mvT 132 131, ⟨some
 133, .call (.c (.fn 9 [])) [], some (132, true), 0⟩, opT 134 (.pick (.t 132) (.t 133) (.c (.bool false))), mvT 6 134]) .ret) .skip)) (.seq (.seq (rgT [mvT 135 15, mvT 136 18, opT 137 (.bin .neq (.t
 135) (.t 136)), mvT 138 137, ⟨some 139, .off 0 (.t 13), some (138, false), 0⟩, ⟨some 140, .load none (.t 139), some (138, false), 0⟩, ⟨some 141, .len (.t 140), some (138, false), 0⟩, ⟨some 142, .off 0
 (.t 16), some (138, false), 0⟩, ⟨some 143, .load none (.t 142), some (138, false), 0⟩, ⟨some 144, .len (.t 143), some (138, false), 0⟩, ⟨some 145, .bin .neq (.t 141) (.t 144), some (138, false), 0⟩,
 opT 146 (.pick (.t 138) (.c (.bool true)) (.t 145))]) (.cond (.t 146) (.seq (rgT [opT 6 (.mv (.c (.bool false)))]) .ret) .skip)) (.seq (.seq (rgT [opT 147 (.off 0 (.t 13)), opT 148 (.load none (.t
 147)), opT 149 (.len (.t 148)), opT 150 (.mv (.c (.int .i64 0)))]) (.block 4 (.loop L5_2))) K5_2))))
def K5_3 := bK5_3
theorem wK5_3 : Wp O K5_3 Q σ h = Wp O bK5_3 Q σ h := rfl
abbrev bB5 : AC :=
 .seq (rgT [opT 6 (.mv (.c (.bool false)))]) (.seq (.seq (rgT [mvT 23 0, opT 24 (.call (.c (.fn 8 [])) [.t 23]), opT 25 (.not (.t 24)), mvT 26 25, ⟨some 27, .mv (.t 0), some (26, false), 0⟩, ⟨some 28,
 .len (.t 27), some (26, false), 0⟩, ⟨some 29, .bin .gtr (.t 28) (.c (.int .i64 8)), some (26, false), 0⟩, opT 30 (.pick (.t 26) (.c (.bool true)) (.t 29)), mvT 31 30, ⟨some 32, .mv (.t 1), some (31,
 false), 0⟩, ⟨some 33, .len (.t 32), some (31, false), 0⟩, ⟨some 34, .bin .gtr (.t 33) (.c (.int .i64 8)), some (31, false), 0⟩, opT 35 (.pick (.t 31) (.c (.bool true)) (.t 34))]) (.cond (.t 35) (.seq
 (rgT [opT 36 (.call (.c (.fn 9 [])) []), mvT 6 36]) .ret) .skip)) (.seq (.region [mvT 37 1, opT 38 (.call (.c (.fn 10 [])) [.t 37]), mvT 39 0, opT 40 (.append 10 104 38 (.t 38) (.t 39)), ⟨some 7, .mv
 (.t 40), none, 1⟩] 1 false []) (.seq (rgT [opT 8 (.mv (.c (.list 10 [] .full)))]) (.seq (.seq (rgT [mvT 41 7, opT 42 (.len (.t 41)), opT 43 (.mv (.c (.int .i64 0)))]) (.block 0 (.loop L5_1))) K5_3))))
def B5 := bB5
theorem wB5 : Wp O B5 Q σ h = Wp O bB5 Q σ h := rfl
def F5 : AF := ⟨B5, [.tmp 6], false⟩
theorem tab5 : T 5 = some F5 := by kernel_rfl
end Go.Proofs.YtcflbdikkcpiaaaGreatDoor
