/-
  The abstract code of the functions that the laws reach.
-/
import Derived.Test.YtmcjnbkodcdjnaaProg
import Derived.Test.YtmcjnbkodcdjnaaAm26
import Derived.KernelRfl
set_option linter.unusedVariables false
set_option maxRecDepth 100000
namespace Go.Proofs.Ytmcjnbkodcdjnaa
open Go Go.Am
noncomputable def T : FuncId → Option AF := table Try.prog ["frame.go:22"] ["franking/frame.Push$1"]
/-- franking/frankinglaw12.FrameChunks -/
def B3 : AC :=
  AC.seq (AC.region [⟨some 8, AOp.mv (AX.c (AV.bool false)), none, 0⟩] 0 false []) (AC.seq (AC.seq (AC.region [⟨some 19, AOp.mv (AX.t 1), none, 0⟩, ⟨some 20, AOp.len (AX.t 19), none, 0⟩, ⟨some 21,
  AOp.bin (BinOp.gtr) (AX.t 20) (AX.c (AV.int (IntKind.i64) 3000)), none, 0⟩] 0 false []) (AC.cond (AX.t 21) (AC.seq (AC.region [⟨some 22, AOp.call (AX.c (AV.fn 7 [])) [], none, 0⟩, ⟨some 8, AOp.mv (AX.t
  22), none, 0⟩] 0 false []) AC.ret) AC.skip)) (AC.seq (AC.region [⟨some 23, AOp.mv (AX.t 0), none, 0⟩, ⟨some 24, AOp.cvInt (IntKind.i64) (AX.t 23), none, 0⟩, ⟨some 25, AOp.bin (BinOp.rem) (AX.t 24)
  (AX.c (AV.int (IntKind.i64) 2000)), none, 0⟩, ⟨some 26, AOp.bin (BinOp.add) (AX.c (AV.int (IntKind.i64) 1)) (AX.t 25), none, 0⟩, ⟨some 9, AOp.mv (AX.t 26), none, 0⟩] 0 false []) (AC.seq (AC.region
  [⟨some 28, AOp.mv (AX.t 9), none, 0⟩, ⟨some 29, AOp.mv (AX.t 1), none, 0⟩, ⟨some 30, AOp.mv (AX.t 2), none, 0⟩, ⟨some 31, AOp.call (AX.c (AV.fn 8 [])) [AX.t 28, AX.t 29, AX.t 30], none, 0⟩, ⟨some 27,
  AOp.mv (AX.t 31), none, 0⟩, ⟨some 32, AOp.ext (AX.t 27) 0, none, 0⟩, ⟨some 33, AOp.ext (AX.t 27) 1, none, 0⟩, ⟨some 34, AOp.ext (AX.t 27) 2, none, 0⟩, ⟨some 10, AOp.alloc [AV.int (IntKind.i64) 0,
  AV.str [], AV.bool false, AV.bool false], none, 0⟩, ⟨none, AOp.store 4 (AX.t 10) (AX.t 32), none, 1⟩, ⟨some 11, AOp.mv (AX.t 33), none, 1⟩, ⟨some 12, AOp.mv (AX.t 34), none, 1⟩] 1 false []) (AC.seq
  (AC.region [⟨some 36, AOp.mv (AX.t 9), none, 0⟩, ⟨some 37, AOp.mv (AX.t 1), none, 0⟩, ⟨some 38, AOp.mv (AX.t 3), none, 0⟩, ⟨some 39, AOp.call (AX.c (AV.fn 8 [])) [AX.t 36, AX.t 37, AX.t 38], none, 0⟩,
  ⟨some 35, AOp.mv (AX.t 39), none, 0⟩, ⟨some 40, AOp.ext (AX.t 35) 0, none, 0⟩, ⟨some 41, AOp.ext (AX.t 35) 1, none, 0⟩, ⟨some 42, AOp.ext (AX.t 35) 2, none, 0⟩, ⟨some 13, AOp.alloc [AV.int
  (IntKind.i64) 0, AV.str [], AV.bool false, AV.bool false], none, 0⟩, ⟨none, AOp.store 4 (AX.t 13) (AX.t 40), none, 1⟩, ⟨some 14, AOp.mv (AX.t 41), none, 1⟩, ⟨some 15, AOp.mv (AX.t 42), none, 1⟩] 1
  false []) (AC.seq (AC.region [⟨some 44, AOp.mv (AX.t 9), none, 0⟩, ⟨some 45, AOp.mv (AX.t 1), none, 0⟩, ⟨some 46, AOp.call (AX.c (AV.fn 8 [])) [AX.t 44, AX.t 45, AX.c (AV.list 1 [] (Rt.full))], none,
  0⟩, ⟨some 43, AOp.mv (AX.t 46), none, 0⟩, ⟨some 47, AOp.ext (AX.t 43) 0, none, 0⟩, ⟨some 48, AOp.ext (AX.t 43) 1, none, 0⟩, ⟨some 49, AOp.ext (AX.t 43) 2, none, 0⟩, ⟨some 16, AOp.alloc [AV.int
  (IntKind.i64) 0, AV.str [], AV.bool false, AV.bool false], none, 0⟩, ⟨none, AOp.store 4 (AX.t 16) (AX.t 47), none, 1⟩, ⟨some 17, AOp.mv (AX.t 48), none, 1⟩, ⟨some 18, AOp.mv (AX.t 49), none, 1⟩] 1
  false []) (AC.seq (AC.region [⟨some 50, AOp.mv (AX.t 12), none, 0⟩, ⟨some 51, AOp.mv (AX.t 50), none, 0⟩, ⟨some 52, AOp.mv (AX.t 15), some (51, true), 0⟩, ⟨some 53, AOp.pick (AX.t 51) (AX.t 52) (AX.c
  (AV.bool false)), none, 0⟩, ⟨some 54, AOp.mv (AX.t 53), none, 0⟩, ⟨some 55, AOp.mv (AX.t 18), some (54, true), 0⟩, ⟨some 56, AOp.pick (AX.t 54) (AX.t 55) (AX.c (AV.bool false)), none, 0⟩, ⟨some 57,
  AOp.mv (AX.t 56), none, 0⟩, ⟨some 58, AOp.load (some 4) (AX.t 10), some (57, true), 0⟩, ⟨some 59, AOp.load (some 4) (AX.t 13), some (57, true), 0⟩, ⟨some 60, AOp.eq false (some 4) [(0, LK.int), (1,
  LK.str), (2, LK.bool), (3, LK.bool)] (AX.t 58) (AX.t 59), some (57, true), 0⟩, ⟨some 61, AOp.pick (AX.t 57) (AX.t 60) (AX.c (AV.bool false)), none, 0⟩, ⟨some 62, AOp.mv (AX.t 61), none, 0⟩, ⟨some 63,
  AOp.load (some 4) (AX.t 13), some (62, true), 0⟩, ⟨some 64, AOp.load (some 4) (AX.t 16), some (62, true), 0⟩, ⟨some 65, AOp.eq false (some 4) [(0, LK.int), (1, LK.str), (2, LK.bool), (3, LK.bool)]
  (AX.t 63) (AX.t 64), some (62, true), 0⟩, ⟨some 66, AOp.pick (AX.t 62) (AX.t 65) (AX.c (AV.bool false)), none, 0⟩, ⟨some 67, AOp.mv (AX.t 66), none, 0⟩, ⟨some 68, AOp.mv (AX.t 11), some (67, true), 0⟩,
  ⟨some 69, AOp.mv (AX.t 14), some (67, true), 0⟩, ⟨some 70, AOp.call (AX.c (AV.fn 9 [])) [AX.t 68, AX.t 69], some (67, true), 0⟩, ⟨some 71, AOp.pick (AX.t 67) (AX.t 70) (AX.c (AV.bool false)), none, 0⟩,
  ⟨some 72, AOp.mv (AX.t 71), none, 0⟩, ⟨some 73, AOp.mv (AX.t 14), some (72, true), 0⟩, ⟨some 74, AOp.mv (AX.t 17), some (72, true), 0⟩, ⟨some 75, AOp.call (AX.c (AV.fn 9 [])) [AX.t 73, AX.t 74], some
  (72, true), 0⟩, ⟨some 76, AOp.pick (AX.t 72) (AX.t 75) (AX.c (AV.bool false)), none, 0⟩, ⟨some 77, AOp.mv (AX.t 76), none, 0⟩, ⟨some 78, AOp.call (AX.c (AV.fn 7 [])) [], some (77, true), 0⟩, ⟨some 79,
  AOp.pick (AX.t 77) (AX.t 78) (AX.c (AV.bool false)), none, 0⟩, ⟨some 8, AOp.mv (AX.t 79), none, 0⟩] 0 false []) AC.ret))))))
theorem wB3 {O : Orc} {Q : Ex → Slots → Heap → Prop} {σ : Slots} {h : Heap} : Wp O B3 Q σ h = Wp O (AC.seq (AC.region [⟨some 8, AOp.mv (AX.c (AV.bool false)), none, 0⟩] 0 false []) (AC.seq (AC.seq (AC.region [⟨some 19, AOp.mv (AX.t 1), none, 0⟩, ⟨some 20, AOp.len (AX.t 19), none, 0⟩, ⟨some 21,
  AOp.bin (BinOp.gtr) (AX.t 20) (AX.c (AV.int (IntKind.i64) 3000)), none, 0⟩] 0 false []) (AC.cond (AX.t 21) (AC.seq (AC.region [⟨some 22, AOp.call (AX.c (AV.fn 7 [])) [], none, 0⟩, ⟨some 8, AOp.mv (AX.t
  22), none, 0⟩] 0 false []) AC.ret) AC.skip)) (AC.seq (AC.region [⟨some 23, AOp.mv (AX.t 0), none, 0⟩, ⟨some 24, AOp.cvInt (IntKind.i64) (AX.t 23), none, 0⟩, ⟨some 25, AOp.bin (BinOp.rem) (AX.t 24)
  (AX.c (AV.int (IntKind.i64) 2000)), none, 0⟩, ⟨some 26, AOp.bin (BinOp.add) (AX.c (AV.int (IntKind.i64) 1)) (AX.t 25), none, 0⟩, ⟨some 9, AOp.mv (AX.t 26), none, 0⟩] 0 false []) (AC.seq (AC.region
  [⟨some 28, AOp.mv (AX.t 9), none, 0⟩, ⟨some 29, AOp.mv (AX.t 1), none, 0⟩, ⟨some 30, AOp.mv (AX.t 2), none, 0⟩, ⟨some 31, AOp.call (AX.c (AV.fn 8 [])) [AX.t 28, AX.t 29, AX.t 30], none, 0⟩, ⟨some 27,
  AOp.mv (AX.t 31), none, 0⟩, ⟨some 32, AOp.ext (AX.t 27) 0, none, 0⟩, ⟨some 33, AOp.ext (AX.t 27) 1, none, 0⟩, ⟨some 34, AOp.ext (AX.t 27) 2, none, 0⟩, ⟨some 10, AOp.alloc [AV.int (IntKind.i64) 0,
  AV.str [], AV.bool false, AV.bool false], none, 0⟩, ⟨none, AOp.store 4 (AX.t 10) (AX.t 32), none, 1⟩, ⟨some 11, AOp.mv (AX.t 33), none, 1⟩, ⟨some 12, AOp.mv (AX.t 34), none, 1⟩] 1 false []) (AC.seq
  (AC.region [⟨some 36, AOp.mv (AX.t 9), none, 0⟩, ⟨some 37, AOp.mv (AX.t 1), none, 0⟩, ⟨some 38, AOp.mv (AX.t 3), none, 0⟩, ⟨some 39, AOp.call (AX.c (AV.fn 8 [])) [AX.t 36, AX.t 37, AX.t 38], none, 0⟩,
  ⟨some 35, AOp.mv (AX.t 39), none, 0⟩, ⟨some 40, AOp.ext (AX.t 35) 0, none, 0⟩, ⟨some 41, AOp.ext (AX.t 35) 1, none, 0⟩, ⟨some 42, AOp.ext (AX.t 35) 2, none, 0⟩, ⟨some 13, AOp.alloc [AV.int
  (IntKind.i64) 0, AV.str [], AV.bool false, AV.bool false], none, 0⟩, ⟨none, AOp.store 4 (AX.t 13) (AX.t 40), none, 1⟩, ⟨some 14, AOp.mv (AX.t 41), none, 1⟩, ⟨some 15, AOp.mv (AX.t 42), none, 1⟩] 1
  false []) (AC.seq (AC.region [⟨some 44, AOp.mv (AX.t 9), none, 0⟩, ⟨some 45, AOp.mv (AX.t 1), none, 0⟩, ⟨some 46, AOp.call (AX.c (AV.fn 8 [])) [AX.t 44, AX.t 45, AX.c (AV.list 1 [] (Rt.full))], none,
  0⟩, ⟨some 43, AOp.mv (AX.t 46), none, 0⟩, ⟨some 47, AOp.ext (AX.t 43) 0, none, 0⟩, ⟨some 48, AOp.ext (AX.t 43) 1, none, 0⟩, ⟨some 49, AOp.ext (AX.t 43) 2, none, 0⟩, ⟨some 16, AOp.alloc [AV.int
  (IntKind.i64) 0, AV.str [], AV.bool false, AV.bool false], none, 0⟩, ⟨none, AOp.store 4 (AX.t 16) (AX.t 47), none, 1⟩, ⟨some 17, AOp.mv (AX.t 48), none, 1⟩, ⟨some 18, AOp.mv (AX.t 49), none, 1⟩] 1
  false []) (AC.seq (AC.region [⟨some 50, AOp.mv (AX.t 12), none, 0⟩, ⟨some 51, AOp.mv (AX.t 50), none, 0⟩, ⟨some 52, AOp.mv (AX.t 15), some (51, true), 0⟩, ⟨some 53, AOp.pick (AX.t 51) (AX.t 52) (AX.c
  (AV.bool false)), none, 0⟩, ⟨some 54, AOp.mv (AX.t 53), none, 0⟩, ⟨some 55, AOp.mv (AX.t 18), some (54, true), 0⟩, ⟨some 56, AOp.pick (AX.t 54) (AX.t 55) (AX.c (AV.bool false)), none, 0⟩, ⟨some 57,
  AOp.mv (AX.t 56), none, 0⟩, ⟨some 58, AOp.load (some 4) (AX.t 10), some (57, true), 0⟩, ⟨some 59, AOp.load (some 4) (AX.t 13), some (57, true), 0⟩, ⟨some 60, AOp.eq false (some 4) [(0, LK.int), (1,
  LK.str), (2, LK.bool), (3, LK.bool)] (AX.t 58) (AX.t 59), some (57, true), 0⟩, ⟨some 61, AOp.pick (AX.t 57) (AX.t 60) (AX.c (AV.bool false)), none, 0⟩, ⟨some 62, AOp.mv (AX.t 61), none, 0⟩, ⟨some 63,
  AOp.load (some 4) (AX.t 13), some (62, true), 0⟩, ⟨some 64, AOp.load (some 4) (AX.t 16), some (62, true), 0⟩, ⟨some 65, AOp.eq false (some 4) [(0, LK.int), (1, LK.str), (2, LK.bool), (3, LK.bool)]
  (AX.t 63) (AX.t 64), some (62, true), 0⟩, ⟨some 66, AOp.pick (AX.t 62) (AX.t 65) (AX.c (AV.bool false)), none, 0⟩, ⟨some 67, AOp.mv (AX.t 66), none, 0⟩, ⟨some 68, AOp.mv (AX.t 11), some (67, true), 0⟩,
  ⟨some 69, AOp.mv (AX.t 14), some (67, true), 0⟩, ⟨some 70, AOp.call (AX.c (AV.fn 9 [])) [AX.t 68, AX.t 69], some (67, true), 0⟩, ⟨some 71, AOp.pick (AX.t 67) (AX.t 70) (AX.c (AV.bool false)), none, 0⟩,
  ⟨some 72, AOp.mv (AX.t 71), none, 0⟩, ⟨some 73, AOp.mv (AX.t 14), some (72, true), 0⟩, ⟨some 74, AOp.mv (AX.t 17), some (72, true), 0⟩, ⟨some 75, AOp.call (AX.c (AV.fn 9 [])) [AX.t 73, AX.t 74], some
  (72, true), 0⟩, ⟨some 76, AOp.pick (AX.t 72) (AX.t 75) (AX.c (AV.bool false)), none, 0⟩, ⟨some 77, AOp.mv (AX.t 76), none, 0⟩, ⟨some 78, AOp.call (AX.c (AV.fn 7 [])) [], some (77, true), 0⟩, ⟨some 79,
  AOp.pick (AX.t 77) (AX.t 78) (AX.c (AV.bool false)), none, 0⟩, ⟨some 8, AOp.mv (AX.t 79), none, 0⟩] 0 false []) AC.ret))))))) Q σ h := rfl
def F3 : AF := ⟨B3, [ARes.tmp 8], false⟩
theorem tab3 : T 3 = some F3 := by kernel_rfl
/-- franking/frankinglaw12.FrameMore -/
def L4_0 : AC :=
  AC.seq (AC.region [⟨some 91, AOp.bin (BinOp.lss) (AX.t 90) (AX.t 89), none, 0⟩] 0 false []) (AC.seq (AC.cond (AX.t 91) AC.skip (AC.exit 0)) (AC.seq (AC.block 1 (AC.seq (AC.region [⟨some 92, AOp.mv
  (AX.t 90), none, 0⟩, ⟨some 93, AOp.idx 2 (AX.t 88) (AX.t 90), none, 0⟩, ⟨some 94, AOp.load (some 2) (AX.t 93), none, 0⟩, ⟨some 16, AOp.alloc [AV.str [], AV.bool false], none, 0⟩, ⟨some 15, AOp.mv (AX.t
  92), none, 1⟩, ⟨none, AOp.store 2 (AX.t 16) (AX.t 94), none, 1⟩] 1 false []) (AC.seq (AC.region [⟨some 95, AOp.mv (AX.t 13), none, 0⟩, ⟨some 96, AOp.mv (AX.t 15), none, 0⟩, ⟨some 97, AOp.idx 2 (AX.t
  95) (AX.t 96), none, 0⟩, ⟨some 98, AOp.off 0 (AX.t 97), none, 0⟩, ⟨some 99, AOp.load none (AX.t 98), none, 0⟩, ⟨some 100, AOp.off 0 (AX.t 16), none, 0⟩, ⟨some 101, AOp.load none (AX.t 100), none, 0⟩,
  ⟨some 102, AOp.call (AX.c (AV.fn 10 [])) [AX.t 99, AX.t 101], none, 0⟩, ⟨some 103, AOp.not (AX.t 102), none, 0⟩, ⟨some 104, AOp.mv (AX.t 103), none, 0⟩, ⟨some 105, AOp.off 0 (AX.t 16), some (104,
  false), 0⟩, ⟨some 106, AOp.load none (AX.t 105), some (104, false), 0⟩, ⟨some 107, AOp.lenS (AX.t 106), some (104, false), 0⟩, ⟨some 108, AOp.mv (AX.t 7), some (104, false), 0⟩, ⟨some 109, AOp.mv (AX.t
  13), some (104, false), 0⟩, ⟨some 110, AOp.mv (AX.t 15), some (104, false), 0⟩, ⟨some 111, AOp.idx 2 (AX.t 109) (AX.t 110), some (104, false), 0⟩, ⟨some 112, AOp.off 0 (AX.t 111), some (104, false),
  0⟩, ⟨some 113, AOp.load none (AX.t 112), some (104, false), 0⟩, ⟨some 114, AOp.lenS (AX.t 113), some (104, false), 0⟩, ⟨some 115, AOp.min (AX.t 108) (AX.t 114), some (104, false), 0⟩, ⟨some 116,
  AOp.bin (BinOp.neq) (AX.t 107) (AX.t 115), some (104, false), 0⟩, ⟨some 117, AOp.pick (AX.t 104) (AX.c (AV.bool true)) (AX.t 116), none, 0⟩, ⟨some 118, AOp.mv (AX.t 117), none, 0⟩, ⟨some 119, AOp.off 1
  (AX.t 16), some (118, false), 0⟩, ⟨some 120, AOp.load none (AX.t 119), some (118, false), 0⟩, ⟨some 121, AOp.mv (AX.t 13), some (118, false), 0⟩, ⟨some 122, AOp.mv (AX.t 15), some (118, false), 0⟩,
  ⟨some 123, AOp.idx 2 (AX.t 121) (AX.t 122), some (118, false), 0⟩, ⟨some 124, AOp.off 1 (AX.t 123), some (118, false), 0⟩, ⟨some 125, AOp.load none (AX.t 124), some (118, false), 0⟩, ⟨some 126, AOp.mv
  (AX.t 125), some (118, false), 0⟩, ⟨some 127, AOp.mv (AX.t 13), some (126, false), 0⟩, ⟨some 128, AOp.mv (AX.t 15), some (126, false), 0⟩, ⟨some 129, AOp.idx 2 (AX.t 127) (AX.t 128), some (126, false),
  0⟩, ⟨some 130, AOp.off 0 (AX.t 129), some (126, false), 0⟩, ⟨some 131, AOp.load none (AX.t 130), some (126, false), 0⟩, ⟨some 132, AOp.lenS (AX.t 131), some (126, false), 0⟩, ⟨some 133, AOp.mv (AX.t
  7), some (126, false), 0⟩, ⟨some 134, AOp.bin (BinOp.gtr) (AX.t 132) (AX.t 133), some (126, false), 0⟩, ⟨some 135, AOp.pick (AX.t 126) (AX.c (AV.bool true)) (AX.t 134), some (118, false), 0⟩, ⟨some
  136, AOp.eq true none [(0, LK.bool)] (AX.t 120) (AX.t 135), some (118, false), 0⟩, ⟨some 137, AOp.pick (AX.t 118) (AX.c (AV.bool true)) (AX.t 136), none, 0⟩] 0 true []) (AC.cond (AX.t 137) (AC.seq
  (AC.region [⟨some 6, AOp.mv (AX.c (AV.bool false)), none, 0⟩] 0 false []) AC.ret) AC.skip)))) (AC.region [⟨some 138, AOp.bin (BinOp.add) (AX.t 90) (AX.c (AV.int (IntKind.i64) 1)), none, 0⟩, ⟨some 90,
  AOp.mv (AX.t 138), none, 0⟩] 0 false [])))
theorem wL4_0 {O : Orc} {Q : Ex → Slots → Heap → Prop} {σ : Slots} {h : Heap} : Wp O L4_0 Q σ h = Wp O (AC.seq (AC.region [⟨some 91, AOp.bin (BinOp.lss) (AX.t 90) (AX.t 89), none, 0⟩] 0 false []) (AC.seq (AC.cond (AX.t 91) AC.skip (AC.exit 0)) (AC.seq (AC.block 1 (AC.seq (AC.region [⟨some 92, AOp.mv
  (AX.t 90), none, 0⟩, ⟨some 93, AOp.idx 2 (AX.t 88) (AX.t 90), none, 0⟩, ⟨some 94, AOp.load (some 2) (AX.t 93), none, 0⟩, ⟨some 16, AOp.alloc [AV.str [], AV.bool false], none, 0⟩, ⟨some 15, AOp.mv (AX.t
  92), none, 1⟩, ⟨none, AOp.store 2 (AX.t 16) (AX.t 94), none, 1⟩] 1 false []) (AC.seq (AC.region [⟨some 95, AOp.mv (AX.t 13), none, 0⟩, ⟨some 96, AOp.mv (AX.t 15), none, 0⟩, ⟨some 97, AOp.idx 2 (AX.t
  95) (AX.t 96), none, 0⟩, ⟨some 98, AOp.off 0 (AX.t 97), none, 0⟩, ⟨some 99, AOp.load none (AX.t 98), none, 0⟩, ⟨some 100, AOp.off 0 (AX.t 16), none, 0⟩, ⟨some 101, AOp.load none (AX.t 100), none, 0⟩,
  ⟨some 102, AOp.call (AX.c (AV.fn 10 [])) [AX.t 99, AX.t 101], none, 0⟩, ⟨some 103, AOp.not (AX.t 102), none, 0⟩, ⟨some 104, AOp.mv (AX.t 103), none, 0⟩, ⟨some 105, AOp.off 0 (AX.t 16), some (104,
  false), 0⟩, ⟨some 106, AOp.load none (AX.t 105), some (104, false), 0⟩, ⟨some 107, AOp.lenS (AX.t 106), some (104, false), 0⟩, ⟨some 108, AOp.mv (AX.t 7), some (104, false), 0⟩, ⟨some 109, AOp.mv (AX.t
  13), some (104, false), 0⟩, ⟨some 110, AOp.mv (AX.t 15), some (104, false), 0⟩, ⟨some 111, AOp.idx 2 (AX.t 109) (AX.t 110), some (104, false), 0⟩, ⟨some 112, AOp.off 0 (AX.t 111), some (104, false),
  0⟩, ⟨some 113, AOp.load none (AX.t 112), some (104, false), 0⟩, ⟨some 114, AOp.lenS (AX.t 113), some (104, false), 0⟩, ⟨some 115, AOp.min (AX.t 108) (AX.t 114), some (104, false), 0⟩, ⟨some 116,
  AOp.bin (BinOp.neq) (AX.t 107) (AX.t 115), some (104, false), 0⟩, ⟨some 117, AOp.pick (AX.t 104) (AX.c (AV.bool true)) (AX.t 116), none, 0⟩, ⟨some 118, AOp.mv (AX.t 117), none, 0⟩, ⟨some 119, AOp.off 1
  (AX.t 16), some (118, false), 0⟩, ⟨some 120, AOp.load none (AX.t 119), some (118, false), 0⟩, ⟨some 121, AOp.mv (AX.t 13), some (118, false), 0⟩, ⟨some 122, AOp.mv (AX.t 15), some (118, false), 0⟩,
  ⟨some 123, AOp.idx 2 (AX.t 121) (AX.t 122), some (118, false), 0⟩, ⟨some 124, AOp.off 1 (AX.t 123), some (118, false), 0⟩, ⟨some 125, AOp.load none (AX.t 124), some (118, false), 0⟩, ⟨some 126, AOp.mv
  (AX.t 125), some (118, false), 0⟩, ⟨some 127, AOp.mv (AX.t 13), some (126, false), 0⟩, ⟨some 128, AOp.mv (AX.t 15), some (126, false), 0⟩, ⟨some 129, AOp.idx 2 (AX.t 127) (AX.t 128), some (126, false),
  0⟩, ⟨some 130, AOp.off 0 (AX.t 129), some (126, false), 0⟩, ⟨some 131, AOp.load none (AX.t 130), some (126, false), 0⟩, ⟨some 132, AOp.lenS (AX.t 131), some (126, false), 0⟩, ⟨some 133, AOp.mv (AX.t
  7), some (126, false), 0⟩, ⟨some 134, AOp.bin (BinOp.gtr) (AX.t 132) (AX.t 133), some (126, false), 0⟩, ⟨some 135, AOp.pick (AX.t 126) (AX.c (AV.bool true)) (AX.t 134), some (118, false), 0⟩, ⟨some
  136, AOp.eq true none [(0, LK.bool)] (AX.t 120) (AX.t 135), some (118, false), 0⟩, ⟨some 137, AOp.pick (AX.t 118) (AX.c (AV.bool true)) (AX.t 136), none, 0⟩] 0 true []) (AC.cond (AX.t 137) (AC.seq
  (AC.region [⟨some 6, AOp.mv (AX.c (AV.bool false)), none, 0⟩] 0 false []) AC.ret) AC.skip)))) (AC.region [⟨some 138, AOp.bin (BinOp.add) (AX.t 90) (AX.c (AV.int (IntKind.i64) 1)), none, 0⟩, ⟨some 90,
  AOp.mv (AX.t 138), none, 0⟩] 0 false [])))) Q σ h := rfl
def K4_0 : AC :=
  AC.seq (AC.region [⟨some 139, AOp.call (AX.c (AV.fn 7 [])) [], none, 0⟩, ⟨some 6, AOp.mv (AX.t 139), none, 0⟩] 0 false []) AC.ret
theorem wK4_0 {O : Orc} {Q : Ex → Slots → Heap → Prop} {σ : Slots} {h : Heap} : Wp O K4_0 Q σ h = Wp O (AC.seq (AC.region [⟨some 139, AOp.call (AX.c (AV.fn 7 [])) [], none, 0⟩, ⟨some 6, AOp.mv (AX.t 139), none, 0⟩] 0 false []) AC.ret) Q σ h := rfl
def B4 : AC :=
  AC.seq (AC.region [⟨some 6, AOp.mv (AX.c (AV.bool false)), none, 0⟩] 0 false []) (AC.seq (AC.seq (AC.region [⟨some 17, AOp.mv (AX.t 2), none, 0⟩, ⟨some 18, AOp.len (AX.t 17), none, 0⟩, ⟨some 19,
  AOp.bin (BinOp.gtr) (AX.t 18) (AX.c (AV.int (IntKind.i64) 3000)), none, 0⟩] 0 false []) (AC.cond (AX.t 19) (AC.seq (AC.region [⟨some 20, AOp.call (AX.c (AV.fn 7 [])) [], none, 0⟩, ⟨some 6, AOp.mv (AX.t
  20), none, 0⟩] 0 false []) AC.ret) AC.skip)) (AC.seq (AC.region [⟨some 21, AOp.mv (AX.t 0), none, 0⟩, ⟨some 22, AOp.cvInt (IntKind.i64) (AX.t 21), none, 0⟩, ⟨some 23, AOp.bin (BinOp.rem) (AX.t 22)
  (AX.c (AV.int (IntKind.i64) 2000)), none, 0⟩, ⟨some 24, AOp.bin (BinOp.add) (AX.c (AV.int (IntKind.i64) 1)) (AX.t 23), none, 0⟩, ⟨some 7, AOp.mv (AX.t 24), none, 0⟩] 0 false []) (AC.seq (AC.region
  [⟨some 25, AOp.mv (AX.t 7), none, 0⟩, ⟨some 26, AOp.mv (AX.t 1), none, 0⟩, ⟨some 27, AOp.cvInt (IntKind.i64) (AX.t 26), none, 0⟩, ⟨some 28, AOp.mv (AX.t 7), none, 0⟩, ⟨some 29, AOp.bin (BinOp.sub)
  (AX.c (AV.int (IntKind.i64) 2001)) (AX.t 28), none, 0⟩, ⟨some 30, AOp.bin (BinOp.rem) (AX.t 27) (AX.t 29), none, 0⟩, ⟨some 31, AOp.bin (BinOp.add) (AX.t 25) (AX.t 30), none, 0⟩, ⟨some 8, AOp.mv (AX.t
  31), none, 0⟩] 0 false []) (AC.seq (AC.region [⟨some 33, AOp.mv (AX.t 7), none, 0⟩, ⟨some 34, AOp.mv (AX.t 2), none, 0⟩, ⟨some 35, AOp.call (AX.c (AV.fn 8 [])) [AX.t 33, AX.t 34, AX.c (AV.list 1 []
  (Rt.full))], none, 0⟩, ⟨some 32, AOp.mv (AX.t 35), none, 0⟩, ⟨some 36, AOp.ext (AX.t 32) 0, none, 0⟩, ⟨some 37, AOp.ext (AX.t 32) 1, none, 0⟩, ⟨some 38, AOp.ext (AX.t 32) 2, none, 0⟩, ⟨some 9,
  AOp.alloc [AV.int (IntKind.i64) 0, AV.str [], AV.bool false, AV.bool false], none, 0⟩, ⟨none, AOp.store 4 (AX.t 9) (AX.t 36), none, 1⟩, ⟨some 10, AOp.mv (AX.t 37), none, 1⟩, ⟨some 11, AOp.mv (AX.t 38),
  none, 1⟩] 1 false []) (AC.seq (AC.region [⟨some 40, AOp.mv (AX.t 8), none, 0⟩, ⟨some 41, AOp.mv (AX.t 2), none, 0⟩, ⟨some 42, AOp.call (AX.c (AV.fn 8 [])) [AX.t 40, AX.t 41, AX.c (AV.list 1 []
  (Rt.full))], none, 0⟩, ⟨some 39, AOp.mv (AX.t 42), none, 0⟩, ⟨some 43, AOp.ext (AX.t 39) 0, none, 0⟩, ⟨some 44, AOp.ext (AX.t 39) 1, none, 0⟩, ⟨some 45, AOp.ext (AX.t 39) 2, none, 0⟩, ⟨some 12,
  AOp.alloc [AV.int (IntKind.i64) 0, AV.str [], AV.bool false, AV.bool false], none, 0⟩, ⟨none, AOp.store 4 (AX.t 12) (AX.t 43), none, 1⟩, ⟨some 13, AOp.mv (AX.t 44), none, 1⟩, ⟨some 14, AOp.mv (AX.t
  45), none, 1⟩] 1 false []) (AC.seq (AC.seq (AC.region [⟨some 46, AOp.mv (AX.t 11), none, 0⟩, ⟨some 47, AOp.not (AX.t 46), none, 0⟩, ⟨some 48, AOp.mv (AX.t 47), none, 0⟩, ⟨some 49, AOp.mv (AX.t 14),
  some (48, false), 0⟩, ⟨some 50, AOp.not (AX.t 49), some (48, false), 0⟩, ⟨some 51, AOp.pick (AX.t 48) (AX.c (AV.bool true)) (AX.t 50), none, 0⟩, ⟨some 52, AOp.mv (AX.t 51), none, 0⟩, ⟨some 53, AOp.mv
  (AX.t 10), some (52, false), 0⟩, ⟨some 54, AOp.len (AX.t 53), some (52, false), 0⟩, ⟨some 55, AOp.mv (AX.t 13), some (52, false), 0⟩, ⟨some 56, AOp.len (AX.t 55), some (52, false), 0⟩, ⟨some 57,
  AOp.bin (BinOp.neq) (AX.t 54) (AX.t 56), some (52, false), 0⟩, ⟨some 58, AOp.pick (AX.t 52) (AX.c (AV.bool true)) (AX.t 57), none, 0⟩, ⟨some 59, AOp.mv (AX.t 58), none, 0⟩, ⟨some 60, AOp.off 3 (AX.t
  9), some (59, false), 0⟩, ⟨some 61, AOp.load none (AX.t 60), some (59, false), 0⟩, ⟨some 62, AOp.off 3 (AX.t 12), some (59, false), 0⟩, ⟨some 63, AOp.load none (AX.t 62), some (59, false), 0⟩, ⟨some
  64, AOp.eq true none [(0, LK.bool)] (AX.t 61) (AX.t 63), some (59, false), 0⟩, ⟨some 65, AOp.pick (AX.t 59) (AX.c (AV.bool true)) (AX.t 64), none, 0⟩, ⟨some 66, AOp.mv (AX.t 65), none, 0⟩, ⟨some 67,
  AOp.off 1 (AX.t 12), some (66, false), 0⟩, ⟨some 68, AOp.load none (AX.t 67), some (66, false), 0⟩, ⟨some 69, AOp.off 1 (AX.t 9), some (66, false), 0⟩, ⟨some 70, AOp.load none (AX.t 69), some (66,
  false), 0⟩, ⟨some 71, AOp.call (AX.c (AV.fn 10 [])) [AX.t 68, AX.t 70], some (66, false), 0⟩, ⟨some 72, AOp.not (AX.t 71), some (66, false), 0⟩, ⟨some 73, AOp.pick (AX.t 66) (AX.c (AV.bool true)) (AX.t
  72), none, 0⟩, ⟨some 74, AOp.mv (AX.t 73), none, 0⟩, ⟨some 75, AOp.off 2 (AX.t 9), some (74, false), 0⟩, ⟨some 76, AOp.load none (AX.t 75), some (74, false), 0⟩, ⟨some 77, AOp.off 2 (AX.t 12), some
  (74, false), 0⟩, ⟨some 78, AOp.load none (AX.t 77), some (74, false), 0⟩, ⟨some 79, AOp.mv (AX.t 78), some (74, false), 0⟩, ⟨some 80, AOp.off 1 (AX.t 12), some (79, false), 0⟩, ⟨some 81, AOp.load none
  (AX.t 80), some (79, false), 0⟩, ⟨some 82, AOp.lenS (AX.t 81), some (79, false), 0⟩, ⟨some 83, AOp.mv (AX.t 7), some (79, false), 0⟩, ⟨some 84, AOp.bin (BinOp.gtr) (AX.t 82) (AX.t 83), some (79,
  false), 0⟩, ⟨some 85, AOp.pick (AX.t 79) (AX.c (AV.bool true)) (AX.t 84), some (74, false), 0⟩, ⟨some 86, AOp.eq true none [(0, LK.bool)] (AX.t 76) (AX.t 85), some (74, false), 0⟩, ⟨some 87, AOp.pick
  (AX.t 74) (AX.c (AV.bool true)) (AX.t 86), none, 0⟩] 0 false []) (AC.cond (AX.t 87) (AC.seq (AC.region [⟨some 6, AOp.mv (AX.c (AV.bool false)), none, 0⟩] 0 false []) AC.ret) AC.skip)) (AC.seq (AC.seq
  (AC.region [⟨some 88, AOp.mv (AX.t 10), none, 0⟩, ⟨some 89, AOp.len (AX.t 88), none, 0⟩, ⟨some 90, AOp.mv (AX.c (AV.int (IntKind.i64) 0)), none, 0⟩] 0 false []) (AC.block 0 (AC.loop L4_0))) K4_0)))))))
theorem wB4 {O : Orc} {Q : Ex → Slots → Heap → Prop} {σ : Slots} {h : Heap} : Wp O B4 Q σ h = Wp O (AC.seq (AC.region [⟨some 6, AOp.mv (AX.c (AV.bool false)), none, 0⟩] 0 false []) (AC.seq (AC.seq (AC.region [⟨some 17, AOp.mv (AX.t 2), none, 0⟩, ⟨some 18, AOp.len (AX.t 17), none, 0⟩, ⟨some 19,
  AOp.bin (BinOp.gtr) (AX.t 18) (AX.c (AV.int (IntKind.i64) 3000)), none, 0⟩] 0 false []) (AC.cond (AX.t 19) (AC.seq (AC.region [⟨some 20, AOp.call (AX.c (AV.fn 7 [])) [], none, 0⟩, ⟨some 6, AOp.mv (AX.t
  20), none, 0⟩] 0 false []) AC.ret) AC.skip)) (AC.seq (AC.region [⟨some 21, AOp.mv (AX.t 0), none, 0⟩, ⟨some 22, AOp.cvInt (IntKind.i64) (AX.t 21), none, 0⟩, ⟨some 23, AOp.bin (BinOp.rem) (AX.t 22)
  (AX.c (AV.int (IntKind.i64) 2000)), none, 0⟩, ⟨some 24, AOp.bin (BinOp.add) (AX.c (AV.int (IntKind.i64) 1)) (AX.t 23), none, 0⟩, ⟨some 7, AOp.mv (AX.t 24), none, 0⟩] 0 false []) (AC.seq (AC.region
  [⟨some 25, AOp.mv (AX.t 7), none, 0⟩, ⟨some 26, AOp.mv (AX.t 1), none, 0⟩, ⟨some 27, AOp.cvInt (IntKind.i64) (AX.t 26), none, 0⟩, ⟨some 28, AOp.mv (AX.t 7), none, 0⟩, ⟨some 29, AOp.bin (BinOp.sub)
  (AX.c (AV.int (IntKind.i64) 2001)) (AX.t 28), none, 0⟩, ⟨some 30, AOp.bin (BinOp.rem) (AX.t 27) (AX.t 29), none, 0⟩, ⟨some 31, AOp.bin (BinOp.add) (AX.t 25) (AX.t 30), none, 0⟩, ⟨some 8, AOp.mv (AX.t
  31), none, 0⟩] 0 false []) (AC.seq (AC.region [⟨some 33, AOp.mv (AX.t 7), none, 0⟩, ⟨some 34, AOp.mv (AX.t 2), none, 0⟩, ⟨some 35, AOp.call (AX.c (AV.fn 8 [])) [AX.t 33, AX.t 34, AX.c (AV.list 1 []
  (Rt.full))], none, 0⟩, ⟨some 32, AOp.mv (AX.t 35), none, 0⟩, ⟨some 36, AOp.ext (AX.t 32) 0, none, 0⟩, ⟨some 37, AOp.ext (AX.t 32) 1, none, 0⟩, ⟨some 38, AOp.ext (AX.t 32) 2, none, 0⟩, ⟨some 9,
  AOp.alloc [AV.int (IntKind.i64) 0, AV.str [], AV.bool false, AV.bool false], none, 0⟩, ⟨none, AOp.store 4 (AX.t 9) (AX.t 36), none, 1⟩, ⟨some 10, AOp.mv (AX.t 37), none, 1⟩, ⟨some 11, AOp.mv (AX.t 38),
  none, 1⟩] 1 false []) (AC.seq (AC.region [⟨some 40, AOp.mv (AX.t 8), none, 0⟩, ⟨some 41, AOp.mv (AX.t 2), none, 0⟩, ⟨some 42, AOp.call (AX.c (AV.fn 8 [])) [AX.t 40, AX.t 41, AX.c (AV.list 1 []
  (Rt.full))], none, 0⟩, ⟨some 39, AOp.mv (AX.t 42), none, 0⟩, ⟨some 43, AOp.ext (AX.t 39) 0, none, 0⟩, ⟨some 44, AOp.ext (AX.t 39) 1, none, 0⟩, ⟨some 45, AOp.ext (AX.t 39) 2, none, 0⟩, ⟨some 12,
  AOp.alloc [AV.int (IntKind.i64) 0, AV.str [], AV.bool false, AV.bool false], none, 0⟩, ⟨none, AOp.store 4 (AX.t 12) (AX.t 43), none, 1⟩, ⟨some 13, AOp.mv (AX.t 44), none, 1⟩, ⟨some 14, AOp.mv (AX.t
  45), none, 1⟩] 1 false []) (AC.seq (AC.seq (AC.region [⟨some 46, AOp.mv (AX.t 11), none, 0⟩, ⟨some 47, AOp.not (AX.t 46), none, 0⟩, ⟨some 48, AOp.mv (AX.t 47), none, 0⟩, ⟨some 49, AOp.mv (AX.t 14),
  some (48, false), 0⟩, ⟨some 50, AOp.not (AX.t 49), some (48, false), 0⟩, ⟨some 51, AOp.pick (AX.t 48) (AX.c (AV.bool true)) (AX.t 50), none, 0⟩, ⟨some 52, AOp.mv (AX.t 51), none, 0⟩, ⟨some 53, AOp.mv
  (AX.t 10), some (52, false), 0⟩, ⟨some 54, AOp.len (AX.t 53), some (52, false), 0⟩, ⟨some 55, AOp.mv (AX.t 13), some (52, false), 0⟩, ⟨some 56, AOp.len (AX.t 55), some (52, false), 0⟩, ⟨some 57,
  AOp.bin (BinOp.neq) (AX.t 54) (AX.t 56), some (52, false), 0⟩, ⟨some 58, AOp.pick (AX.t 52) (AX.c (AV.bool true)) (AX.t 57), none, 0⟩, ⟨some 59, AOp.mv (AX.t 58), none, 0⟩, ⟨some 60, AOp.off 3 (AX.t
  9), some (59, false), 0⟩, ⟨some 61, AOp.load none (AX.t 60), some (59, false), 0⟩, ⟨some 62, AOp.off 3 (AX.t 12), some (59, false), 0⟩, ⟨some 63, AOp.load none (AX.t 62), some (59, false), 0⟩, ⟨some
  64, AOp.eq true none [(0, LK.bool)] (AX.t 61) (AX.t 63), some (59, false), 0⟩, ⟨some 65, AOp.pick (AX.t 59) (AX.c (AV.bool true)) (AX.t 64), none, 0⟩, ⟨some 66, AOp.mv (AX.t 65), none, 0⟩, ⟨some 67,
  AOp.off 1 (AX.t 12), some (66, false), 0⟩, ⟨some 68, AOp.load none (AX.t 67), some (66, false), 0⟩, ⟨some 69, AOp.off 1 (AX.t 9), some (66, false), 0⟩, ⟨some 70, AOp.load none (AX.t 69), some (66,
  false), 0⟩, ⟨some 71, AOp.call (AX.c (AV.fn 10 [])) [AX.t 68, AX.t 70], some (66, false), 0⟩, ⟨some 72, AOp.not (AX.t 71), some (66, false), 0⟩, ⟨some 73, AOp.pick (AX.t 66) (AX.c (AV.bool true)) (AX.t
  72), none, 0⟩, ⟨some 74, AOp.mv (AX.t 73), none, 0⟩, ⟨some 75, AOp.off 2 (AX.t 9), some (74, false), 0⟩, ⟨some 76, AOp.load none (AX.t 75), some (74, false), 0⟩, ⟨some 77, AOp.off 2 (AX.t 12), some
  (74, false), 0⟩, ⟨some 78, AOp.load none (AX.t 77), some (74, false), 0⟩, ⟨some 79, AOp.mv (AX.t 78), some (74, false), 0⟩, ⟨some 80, AOp.off 1 (AX.t 12), some (79, false), 0⟩, ⟨some 81, AOp.load none
  (AX.t 80), some (79, false), 0⟩, ⟨some 82, AOp.lenS (AX.t 81), some (79, false), 0⟩, ⟨some 83, AOp.mv (AX.t 7), some (79, false), 0⟩, ⟨some 84, AOp.bin (BinOp.gtr) (AX.t 82) (AX.t 83), some (79,
  false), 0⟩, ⟨some 85, AOp.pick (AX.t 79) (AX.c (AV.bool true)) (AX.t 84), some (74, false), 0⟩, ⟨some 86, AOp.eq true none [(0, LK.bool)] (AX.t 76) (AX.t 85), some (74, false), 0⟩, ⟨some 87, AOp.pick
  (AX.t 74) (AX.c (AV.bool true)) (AX.t 86), none, 0⟩] 0 false []) (AC.cond (AX.t 87) (AC.seq (AC.region [⟨some 6, AOp.mv (AX.c (AV.bool false)), none, 0⟩] 0 false []) AC.ret) AC.skip)) (AC.seq (AC.seq
  (AC.region [⟨some 88, AOp.mv (AX.t 10), none, 0⟩, ⟨some 89, AOp.len (AX.t 88), none, 0⟩, ⟨some 90, AOp.mv (AX.c (AV.int (IntKind.i64) 0)), none, 0⟩] 0 false []) (AC.block 0 (AC.loop L4_0))) K4_0)))))))) Q σ h := rfl
def F4 : AF := ⟨B4, [ARes.tmp 6], false⟩
theorem tab4 : T 4 = some F4 := by kernel_rfl
/-- franking/frankinglaw12.FrameBare -/
def L5_0 : AC :=
  AC.seq (AC.region [⟨some 26, AOp.bin (BinOp.lss) (AX.t 25) (AX.t 24), none, 0⟩] 0 false []) (AC.seq (AC.cond (AX.t 26) AC.skip (AC.exit 0)) (AC.seq (AC.block 1 (AC.seq (AC.region [⟨some 27, AOp.idx 1
  (AX.t 23) (AX.t 25), none, 0⟩, ⟨some 28, AOp.load none (AX.t 27), none, 0⟩, ⟨some 10, AOp.mv (AX.t 28), none, 0⟩] 0 false []) (AC.seq (AC.region [⟨some 29, AOp.mv (AX.t 10), none, 0⟩, ⟨some 30, AOp.bin
  (BinOp.neq) (AX.t 29) (AX.c (AV.int (IntKind.u8) 10)), none, 0⟩, ⟨some 31, AOp.mv (AX.t 30), none, 0⟩, ⟨some 32, AOp.mv (AX.t 8), some (31, false), 0⟩, ⟨some 33, AOp.len (AX.t 32), some (31, false),
  0⟩, ⟨some 34, AOp.bin (BinOp.eql) (AX.t 33) (AX.c (AV.int (IntKind.i64) 0)), some (31, false), 0⟩, ⟨some 35, AOp.pick (AX.t 31) (AX.c (AV.bool true)) (AX.t 34), none, 0⟩, ⟨some 36, AOp.mv (AX.t 35),
  none, 0⟩, ⟨some 37, AOp.mv (AX.t 8), some (36, false), 0⟩, ⟨some 38, AOp.mv (AX.t 8), some (36, false), 0⟩, ⟨some 39, AOp.len (AX.t 38), some (36, false), 0⟩, ⟨some 40, AOp.bin (BinOp.sub) (AX.t 39)
  (AX.c (AV.int (IntKind.i64) 1)), some (36, false), 0⟩, ⟨some 41, AOp.idx 1 (AX.t 37) (AX.t 40), some (36, false), 0⟩, ⟨some 42, AOp.load none (AX.t 41), some (36, false), 0⟩, ⟨some 43, AOp.bin
  (BinOp.neq) (AX.t 42) (AX.c (AV.int (IntKind.u8) 13)), some (36, false), 0⟩, ⟨some 44, AOp.pick (AX.t 36) (AX.c (AV.bool true)) (AX.t 43), none, 0⟩] 0 false []) (AC.cond (AX.t 44) (AC.region [⟨some 45,
  AOp.mv (AX.t 8), none, 0⟩, ⟨some 46, AOp.mv (AX.t 10), none, 0⟩, ⟨some 47, AOp.bslice 1 [AX.t 46], none, 0⟩, ⟨some 48, AOp.append 1 1 5 (AX.t 45) (AX.t 47), none, 0⟩, ⟨some 8, AOp.mv (AX.t 48), none,
  1⟩] 1 false []) AC.skip)))) (AC.region [⟨some 49, AOp.bin (BinOp.add) (AX.t 25) (AX.c (AV.int (IntKind.i64) 1)), none, 0⟩, ⟨some 25, AOp.mv (AX.t 49), none, 0⟩] 0 false [])))
theorem wL5_0 {O : Orc} {Q : Ex → Slots → Heap → Prop} {σ : Slots} {h : Heap} : Wp O L5_0 Q σ h = Wp O (AC.seq (AC.region [⟨some 26, AOp.bin (BinOp.lss) (AX.t 25) (AX.t 24), none, 0⟩] 0 false []) (AC.seq (AC.cond (AX.t 26) AC.skip (AC.exit 0)) (AC.seq (AC.block 1 (AC.seq (AC.region [⟨some 27, AOp.idx 1
  (AX.t 23) (AX.t 25), none, 0⟩, ⟨some 28, AOp.load none (AX.t 27), none, 0⟩, ⟨some 10, AOp.mv (AX.t 28), none, 0⟩] 0 false []) (AC.seq (AC.region [⟨some 29, AOp.mv (AX.t 10), none, 0⟩, ⟨some 30, AOp.bin
  (BinOp.neq) (AX.t 29) (AX.c (AV.int (IntKind.u8) 10)), none, 0⟩, ⟨some 31, AOp.mv (AX.t 30), none, 0⟩, ⟨some 32, AOp.mv (AX.t 8), some (31, false), 0⟩, ⟨some 33, AOp.len (AX.t 32), some (31, false),
  0⟩, ⟨some 34, AOp.bin (BinOp.eql) (AX.t 33) (AX.c (AV.int (IntKind.i64) 0)), some (31, false), 0⟩, ⟨some 35, AOp.pick (AX.t 31) (AX.c (AV.bool true)) (AX.t 34), none, 0⟩, ⟨some 36, AOp.mv (AX.t 35),
  none, 0⟩, ⟨some 37, AOp.mv (AX.t 8), some (36, false), 0⟩, ⟨some 38, AOp.mv (AX.t 8), some (36, false), 0⟩, ⟨some 39, AOp.len (AX.t 38), some (36, false), 0⟩, ⟨some 40, AOp.bin (BinOp.sub) (AX.t 39)
  (AX.c (AV.int (IntKind.i64) 1)), some (36, false), 0⟩, ⟨some 41, AOp.idx 1 (AX.t 37) (AX.t 40), some (36, false), 0⟩, ⟨some 42, AOp.load none (AX.t 41), some (36, false), 0⟩, ⟨some 43, AOp.bin
  (BinOp.neq) (AX.t 42) (AX.c (AV.int (IntKind.u8) 13)), some (36, false), 0⟩, ⟨some 44, AOp.pick (AX.t 36) (AX.c (AV.bool true)) (AX.t 43), none, 0⟩] 0 false []) (AC.cond (AX.t 44) (AC.region [⟨some 45,
  AOp.mv (AX.t 8), none, 0⟩, ⟨some 46, AOp.mv (AX.t 10), none, 0⟩, ⟨some 47, AOp.bslice 1 [AX.t 46], none, 0⟩, ⟨some 48, AOp.append 1 1 5 (AX.t 45) (AX.t 47), none, 0⟩, ⟨some 8, AOp.mv (AX.t 48), none,
  1⟩] 1 false []) AC.skip)))) (AC.region [⟨some 49, AOp.bin (BinOp.add) (AX.t 25) (AX.c (AV.int (IntKind.i64) 1)), none, 0⟩, ⟨some 25, AOp.mv (AX.t 49), none, 0⟩] 0 false [])))) Q σ h := rfl
def K5_0 : AC :=
  AC.seq (AC.region [⟨some 51, AOp.mv (AX.t 7), none, 0⟩, ⟨some 52, AOp.mv (AX.t 8), none, 0⟩, ⟨some 53, AOp.mv (AX.t 2), none, 0⟩, ⟨some 54, AOp.call (AX.c (AV.fn 8 [])) [AX.t 51, AX.t 52, AX.t 53],
  none, 0⟩, ⟨some 50, AOp.mv (AX.t 54), none, 0⟩, ⟨some 55, AOp.ext (AX.t 50) 0, none, 0⟩, ⟨some 56, AOp.ext (AX.t 50) 1, none, 0⟩, ⟨some 57, AOp.ext (AX.t 50) 2, none, 0⟩, ⟨some 11, AOp.alloc [AV.int
  (IntKind.i64) 0, AV.str [], AV.bool false, AV.bool false], none, 0⟩, ⟨none, AOp.store 4 (AX.t 11) (AX.t 55), none, 1⟩, ⟨some 12, AOp.mv (AX.t 56), none, 1⟩, ⟨some 13, AOp.mv (AX.t 57), none, 1⟩] 1
  false []) (AC.seq (AC.seq (AC.region [⟨some 58, AOp.mv (AX.t 13), none, 0⟩, ⟨some 59, AOp.not (AX.t 58), none, 0⟩, ⟨some 60, AOp.mv (AX.t 59), none, 0⟩, ⟨some 61, AOp.mv (AX.t 12), some (60, false),
  0⟩, ⟨some 62, AOp.len (AX.t 61), some (60, false), 0⟩, ⟨some 63, AOp.bin (BinOp.neq) (AX.t 62) (AX.c (AV.int (IntKind.i64) 0)), some (60, false), 0⟩, ⟨some 64, AOp.pick (AX.t 60) (AX.c (AV.bool true))
  (AX.t 63), none, 0⟩] 0 false []) (AC.cond (AX.t 64) (AC.seq (AC.region [⟨some 6, AOp.mv (AX.c (AV.bool false)), none, 0⟩] 0 false []) AC.ret) AC.skip)) (AC.seq (AC.region [⟨some 65, AOp.mv (AX.t 8),
  none, 0⟩, ⟨some 66, AOp.cvBytesStr (AX.t 65), none, 0⟩, ⟨some 14, AOp.mv (AX.t 66), none, 0⟩] 0 false []) (AC.seq (AC.seq (AC.region [⟨some 67, AOp.mv (AX.t 14), none, 0⟩, ⟨some 68, AOp.lenS (AX.t 67),
  none, 0⟩, ⟨some 69, AOp.mv (AX.t 7), none, 0⟩, ⟨some 70, AOp.bin (BinOp.gtr) (AX.t 68) (AX.t 69), none, 0⟩] 0 false []) (AC.cond (AX.t 70) (AC.seq (AC.region [⟨some 71, AOp.off 2 (AX.t 11), none, 0⟩,
  ⟨some 72, AOp.load none (AX.t 71), none, 0⟩, ⟨some 73, AOp.mv (AX.t 14), none, 0⟩, ⟨some 74, AOp.call (AX.c (AV.fn 11 [])) [AX.t 73, AX.c (AV.str [13])], none, 0⟩, ⟨some 75, AOp.lenS (AX.t 74), none,
  0⟩, ⟨some 76, AOp.mv (AX.t 7), none, 0⟩, ⟨some 77, AOp.bin (BinOp.gtr) (AX.t 75) (AX.t 76), none, 0⟩, ⟨some 78, AOp.eq false none [(0, LK.bool)] (AX.t 72) (AX.t 77), none, 0⟩, ⟨some 79, AOp.mv (AX.t
  78), none, 0⟩, ⟨some 80, AOp.mv (AX.t 14), some (79, true), 0⟩, ⟨some 81, AOp.off 1 (AX.t 11), some (79, true), 0⟩, ⟨some 82, AOp.load none (AX.t 81), some (79, true), 0⟩, ⟨some 83, AOp.call (AX.c
  (AV.fn 10 [])) [AX.t 80, AX.t 82], some (79, true), 0⟩, ⟨some 84, AOp.pick (AX.t 79) (AX.t 83) (AX.c (AV.bool false)), none, 0⟩, ⟨some 85, AOp.mv (AX.t 84), none, 0⟩, ⟨some 86, AOp.off 1 (AX.t 11),
  some (85, true), 0⟩, ⟨some 87, AOp.load none (AX.t 86), some (85, true), 0⟩, ⟨some 88, AOp.lenS (AX.t 87), some (85, true), 0⟩, ⟨some 89, AOp.mv (AX.t 7), some (85, true), 0⟩, ⟨some 90, AOp.bin
  (BinOp.eql) (AX.t 88) (AX.t 89), some (85, true), 0⟩, ⟨some 91, AOp.pick (AX.t 85) (AX.t 90) (AX.c (AV.bool false)), none, 0⟩, ⟨some 92, AOp.mv (AX.t 91), none, 0⟩, ⟨some 93, AOp.call (AX.c (AV.fn 7
  [])) [], some (92, true), 0⟩, ⟨some 94, AOp.pick (AX.t 92) (AX.t 93) (AX.c (AV.bool false)), none, 0⟩, ⟨some 6, AOp.mv (AX.t 94), none, 0⟩] 0 true [(1, 3)]) AC.ret) AC.skip)) (AC.seq (AC.region [⟨some
  95, AOp.off 2 (AX.t 11), none, 0⟩, ⟨some 96, AOp.load none (AX.t 95), none, 0⟩, ⟨some 97, AOp.not (AX.t 96), none, 0⟩, ⟨some 98, AOp.mv (AX.t 97), none, 0⟩, ⟨some 99, AOp.load (some 4) (AX.t 11), some
  (98, true), 0⟩, ⟨some 100, AOp.call (AX.c (AV.fn 12 [])) [AX.t 99], some (98, true), 0⟩, ⟨some 101, AOp.mv (AX.t 14), some (98, true), 0⟩, ⟨some 102, AOp.bin (BinOp.eql) (AX.t 100) (AX.t 101), some
  (98, true), 0⟩, ⟨some 103, AOp.pick (AX.t 98) (AX.t 102) (AX.c (AV.bool false)), none, 0⟩, ⟨some 104, AOp.mv (AX.t 103), none, 0⟩, ⟨some 105, AOp.call (AX.c (AV.fn 7 [])) [], some (104, true), 0⟩,
  ⟨some 106, AOp.pick (AX.t 104) (AX.t 105) (AX.c (AV.bool false)), none, 0⟩, ⟨some 6, AOp.mv (AX.t 106), none, 0⟩] 0 false []) AC.ret))))
theorem wK5_0 {O : Orc} {Q : Ex → Slots → Heap → Prop} {σ : Slots} {h : Heap} : Wp O K5_0 Q σ h = Wp O (AC.seq (AC.region [⟨some 51, AOp.mv (AX.t 7), none, 0⟩, ⟨some 52, AOp.mv (AX.t 8), none, 0⟩, ⟨some 53, AOp.mv (AX.t 2), none, 0⟩, ⟨some 54, AOp.call (AX.c (AV.fn 8 [])) [AX.t 51, AX.t 52, AX.t 53],
  none, 0⟩, ⟨some 50, AOp.mv (AX.t 54), none, 0⟩, ⟨some 55, AOp.ext (AX.t 50) 0, none, 0⟩, ⟨some 56, AOp.ext (AX.t 50) 1, none, 0⟩, ⟨some 57, AOp.ext (AX.t 50) 2, none, 0⟩, ⟨some 11, AOp.alloc [AV.int
  (IntKind.i64) 0, AV.str [], AV.bool false, AV.bool false], none, 0⟩, ⟨none, AOp.store 4 (AX.t 11) (AX.t 55), none, 1⟩, ⟨some 12, AOp.mv (AX.t 56), none, 1⟩, ⟨some 13, AOp.mv (AX.t 57), none, 1⟩] 1
  false []) (AC.seq (AC.seq (AC.region [⟨some 58, AOp.mv (AX.t 13), none, 0⟩, ⟨some 59, AOp.not (AX.t 58), none, 0⟩, ⟨some 60, AOp.mv (AX.t 59), none, 0⟩, ⟨some 61, AOp.mv (AX.t 12), some (60, false),
  0⟩, ⟨some 62, AOp.len (AX.t 61), some (60, false), 0⟩, ⟨some 63, AOp.bin (BinOp.neq) (AX.t 62) (AX.c (AV.int (IntKind.i64) 0)), some (60, false), 0⟩, ⟨some 64, AOp.pick (AX.t 60) (AX.c (AV.bool true))
  (AX.t 63), none, 0⟩] 0 false []) (AC.cond (AX.t 64) (AC.seq (AC.region [⟨some 6, AOp.mv (AX.c (AV.bool false)), none, 0⟩] 0 false []) AC.ret) AC.skip)) (AC.seq (AC.region [⟨some 65, AOp.mv (AX.t 8),
  none, 0⟩, ⟨some 66, AOp.cvBytesStr (AX.t 65), none, 0⟩, ⟨some 14, AOp.mv (AX.t 66), none, 0⟩] 0 false []) (AC.seq (AC.seq (AC.region [⟨some 67, AOp.mv (AX.t 14), none, 0⟩, ⟨some 68, AOp.lenS (AX.t 67),
  none, 0⟩, ⟨some 69, AOp.mv (AX.t 7), none, 0⟩, ⟨some 70, AOp.bin (BinOp.gtr) (AX.t 68) (AX.t 69), none, 0⟩] 0 false []) (AC.cond (AX.t 70) (AC.seq (AC.region [⟨some 71, AOp.off 2 (AX.t 11), none, 0⟩,
  ⟨some 72, AOp.load none (AX.t 71), none, 0⟩, ⟨some 73, AOp.mv (AX.t 14), none, 0⟩, ⟨some 74, AOp.call (AX.c (AV.fn 11 [])) [AX.t 73, AX.c (AV.str [13])], none, 0⟩, ⟨some 75, AOp.lenS (AX.t 74), none,
  0⟩, ⟨some 76, AOp.mv (AX.t 7), none, 0⟩, ⟨some 77, AOp.bin (BinOp.gtr) (AX.t 75) (AX.t 76), none, 0⟩, ⟨some 78, AOp.eq false none [(0, LK.bool)] (AX.t 72) (AX.t 77), none, 0⟩, ⟨some 79, AOp.mv (AX.t
  78), none, 0⟩, ⟨some 80, AOp.mv (AX.t 14), some (79, true), 0⟩, ⟨some 81, AOp.off 1 (AX.t 11), some (79, true), 0⟩, ⟨some 82, AOp.load none (AX.t 81), some (79, true), 0⟩, ⟨some 83, AOp.call (AX.c
  (AV.fn 10 [])) [AX.t 80, AX.t 82], some (79, true), 0⟩, ⟨some 84, AOp.pick (AX.t 79) (AX.t 83) (AX.c (AV.bool false)), none, 0⟩, ⟨some 85, AOp.mv (AX.t 84), none, 0⟩, ⟨some 86, AOp.off 1 (AX.t 11),
  some (85, true), 0⟩, ⟨some 87, AOp.load none (AX.t 86), some (85, true), 0⟩, ⟨some 88, AOp.lenS (AX.t 87), some (85, true), 0⟩, ⟨some 89, AOp.mv (AX.t 7), some (85, true), 0⟩, ⟨some 90, AOp.bin
  (BinOp.eql) (AX.t 88) (AX.t 89), some (85, true), 0⟩, ⟨some 91, AOp.pick (AX.t 85) (AX.t 90) (AX.c (AV.bool false)), none, 0⟩, ⟨some 92, AOp.mv (AX.t 91), none, 0⟩, ⟨some 93, AOp.call (AX.c (AV.fn 7
  [])) [], some (92, true), 0⟩, ⟨some 94, AOp.pick (AX.t 92) (AX.t 93) (AX.c (AV.bool false)), none, 0⟩, ⟨some 6, AOp.mv (AX.t 94), none, 0⟩] 0 true [(1, 3)]) AC.ret) AC.skip)) (AC.seq (AC.region [⟨some
  95, AOp.off 2 (AX.t 11), none, 0⟩, ⟨some 96, AOp.load none (AX.t 95), none, 0⟩, ⟨some 97, AOp.not (AX.t 96), none, 0⟩, ⟨some 98, AOp.mv (AX.t 97), none, 0⟩, ⟨some 99, AOp.load (some 4) (AX.t 11), some
  (98, true), 0⟩, ⟨some 100, AOp.call (AX.c (AV.fn 12 [])) [AX.t 99], some (98, true), 0⟩, ⟨some 101, AOp.mv (AX.t 14), some (98, true), 0⟩, ⟨some 102, AOp.bin (BinOp.eql) (AX.t 100) (AX.t 101), some
  (98, true), 0⟩, ⟨some 103, AOp.pick (AX.t 98) (AX.t 102) (AX.c (AV.bool false)), none, 0⟩, ⟨some 104, AOp.mv (AX.t 103), none, 0⟩, ⟨some 105, AOp.call (AX.c (AV.fn 7 [])) [], some (104, true), 0⟩,
  ⟨some 106, AOp.pick (AX.t 104) (AX.t 105) (AX.c (AV.bool false)), none, 0⟩, ⟨some 6, AOp.mv (AX.t 106), none, 0⟩] 0 false []) AC.ret))))) Q σ h := rfl
def B5 : AC :=
  AC.seq (AC.region [⟨some 6, AOp.mv (AX.c (AV.bool false)), none, 0⟩] 0 false []) (AC.seq (AC.seq (AC.region [⟨some 15, AOp.mv (AX.t 1), none, 0⟩, ⟨some 16, AOp.len (AX.t 15), none, 0⟩, ⟨some 17,
  AOp.bin (BinOp.gtr) (AX.t 16) (AX.c (AV.int (IntKind.i64) 500)), none, 0⟩] 0 false []) (AC.cond (AX.t 17) (AC.seq (AC.region [⟨some 18, AOp.call (AX.c (AV.fn 7 [])) [], none, 0⟩, ⟨some 6, AOp.mv (AX.t
  18), none, 0⟩] 0 false []) AC.ret) AC.skip)) (AC.seq (AC.region [⟨some 19, AOp.mv (AX.t 0), none, 0⟩, ⟨some 20, AOp.cvInt (IntKind.i64) (AX.t 19), none, 0⟩, ⟨some 21, AOp.bin (BinOp.rem) (AX.t 20)
  (AX.c (AV.int (IntKind.i64) 2000)), none, 0⟩, ⟨some 22, AOp.bin (BinOp.add) (AX.c (AV.int (IntKind.i64) 1)) (AX.t 21), none, 0⟩, ⟨some 7, AOp.mv (AX.t 22), none, 0⟩] 0 false []) (AC.seq (AC.region
  [⟨some 8, AOp.mv (AX.c (AV.list 1 [] (Rt.full))), none, 0⟩] 0 false []) (AC.seq (AC.seq (AC.region [⟨some 23, AOp.mv (AX.t 1), none, 0⟩, ⟨some 24, AOp.len (AX.t 23), none, 0⟩, ⟨some 25, AOp.mv (AX.c
  (AV.int (IntKind.i64) 0)), none, 0⟩] 0 false []) (AC.block 0 (AC.loop L5_0))) K5_0))))
theorem wB5 {O : Orc} {Q : Ex → Slots → Heap → Prop} {σ : Slots} {h : Heap} : Wp O B5 Q σ h = Wp O (AC.seq (AC.region [⟨some 6, AOp.mv (AX.c (AV.bool false)), none, 0⟩] 0 false []) (AC.seq (AC.seq (AC.region [⟨some 15, AOp.mv (AX.t 1), none, 0⟩, ⟨some 16, AOp.len (AX.t 15), none, 0⟩, ⟨some 17,
  AOp.bin (BinOp.gtr) (AX.t 16) (AX.c (AV.int (IntKind.i64) 500)), none, 0⟩] 0 false []) (AC.cond (AX.t 17) (AC.seq (AC.region [⟨some 18, AOp.call (AX.c (AV.fn 7 [])) [], none, 0⟩, ⟨some 6, AOp.mv (AX.t
  18), none, 0⟩] 0 false []) AC.ret) AC.skip)) (AC.seq (AC.region [⟨some 19, AOp.mv (AX.t 0), none, 0⟩, ⟨some 20, AOp.cvInt (IntKind.i64) (AX.t 19), none, 0⟩, ⟨some 21, AOp.bin (BinOp.rem) (AX.t 20)
  (AX.c (AV.int (IntKind.i64) 2000)), none, 0⟩, ⟨some 22, AOp.bin (BinOp.add) (AX.c (AV.int (IntKind.i64) 1)) (AX.t 21), none, 0⟩, ⟨some 7, AOp.mv (AX.t 22), none, 0⟩] 0 false []) (AC.seq (AC.region
  [⟨some 8, AOp.mv (AX.c (AV.list 1 [] (Rt.full))), none, 0⟩] 0 false []) (AC.seq (AC.seq (AC.region [⟨some 23, AOp.mv (AX.t 1), none, 0⟩, ⟨some 24, AOp.len (AX.t 23), none, 0⟩, ⟨some 25, AOp.mv (AX.c
  (AV.int (IntKind.i64) 0)), none, 0⟩] 0 false []) (AC.block 0 (AC.loop L5_0))) K5_0))))) Q σ h := rfl
def F5 : AF := ⟨B5, [ARes.tmp 6], false⟩
theorem tab5 : T 5 = some F5 := by kernel_rfl
/-- franking/frankinglaw12.FrameBack -/
def L6_0 : AC :=
  AC.seq (AC.region [⟨some 26, AOp.bin (BinOp.lss) (AX.t 25) (AX.t 24), none, 0⟩] 0 false []) (AC.seq (AC.cond (AX.t 26) AC.skip (AC.exit 0)) (AC.seq (AC.block 1 (AC.seq (AC.region [⟨some 27, AOp.idx 1
  (AX.t 23) (AX.t 25), none, 0⟩, ⟨some 28, AOp.load none (AX.t 27), none, 0⟩, ⟨some 10, AOp.mv (AX.t 28), none, 0⟩] 0 false []) (AC.seq (AC.seq (AC.region [⟨some 29, AOp.mv (AX.t 10), none, 0⟩, ⟨some 30,
  AOp.lenS (AX.t 29), none, 0⟩, ⟨some 31, AOp.bin (BinOp.gtr) (AX.t 30) (AX.c (AV.int (IntKind.i64) 300)), none, 0⟩, ⟨some 32, AOp.mv (AX.t 31), none, 0⟩, ⟨some 33, AOp.mv (AX.t 10), some (32, false),
  0⟩, ⟨some 34, AOp.call (AX.c (AV.fn 13 [])) [AX.t 33, AX.c (AV.str [13, 10])], some (32, false), 0⟩, ⟨some 35, AOp.pick (AX.t 32) (AX.c (AV.bool true)) (AX.t 34), none, 0⟩] 0 false []) (AC.cond (AX.t
  35) (AC.seq (AC.region [⟨some 36, AOp.call (AX.c (AV.fn 7 [])) [], none, 0⟩, ⟨some 6, AOp.mv (AX.t 36), none, 0⟩] 0 false []) AC.ret) AC.skip)) (AC.region [⟨some 37, AOp.mv (AX.t 8), none, 0⟩, ⟨some
  38, AOp.mv (AX.t 10), none, 0⟩, ⟨some 39, AOp.mv (AX.t 10), none, 0⟩, ⟨some 40, AOp.lenS (AX.t 39), none, 0⟩, ⟨some 41, AOp.mv (AX.t 7), none, 0⟩, ⟨some 42, AOp.min (AX.t 40) (AX.t 41), none, 0⟩, ⟨some
  43, AOp.sliceS (AX.t 38) none (some (AX.t 42)), none, 0⟩, ⟨some 44, AOp.mv (AX.t 10), none, 0⟩, ⟨some 45, AOp.lenS (AX.t 44), none, 0⟩, ⟨some 46, AOp.mv (AX.t 7), none, 0⟩, ⟨some 47, AOp.bin
  (BinOp.gtr) (AX.t 45) (AX.t 46), none, 0⟩, ⟨some 48, AOp.build [AV.str [], AV.bool false] [(0, 1, AX.t 43), (1, 1, AX.t 47)], none, 0⟩, ⟨some 49, AOp.bslice 2 [AX.t 48], none, 0⟩, ⟨some 50, AOp.append
  2 24 34 (AX.t 37) (AX.t 49), none, 0⟩, ⟨some 8, AOp.mv (AX.t 50), none, 1⟩] 1 false [])))) (AC.region [⟨some 51, AOp.bin (BinOp.add) (AX.t 25) (AX.c (AV.int (IntKind.i64) 1)), none, 0⟩, ⟨some 25,
  AOp.mv (AX.t 51), none, 0⟩] 0 false [])))
theorem wL6_0 {O : Orc} {Q : Ex → Slots → Heap → Prop} {σ : Slots} {h : Heap} : Wp O L6_0 Q σ h = Wp O (AC.seq (AC.region [⟨some 26, AOp.bin (BinOp.lss) (AX.t 25) (AX.t 24), none, 0⟩] 0 false []) (AC.seq (AC.cond (AX.t 26) AC.skip (AC.exit 0)) (AC.seq (AC.block 1 (AC.seq (AC.region [⟨some 27, AOp.idx 1
  (AX.t 23) (AX.t 25), none, 0⟩, ⟨some 28, AOp.load none (AX.t 27), none, 0⟩, ⟨some 10, AOp.mv (AX.t 28), none, 0⟩] 0 false []) (AC.seq (AC.seq (AC.region [⟨some 29, AOp.mv (AX.t 10), none, 0⟩, ⟨some 30,
  AOp.lenS (AX.t 29), none, 0⟩, ⟨some 31, AOp.bin (BinOp.gtr) (AX.t 30) (AX.c (AV.int (IntKind.i64) 300)), none, 0⟩, ⟨some 32, AOp.mv (AX.t 31), none, 0⟩, ⟨some 33, AOp.mv (AX.t 10), some (32, false),
  0⟩, ⟨some 34, AOp.call (AX.c (AV.fn 13 [])) [AX.t 33, AX.c (AV.str [13, 10])], some (32, false), 0⟩, ⟨some 35, AOp.pick (AX.t 32) (AX.c (AV.bool true)) (AX.t 34), none, 0⟩] 0 false []) (AC.cond (AX.t
  35) (AC.seq (AC.region [⟨some 36, AOp.call (AX.c (AV.fn 7 [])) [], none, 0⟩, ⟨some 6, AOp.mv (AX.t 36), none, 0⟩] 0 false []) AC.ret) AC.skip)) (AC.region [⟨some 37, AOp.mv (AX.t 8), none, 0⟩, ⟨some
  38, AOp.mv (AX.t 10), none, 0⟩, ⟨some 39, AOp.mv (AX.t 10), none, 0⟩, ⟨some 40, AOp.lenS (AX.t 39), none, 0⟩, ⟨some 41, AOp.mv (AX.t 7), none, 0⟩, ⟨some 42, AOp.min (AX.t 40) (AX.t 41), none, 0⟩, ⟨some
  43, AOp.sliceS (AX.t 38) none (some (AX.t 42)), none, 0⟩, ⟨some 44, AOp.mv (AX.t 10), none, 0⟩, ⟨some 45, AOp.lenS (AX.t 44), none, 0⟩, ⟨some 46, AOp.mv (AX.t 7), none, 0⟩, ⟨some 47, AOp.bin
  (BinOp.gtr) (AX.t 45) (AX.t 46), none, 0⟩, ⟨some 48, AOp.build [AV.str [], AV.bool false] [(0, 1, AX.t 43), (1, 1, AX.t 47)], none, 0⟩, ⟨some 49, AOp.bslice 2 [AX.t 48], none, 0⟩, ⟨some 50, AOp.append
  2 24 34 (AX.t 37) (AX.t 49), none, 0⟩, ⟨some 8, AOp.mv (AX.t 50), none, 1⟩] 1 false [])))) (AC.region [⟨some 51, AOp.bin (BinOp.add) (AX.t 25) (AX.c (AV.int (IntKind.i64) 1)), none, 0⟩, ⟨some 25,
  AOp.mv (AX.t 51), none, 0⟩] 0 false [])))) Q σ h := rfl
def K6_0 : AC :=
  AC.seq (AC.region [⟨some 11, AOp.mv (AX.c (AV.str [])), none, 0⟩] 0 false []) (AC.seq (AC.seq (AC.region [⟨some 52, AOp.mv (AX.t 1), none, 0⟩, ⟨some 53, AOp.len (AX.t 52), none, 0⟩, ⟨some 54, AOp.bin
  (BinOp.gtr) (AX.t 53) (AX.c (AV.int (IntKind.i64) 0)), none, 0⟩] 0 false []) (AC.cond (AX.t 54) (AC.region [⟨some 11, AOp.mv (AX.c (AV.str [13, 10])), none, 0⟩] 0 false []) AC.skip)) (AC.seq (AC.region
  [⟨some 56, AOp.mv (AX.t 7), none, 0⟩, ⟨some 57, AOp.mv (AX.t 1), none, 0⟩, ⟨some 58, AOp.call (AX.c (AV.fn 14 [])) [AX.t 57, AX.c (AV.str [13, 10])], none, 0⟩, ⟨some 59, AOp.mv (AX.t 11), none, 0⟩,
  ⟨some 60, AOp.bin (BinOp.add) (AX.t 58) (AX.t 59), none, 0⟩, ⟨some 61, AOp.cvStrBytes 5 (AX.t 60), none, 0⟩, ⟨some 62, AOp.mv (AX.t 2), none, 1⟩, ⟨some 63, AOp.call (AX.c (AV.fn 8 [])) [AX.t 56, AX.t
  61, AX.t 62], none, 1⟩, ⟨some 55, AOp.mv (AX.t 63), none, 1⟩, ⟨some 64, AOp.ext (AX.t 55) 0, none, 1⟩, ⟨some 65, AOp.ext (AX.t 55) 1, none, 1⟩, ⟨some 66, AOp.ext (AX.t 55) 2, none, 1⟩, ⟨some 12,
  AOp.alloc [AV.int (IntKind.i64) 0, AV.str [], AV.bool false, AV.bool false], none, 1⟩, ⟨none, AOp.store 4 (AX.t 12) (AX.t 64), none, 2⟩, ⟨some 13, AOp.mv (AX.t 65), none, 2⟩, ⟨some 14, AOp.mv (AX.t
  66), none, 2⟩] 2 false []) (AC.seq (AC.region [⟨some 67, AOp.mv (AX.t 14), none, 0⟩, ⟨some 68, AOp.mv (AX.t 67), none, 0⟩, ⟨some 69, AOp.mv (AX.t 13), some (68, true), 0⟩, ⟨some 70, AOp.mv (AX.t 8),
  some (68, true), 0⟩, ⟨some 71, AOp.call (AX.c (AV.fn 9 [])) [AX.t 69, AX.t 70], some (68, true), 0⟩, ⟨some 72, AOp.pick (AX.t 68) (AX.t 71) (AX.c (AV.bool false)), none, 0⟩, ⟨some 73, AOp.mv (AX.t 72),
  none, 0⟩, ⟨some 74, AOp.load (some 4) (AX.t 12), some (73, true), 0⟩, ⟨some 75, AOp.mv (AX.t 7), some (73, true), 0⟩, ⟨some 76, AOp.build [AV.int (IntKind.i64) 0, AV.str [], AV.bool false, AV.bool
  false] [(0, 1, AX.t 75)], some (73, true), 0⟩, ⟨some 77, AOp.eq false (some 4) [(0, LK.int), (1, LK.str), (2, LK.bool), (3, LK.bool)] (AX.t 74) (AX.t 76), some (73, true), 0⟩, ⟨some 78, AOp.pick (AX.t
  73) (AX.t 77) (AX.c (AV.bool false)), none, 0⟩, ⟨some 79, AOp.mv (AX.t 78), none, 0⟩, ⟨some 80, AOp.load (some 4) (AX.t 12), some (79, true), 0⟩, ⟨some 81, AOp.call (AX.c (AV.fn 12 [])) [AX.t 80], some
  (79, true), 0⟩, ⟨some 82, AOp.bin (BinOp.eql) (AX.t 81) (AX.c (AV.str [])), some (79, true), 0⟩, ⟨some 83, AOp.pick (AX.t 79) (AX.t 82) (AX.c (AV.bool false)), none, 0⟩, ⟨some 84, AOp.mv (AX.t 83),
  none, 0⟩, ⟨some 85, AOp.call (AX.c (AV.fn 7 [])) [], some (84, true), 0⟩, ⟨some 86, AOp.pick (AX.t 84) (AX.t 85) (AX.c (AV.bool false)), none, 0⟩, ⟨some 6, AOp.mv (AX.t 86), none, 0⟩] 0 false [])
  AC.ret)))
theorem wK6_0 {O : Orc} {Q : Ex → Slots → Heap → Prop} {σ : Slots} {h : Heap} : Wp O K6_0 Q σ h = Wp O (AC.seq (AC.region [⟨some 11, AOp.mv (AX.c (AV.str [])), none, 0⟩] 0 false []) (AC.seq (AC.seq (AC.region [⟨some 52, AOp.mv (AX.t 1), none, 0⟩, ⟨some 53, AOp.len (AX.t 52), none, 0⟩, ⟨some 54, AOp.bin
  (BinOp.gtr) (AX.t 53) (AX.c (AV.int (IntKind.i64) 0)), none, 0⟩] 0 false []) (AC.cond (AX.t 54) (AC.region [⟨some 11, AOp.mv (AX.c (AV.str [13, 10])), none, 0⟩] 0 false []) AC.skip)) (AC.seq (AC.region
  [⟨some 56, AOp.mv (AX.t 7), none, 0⟩, ⟨some 57, AOp.mv (AX.t 1), none, 0⟩, ⟨some 58, AOp.call (AX.c (AV.fn 14 [])) [AX.t 57, AX.c (AV.str [13, 10])], none, 0⟩, ⟨some 59, AOp.mv (AX.t 11), none, 0⟩,
  ⟨some 60, AOp.bin (BinOp.add) (AX.t 58) (AX.t 59), none, 0⟩, ⟨some 61, AOp.cvStrBytes 5 (AX.t 60), none, 0⟩, ⟨some 62, AOp.mv (AX.t 2), none, 1⟩, ⟨some 63, AOp.call (AX.c (AV.fn 8 [])) [AX.t 56, AX.t
  61, AX.t 62], none, 1⟩, ⟨some 55, AOp.mv (AX.t 63), none, 1⟩, ⟨some 64, AOp.ext (AX.t 55) 0, none, 1⟩, ⟨some 65, AOp.ext (AX.t 55) 1, none, 1⟩, ⟨some 66, AOp.ext (AX.t 55) 2, none, 1⟩, ⟨some 12,
  AOp.alloc [AV.int (IntKind.i64) 0, AV.str [], AV.bool false, AV.bool false], none, 1⟩, ⟨none, AOp.store 4 (AX.t 12) (AX.t 64), none, 2⟩, ⟨some 13, AOp.mv (AX.t 65), none, 2⟩, ⟨some 14, AOp.mv (AX.t
  66), none, 2⟩] 2 false []) (AC.seq (AC.region [⟨some 67, AOp.mv (AX.t 14), none, 0⟩, ⟨some 68, AOp.mv (AX.t 67), none, 0⟩, ⟨some 69, AOp.mv (AX.t 13), some (68, true), 0⟩, ⟨some 70, AOp.mv (AX.t 8),
  some (68, true), 0⟩, ⟨some 71, AOp.call (AX.c (AV.fn 9 [])) [AX.t 69, AX.t 70], some (68, true), 0⟩, ⟨some 72, AOp.pick (AX.t 68) (AX.t 71) (AX.c (AV.bool false)), none, 0⟩, ⟨some 73, AOp.mv (AX.t 72),
  none, 0⟩, ⟨some 74, AOp.load (some 4) (AX.t 12), some (73, true), 0⟩, ⟨some 75, AOp.mv (AX.t 7), some (73, true), 0⟩, ⟨some 76, AOp.build [AV.int (IntKind.i64) 0, AV.str [], AV.bool false, AV.bool
  false] [(0, 1, AX.t 75)], some (73, true), 0⟩, ⟨some 77, AOp.eq false (some 4) [(0, LK.int), (1, LK.str), (2, LK.bool), (3, LK.bool)] (AX.t 74) (AX.t 76), some (73, true), 0⟩, ⟨some 78, AOp.pick (AX.t
  73) (AX.t 77) (AX.c (AV.bool false)), none, 0⟩, ⟨some 79, AOp.mv (AX.t 78), none, 0⟩, ⟨some 80, AOp.load (some 4) (AX.t 12), some (79, true), 0⟩, ⟨some 81, AOp.call (AX.c (AV.fn 12 [])) [AX.t 80], some
  (79, true), 0⟩, ⟨some 82, AOp.bin (BinOp.eql) (AX.t 81) (AX.c (AV.str [])), some (79, true), 0⟩, ⟨some 83, AOp.pick (AX.t 79) (AX.t 82) (AX.c (AV.bool false)), none, 0⟩, ⟨some 84, AOp.mv (AX.t 83),
  none, 0⟩, ⟨some 85, AOp.call (AX.c (AV.fn 7 [])) [], some (84, true), 0⟩, ⟨some 86, AOp.pick (AX.t 84) (AX.t 85) (AX.c (AV.bool false)), none, 0⟩, ⟨some 6, AOp.mv (AX.t 86), none, 0⟩] 0 false [])
  AC.ret)))) Q σ h := rfl
def B6 : AC :=
  AC.seq (AC.region [⟨some 6, AOp.mv (AX.c (AV.bool false)), none, 0⟩] 0 false []) (AC.seq (AC.seq (AC.region [⟨some 15, AOp.mv (AX.t 1), none, 0⟩, ⟨some 16, AOp.len (AX.t 15), none, 0⟩, ⟨some 17,
  AOp.bin (BinOp.gtr) (AX.t 16) (AX.c (AV.int (IntKind.i64) 30)), none, 0⟩] 0 false []) (AC.cond (AX.t 17) (AC.seq (AC.region [⟨some 18, AOp.call (AX.c (AV.fn 7 [])) [], none, 0⟩, ⟨some 6, AOp.mv (AX.t
  18), none, 0⟩] 0 false []) AC.ret) AC.skip)) (AC.seq (AC.region [⟨some 19, AOp.mv (AX.t 0), none, 0⟩, ⟨some 20, AOp.cvInt (IntKind.i64) (AX.t 19), none, 0⟩, ⟨some 21, AOp.bin (BinOp.rem) (AX.t 20)
  (AX.c (AV.int (IntKind.i64) 2000)), none, 0⟩, ⟨some 22, AOp.bin (BinOp.add) (AX.c (AV.int (IntKind.i64) 1)) (AX.t 21), none, 0⟩, ⟨some 7, AOp.mv (AX.t 22), none, 0⟩] 0 false []) (AC.seq (AC.region
  [⟨some 8, AOp.mv (AX.c (AV.list 2 [] (Rt.full))), none, 0⟩] 0 false []) (AC.seq (AC.seq (AC.region [⟨some 23, AOp.mv (AX.t 1), none, 0⟩, ⟨some 24, AOp.len (AX.t 23), none, 0⟩, ⟨some 25, AOp.mv (AX.c
  (AV.int (IntKind.i64) 0)), none, 0⟩] 0 false []) (AC.block 0 (AC.loop L6_0))) K6_0))))
theorem wB6 {O : Orc} {Q : Ex → Slots → Heap → Prop} {σ : Slots} {h : Heap} : Wp O B6 Q σ h = Wp O (AC.seq (AC.region [⟨some 6, AOp.mv (AX.c (AV.bool false)), none, 0⟩] 0 false []) (AC.seq (AC.seq (AC.region [⟨some 15, AOp.mv (AX.t 1), none, 0⟩, ⟨some 16, AOp.len (AX.t 15), none, 0⟩, ⟨some 17,
  AOp.bin (BinOp.gtr) (AX.t 16) (AX.c (AV.int (IntKind.i64) 30)), none, 0⟩] 0 false []) (AC.cond (AX.t 17) (AC.seq (AC.region [⟨some 18, AOp.call (AX.c (AV.fn 7 [])) [], none, 0⟩, ⟨some 6, AOp.mv (AX.t
  18), none, 0⟩] 0 false []) AC.ret) AC.skip)) (AC.seq (AC.region [⟨some 19, AOp.mv (AX.t 0), none, 0⟩, ⟨some 20, AOp.cvInt (IntKind.i64) (AX.t 19), none, 0⟩, ⟨some 21, AOp.bin (BinOp.rem) (AX.t 20)
  (AX.c (AV.int (IntKind.i64) 2000)), none, 0⟩, ⟨some 22, AOp.bin (BinOp.add) (AX.c (AV.int (IntKind.i64) 1)) (AX.t 21), none, 0⟩, ⟨some 7, AOp.mv (AX.t 22), none, 0⟩] 0 false []) (AC.seq (AC.region
  [⟨some 8, AOp.mv (AX.c (AV.list 2 [] (Rt.full))), none, 0⟩] 0 false []) (AC.seq (AC.seq (AC.region [⟨some 23, AOp.mv (AX.t 1), none, 0⟩, ⟨some 24, AOp.len (AX.t 23), none, 0⟩, ⟨some 25, AOp.mv (AX.c
  (AV.int (IntKind.i64) 0)), none, 0⟩] 0 false []) (AC.block 0 (AC.loop L6_0))) K6_0))))) Q σ h := rfl
def F6 : AF := ⟨B6, [ARes.tmp 6], false⟩
theorem tab6 : T 6 = some F6 := by kernel_rfl
/-- franking/frankinglaw12.awake -/
def B7 : AC :=
  AC.seq (AC.region [⟨some 0, AOp.mv (AX.c (AV.bool false)), none, 0⟩] 0 false []) (AC.seq (AC.region [⟨some 13, AOp.call (AX.c (AV.fn 15 [])) [AX.c (AV.int (IntKind.i64) 4)], none, 0⟩, ⟨some 12, AOp.mv
  (AX.t 13), none, 0⟩, ⟨some 14, AOp.ext (AX.t 12) 0, none, 0⟩, ⟨some 15, AOp.ext (AX.t 12) 1, none, 0⟩, ⟨some 1, AOp.alloc [AV.int (IntKind.i64) 0, AV.str [], AV.bool false, AV.bool false], none, 0⟩,
  ⟨none, AOp.store 4 (AX.t 1) (AX.t 14), none, 1⟩, ⟨some 2, AOp.mv (AX.t 15), none, 1⟩] 1 false []) (AC.seq (AC.region [⟨some 17, AOp.load (some 4) (AX.t 1), none, 0⟩, ⟨some 18, AOp.cvStrBytes 5 (AX.c
  (AV.str [97, 98, 13, 10, 99, 100, 101, 102, 103, 104, 13])), none, 0⟩, ⟨some 19, AOp.cvMark (AX.t 18), none, 1⟩, ⟨some 20, AOp.call (AX.c (AV.fn 16 [])) [AX.t 17, AX.t 19], none, 1⟩, ⟨some 16, AOp.mv
  (AX.t 20), none, 1⟩, ⟨some 21, AOp.ext (AX.t 16) 0, none, 1⟩, ⟨some 22, AOp.ext (AX.t 16) 1, none, 1⟩, ⟨none, AOp.store 4 (AX.t 1) (AX.t 21), none, 1⟩, ⟨some 3, AOp.mv (AX.t 22), none, 1⟩] 1 false [])
  (AC.seq (AC.region [⟨some 24, AOp.load (some 4) (AX.t 1), none, 0⟩, ⟨some 25, AOp.cvStrBytes 5 (AX.c (AV.str [10])), none, 0⟩, ⟨some 26, AOp.cvMark (AX.t 25), none, 1⟩, ⟨some 27, AOp.call (AX.c (AV.fn
  16 [])) [AX.t 24, AX.t 26], none, 1⟩, ⟨some 23, AOp.mv (AX.t 27), none, 1⟩, ⟨some 28, AOp.ext (AX.t 23) 0, none, 1⟩, ⟨some 29, AOp.ext (AX.t 23) 1, none, 1⟩, ⟨some 4, AOp.alloc [AV.int (IntKind.i64) 0,
  AV.str [], AV.bool false, AV.bool false], none, 1⟩, ⟨none, AOp.store 4 (AX.t 4) (AX.t 28), none, 2⟩, ⟨some 5, AOp.mv (AX.t 29), none, 2⟩] 2 false []) (AC.seq (AC.region [⟨some 31, AOp.load (some 4)
  (AX.t 4), none, 0⟩, ⟨some 32, AOp.cvStrBytes 5 (AX.c (AV.str [13, 13, 10])), none, 0⟩, ⟨some 33, AOp.cvMark (AX.t 32), none, 1⟩, ⟨some 34, AOp.call (AX.c (AV.fn 16 [])) [AX.t 31, AX.t 33], none, 1⟩,
  ⟨some 30, AOp.mv (AX.t 34), none, 1⟩, ⟨some 35, AOp.ext (AX.t 30) 0, none, 1⟩, ⟨some 36, AOp.ext (AX.t 30) 1, none, 1⟩, ⟨some 6, AOp.alloc [AV.int (IntKind.i64) 0, AV.str [], AV.bool false, AV.bool
  false], none, 1⟩, ⟨none, AOp.store 4 (AX.t 6) (AX.t 35), none, 2⟩, ⟨some 7, AOp.mv (AX.t 36), none, 2⟩] 2 false []) (AC.seq (AC.region [⟨some 38, AOp.call (AX.c (AV.fn 15 [])) [AX.c (AV.int
  (IntKind.i64) 0)], none, 0⟩, ⟨some 37, AOp.mv (AX.t 38), none, 0⟩, ⟨some 39, AOp.ext (AX.t 37) 0, none, 0⟩, ⟨some 40, AOp.ext (AX.t 37) 1, none, 0⟩, ⟨some 8, AOp.alloc [AV.int (IntKind.i64) 0, AV.str
  [], AV.bool false, AV.bool false], none, 0⟩, ⟨none, AOp.store 4 (AX.t 8) (AX.t 39), none, 1⟩, ⟨some 9, AOp.mv (AX.t 40), none, 1⟩] 1 false []) (AC.seq (AC.region [⟨some 42, AOp.call (AX.c (AV.fn 15
  [])) [AX.c (AV.int (IntKind.i64) 2001)], none, 0⟩, ⟨some 41, AOp.mv (AX.t 42), none, 0⟩, ⟨some 43, AOp.ext (AX.t 41) 0, none, 0⟩, ⟨some 44, AOp.ext (AX.t 41) 1, none, 0⟩, ⟨some 10, AOp.alloc [AV.int
  (IntKind.i64) 0, AV.str [], AV.bool false, AV.bool false], none, 0⟩, ⟨none, AOp.store 4 (AX.t 10) (AX.t 43), none, 1⟩, ⟨some 11, AOp.mv (AX.t 44), none, 1⟩] 1 false []) (AC.seq (AC.region [⟨some 45,
  AOp.mv (AX.t 2), none, 0⟩, ⟨some 46, AOp.bin (BinOp.eql) (AX.t 45) (AX.c (AV.int (IntKind.i64) 0)), none, 0⟩, ⟨some 47, AOp.mv (AX.t 46), none, 0⟩, ⟨some 48, AOp.mv (AX.t 9), some (47, true), 0⟩, ⟨some
  49, AOp.bin (BinOp.eql) (AX.t 48) (AX.c (AV.int (IntKind.i64) 2)), some (47, true), 0⟩, ⟨some 50, AOp.pick (AX.t 47) (AX.t 49) (AX.c (AV.bool false)), none, 0⟩, ⟨some 51, AOp.mv (AX.t 50), none, 0⟩,
  ⟨some 52, AOp.mv (AX.t 11), some (51, true), 0⟩, ⟨some 53, AOp.bin (BinOp.eql) (AX.t 52) (AX.c (AV.int (IntKind.i64) 2)), some (51, true), 0⟩, ⟨some 54, AOp.pick (AX.t 51) (AX.t 53) (AX.c (AV.bool
  false)), none, 0⟩, ⟨some 55, AOp.mv (AX.t 54), none, 0⟩, ⟨some 56, AOp.mv (AX.t 3), some (55, true), 0⟩, ⟨some 57, AOp.build [AV.str [], AV.bool false] [(0, 1, AX.c (AV.str [97, 98]))], some (55,
  true), 0⟩, ⟨some 58, AOp.bslice 2 [AX.t 57], some (55, true), 0⟩, ⟨some 59, AOp.call (AX.c (AV.fn 9 [])) [AX.t 56, AX.t 58], some (55, true), 0⟩, ⟨some 60, AOp.pick (AX.t 55) (AX.t 59) (AX.c (AV.bool
  false)), none, 0⟩, ⟨some 61, AOp.mv (AX.t 60), none, 0⟩, ⟨some 62, AOp.load (some 4) (AX.t 1), some (61, true), 0⟩, ⟨some 63, AOp.build [AV.int (IntKind.i64) 0, AV.str [], AV.bool false, AV.bool false]
  [(0, 1, AX.c (AV.int (IntKind.i64) 4)), (1, 1, AX.c (AV.str [99, 100, 101, 102])), (2, 1, AX.c (AV.bool true)), (3, 1, AX.c (AV.bool true))], some (61, true), 0⟩, ⟨some 64, AOp.eq false (some 4) [(0,
  LK.int), (1, LK.str), (2, LK.bool), (3, LK.bool)] (AX.t 62) (AX.t 63), some (61, true), 0⟩, ⟨some 65, AOp.pick (AX.t 61) (AX.t 64) (AX.c (AV.bool false)), none, 0⟩, ⟨some 66, AOp.mv (AX.t 65), none,
  0⟩, ⟨some 67, AOp.mv (AX.t 5), some (66, true), 0⟩, ⟨some 68, AOp.build [AV.str [], AV.bool false] [(0, 1, AX.c (AV.str [99, 100, 101, 102])), (1, 1, AX.c (AV.bool true))], some (66, true), 0⟩, ⟨some
  69, AOp.bslice 2 [AX.t 68], some (66, true), 0⟩, ⟨some 70, AOp.call (AX.c (AV.fn 9 [])) [AX.t 67, AX.t 69], some (66, true), 0⟩, ⟨some 71, AOp.pick (AX.t 66) (AX.t 70) (AX.c (AV.bool false)), none, 0⟩,
  ⟨some 72, AOp.mv (AX.t 71), none, 0⟩, ⟨some 73, AOp.mv (AX.t 7), some (72, true), 0⟩, ⟨some 74, AOp.build [AV.str [], AV.bool false] [(0, 1, AX.c (AV.str [13]))], some (72, true), 0⟩, ⟨some 75,
  AOp.bslice 2 [AX.t 74], some (72, true), 0⟩, ⟨some 76, AOp.call (AX.c (AV.fn 9 [])) [AX.t 73, AX.t 75], some (72, true), 0⟩, ⟨some 77, AOp.pick (AX.t 72) (AX.t 76) (AX.c (AV.bool false)), none, 0⟩,
  ⟨some 78, AOp.mv (AX.t 77), none, 0⟩, ⟨some 79, AOp.load (some 4) (AX.t 6), some (78, true), 0⟩, ⟨some 80, AOp.build [AV.int (IntKind.i64) 0, AV.str [], AV.bool false, AV.bool false] [(0, 1, AX.c
  (AV.int (IntKind.i64) 4))], some (78, true), 0⟩, ⟨some 81, AOp.eq false (some 4) [(0, LK.int), (1, LK.str), (2, LK.bool), (3, LK.bool)] (AX.t 79) (AX.t 80), some (78, true), 0⟩, ⟨some 82, AOp.pick
  (AX.t 78) (AX.t 81) (AX.c (AV.bool false)), none, 0⟩, ⟨some 83, AOp.mv (AX.t 82), none, 0⟩, ⟨some 84, AOp.load (some 4) (AX.t 1), some (83, true), 0⟩, ⟨some 85, AOp.call (AX.c (AV.fn 12 [])) [AX.t 84],
  some (83, true), 0⟩, ⟨some 86, AOp.bin (BinOp.eql) (AX.t 85) (AX.c (AV.str [99, 100, 101, 102, 13])), some (83, true), 0⟩, ⟨some 87, AOp.pick (AX.t 83) (AX.t 86) (AX.c (AV.bool false)), none, 0⟩, ⟨some
  0, AOp.mv (AX.t 87), none, 0⟩] 0 false []) AC.ret)))))))
theorem wB7 {O : Orc} {Q : Ex → Slots → Heap → Prop} {σ : Slots} {h : Heap} : Wp O B7 Q σ h = Wp O (AC.seq (AC.region [⟨some 0, AOp.mv (AX.c (AV.bool false)), none, 0⟩] 0 false []) (AC.seq (AC.region [⟨some 13, AOp.call (AX.c (AV.fn 15 [])) [AX.c (AV.int (IntKind.i64) 4)], none, 0⟩, ⟨some 12, AOp.mv
  (AX.t 13), none, 0⟩, ⟨some 14, AOp.ext (AX.t 12) 0, none, 0⟩, ⟨some 15, AOp.ext (AX.t 12) 1, none, 0⟩, ⟨some 1, AOp.alloc [AV.int (IntKind.i64) 0, AV.str [], AV.bool false, AV.bool false], none, 0⟩,
  ⟨none, AOp.store 4 (AX.t 1) (AX.t 14), none, 1⟩, ⟨some 2, AOp.mv (AX.t 15), none, 1⟩] 1 false []) (AC.seq (AC.region [⟨some 17, AOp.load (some 4) (AX.t 1), none, 0⟩, ⟨some 18, AOp.cvStrBytes 5 (AX.c
  (AV.str [97, 98, 13, 10, 99, 100, 101, 102, 103, 104, 13])), none, 0⟩, ⟨some 19, AOp.cvMark (AX.t 18), none, 1⟩, ⟨some 20, AOp.call (AX.c (AV.fn 16 [])) [AX.t 17, AX.t 19], none, 1⟩, ⟨some 16, AOp.mv
  (AX.t 20), none, 1⟩, ⟨some 21, AOp.ext (AX.t 16) 0, none, 1⟩, ⟨some 22, AOp.ext (AX.t 16) 1, none, 1⟩, ⟨none, AOp.store 4 (AX.t 1) (AX.t 21), none, 1⟩, ⟨some 3, AOp.mv (AX.t 22), none, 1⟩] 1 false [])
  (AC.seq (AC.region [⟨some 24, AOp.load (some 4) (AX.t 1), none, 0⟩, ⟨some 25, AOp.cvStrBytes 5 (AX.c (AV.str [10])), none, 0⟩, ⟨some 26, AOp.cvMark (AX.t 25), none, 1⟩, ⟨some 27, AOp.call (AX.c (AV.fn
  16 [])) [AX.t 24, AX.t 26], none, 1⟩, ⟨some 23, AOp.mv (AX.t 27), none, 1⟩, ⟨some 28, AOp.ext (AX.t 23) 0, none, 1⟩, ⟨some 29, AOp.ext (AX.t 23) 1, none, 1⟩, ⟨some 4, AOp.alloc [AV.int (IntKind.i64) 0,
  AV.str [], AV.bool false, AV.bool false], none, 1⟩, ⟨none, AOp.store 4 (AX.t 4) (AX.t 28), none, 2⟩, ⟨some 5, AOp.mv (AX.t 29), none, 2⟩] 2 false []) (AC.seq (AC.region [⟨some 31, AOp.load (some 4)
  (AX.t 4), none, 0⟩, ⟨some 32, AOp.cvStrBytes 5 (AX.c (AV.str [13, 13, 10])), none, 0⟩, ⟨some 33, AOp.cvMark (AX.t 32), none, 1⟩, ⟨some 34, AOp.call (AX.c (AV.fn 16 [])) [AX.t 31, AX.t 33], none, 1⟩,
  ⟨some 30, AOp.mv (AX.t 34), none, 1⟩, ⟨some 35, AOp.ext (AX.t 30) 0, none, 1⟩, ⟨some 36, AOp.ext (AX.t 30) 1, none, 1⟩, ⟨some 6, AOp.alloc [AV.int (IntKind.i64) 0, AV.str [], AV.bool false, AV.bool
  false], none, 1⟩, ⟨none, AOp.store 4 (AX.t 6) (AX.t 35), none, 2⟩, ⟨some 7, AOp.mv (AX.t 36), none, 2⟩] 2 false []) (AC.seq (AC.region [⟨some 38, AOp.call (AX.c (AV.fn 15 [])) [AX.c (AV.int
  (IntKind.i64) 0)], none, 0⟩, ⟨some 37, AOp.mv (AX.t 38), none, 0⟩, ⟨some 39, AOp.ext (AX.t 37) 0, none, 0⟩, ⟨some 40, AOp.ext (AX.t 37) 1, none, 0⟩, ⟨some 8, AOp.alloc [AV.int (IntKind.i64) 0, AV.str
  [], AV.bool false, AV.bool false], none, 0⟩, ⟨none, AOp.store 4 (AX.t 8) (AX.t 39), none, 1⟩, ⟨some 9, AOp.mv (AX.t 40), none, 1⟩] 1 false []) (AC.seq (AC.region [⟨some 42, AOp.call (AX.c (AV.fn 15
  [])) [AX.c (AV.int (IntKind.i64) 2001)], none, 0⟩, ⟨some 41, AOp.mv (AX.t 42), none, 0⟩, ⟨some 43, AOp.ext (AX.t 41) 0, none, 0⟩, ⟨some 44, AOp.ext (AX.t 41) 1, none, 0⟩, ⟨some 10, AOp.alloc [AV.int
  (IntKind.i64) 0, AV.str [], AV.bool false, AV.bool false], none, 0⟩, ⟨none, AOp.store 4 (AX.t 10) (AX.t 43), none, 1⟩, ⟨some 11, AOp.mv (AX.t 44), none, 1⟩] 1 false []) (AC.seq (AC.region [⟨some 45,
  AOp.mv (AX.t 2), none, 0⟩, ⟨some 46, AOp.bin (BinOp.eql) (AX.t 45) (AX.c (AV.int (IntKind.i64) 0)), none, 0⟩, ⟨some 47, AOp.mv (AX.t 46), none, 0⟩, ⟨some 48, AOp.mv (AX.t 9), some (47, true), 0⟩, ⟨some
  49, AOp.bin (BinOp.eql) (AX.t 48) (AX.c (AV.int (IntKind.i64) 2)), some (47, true), 0⟩, ⟨some 50, AOp.pick (AX.t 47) (AX.t 49) (AX.c (AV.bool false)), none, 0⟩, ⟨some 51, AOp.mv (AX.t 50), none, 0⟩,
  ⟨some 52, AOp.mv (AX.t 11), some (51, true), 0⟩, ⟨some 53, AOp.bin (BinOp.eql) (AX.t 52) (AX.c (AV.int (IntKind.i64) 2)), some (51, true), 0⟩, ⟨some 54, AOp.pick (AX.t 51) (AX.t 53) (AX.c (AV.bool
  false)), none, 0⟩, ⟨some 55, AOp.mv (AX.t 54), none, 0⟩, ⟨some 56, AOp.mv (AX.t 3), some (55, true), 0⟩, ⟨some 57, AOp.build [AV.str [], AV.bool false] [(0, 1, AX.c (AV.str [97, 98]))], some (55,
  true), 0⟩, ⟨some 58, AOp.bslice 2 [AX.t 57], some (55, true), 0⟩, ⟨some 59, AOp.call (AX.c (AV.fn 9 [])) [AX.t 56, AX.t 58], some (55, true), 0⟩, ⟨some 60, AOp.pick (AX.t 55) (AX.t 59) (AX.c (AV.bool
  false)), none, 0⟩, ⟨some 61, AOp.mv (AX.t 60), none, 0⟩, ⟨some 62, AOp.load (some 4) (AX.t 1), some (61, true), 0⟩, ⟨some 63, AOp.build [AV.int (IntKind.i64) 0, AV.str [], AV.bool false, AV.bool false]
  [(0, 1, AX.c (AV.int (IntKind.i64) 4)), (1, 1, AX.c (AV.str [99, 100, 101, 102])), (2, 1, AX.c (AV.bool true)), (3, 1, AX.c (AV.bool true))], some (61, true), 0⟩, ⟨some 64, AOp.eq false (some 4) [(0,
  LK.int), (1, LK.str), (2, LK.bool), (3, LK.bool)] (AX.t 62) (AX.t 63), some (61, true), 0⟩, ⟨some 65, AOp.pick (AX.t 61) (AX.t 64) (AX.c (AV.bool false)), none, 0⟩, ⟨some 66, AOp.mv (AX.t 65), none,
  0⟩, ⟨some 67, AOp.mv (AX.t 5), some (66, true), 0⟩, ⟨some 68, AOp.build [AV.str [], AV.bool false] [(0, 1, AX.c (AV.str [99, 100, 101, 102])), (1, 1, AX.c (AV.bool true))], some (66, true), 0⟩, ⟨some
  69, AOp.bslice 2 [AX.t 68], some (66, true), 0⟩, ⟨some 70, AOp.call (AX.c (AV.fn 9 [])) [AX.t 67, AX.t 69], some (66, true), 0⟩, ⟨some 71, AOp.pick (AX.t 66) (AX.t 70) (AX.c (AV.bool false)), none, 0⟩,
  ⟨some 72, AOp.mv (AX.t 71), none, 0⟩, ⟨some 73, AOp.mv (AX.t 7), some (72, true), 0⟩, ⟨some 74, AOp.build [AV.str [], AV.bool false] [(0, 1, AX.c (AV.str [13]))], some (72, true), 0⟩, ⟨some 75,
  AOp.bslice 2 [AX.t 74], some (72, true), 0⟩, ⟨some 76, AOp.call (AX.c (AV.fn 9 [])) [AX.t 73, AX.t 75], some (72, true), 0⟩, ⟨some 77, AOp.pick (AX.t 72) (AX.t 76) (AX.c (AV.bool false)), none, 0⟩,
  ⟨some 78, AOp.mv (AX.t 77), none, 0⟩, ⟨some 79, AOp.load (some 4) (AX.t 6), some (78, true), 0⟩, ⟨some 80, AOp.build [AV.int (IntKind.i64) 0, AV.str [], AV.bool false, AV.bool false] [(0, 1, AX.c
  (AV.int (IntKind.i64) 4))], some (78, true), 0⟩, ⟨some 81, AOp.eq false (some 4) [(0, LK.int), (1, LK.str), (2, LK.bool), (3, LK.bool)] (AX.t 79) (AX.t 80), some (78, true), 0⟩, ⟨some 82, AOp.pick
  (AX.t 78) (AX.t 81) (AX.c (AV.bool false)), none, 0⟩, ⟨some 83, AOp.mv (AX.t 82), none, 0⟩, ⟨some 84, AOp.load (some 4) (AX.t 1), some (83, true), 0⟩, ⟨some 85, AOp.call (AX.c (AV.fn 12 [])) [AX.t 84],
  some (83, true), 0⟩, ⟨some 86, AOp.bin (BinOp.eql) (AX.t 85) (AX.c (AV.str [99, 100, 101, 102, 13])), some (83, true), 0⟩, ⟨some 87, AOp.pick (AX.t 83) (AX.t 86) (AX.c (AV.bool false)), none, 0⟩, ⟨some
  0, AOp.mv (AX.t 87), none, 0⟩] 0 false []) AC.ret)))))))) Q σ h := rfl
def F7 : AF := ⟨B7, [ARes.tmp 0], false⟩
theorem tab7 : T 7 = some F7 := by kernel_rfl
/-- franking/frankinglaw12.all -/
def J8_0 : AC :=
  AC.seq (AC.region [⟨some 14, AOp.mv (AX.c (AV.list 2 [] (Rt.full))), none, 0⟩] 0 false []) (AC.seq (AC.region [⟨some 42, AOp.load (some 4) (AX.t 9), none, 0⟩, ⟨some 43, AOp.mv (AX.t 1), none, 0⟩, ⟨some
  44, AOp.mv (AX.t 13), none, 0⟩, ⟨some 45, AOp.slice 1 (AX.t 43) none (some (AX.t 44)) none, none, 0⟩, ⟨some 46, AOp.call (AX.c (AV.fn 16 [])) [AX.t 42, AX.t 45], none, 0⟩, ⟨some 41, AOp.mv (AX.t 46),
  none, 0⟩, ⟨some 47, AOp.ext (AX.t 41) 0, none, 0⟩, ⟨some 48, AOp.ext (AX.t 41) 1, none, 0⟩, ⟨none, AOp.store 4 (AX.t 9) (AX.t 47), none, 0⟩, ⟨some 14, AOp.mv (AX.t 48), none, 0⟩] 0 true []) (AC.seq
  (AC.region [⟨some 49, AOp.mv (AX.t 11), none, 0⟩, ⟨some 50, AOp.mv (AX.t 14), none, 0⟩, ⟨some 51, AOp.append 2 24 34 (AX.t 49) (AX.t 50), none, 0⟩, ⟨some 11, AOp.mv (AX.t 51), none, 1⟩] 1 false [])
  (AC.region [⟨some 52, AOp.mv (AX.t 1), none, 0⟩, ⟨some 53, AOp.mv (AX.t 13), none, 0⟩, ⟨some 54, AOp.slice 1 (AX.t 52) (some (AX.t 53)) none none, none, 0⟩, ⟨some 1, AOp.mv (AX.t 54), none, 0⟩] 0 false
  [])))
theorem wJ8_0 {O : Orc} {Q : Ex → Slots → Heap → Prop} {σ : Slots} {h : Heap} : Wp O J8_0 Q σ h = Wp O (AC.seq (AC.region [⟨some 14, AOp.mv (AX.c (AV.list 2 [] (Rt.full))), none, 0⟩] 0 false []) (AC.seq (AC.region [⟨some 42, AOp.load (some 4) (AX.t 9), none, 0⟩, ⟨some 43, AOp.mv (AX.t 1), none, 0⟩, ⟨some
  44, AOp.mv (AX.t 13), none, 0⟩, ⟨some 45, AOp.slice 1 (AX.t 43) none (some (AX.t 44)) none, none, 0⟩, ⟨some 46, AOp.call (AX.c (AV.fn 16 [])) [AX.t 42, AX.t 45], none, 0⟩, ⟨some 41, AOp.mv (AX.t 46),
  none, 0⟩, ⟨some 47, AOp.ext (AX.t 41) 0, none, 0⟩, ⟨some 48, AOp.ext (AX.t 41) 1, none, 0⟩, ⟨none, AOp.store 4 (AX.t 9) (AX.t 47), none, 0⟩, ⟨some 14, AOp.mv (AX.t 48), none, 0⟩] 0 true []) (AC.seq
  (AC.region [⟨some 49, AOp.mv (AX.t 11), none, 0⟩, ⟨some 50, AOp.mv (AX.t 14), none, 0⟩, ⟨some 51, AOp.append 2 24 34 (AX.t 49) (AX.t 50), none, 0⟩, ⟨some 11, AOp.mv (AX.t 51), none, 1⟩] 1 false [])
  (AC.region [⟨some 52, AOp.mv (AX.t 1), none, 0⟩, ⟨some 53, AOp.mv (AX.t 13), none, 0⟩, ⟨some 54, AOp.slice 1 (AX.t 52) (some (AX.t 53)) none none, none, 0⟩, ⟨some 1, AOp.mv (AX.t 54), none, 0⟩] 0 false
  [])))) Q σ h := rfl
def J8_1 : AC :=
  AC.region [⟨some 23, AOp.mv (AX.t 12), none, 0⟩, ⟨some 24, AOp.bin (BinOp.add) (AX.t 23) (AX.c (AV.int (IntKind.i64) 1)), none, 0⟩, ⟨some 12, AOp.mv (AX.t 24), none, 0⟩] 0 false []
theorem wJ8_1 {O : Orc} {Q : Ex → Slots → Heap → Prop} {σ : Slots} {h : Heap} : Wp O J8_1 Q σ h = Wp O (AC.region [⟨some 23, AOp.mv (AX.t 12), none, 0⟩, ⟨some 24, AOp.bin (BinOp.add) (AX.t 23) (AX.c (AV.int (IntKind.i64) 1)), none, 0⟩, ⟨some 12, AOp.mv (AX.t 24), none, 0⟩] 0 false []) Q σ h := rfl
def L8_0 : AC :=
  AC.seq (AC.seq (AC.region [⟨some 20, AOp.mv (AX.t 1), none, 0⟩, ⟨some 21, AOp.len (AX.t 20), none, 0⟩, ⟨some 22, AOp.bin (BinOp.gtr) (AX.t 21) (AX.c (AV.int (IntKind.i64) 0)), none, 0⟩] 0 false [])
  (AC.cond (AX.t 22) AC.skip (AC.exit 0))) (AC.seq (AC.block 1 (AC.seq (AC.region [⟨some 25, AOp.mv (AX.t 1), none, 0⟩, ⟨some 26, AOp.len (AX.t 25), none, 0⟩, ⟨some 13, AOp.mv (AX.t 26), none, 0⟩] 0
  false []) (AC.seq (AC.seq (AC.region [⟨some 27, AOp.mv (AX.t 2), none, 0⟩, ⟨some 28, AOp.len (AX.t 27), none, 0⟩, ⟨some 29, AOp.bin (BinOp.gtr) (AX.t 28) (AX.c (AV.int (IntKind.i64) 0)), none, 0⟩] 0
  false []) (AC.cond (AX.t 29) (AC.region [⟨some 30, AOp.mv (AX.t 13), none, 0⟩, ⟨some 31, AOp.mv (AX.t 2), none, 0⟩, ⟨some 32, AOp.mv (AX.t 12), none, 0⟩, ⟨some 33, AOp.mv (AX.t 2), none, 0⟩, ⟨some 34,
  AOp.len (AX.t 33), none, 0⟩, ⟨some 35, AOp.bin (BinOp.rem) (AX.t 32) (AX.t 34), none, 0⟩, ⟨some 36, AOp.idx 1 (AX.t 31) (AX.t 35), none, 0⟩, ⟨some 37, AOp.load none (AX.t 36), none, 0⟩, ⟨some 38,
  AOp.cvInt (IntKind.i64) (AX.t 37), none, 0⟩, ⟨some 39, AOp.bin (BinOp.add) (AX.c (AV.int (IntKind.i64) 1)) (AX.t 38), none, 0⟩, ⟨some 40, AOp.min (AX.t 30) (AX.t 39), none, 0⟩, ⟨some 13, AOp.mv (AX.t
  40), none, 0⟩] 0 false []) AC.skip)) J8_0))) J8_1)
theorem wL8_0 {O : Orc} {Q : Ex → Slots → Heap → Prop} {σ : Slots} {h : Heap} : Wp O L8_0 Q σ h = Wp O (AC.seq (AC.seq (AC.region [⟨some 20, AOp.mv (AX.t 1), none, 0⟩, ⟨some 21, AOp.len (AX.t 20), none, 0⟩, ⟨some 22, AOp.bin (BinOp.gtr) (AX.t 21) (AX.c (AV.int (IntKind.i64) 0)), none, 0⟩] 0 false [])
  (AC.cond (AX.t 22) AC.skip (AC.exit 0))) (AC.seq (AC.block 1 (AC.seq (AC.region [⟨some 25, AOp.mv (AX.t 1), none, 0⟩, ⟨some 26, AOp.len (AX.t 25), none, 0⟩, ⟨some 13, AOp.mv (AX.t 26), none, 0⟩] 0
  false []) (AC.seq (AC.seq (AC.region [⟨some 27, AOp.mv (AX.t 2), none, 0⟩, ⟨some 28, AOp.len (AX.t 27), none, 0⟩, ⟨some 29, AOp.bin (BinOp.gtr) (AX.t 28) (AX.c (AV.int (IntKind.i64) 0)), none, 0⟩] 0
  false []) (AC.cond (AX.t 29) (AC.region [⟨some 30, AOp.mv (AX.t 13), none, 0⟩, ⟨some 31, AOp.mv (AX.t 2), none, 0⟩, ⟨some 32, AOp.mv (AX.t 12), none, 0⟩, ⟨some 33, AOp.mv (AX.t 2), none, 0⟩, ⟨some 34,
  AOp.len (AX.t 33), none, 0⟩, ⟨some 35, AOp.bin (BinOp.rem) (AX.t 32) (AX.t 34), none, 0⟩, ⟨some 36, AOp.idx 1 (AX.t 31) (AX.t 35), none, 0⟩, ⟨some 37, AOp.load none (AX.t 36), none, 0⟩, ⟨some 38,
  AOp.cvInt (IntKind.i64) (AX.t 37), none, 0⟩, ⟨some 39, AOp.bin (BinOp.add) (AX.c (AV.int (IntKind.i64) 1)) (AX.t 38), none, 0⟩, ⟨some 40, AOp.min (AX.t 30) (AX.t 39), none, 0⟩, ⟨some 13, AOp.mv (AX.t
  40), none, 0⟩] 0 false []) AC.skip)) J8_0))) J8_1)) Q σ h := rfl
def K8_0 : AC :=
  AC.seq (AC.region [⟨some 55, AOp.load (some 4) (AX.t 9), none, 0⟩, ⟨some 56, AOp.mv (AX.t 11), none, 0⟩, ⟨some 57, AOp.mv (AX.t 10), none, 0⟩, ⟨some 58, AOp.bin (BinOp.eql) (AX.t 57) (AX.c (AV.int
  (IntKind.i64) 0)), none, 0⟩, ⟨none, AOp.store 4 (AX.t 6) (AX.t 55), none, 0⟩, ⟨some 7, AOp.mv (AX.t 56), none, 0⟩, ⟨some 8, AOp.mv (AX.t 58), none, 0⟩] 0 false []) AC.ret
theorem wK8_0 {O : Orc} {Q : Ex → Slots → Heap → Prop} {σ : Slots} {h : Heap} : Wp O K8_0 Q σ h = Wp O (AC.seq (AC.region [⟨some 55, AOp.load (some 4) (AX.t 9), none, 0⟩, ⟨some 56, AOp.mv (AX.t 11), none, 0⟩, ⟨some 57, AOp.mv (AX.t 10), none, 0⟩, ⟨some 58, AOp.bin (BinOp.eql) (AX.t 57) (AX.c (AV.int
  (IntKind.i64) 0)), none, 0⟩, ⟨none, AOp.store 4 (AX.t 6) (AX.t 55), none, 0⟩, ⟨some 7, AOp.mv (AX.t 56), none, 0⟩, ⟨some 8, AOp.mv (AX.t 58), none, 0⟩] 0 false []) AC.ret) Q σ h := rfl
def B8 : AC :=
  AC.seq (AC.region [⟨some 6, AOp.alloc [AV.int (IntKind.i64) 0, AV.str [], AV.bool false, AV.bool false], none, 0⟩, ⟨some 7, AOp.mv (AX.c (AV.list 2 [] (Rt.full))), none, 1⟩, ⟨some 8, AOp.mv (AX.c
  (AV.bool false)), none, 1⟩] 1 false []) (AC.seq (AC.region [⟨some 16, AOp.mv (AX.t 0), none, 0⟩, ⟨some 17, AOp.call (AX.c (AV.fn 15 [])) [AX.t 16], none, 0⟩, ⟨some 15, AOp.mv (AX.t 17), none, 0⟩, ⟨some
  18, AOp.ext (AX.t 15) 0, none, 0⟩, ⟨some 19, AOp.ext (AX.t 15) 1, none, 0⟩, ⟨some 9, AOp.alloc [AV.int (IntKind.i64) 0, AV.str [], AV.bool false, AV.bool false], none, 0⟩, ⟨none, AOp.store 4 (AX.t 9)
  (AX.t 18), none, 1⟩, ⟨some 10, AOp.mv (AX.t 19), none, 1⟩] 1 false []) (AC.seq (AC.region [⟨some 11, AOp.mv (AX.c (AV.list 2 [] (Rt.full))), none, 0⟩] 0 false []) (AC.seq (AC.seq (AC.region [⟨some 12,
  AOp.mv (AX.c (AV.int (IntKind.i64) 0)), none, 0⟩] 0 false []) (AC.block 0 (AC.loop L8_0))) K8_0)))
theorem wB8 {O : Orc} {Q : Ex → Slots → Heap → Prop} {σ : Slots} {h : Heap} : Wp O B8 Q σ h = Wp O (AC.seq (AC.region [⟨some 6, AOp.alloc [AV.int (IntKind.i64) 0, AV.str [], AV.bool false, AV.bool false], none, 0⟩, ⟨some 7, AOp.mv (AX.c (AV.list 2 [] (Rt.full))), none, 1⟩, ⟨some 8, AOp.mv (AX.c
  (AV.bool false)), none, 1⟩] 1 false []) (AC.seq (AC.region [⟨some 16, AOp.mv (AX.t 0), none, 0⟩, ⟨some 17, AOp.call (AX.c (AV.fn 15 [])) [AX.t 16], none, 0⟩, ⟨some 15, AOp.mv (AX.t 17), none, 0⟩, ⟨some
  18, AOp.ext (AX.t 15) 0, none, 0⟩, ⟨some 19, AOp.ext (AX.t 15) 1, none, 0⟩, ⟨some 9, AOp.alloc [AV.int (IntKind.i64) 0, AV.str [], AV.bool false, AV.bool false], none, 0⟩, ⟨none, AOp.store 4 (AX.t 9)
  (AX.t 18), none, 1⟩, ⟨some 10, AOp.mv (AX.t 19), none, 1⟩] 1 false []) (AC.seq (AC.region [⟨some 11, AOp.mv (AX.c (AV.list 2 [] (Rt.full))), none, 0⟩] 0 false []) (AC.seq (AC.seq (AC.region [⟨some 12,
  AOp.mv (AX.c (AV.int (IntKind.i64) 0)), none, 0⟩] 0 false []) (AC.block 0 (AC.loop L8_0))) K8_0)))) Q σ h := rfl
def F8 : AF := ⟨B8, [ARes.cell 6 (some 4), ARes.tmp 7, ARes.tmp 8], false⟩
theorem tab8 : T 8 = some F8 := by kernel_rfl
/-- franking/frankinglaw12.Same -/
def L9_0 : AC :=
  AC.seq (AC.region [⟨some 14, AOp.bin (BinOp.lss) (AX.t 13) (AX.t 12), none, 0⟩] 0 false []) (AC.seq (AC.cond (AX.t 14) AC.skip (AC.exit 0)) (AC.seq (AC.block 1 (AC.seq (AC.region [⟨some 15, AOp.mv
  (AX.t 13), none, 0⟩, ⟨some 5, AOp.mv (AX.t 15), none, 0⟩] 0 false []) (AC.seq (AC.region [⟨some 16, AOp.mv (AX.t 0), none, 0⟩, ⟨some 17, AOp.mv (AX.t 5), none, 0⟩, ⟨some 18, AOp.idx 2 (AX.t 16) (AX.t
  17), none, 0⟩, ⟨some 19, AOp.load (some 2) (AX.t 18), none, 0⟩, ⟨some 20, AOp.mv (AX.t 1), none, 0⟩, ⟨some 21, AOp.mv (AX.t 5), none, 0⟩, ⟨some 22, AOp.idx 2 (AX.t 20) (AX.t 21), none, 0⟩, ⟨some 23,
  AOp.load (some 2) (AX.t 22), none, 0⟩, ⟨some 24, AOp.eq true (some 2) [(0, LK.str), (1, LK.bool)] (AX.t 19) (AX.t 23), none, 0⟩] 0 true []) (AC.cond (AX.t 24) (AC.seq (AC.region [⟨some 4, AOp.mv (AX.c
  (AV.bool false)), none, 0⟩] 0 false []) AC.ret) AC.skip)))) (AC.region [⟨some 25, AOp.bin (BinOp.add) (AX.t 13) (AX.c (AV.int (IntKind.i64) 1)), none, 0⟩, ⟨some 13, AOp.mv (AX.t 25), none, 0⟩] 0 false
  [])))
theorem wL9_0 {O : Orc} {Q : Ex → Slots → Heap → Prop} {σ : Slots} {h : Heap} : Wp O L9_0 Q σ h = Wp O (AC.seq (AC.region [⟨some 14, AOp.bin (BinOp.lss) (AX.t 13) (AX.t 12), none, 0⟩] 0 false []) (AC.seq (AC.cond (AX.t 14) AC.skip (AC.exit 0)) (AC.seq (AC.block 1 (AC.seq (AC.region [⟨some 15, AOp.mv
  (AX.t 13), none, 0⟩, ⟨some 5, AOp.mv (AX.t 15), none, 0⟩] 0 false []) (AC.seq (AC.region [⟨some 16, AOp.mv (AX.t 0), none, 0⟩, ⟨some 17, AOp.mv (AX.t 5), none, 0⟩, ⟨some 18, AOp.idx 2 (AX.t 16) (AX.t
  17), none, 0⟩, ⟨some 19, AOp.load (some 2) (AX.t 18), none, 0⟩, ⟨some 20, AOp.mv (AX.t 1), none, 0⟩, ⟨some 21, AOp.mv (AX.t 5), none, 0⟩, ⟨some 22, AOp.idx 2 (AX.t 20) (AX.t 21), none, 0⟩, ⟨some 23,
  AOp.load (some 2) (AX.t 22), none, 0⟩, ⟨some 24, AOp.eq true (some 2) [(0, LK.str), (1, LK.bool)] (AX.t 19) (AX.t 23), none, 0⟩] 0 true []) (AC.cond (AX.t 24) (AC.seq (AC.region [⟨some 4, AOp.mv (AX.c
  (AV.bool false)), none, 0⟩] 0 false []) AC.ret) AC.skip)))) (AC.region [⟨some 25, AOp.bin (BinOp.add) (AX.t 13) (AX.c (AV.int (IntKind.i64) 1)), none, 0⟩, ⟨some 13, AOp.mv (AX.t 25), none, 0⟩] 0 false
  [])))) Q σ h := rfl
def K9_0 : AC :=
  AC.seq (AC.region [⟨some 4, AOp.mv (AX.c (AV.bool true)), none, 0⟩] 0 false []) AC.ret
theorem wK9_0 {O : Orc} {Q : Ex → Slots → Heap → Prop} {σ : Slots} {h : Heap} : Wp O K9_0 Q σ h = Wp O (AC.seq (AC.region [⟨some 4, AOp.mv (AX.c (AV.bool true)), none, 0⟩] 0 false []) AC.ret) Q σ h := rfl
def B9 : AC :=
  AC.seq (AC.region [⟨some 4, AOp.mv (AX.c (AV.bool false)), none, 0⟩] 0 false []) (AC.seq (AC.seq (AC.region [⟨some 6, AOp.mv (AX.t 0), none, 0⟩, ⟨some 7, AOp.len (AX.t 6), none, 0⟩, ⟨some 8, AOp.mv
  (AX.t 1), none, 0⟩, ⟨some 9, AOp.len (AX.t 8), none, 0⟩, ⟨some 10, AOp.bin (BinOp.neq) (AX.t 7) (AX.t 9), none, 0⟩] 0 false []) (AC.cond (AX.t 10) (AC.seq (AC.region [⟨some 4, AOp.mv (AX.c (AV.bool
  false)), none, 0⟩] 0 false []) AC.ret) AC.skip)) (AC.seq (AC.seq (AC.region [⟨some 11, AOp.mv (AX.t 0), none, 0⟩, ⟨some 12, AOp.len (AX.t 11), none, 0⟩, ⟨some 13, AOp.mv (AX.c (AV.int (IntKind.i64)
  0)), none, 0⟩] 0 false []) (AC.block 0 (AC.loop L9_0))) K9_0))
theorem wB9 {O : Orc} {Q : Ex → Slots → Heap → Prop} {σ : Slots} {h : Heap} : Wp O B9 Q σ h = Wp O (AC.seq (AC.region [⟨some 4, AOp.mv (AX.c (AV.bool false)), none, 0⟩] 0 false []) (AC.seq (AC.seq (AC.region [⟨some 6, AOp.mv (AX.t 0), none, 0⟩, ⟨some 7, AOp.len (AX.t 6), none, 0⟩, ⟨some 8, AOp.mv
  (AX.t 1), none, 0⟩, ⟨some 9, AOp.len (AX.t 8), none, 0⟩, ⟨some 10, AOp.bin (BinOp.neq) (AX.t 7) (AX.t 9), none, 0⟩] 0 false []) (AC.cond (AX.t 10) (AC.seq (AC.region [⟨some 4, AOp.mv (AX.c (AV.bool
  false)), none, 0⟩] 0 false []) AC.ret) AC.skip)) (AC.seq (AC.seq (AC.region [⟨some 11, AOp.mv (AX.t 0), none, 0⟩, ⟨some 12, AOp.len (AX.t 11), none, 0⟩, ⟨some 13, AOp.mv (AX.c (AV.int (IntKind.i64)
  0)), none, 0⟩] 0 false []) (AC.block 0 (AC.loop L9_0))) K9_0))) Q σ h := rfl
def F9 : AF := ⟨B9, [ARes.tmp 4], false⟩
theorem tab9 : T 9 = some F9 := by kernel_rfl
/-- franking/frame.New -/
def B15 : AC :=
  AC.seq (AC.region [⟨some 2, AOp.alloc [AV.int (IntKind.i64) 0, AV.str [], AV.bool false, AV.bool false], none, 0⟩, ⟨some 3, AOp.mv (AX.c (AV.int (IntKind.i64) 0)), none, 1⟩] 1 false []) (AC.seq (AC.seq
  (AC.region [⟨some 4, AOp.mv (AX.t 0), none, 0⟩, ⟨some 5, AOp.bin (BinOp.lss) (AX.t 4) (AX.c (AV.int (IntKind.i64) 1)), none, 0⟩, ⟨some 6, AOp.mv (AX.t 5), none, 0⟩, ⟨some 7, AOp.mv (AX.t 0), some (6,
  false), 0⟩, ⟨some 8, AOp.bin (BinOp.gtr) (AX.t 7) (AX.c (AV.int (IntKind.i64) 2000)), some (6, false), 0⟩, ⟨some 9, AOp.pick (AX.t 6) (AX.c (AV.bool true)) (AX.t 8), none, 0⟩] 0 false []) (AC.cond
  (AX.t 9) (AC.seq (AC.region [⟨some 10, AOp.build [AV.int (IntKind.i64) 0, AV.str [], AV.bool false, AV.bool false] [], none, 0⟩, ⟨none, AOp.store 4 (AX.t 2) (AX.t 10), none, 0⟩, ⟨some 3, AOp.mv (AX.c
  (AV.int (IntKind.i64) 2)), none, 0⟩] 0 false []) AC.ret) AC.skip)) (AC.seq (AC.region [⟨some 11, AOp.mv (AX.t 0), none, 0⟩, ⟨some 12, AOp.build [AV.int (IntKind.i64) 0, AV.str [], AV.bool false,
  AV.bool false] [(0, 1, AX.t 11)], none, 0⟩, ⟨none, AOp.store 4 (AX.t 2) (AX.t 12), none, 0⟩, ⟨some 3, AOp.mv (AX.c (AV.int (IntKind.i64) 0)), none, 0⟩] 0 false []) AC.ret))
theorem wB15 {O : Orc} {Q : Ex → Slots → Heap → Prop} {σ : Slots} {h : Heap} : Wp O B15 Q σ h = Wp O (AC.seq (AC.region [⟨some 2, AOp.alloc [AV.int (IntKind.i64) 0, AV.str [], AV.bool false, AV.bool false], none, 0⟩, ⟨some 3, AOp.mv (AX.c (AV.int (IntKind.i64) 0)), none, 1⟩] 1 false []) (AC.seq (AC.seq
  (AC.region [⟨some 4, AOp.mv (AX.t 0), none, 0⟩, ⟨some 5, AOp.bin (BinOp.lss) (AX.t 4) (AX.c (AV.int (IntKind.i64) 1)), none, 0⟩, ⟨some 6, AOp.mv (AX.t 5), none, 0⟩, ⟨some 7, AOp.mv (AX.t 0), some (6,
  false), 0⟩, ⟨some 8, AOp.bin (BinOp.gtr) (AX.t 7) (AX.c (AV.int (IntKind.i64) 2000)), some (6, false), 0⟩, ⟨some 9, AOp.pick (AX.t 6) (AX.c (AV.bool true)) (AX.t 8), none, 0⟩] 0 false []) (AC.cond
  (AX.t 9) (AC.seq (AC.region [⟨some 10, AOp.build [AV.int (IntKind.i64) 0, AV.str [], AV.bool false, AV.bool false] [], none, 0⟩, ⟨none, AOp.store 4 (AX.t 2) (AX.t 10), none, 0⟩, ⟨some 3, AOp.mv (AX.c
  (AV.int (IntKind.i64) 2)), none, 0⟩] 0 false []) AC.ret) AC.skip)) (AC.seq (AC.region [⟨some 11, AOp.mv (AX.t 0), none, 0⟩, ⟨some 12, AOp.build [AV.int (IntKind.i64) 0, AV.str [], AV.bool false,
  AV.bool false] [(0, 1, AX.t 11)], none, 0⟩, ⟨none, AOp.store 4 (AX.t 2) (AX.t 12), none, 0⟩, ⟨some 3, AOp.mv (AX.c (AV.int (IntKind.i64) 0)), none, 0⟩] 0 false []) AC.ret))) Q σ h := rfl
def F15 : AF := ⟨B15, [ARes.cell 2 (some 4), ARes.tmp 3], false⟩
theorem tab15 : T 15 = some F15 := by kernel_rfl
/-- franking/frame.Push -/
def L16_0 : AC :=
  AC.seq (AC.region [⟨some 24, AOp.bin (BinOp.lss) (AX.t 23) (AX.t 22), none, 0⟩] 0 false []) (AC.seq (AC.cond (AX.t 24) AC.skip (AC.exit 0)) (AC.seq (AC.block 1 (AC.seq (AC.region [⟨some 25, AOp.idx 1
  (AX.t 21) (AX.t 23), none, 0⟩, ⟨some 26, AOp.load none (AX.t 25), none, 0⟩, ⟨some 12, AOp.mv (AX.t 26), none, 0⟩] 0 false []) (AC.seq (AC.seq (AC.region [⟨some 27, AOp.mv (AX.t 9), none, 0⟩] 0 false
  []) (AC.cond (AX.t 27) (AC.seq (AC.region [⟨some 28, AOp.mv (AX.t 12), none, 0⟩, ⟨some 29, AOp.bin (BinOp.eql) (AX.t 28) (AX.c (AV.int (IntKind.u8) 13)), none, 0⟩, ⟨some 9, AOp.mv (AX.t 29), none, 0⟩]
  0 false []) (AC.seq (AC.seq (AC.region [⟨some 30, AOp.mv (AX.t 12), none, 0⟩, ⟨some 31, AOp.bin (BinOp.eql) (AX.t 30) (AX.c (AV.int (IntKind.u8) 10)), none, 0⟩] 0 false []) (AC.cond (AX.t 31) (AC.seq
  (AC.region [⟨some 32, AOp.mv (AX.t 6), none, 0⟩, ⟨some 33, AOp.load none (AX.t 7), none, 0⟩, ⟨some 34, AOp.cvBytesStr (AX.t 33), none, 0⟩, ⟨some 35, AOp.load none (AX.t 8), none, 0⟩, ⟨some 36,
  AOp.build [AV.str [], AV.bool false] [(0, 1, AX.t 34), (1, 1, AX.t 35)], none, 0⟩, ⟨some 37, AOp.bslice 2 [AX.t 36], none, 0⟩, ⟨some 38, AOp.append 2 24 34 (AX.t 32) (AX.t 37), none, 0⟩, ⟨some 6,
  AOp.mv (AX.t 38), none, 1⟩] 1 false []) (AC.seq (AC.region [⟨some 39, AOp.load none (AX.t 7), none, 0⟩, ⟨some 40, AOp.slice 1 (AX.t 39) none (some (AX.c (AV.int (IntKind.i64) 0))) none, none, 0⟩,
  ⟨none, AOp.store 1 (AX.t 7) (AX.t 40), none, 0⟩, ⟨none, AOp.store 1 (AX.t 8) (AX.c (AV.bool false)), none, 0⟩] 0 false []) (AC.exit 1))) AC.skip)) (AC.seq (AC.region [⟨some 41, AOp.mv (AX.t 10), none,
  0⟩, ⟨some 42, AOp.call (AX.t 41) [AX.c (AV.int (IntKind.u8) 13)], none, 0⟩] 0 false []) (AC.seq (AC.region [⟨some 43, AOp.mv (AX.t 9), none, 0⟩] 0 false []) (AC.cond (AX.t 43) (AC.exit 1) AC.skip)))))
  (AC.seq (AC.region [⟨some 44, AOp.mv (AX.t 12), none, 0⟩, ⟨some 45, AOp.bin (BinOp.eql) (AX.t 44) (AX.c (AV.int (IntKind.u8) 13)), none, 0⟩] 0 false []) (AC.cond (AX.t 45) (AC.seq (AC.region [⟨some 9,
  AOp.mv (AX.c (AV.bool true)), none, 0⟩] 0 false []) (AC.exit 1)) AC.skip)))) (AC.region [⟨some 46, AOp.mv (AX.t 10), none, 0⟩, ⟨some 47, AOp.mv (AX.t 12), none, 0⟩, ⟨some 48, AOp.call (AX.t 46) [AX.t
  47], none, 0⟩] 0 false [])))) (AC.region [⟨some 49, AOp.bin (BinOp.add) (AX.t 23) (AX.c (AV.int (IntKind.i64) 1)), none, 0⟩, ⟨some 23, AOp.mv (AX.t 49), none, 0⟩] 0 false [])))
theorem wL16_0 {O : Orc} {Q : Ex → Slots → Heap → Prop} {σ : Slots} {h : Heap} : Wp O L16_0 Q σ h = Wp O (AC.seq (AC.region [⟨some 24, AOp.bin (BinOp.lss) (AX.t 23) (AX.t 22), none, 0⟩] 0 false []) (AC.seq (AC.cond (AX.t 24) AC.skip (AC.exit 0)) (AC.seq (AC.block 1 (AC.seq (AC.region [⟨some 25, AOp.idx 1
  (AX.t 21) (AX.t 23), none, 0⟩, ⟨some 26, AOp.load none (AX.t 25), none, 0⟩, ⟨some 12, AOp.mv (AX.t 26), none, 0⟩] 0 false []) (AC.seq (AC.seq (AC.region [⟨some 27, AOp.mv (AX.t 9), none, 0⟩] 0 false
  []) (AC.cond (AX.t 27) (AC.seq (AC.region [⟨some 28, AOp.mv (AX.t 12), none, 0⟩, ⟨some 29, AOp.bin (BinOp.eql) (AX.t 28) (AX.c (AV.int (IntKind.u8) 13)), none, 0⟩, ⟨some 9, AOp.mv (AX.t 29), none, 0⟩]
  0 false []) (AC.seq (AC.seq (AC.region [⟨some 30, AOp.mv (AX.t 12), none, 0⟩, ⟨some 31, AOp.bin (BinOp.eql) (AX.t 30) (AX.c (AV.int (IntKind.u8) 10)), none, 0⟩] 0 false []) (AC.cond (AX.t 31) (AC.seq
  (AC.region [⟨some 32, AOp.mv (AX.t 6), none, 0⟩, ⟨some 33, AOp.load none (AX.t 7), none, 0⟩, ⟨some 34, AOp.cvBytesStr (AX.t 33), none, 0⟩, ⟨some 35, AOp.load none (AX.t 8), none, 0⟩, ⟨some 36,
  AOp.build [AV.str [], AV.bool false] [(0, 1, AX.t 34), (1, 1, AX.t 35)], none, 0⟩, ⟨some 37, AOp.bslice 2 [AX.t 36], none, 0⟩, ⟨some 38, AOp.append 2 24 34 (AX.t 32) (AX.t 37), none, 0⟩, ⟨some 6,
  AOp.mv (AX.t 38), none, 1⟩] 1 false []) (AC.seq (AC.region [⟨some 39, AOp.load none (AX.t 7), none, 0⟩, ⟨some 40, AOp.slice 1 (AX.t 39) none (some (AX.c (AV.int (IntKind.i64) 0))) none, none, 0⟩,
  ⟨none, AOp.store 1 (AX.t 7) (AX.t 40), none, 0⟩, ⟨none, AOp.store 1 (AX.t 8) (AX.c (AV.bool false)), none, 0⟩] 0 false []) (AC.exit 1))) AC.skip)) (AC.seq (AC.region [⟨some 41, AOp.mv (AX.t 10), none,
  0⟩, ⟨some 42, AOp.call (AX.t 41) [AX.c (AV.int (IntKind.u8) 13)], none, 0⟩] 0 false []) (AC.seq (AC.region [⟨some 43, AOp.mv (AX.t 9), none, 0⟩] 0 false []) (AC.cond (AX.t 43) (AC.exit 1) AC.skip)))))
  (AC.seq (AC.region [⟨some 44, AOp.mv (AX.t 12), none, 0⟩, ⟨some 45, AOp.bin (BinOp.eql) (AX.t 44) (AX.c (AV.int (IntKind.u8) 13)), none, 0⟩] 0 false []) (AC.cond (AX.t 45) (AC.seq (AC.region [⟨some 9,
  AOp.mv (AX.c (AV.bool true)), none, 0⟩] 0 false []) (AC.exit 1)) AC.skip)))) (AC.region [⟨some 46, AOp.mv (AX.t 10), none, 0⟩, ⟨some 47, AOp.mv (AX.t 12), none, 0⟩, ⟨some 48, AOp.call (AX.t 46) [AX.t
  47], none, 0⟩] 0 false [])))) (AC.region [⟨some 49, AOp.bin (BinOp.add) (AX.t 23) (AX.c (AV.int (IntKind.i64) 1)), none, 0⟩, ⟨some 23, AOp.mv (AX.t 49), none, 0⟩] 0 false [])))) Q σ h := rfl
def K16_0 : AC :=
  AC.seq (AC.region [⟨some 50, AOp.off 0 (AX.t 2), none, 0⟩, ⟨some 51, AOp.load none (AX.t 50), none, 0⟩, ⟨some 52, AOp.load none (AX.t 7), none, 0⟩, ⟨some 53, AOp.cvBytesStr (AX.t 52), none, 0⟩, ⟨some
  54, AOp.load none (AX.t 8), none, 0⟩, ⟨some 55, AOp.mv (AX.t 9), none, 0⟩, ⟨some 56, AOp.build [AV.int (IntKind.i64) 0, AV.str [], AV.bool false, AV.bool false] [(0, 1, AX.t 51), (1, 1, AX.t 53), (2,
  1, AX.t 54), (3, 1, AX.t 55)], none, 0⟩, ⟨some 57, AOp.mv (AX.t 6), none, 0⟩, ⟨none, AOp.store 4 (AX.t 4) (AX.t 56), none, 0⟩, ⟨some 5, AOp.mv (AX.t 57), none, 0⟩] 0 false []) AC.ret
theorem wK16_0 {O : Orc} {Q : Ex → Slots → Heap → Prop} {σ : Slots} {h : Heap} : Wp O K16_0 Q σ h = Wp O (AC.seq (AC.region [⟨some 50, AOp.off 0 (AX.t 2), none, 0⟩, ⟨some 51, AOp.load none (AX.t 50), none, 0⟩, ⟨some 52, AOp.load none (AX.t 7), none, 0⟩, ⟨some 53, AOp.cvBytesStr (AX.t 52), none, 0⟩, ⟨some
  54, AOp.load none (AX.t 8), none, 0⟩, ⟨some 55, AOp.mv (AX.t 9), none, 0⟩, ⟨some 56, AOp.build [AV.int (IntKind.i64) 0, AV.str [], AV.bool false, AV.bool false] [(0, 1, AX.t 51), (1, 1, AX.t 53), (2,
  1, AX.t 54), (3, 1, AX.t 55)], none, 0⟩, ⟨some 57, AOp.mv (AX.t 6), none, 0⟩, ⟨none, AOp.store 4 (AX.t 4) (AX.t 56), none, 0⟩, ⟨some 5, AOp.mv (AX.t 57), none, 0⟩] 0 false []) AC.ret) Q σ h := rfl
def B16 : AC :=
  AC.seq (AC.region [⟨some 2, AOp.box 4 (AX.t 0), none, 0⟩, ⟨some 4, AOp.alloc [AV.int (IntKind.i64) 0, AV.str [], AV.bool false, AV.bool false], none, 1⟩, ⟨some 5, AOp.mv (AX.c (AV.list 2 []
  (Rt.full))), none, 2⟩] 2 false []) (AC.scope (AC.seq (AC.region [⟨some 6, AOp.mv (AX.c (AV.list 2 [] (Rt.full))), none, 0⟩] 0 false []) (AC.seq (AC.region [⟨some 13, AOp.off 1 (AX.t 2), none, 0⟩, ⟨some
  14, AOp.load none (AX.t 13), none, 0⟩, ⟨some 15, AOp.cvStrBytesM (AX.t 14), none, 0⟩, ⟨some 16, AOp.off 2 (AX.t 2), none, 1⟩, ⟨some 17, AOp.load none (AX.t 16), none, 1⟩, ⟨some 18, AOp.off 3 (AX.t 2),
  none, 1⟩, ⟨some 19, AOp.load none (AX.t 18), none, 1⟩, ⟨some 7, AOp.alloc [AV.list 1 [] (Rt.full)], none, 1⟩, ⟨some 8, AOp.alloc [AV.bool false], none, 2⟩, ⟨none, AOp.store 1 (AX.t 7) (AX.t 15), none,
  3⟩, ⟨none, AOp.store 1 (AX.t 8) (AX.t 17), none, 3⟩, ⟨some 9, AOp.mv (AX.t 19), none, 3⟩] 3 true [(2, 4), (2, 6), (1, 7), (2, 7), (4, 7), (6, 7), (1, 8), (2, 8), (4, 8), (6, 8), (7, 8), (4, 9), (6, 9),
  (6, 10)]) (AC.seq (AC.region [⟨some 20, AOp.mkfn 23 [AX.t 7, AX.t 2, AX.t 8], none, 0⟩, ⟨some 10, AOp.mv (AX.t 20), none, 0⟩] 0 false []) (AC.seq (AC.label 0) (AC.seq (AC.seq (AC.region [⟨some 21,
  AOp.mv (AX.t 1), none, 0⟩, ⟨some 22, AOp.len (AX.t 21), none, 0⟩, ⟨some 23, AOp.mv (AX.c (AV.int (IntKind.i64) 0)), none, 0⟩] 0 false []) (AC.block 0 (AC.loop L16_0))) K16_0))))))
theorem wB16 {O : Orc} {Q : Ex → Slots → Heap → Prop} {σ : Slots} {h : Heap} : Wp O B16 Q σ h = Wp O (AC.seq (AC.region [⟨some 2, AOp.box 4 (AX.t 0), none, 0⟩, ⟨some 4, AOp.alloc [AV.int (IntKind.i64) 0, AV.str [], AV.bool false, AV.bool false], none, 1⟩, ⟨some 5, AOp.mv (AX.c (AV.list 2 []
  (Rt.full))), none, 2⟩] 2 false []) (AC.scope (AC.seq (AC.region [⟨some 6, AOp.mv (AX.c (AV.list 2 [] (Rt.full))), none, 0⟩] 0 false []) (AC.seq (AC.region [⟨some 13, AOp.off 1 (AX.t 2), none, 0⟩, ⟨some
  14, AOp.load none (AX.t 13), none, 0⟩, ⟨some 15, AOp.cvStrBytesM (AX.t 14), none, 0⟩, ⟨some 16, AOp.off 2 (AX.t 2), none, 1⟩, ⟨some 17, AOp.load none (AX.t 16), none, 1⟩, ⟨some 18, AOp.off 3 (AX.t 2),
  none, 1⟩, ⟨some 19, AOp.load none (AX.t 18), none, 1⟩, ⟨some 7, AOp.alloc [AV.list 1 [] (Rt.full)], none, 1⟩, ⟨some 8, AOp.alloc [AV.bool false], none, 2⟩, ⟨none, AOp.store 1 (AX.t 7) (AX.t 15), none,
  3⟩, ⟨none, AOp.store 1 (AX.t 8) (AX.t 17), none, 3⟩, ⟨some 9, AOp.mv (AX.t 19), none, 3⟩] 3 true [(2, 4), (2, 6), (1, 7), (2, 7), (4, 7), (6, 7), (1, 8), (2, 8), (4, 8), (6, 8), (7, 8), (4, 9), (6, 9),
  (6, 10)]) (AC.seq (AC.region [⟨some 20, AOp.mkfn 23 [AX.t 7, AX.t 2, AX.t 8], none, 0⟩, ⟨some 10, AOp.mv (AX.t 20), none, 0⟩] 0 false []) (AC.seq (AC.label 0) (AC.seq (AC.seq (AC.region [⟨some 21,
  AOp.mv (AX.t 1), none, 0⟩, ⟨some 22, AOp.len (AX.t 21), none, 0⟩, ⟨some 23, AOp.mv (AX.c (AV.int (IntKind.i64) 0)), none, 0⟩] 0 false []) (AC.block 0 (AC.loop L16_0))) K16_0))))))) Q σ h := rfl
def F16 : AF := ⟨B16, [ARes.cell 4 (some 4), ARes.tmp 5], false⟩
theorem tab16 : T 16 = some F16 := by kernel_rfl
/-- franking/frame.Push$1 -/
def B23 : AC :=
  AC.seq (AC.seq (AC.region [⟨some 5, AOp.load none (AX.t 1), none, 0⟩, ⟨some 6, AOp.len (AX.t 5), none, 0⟩, ⟨some 7, AOp.off 0 (AX.t 2), none, 0⟩, ⟨some 8, AOp.load none (AX.t 7), none, 0⟩, ⟨some 9,
  AOp.bin (BinOp.lss) (AX.t 6) (AX.t 8), none, 0⟩] 0 false []) (AC.cond (AX.t 9) (AC.seq (AC.region [⟨some 10, AOp.load none (AX.t 1), none, 0⟩, ⟨some 11, AOp.mv (AX.t 0), none, 0⟩, ⟨some 12, AOp.bslice
  1 [AX.t 11], none, 0⟩, ⟨some 13, AOp.append 1 1 5 (AX.t 10) (AX.t 12), none, 0⟩, ⟨none, AOp.store 1 (AX.t 1) (AX.t 13), none, 1⟩] 1 false []) AC.ret) AC.skip)) (AC.region [⟨none, AOp.store 1 (AX.t 3)
  (AX.c (AV.bool true)), none, 0⟩] 0 false [])
theorem wB23 {O : Orc} {Q : Ex → Slots → Heap → Prop} {σ : Slots} {h : Heap} : Wp O B23 Q σ h = Wp O (AC.seq (AC.seq (AC.region [⟨some 5, AOp.load none (AX.t 1), none, 0⟩, ⟨some 6, AOp.len (AX.t 5), none, 0⟩, ⟨some 7, AOp.off 0 (AX.t 2), none, 0⟩, ⟨some 8, AOp.load none (AX.t 7), none, 0⟩, ⟨some 9,
  AOp.bin (BinOp.lss) (AX.t 6) (AX.t 8), none, 0⟩] 0 false []) (AC.cond (AX.t 9) (AC.seq (AC.region [⟨some 10, AOp.load none (AX.t 1), none, 0⟩, ⟨some 11, AOp.mv (AX.t 0), none, 0⟩, ⟨some 12, AOp.bslice
  1 [AX.t 11], none, 0⟩, ⟨some 13, AOp.append 1 1 5 (AX.t 10) (AX.t 12), none, 0⟩, ⟨none, AOp.store 1 (AX.t 1) (AX.t 13), none, 1⟩] 1 false []) AC.ret) AC.skip)) (AC.region [⟨none, AOp.store 1 (AX.t 3)
  (AX.c (AV.bool true)), none, 0⟩] 0 false [])) Q σ h := rfl
def F23 : AF := ⟨B23, [], true⟩
theorem tab23 : T 23 = some F23 := by kernel_rfl
/-- franking/frame.Rest -/
def B12 : AC :=
  AC.seq (AC.region [⟨some 1, AOp.box 4 (AX.t 0), none, 0⟩, ⟨some 2, AOp.mv (AX.c (AV.str [])), none, 1⟩] 1 false []) (AC.seq (AC.seq (AC.region [⟨some 3, AOp.off 3 (AX.t 1), none, 0⟩, ⟨some 4, AOp.load
  none (AX.t 3), none, 0⟩] 0 false []) (AC.cond (AX.t 4) (AC.seq (AC.region [⟨some 5, AOp.off 1 (AX.t 1), none, 0⟩, ⟨some 6, AOp.load none (AX.t 5), none, 0⟩, ⟨some 7, AOp.cvStrBytes 5 (AX.c (AV.str
  [13])), none, 0⟩, ⟨some 8, AOp.cvBytesStr (AX.t 7), none, 1⟩, ⟨some 9, AOp.bin (BinOp.add) (AX.t 6) (AX.t 8), none, 1⟩, ⟨some 2, AOp.mv (AX.t 9), none, 1⟩] 1 false []) AC.ret) AC.skip)) (AC.seq
  (AC.region [⟨some 10, AOp.off 1 (AX.t 1), none, 0⟩, ⟨some 11, AOp.load none (AX.t 10), none, 0⟩, ⟨some 2, AOp.mv (AX.t 11), none, 0⟩] 0 false []) AC.ret))
theorem wB12 {O : Orc} {Q : Ex → Slots → Heap → Prop} {σ : Slots} {h : Heap} : Wp O B12 Q σ h = Wp O (AC.seq (AC.region [⟨some 1, AOp.box 4 (AX.t 0), none, 0⟩, ⟨some 2, AOp.mv (AX.c (AV.str [])), none, 1⟩] 1 false []) (AC.seq (AC.seq (AC.region [⟨some 3, AOp.off 3 (AX.t 1), none, 0⟩, ⟨some 4, AOp.load
  none (AX.t 3), none, 0⟩] 0 false []) (AC.cond (AX.t 4) (AC.seq (AC.region [⟨some 5, AOp.off 1 (AX.t 1), none, 0⟩, ⟨some 6, AOp.load none (AX.t 5), none, 0⟩, ⟨some 7, AOp.cvStrBytes 5 (AX.c (AV.str
  [13])), none, 0⟩, ⟨some 8, AOp.cvBytesStr (AX.t 7), none, 1⟩, ⟨some 9, AOp.bin (BinOp.add) (AX.t 6) (AX.t 8), none, 1⟩, ⟨some 2, AOp.mv (AX.t 9), none, 1⟩] 1 false []) AC.ret) AC.skip)) (AC.seq
  (AC.region [⟨some 10, AOp.off 1 (AX.t 1), none, 0⟩, ⟨some 11, AOp.load none (AX.t 10), none, 0⟩, ⟨some 2, AOp.mv (AX.t 11), none, 0⟩] 0 false []) AC.ret))) Q σ h := rfl
def F12 : AF := ⟨B12, [ARes.tmp 2], false⟩
theorem tab12 : T 12 = some F12 := by kernel_rfl
/-- strings.HasPrefix -/
def B10 : AC :=
  AC.seq (AC.region [⟨some 4, AOp.mv (AX.c (AV.bool false)), none, 0⟩] 0 false []) (AC.seq (AC.region [⟨some 5, AOp.mv (AX.t 0), none, 0⟩, ⟨some 6, AOp.mv (AX.t 1), none, 0⟩, ⟨some 7, AOp.call (AX.c
  (AV.fn 17 [])) [AX.t 5, AX.t 6], none, 0⟩, ⟨some 4, AOp.mv (AX.t 7), none, 0⟩] 0 false []) AC.ret)
theorem wB10 {O : Orc} {Q : Ex → Slots → Heap → Prop} {σ : Slots} {h : Heap} : Wp O B10 Q σ h = Wp O (AC.seq (AC.region [⟨some 4, AOp.mv (AX.c (AV.bool false)), none, 0⟩] 0 false []) (AC.seq (AC.region [⟨some 5, AOp.mv (AX.t 0), none, 0⟩, ⟨some 6, AOp.mv (AX.t 1), none, 0⟩, ⟨some 7, AOp.call (AX.c
  (AV.fn 17 [])) [AX.t 5, AX.t 6], none, 0⟩, ⟨some 4, AOp.mv (AX.t 7), none, 0⟩] 0 false []) AC.ret)) Q σ h := rfl
def F10 : AF := ⟨B10, [ARes.tmp 4], false⟩
theorem tab10 : T 10 = some F10 := by kernel_rfl
/-- internal/stringslite.HasPrefix -/
def B17 : AC :=
  AC.seq (AC.region [⟨some 4, AOp.mv (AX.c (AV.bool false)), none, 0⟩] 0 false []) (AC.seq (AC.region [⟨some 5, AOp.mv (AX.t 0), none, 0⟩, ⟨some 6, AOp.lenS (AX.t 5), none, 0⟩, ⟨some 7, AOp.mv (AX.t 1),
  none, 0⟩, ⟨some 8, AOp.lenS (AX.t 7), none, 0⟩, ⟨some 9, AOp.bin (BinOp.geq) (AX.t 6) (AX.t 8), none, 0⟩, ⟨some 10, AOp.mv (AX.t 9), none, 0⟩, ⟨some 11, AOp.mv (AX.t 0), some (10, true), 0⟩, ⟨some 12,
  AOp.mv (AX.t 1), some (10, true), 0⟩, ⟨some 13, AOp.lenS (AX.t 12), some (10, true), 0⟩, ⟨some 14, AOp.sliceS (AX.t 11) none (some (AX.t 13)), some (10, true), 0⟩, ⟨some 15, AOp.mv (AX.t 1), some (10,
  true), 0⟩, ⟨some 16, AOp.bin (BinOp.eql) (AX.t 14) (AX.t 15), some (10, true), 0⟩, ⟨some 17, AOp.pick (AX.t 10) (AX.t 16) (AX.c (AV.bool false)), none, 0⟩, ⟨some 4, AOp.mv (AX.t 17), none, 0⟩] 0 false
  []) AC.ret)
theorem wB17 {O : Orc} {Q : Ex → Slots → Heap → Prop} {σ : Slots} {h : Heap} : Wp O B17 Q σ h = Wp O (AC.seq (AC.region [⟨some 4, AOp.mv (AX.c (AV.bool false)), none, 0⟩] 0 false []) (AC.seq (AC.region [⟨some 5, AOp.mv (AX.t 0), none, 0⟩, ⟨some 6, AOp.lenS (AX.t 5), none, 0⟩, ⟨some 7, AOp.mv (AX.t 1),
  none, 0⟩, ⟨some 8, AOp.lenS (AX.t 7), none, 0⟩, ⟨some 9, AOp.bin (BinOp.geq) (AX.t 6) (AX.t 8), none, 0⟩, ⟨some 10, AOp.mv (AX.t 9), none, 0⟩, ⟨some 11, AOp.mv (AX.t 0), some (10, true), 0⟩, ⟨some 12,
  AOp.mv (AX.t 1), some (10, true), 0⟩, ⟨some 13, AOp.lenS (AX.t 12), some (10, true), 0⟩, ⟨some 14, AOp.sliceS (AX.t 11) none (some (AX.t 13)), some (10, true), 0⟩, ⟨some 15, AOp.mv (AX.t 1), some (10,
  true), 0⟩, ⟨some 16, AOp.bin (BinOp.eql) (AX.t 14) (AX.t 15), some (10, true), 0⟩, ⟨some 17, AOp.pick (AX.t 10) (AX.t 16) (AX.c (AV.bool false)), none, 0⟩, ⟨some 4, AOp.mv (AX.t 17), none, 0⟩] 0 false
  []) AC.ret)) Q σ h := rfl
def F17 : AF := ⟨B17, [ARes.tmp 4], false⟩
theorem tab17 : T 17 = some F17 := by kernel_rfl
/-- strings.TrimSuffix -/
def B11 : AC :=
  AC.seq (AC.region [⟨some 4, AOp.mv (AX.c (AV.str [])), none, 0⟩] 0 false []) (AC.seq (AC.region [⟨some 5, AOp.mv (AX.t 0), none, 0⟩, ⟨some 6, AOp.mv (AX.t 1), none, 0⟩, ⟨some 7, AOp.call (AX.c (AV.fn
  18 [])) [AX.t 5, AX.t 6], none, 0⟩, ⟨some 4, AOp.mv (AX.t 7), none, 0⟩] 0 false []) AC.ret)
theorem wB11 {O : Orc} {Q : Ex → Slots → Heap → Prop} {σ : Slots} {h : Heap} : Wp O B11 Q σ h = Wp O (AC.seq (AC.region [⟨some 4, AOp.mv (AX.c (AV.str [])), none, 0⟩] 0 false []) (AC.seq (AC.region [⟨some 5, AOp.mv (AX.t 0), none, 0⟩, ⟨some 6, AOp.mv (AX.t 1), none, 0⟩, ⟨some 7, AOp.call (AX.c (AV.fn
  18 [])) [AX.t 5, AX.t 6], none, 0⟩, ⟨some 4, AOp.mv (AX.t 7), none, 0⟩] 0 false []) AC.ret)) Q σ h := rfl
def F11 : AF := ⟨B11, [ARes.tmp 4], false⟩
theorem tab11 : T 11 = some F11 := by kernel_rfl
/-- internal/stringslite.TrimSuffix -/
def B18 : AC :=
  AC.seq (AC.region [⟨some 4, AOp.mv (AX.c (AV.str [])), none, 0⟩] 0 false []) (AC.seq (AC.seq (AC.region [⟨some 5, AOp.mv (AX.t 0), none, 0⟩, ⟨some 6, AOp.mv (AX.t 1), none, 0⟩, ⟨some 7, AOp.call (AX.c
  (AV.fn 24 [])) [AX.t 5, AX.t 6], none, 0⟩] 0 false []) (AC.cond (AX.t 7) (AC.seq (AC.region [⟨some 8, AOp.mv (AX.t 0), none, 0⟩, ⟨some 9, AOp.mv (AX.t 0), none, 0⟩, ⟨some 10, AOp.lenS (AX.t 9), none,
  0⟩, ⟨some 11, AOp.mv (AX.t 1), none, 0⟩, ⟨some 12, AOp.lenS (AX.t 11), none, 0⟩, ⟨some 13, AOp.bin (BinOp.sub) (AX.t 10) (AX.t 12), none, 0⟩, ⟨some 14, AOp.sliceS (AX.t 8) none (some (AX.t 13)), none,
  0⟩, ⟨some 4, AOp.mv (AX.t 14), none, 0⟩] 0 false []) AC.ret) AC.skip)) (AC.seq (AC.region [⟨some 15, AOp.mv (AX.t 0), none, 0⟩, ⟨some 4, AOp.mv (AX.t 15), none, 0⟩] 0 false []) AC.ret))
theorem wB18 {O : Orc} {Q : Ex → Slots → Heap → Prop} {σ : Slots} {h : Heap} : Wp O B18 Q σ h = Wp O (AC.seq (AC.region [⟨some 4, AOp.mv (AX.c (AV.str [])), none, 0⟩] 0 false []) (AC.seq (AC.seq (AC.region [⟨some 5, AOp.mv (AX.t 0), none, 0⟩, ⟨some 6, AOp.mv (AX.t 1), none, 0⟩, ⟨some 7, AOp.call (AX.c
  (AV.fn 24 [])) [AX.t 5, AX.t 6], none, 0⟩] 0 false []) (AC.cond (AX.t 7) (AC.seq (AC.region [⟨some 8, AOp.mv (AX.t 0), none, 0⟩, ⟨some 9, AOp.mv (AX.t 0), none, 0⟩, ⟨some 10, AOp.lenS (AX.t 9), none,
  0⟩, ⟨some 11, AOp.mv (AX.t 1), none, 0⟩, ⟨some 12, AOp.lenS (AX.t 11), none, 0⟩, ⟨some 13, AOp.bin (BinOp.sub) (AX.t 10) (AX.t 12), none, 0⟩, ⟨some 14, AOp.sliceS (AX.t 8) none (some (AX.t 13)), none,
  0⟩, ⟨some 4, AOp.mv (AX.t 14), none, 0⟩] 0 false []) AC.ret) AC.skip)) (AC.seq (AC.region [⟨some 15, AOp.mv (AX.t 0), none, 0⟩, ⟨some 4, AOp.mv (AX.t 15), none, 0⟩] 0 false []) AC.ret))) Q σ h := rfl
def F18 : AF := ⟨B18, [ARes.tmp 4], false⟩
theorem tab18 : T 18 = some F18 := by kernel_rfl
/-- internal/stringslite.HasSuffix -/
def B24 : AC :=
  AC.seq (AC.region [⟨some 4, AOp.mv (AX.c (AV.bool false)), none, 0⟩] 0 false []) (AC.seq (AC.region [⟨some 5, AOp.mv (AX.t 0), none, 0⟩, ⟨some 6, AOp.lenS (AX.t 5), none, 0⟩, ⟨some 7, AOp.mv (AX.t 1),
  none, 0⟩, ⟨some 8, AOp.lenS (AX.t 7), none, 0⟩, ⟨some 9, AOp.bin (BinOp.geq) (AX.t 6) (AX.t 8), none, 0⟩, ⟨some 10, AOp.mv (AX.t 9), none, 0⟩, ⟨some 11, AOp.mv (AX.t 0), some (10, true), 0⟩, ⟨some 12,
  AOp.mv (AX.t 0), some (10, true), 0⟩, ⟨some 13, AOp.lenS (AX.t 12), some (10, true), 0⟩, ⟨some 14, AOp.mv (AX.t 1), some (10, true), 0⟩, ⟨some 15, AOp.lenS (AX.t 14), some (10, true), 0⟩, ⟨some 16,
  AOp.bin (BinOp.sub) (AX.t 13) (AX.t 15), some (10, true), 0⟩, ⟨some 17, AOp.sliceS (AX.t 11) (some (AX.t 16)) none, some (10, true), 0⟩, ⟨some 18, AOp.mv (AX.t 1), some (10, true), 0⟩, ⟨some 19,
  AOp.bin (BinOp.eql) (AX.t 17) (AX.t 18), some (10, true), 0⟩, ⟨some 20, AOp.pick (AX.t 10) (AX.t 19) (AX.c (AV.bool false)), none, 0⟩, ⟨some 4, AOp.mv (AX.t 20), none, 0⟩] 0 false []) AC.ret)
theorem wB24 {O : Orc} {Q : Ex → Slots → Heap → Prop} {σ : Slots} {h : Heap} : Wp O B24 Q σ h = Wp O (AC.seq (AC.region [⟨some 4, AOp.mv (AX.c (AV.bool false)), none, 0⟩] 0 false []) (AC.seq (AC.region [⟨some 5, AOp.mv (AX.t 0), none, 0⟩, ⟨some 6, AOp.lenS (AX.t 5), none, 0⟩, ⟨some 7, AOp.mv (AX.t 1),
  none, 0⟩, ⟨some 8, AOp.lenS (AX.t 7), none, 0⟩, ⟨some 9, AOp.bin (BinOp.geq) (AX.t 6) (AX.t 8), none, 0⟩, ⟨some 10, AOp.mv (AX.t 9), none, 0⟩, ⟨some 11, AOp.mv (AX.t 0), some (10, true), 0⟩, ⟨some 12,
  AOp.mv (AX.t 0), some (10, true), 0⟩, ⟨some 13, AOp.lenS (AX.t 12), some (10, true), 0⟩, ⟨some 14, AOp.mv (AX.t 1), some (10, true), 0⟩, ⟨some 15, AOp.lenS (AX.t 14), some (10, true), 0⟩, ⟨some 16,
  AOp.bin (BinOp.sub) (AX.t 13) (AX.t 15), some (10, true), 0⟩, ⟨some 17, AOp.sliceS (AX.t 11) (some (AX.t 16)) none, some (10, true), 0⟩, ⟨some 18, AOp.mv (AX.t 1), some (10, true), 0⟩, ⟨some 19,
  AOp.bin (BinOp.eql) (AX.t 17) (AX.t 18), some (10, true), 0⟩, ⟨some 20, AOp.pick (AX.t 10) (AX.t 19) (AX.c (AV.bool false)), none, 0⟩, ⟨some 4, AOp.mv (AX.t 20), none, 0⟩] 0 false []) AC.ret)) Q σ h := rfl
def F24 : AF := ⟨B24, [ARes.tmp 4], false⟩
theorem tab24 : T 24 = some F24 := by kernel_rfl
theorem mixed : Try.prog.follows .mixedOrders = true := by kernel_rfl
end Go.Proofs.Ytmcjnbkodcdjnaa
