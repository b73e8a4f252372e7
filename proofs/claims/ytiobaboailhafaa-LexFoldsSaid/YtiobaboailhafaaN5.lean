/-
  frankinglaw01: LexFolds.
-/
import Derived.Test.YtiobaboailhafaaN4
import Derived.Test.YtiobaboailhafaaW4
set_option linter.unusedVariables false
set_option linter.unusedSimpArgs false
namespace Go.Proofs.Ytiobaboailhafaa
open Go Go.Am

def piecesT : List (List UInt8) := [[110, 97, 109, 101], [97, 49, 45, 98], [61, 47], [47], [40], [41], [91], [93], [42], [51, 42, 55], [50, 42], [42, 53], [49, 50], [34, 97, 32, 98, 59, 34], [34, 34], [37, 120, 48, 68, 46, 48, 97], [37, 100, 54, 53, 45, 57, 48], [37, 98, 49, 48, 49], [37, 88, 102, 70]]
def piecesK : List Tok := [{ kind := 1, text := [110, 97, 109, 101] }, { kind := 1, text := [97, 49, 45, 98] }, { kind := 3 }, { kind := 4 }, { kind := 5 }, { kind := 6 }, { kind := 7 }, { kind := 8 }, { kind := 9, mx := -1 }, { kind := 9, mn := 3, mx := 7 }, { kind := 9, mn := 2, mx := -1 }, { kind := 9, mx := 5 }, { kind := 9, mn := 12, mx := 12 }, { kind := 10, text := [97, 32, 98, 59] }, { kind := 10 }, { kind := 11, text := [13, 10] }, { kind := 12, lo := 65, hi := 90 }, { kind := 11, text := [5] }, { kind := 11, text := [255] }]
theorem piece0 : PieceOk [110, 97, 109, 101] { kind := 1, text := [110, 97, 109, 101] } := by
  refine ⟨110, [97, 109, 101], rfl, by decide, by decide, by decide, by decide, by decide, rfl, fun rest hr => ?_⟩
  rcases hr with rfl | ⟨r, rfl | rfl⟩ <;> rfl
theorem piece1 : PieceOk [97, 49, 45, 98] { kind := 1, text := [97, 49, 45, 98] } := by
  refine ⟨97, [49, 45, 98], rfl, by decide, by decide, by decide, by decide, by decide, rfl, fun rest hr => ?_⟩
  rcases hr with rfl | ⟨r, rfl | rfl⟩ <;> rfl
theorem piece2 : PieceOk [61, 47] { kind := 3 } := by
  refine ⟨61, [47], rfl, by decide, by decide, by decide, by decide, by decide, rfl, fun rest hr => ?_⟩
  rcases hr with rfl | ⟨r, rfl | rfl⟩ <;> rfl
theorem piece3 : PieceOk [47] { kind := 4 } := by
  refine ⟨47, [], rfl, by decide, by decide, by decide, by decide, by decide, rfl, fun rest hr => ?_⟩
  rcases hr with rfl | ⟨r, rfl | rfl⟩ <;> rfl
theorem piece4 : PieceOk [40] { kind := 5 } := by
  refine ⟨40, [], rfl, by decide, by decide, by decide, by decide, by decide, rfl, fun rest hr => ?_⟩
  rcases hr with rfl | ⟨r, rfl | rfl⟩ <;> rfl
theorem piece5 : PieceOk [41] { kind := 6 } := by
  refine ⟨41, [], rfl, by decide, by decide, by decide, by decide, by decide, rfl, fun rest hr => ?_⟩
  rcases hr with rfl | ⟨r, rfl | rfl⟩ <;> rfl
theorem piece6 : PieceOk [91] { kind := 7 } := by
  refine ⟨91, [], rfl, by decide, by decide, by decide, by decide, by decide, rfl, fun rest hr => ?_⟩
  rcases hr with rfl | ⟨r, rfl | rfl⟩ <;> rfl
theorem piece7 : PieceOk [93] { kind := 8 } := by
  refine ⟨93, [], rfl, by decide, by decide, by decide, by decide, by decide, rfl, fun rest hr => ?_⟩
  rcases hr with rfl | ⟨r, rfl | rfl⟩ <;> rfl
theorem piece8 : PieceOk [42] { kind := 9, mx := -1 } := by
  refine ⟨42, [], rfl, by decide, by decide, by decide, by decide, by decide, rfl, fun rest hr => ?_⟩
  rcases hr with rfl | ⟨r, rfl | rfl⟩ <;> rfl
theorem piece9 : PieceOk [51, 42, 55] { kind := 9, mn := 3, mx := 7 } := by
  refine ⟨51, [42, 55], rfl, by decide, by decide, by decide, by decide, by decide, rfl, fun rest hr => ?_⟩
  rcases hr with rfl | ⟨r, rfl | rfl⟩ <;> rfl
theorem piece10 : PieceOk [50, 42] { kind := 9, mn := 2, mx := -1 } := by
  refine ⟨50, [42], rfl, by decide, by decide, by decide, by decide, by decide, rfl, fun rest hr => ?_⟩
  rcases hr with rfl | ⟨r, rfl | rfl⟩ <;> rfl
theorem piece11 : PieceOk [42, 53] { kind := 9, mx := 5 } := by
  refine ⟨42, [53], rfl, by decide, by decide, by decide, by decide, by decide, rfl, fun rest hr => ?_⟩
  rcases hr with rfl | ⟨r, rfl | rfl⟩ <;> rfl
theorem piece12 : PieceOk [49, 50] { kind := 9, mn := 12, mx := 12 } := by
  refine ⟨49, [50], rfl, by decide, by decide, by decide, by decide, by decide, rfl, fun rest hr => ?_⟩
  rcases hr with rfl | ⟨r, rfl | rfl⟩ <;> rfl
theorem piece13 : PieceOk [34, 97, 32, 98, 59, 34] { kind := 10, text := [97, 32, 98, 59] } := by
  refine ⟨34, [97, 32, 98, 59, 34], rfl, by decide, by decide, by decide, by decide, by decide, rfl, fun rest hr => ?_⟩
  rcases hr with rfl | ⟨r, rfl | rfl⟩ <;> rfl
theorem piece14 : PieceOk [34, 34] { kind := 10 } := by
  refine ⟨34, [34], rfl, by decide, by decide, by decide, by decide, by decide, rfl, fun rest hr => ?_⟩
  rcases hr with rfl | ⟨r, rfl | rfl⟩ <;> rfl
theorem piece15 : PieceOk [37, 120, 48, 68, 46, 48, 97] { kind := 11, text := [13, 10] } := by
  refine ⟨37, [120, 48, 68, 46, 48, 97], rfl, by decide, by decide, by decide, by decide, by decide, rfl, fun rest hr => ?_⟩
  rcases hr with rfl | ⟨r, rfl | rfl⟩ <;> rfl
theorem piece16 : PieceOk [37, 100, 54, 53, 45, 57, 48] { kind := 12, lo := 65, hi := 90 } := by
  refine ⟨37, [100, 54, 53, 45, 57, 48], rfl, by decide, by decide, by decide, by decide, by decide, rfl, fun rest hr => ?_⟩
  rcases hr with rfl | ⟨r, rfl | rfl⟩ <;> rfl
theorem piece17 : PieceOk [37, 98, 49, 48, 49] { kind := 11, text := [5] } := by
  refine ⟨37, [98, 49, 48, 49], rfl, by decide, by decide, by decide, by decide, by decide, rfl, fun rest hr => ?_⟩
  rcases hr with rfl | ⟨r, rfl | rfl⟩ <;> rfl
set_option maxRecDepth 20000 in
theorem piece18 : PieceOk [37, 88, 102, 70] { kind := 11, text := [255] } := by
  refine ⟨37, [88, 102, 70], rfl, by decide, by decide, by decide, by decide, by decide, rfl, fun rest hr => ?_⟩
  rcases hr with rfl | ⟨r, rfl | rfl⟩ <;> rfl
set_option maxRecDepth 20000 in
theorem piece_at (j : Nat) (h : j < 19) : ∃ p t, piecesT[j]? = some p ∧ piecesK[j]? = some t ∧ PieceOk p t := by
  match j, h with
  | 0, _ => exact ⟨_, _, rfl, rfl, piece0⟩
  | 1, _ => exact ⟨_, _, rfl, rfl, piece1⟩
  | 2, _ => exact ⟨_, _, rfl, rfl, piece2⟩
  | 3, _ => exact ⟨_, _, rfl, rfl, piece3⟩
  | 4, _ => exact ⟨_, _, rfl, rfl, piece4⟩
  | 5, _ => exact ⟨_, _, rfl, rfl, piece5⟩
  | 6, _ => exact ⟨_, _, rfl, rfl, piece6⟩
  | 7, _ => exact ⟨_, _, rfl, rfl, piece7⟩
  | 8, _ => exact ⟨_, _, rfl, rfl, piece8⟩
  | 9, _ => exact ⟨_, _, rfl, rfl, piece9⟩
  | 10, _ => exact ⟨_, _, rfl, rfl, piece10⟩
  | 11, _ => exact ⟨_, _, rfl, rfl, piece11⟩
  | 12, _ => exact ⟨_, _, rfl, rfl, piece12⟩
  | 13, _ => exact ⟨_, _, rfl, rfl, piece13⟩
  | 14, _ => exact ⟨_, _, rfl, rfl, piece14⟩
  | 15, _ => exact ⟨_, _, rfl, rfl, piece15⟩
  | 16, _ => exact ⟨_, _, rfl, rfl, piece16⟩
  | 17, _ => exact ⟨_, _, rfl, rfl, piece17⟩
  | 18, _ => exact ⟨_, _, rfl, rfl, piece18⟩
  | j + 19, h => omega
set_option maxRecDepth 20000 in
theorem pieces_ok (h : Heap) : M.call 16 [] h = some (.tup [.list 1 (piecesT.map AV.str) .full, .list 7 (piecesK.map tokA) .full], h) := by
  refine call_of tab16 rfl (callF_wp ?_)
  simp [wB16, piecesT, piecesK, tokA, tokL]
theorem index1_ok (s : List UInt8) (c : UInt8) (h : Heap) : M.call 32 [.str s, .str [c]] h = some (.int .i64 (Lib.indexByte s c), h) := by
  refine call_of tab32 rfl (callF_wp ?_)
  simp [wB32, slIndex1_ok]
theorem contains1_ok (s : List UInt8) (c : UInt8) (h : Heap) : M.call 15 [.str s, .str [c]] h = some (.bool (decide (c ∈ s)), h) := by
  refine call_of tab15 rfl (callF_wp ?_)
  have e := indexByte_eq s c
  by_cases hm : c ∈ s
  · rw [if_pos hm] at e
    simp [wB15, index1_ok, e, hm]
  · rw [if_neg hm] at e
    simp [wB15, index1_ok, e, hm]
def between (rem : List UInt8) : List (List UInt8) := [[32], [9, 32], [32, 32], [10, 32], [13, 10, 9], [32, 59] ++ rem ++ [10, 32], [10, 10, 32, 10, 32, 59] ++ rem ++ [10, 59] ++ rem ++ [13, 10, 32, 32]]
theorem gap_ok {rem : List UInt8} (hl : rem.length ≤ 40) (h10 : ¬ 10 ∈ rem) (j : Nat) (hj : j < 7) : ∃ g, (between rem)[j]? = some g ∧ g.length ≤ 92 ∧ ∀ s ks p t, St s ks → PieceOk p t → St (s ++ (g ++ p)) (ks ++ [t]) := by
  match j, hj with
  | 0, _ => exact ⟨_, rfl, by simp, fun s ks p t h hp => h.blank (g := [32]) (by decide) (by simp) hp⟩
  | 1, _ => exact ⟨_, rfl, by simp, fun s ks p t h hp => h.blank (g := [9, 32]) (by decide) (by simp) hp⟩
  | 2, _ => exact ⟨_, rfl, by simp, fun s ks p t h hp => h.blank (g := [32, 32]) (by decide) (by simp) hp⟩
  | 3, _ => exact ⟨_, rfl, by simp, fun s ks p t h hp => by
      have := h.turn (tail := []) (d := []) (g := [32]) (.inl rfl) (Proc.nil _) (by decide) (by simp) hp
      simpa using this⟩
  | 4, _ => exact ⟨_, rfl, by simp, fun s ks p t h hp => by
      have := h.turn (tail := [13]) (d := []) (g := [9]) (.inr (.inl rfl)) (Proc.nil _) (by decide) (by simp) hp
      simpa using this⟩
  | 5, _ => exact ⟨_, rfl, by simp; omega, fun s ks p t h hp => by
      have := h.turn (tail := 32 :: 59 :: rem) (d := []) (g := [32]) (.inr (.inr ⟨rem, rfl, h10⟩)) (Proc.nil _) (by decide) (by simp) hp
      simpa using this⟩
  | 6, _ => exact ⟨_, rfl, by simp; omega, fun s ks p t h hp => by
      have d1 := Proc.blank [] (by simp) true
      have d2 := Proc.blank [32] (by decide) true
      have d3 := Proc.rem (g := [32]) rem (by decide) h10 true
      have d4 := Proc.rem (g := []) (rem ++ [13]) (by simp) (by simp [h10]) true
      have := h.turn (tail := []) (g := [32, 32]) (.inl rfl) (((d1.trans d2).trans d3).trans d4) (by decide) (by simp) hp
      simpa using this⟩
theorem tmod_nat (a b : Nat) : Int.tmod (a : Int) (b : Int) = ((a % b : Nat) : Int) := rfl
theorem abin_rem (k : IntKind) (a b : Int) : abin .rem (.int k a) (.int k b) = if b = 0 then none else some (.int k (a.tmod b)) := by simp [abin, ibin]
end Go.Proofs.Ytiobaboailhafaa
