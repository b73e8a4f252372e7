/-
  DotsTells: the reference's Encode and Decode; awake.
-/
import Derived.Test.YtbhdfmkcoolghaaDoorD16
set_option linter.unusedVariables false
set_option linter.unusedSimpArgs false
set_option maxRecDepth 20000
namespace Go.Proofs.YtbhdfmkcoolghaaDoor
open Go Go.Am Go.RowKit

theorem ends_behind (r : List UInt8) (hr : r ≠ []) : endsW (13 :: 10 :: r) ↔ endsW r := by
  unfold endsW
  match r, hr with
  | [c], _ => simp
  | c :: d :: t, _ =>
    simp only [List.length_cons]
    have e : t.length + 1 + 1 + 1 + 1 - 2 = (t.length + 1 + 1 - 2) + 2 := by omega
    rw [e]
    simp
theorem refEnc_ok (s : List UInt8) (r : Rt) (hl : s.length ≤ 100000) (h : Heap) : ML.call 12 [.list 1 (ofBytes s) r] h = some (.list 1 (ofBytes (encP s)) .no, h) := by
  refine lim_call_of tab12 (XL_none (by decide) (by decide) (by decide) (by decide) _ _) (callF_wp ?_)
  have he := fun h => hasEnd_ok (13 :: 10 :: s) (by simp; omega) h
  have hw := (wholeP_len s).2
  have hr := fun h => rplM (13 :: 10 :: wholeP s) [13, 10, 46] [13, 10, 46, 46] (by simp; omega) (by simp) (by simp) h
  rw [rep_enc] at hr
  have hel := encL_len s.length s
  have hel2 : (encL (linesP s)).length ≤ 400000 := by show (encL (linesF s.length s)).length ≤ _; omega
  have c1 : (encL (linesP s)).length + 3 ≤ 140737488355328 := by omega
  have c0 : 2 + s.length ≤ 140737488355328 := by omega
  have hP : encP s = encL (linesP s) ++ [46, 13, 10] := rfl
  rw [hP]
  generalize encL (linesP s) = E at *
  have c3 : (2 : Int) ≤ (E.length : Int) + 1 + 1 := by omega
  by_cases h1 : s = []
  · subst h1
    have hr' : ∀ h, ML.call 17 [.str [13, 10], .str [13, 10, 46], .str [13, 10, 46, 46]] h = some (.str (13 :: 10 :: E), h) := hr
    simp [wB12, show asBytes [] = some [] from rfl, hr', c1, c3]
  · have hpos : 0 < s.length := List.length_pos_iff.2 h1
    have he2 : ∀ h, ML.call 18 [.str (13 :: 10 :: s), .str [13, 10]] h = some (.bool (decide (endsW s)), h) := fun h => by
      rw [he h]
      simp [ends_behind s h1]
    by_cases h2 : endsW s
    · have hr' : ∀ h, ML.call 17 [.str (13 :: 10 :: s), .str [13, 10, 46], .str [13, 10, 46, 46]] h = some (.str (13 :: 10 :: E), h) := by
        have : wholeP s = s := by unfold wholeP; rw [if_pos (.inr h2)]
        rw [this] at hr
        exact hr
      simp [wB12, hpos, he2, h2, hr', c0, c1, c3]
    · have hr' : ∀ h, ML.call 17 [.str (13 :: 10 :: (s ++ [13, 10])), .str [13, 10, 46], .str [13, 10, 46, 46]] h = some (.str (13 :: 10 :: E), h) := by
        have : wholeP s = s ++ [13, 10] := by unfold wholeP; rw [if_neg (by simp [h1, h2])]
        rw [this] at hr
        exact hr
      have c4 : s.length + 1 + 1 + 2 ≤ 140737488355328 := by omega
      simp [wB12, hpos, he2, h2, hr', c0, c1, c3, c4]
def refA (s : List UInt8) : AV :=
  match decP s with
  | some (b, n) => .tup [.list 1 (ofBytes b) .no, .int .i64 ((n : Nat) : Int), .bool true]
  | none => .tup [.list 1 [] .full, .int .i64 0, .bool false]
theorem refDec_ok (s : List UInt8) (r : Rt) (hl : s.length ≤ 100000) (h : Heap) : ML.call 10 [.list 1 (ofBytes s) r] h = some (refA s, h) := by
  refine lim_call_of tab10 (XL_none (by decide) (by decide) (by decide) (by decide) _ _) (callF_wp ?_)
  have hi := fun h => idxM (13 :: 10 :: s) [13, 10, 46, 13, 10] (by simp; omega) h
  have c0 : 2 + s.length ≤ 140737488355328 := by omega
  unfold refA
  rcases ref_dec s with ⟨h1, h2⟩ | ⟨b, i, h1, h2, h3, h4, h5⟩
  · rw [h2] at hi
    rw [h1]
    simp [wB10, c0, hi]
  · rw [h2] at hi
    rw [h1]
    have hr := fun h => rplM ((13 :: 10 :: s).take (i + 2)) [13, 10, 46] [13, 10] (by simp; omega) (by simp) (by simp) h
    rw [h4] at hr
    have w1 : IntKind.wrap .i64 ((i : Int) + 2) = ((i + 2 : Nat) : Int) := by rw [wrap64 (by omega) (by omega)]; rfl
    have w2 : IntKind.wrap .i64 ((i : Int) + 3) = ((i + 3 : Nat) : Int) := by rw [wrap64 (by omega) (by omega)]; rfl
    have hr' : ∀ h, ML.call 17 [.str (13 :: 10 :: s.take i), .str [13, 10, 46], .str [13, 10]] h = some (.str (13 :: 10 :: b), h) := hr
    have c1 : ¬ ((i : Int) < 0) := by omega
    have c2 : ((i : Int) + 2) ≤ (s.length : Int) + 1 + 1 := by omega
    have c3 : (0 : Int) ≤ (i : Int) + 2 := by omega
    have c4 : (2 : Int) ≤ (b.length : Int) + 1 + 1 := by omega
    have c5 : ((i : Int) + 2).toNat = i + 2 := by omega
    simp [wB10, c0, hi, w1, w2, c1, c2, c3, c4, c5, hr']
end Go.Proofs.YtbhdfmkcoolghaaDoor
