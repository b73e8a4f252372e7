/-
  internal/strconv.FormatUint by tens, of bytes.
-/
import Derived.Test.YtiobaboailhafaaDoorF1
set_option linter.unusedVariables false
set_option linter.unusedSimpArgs false
set_option maxRecDepth 20000
namespace Go.Proofs.YtiobaboailhafaaDoor
open Go Go.Am

abbrev smalls : List UInt8 := [48, 48, 48, 49, 48, 50, 48, 51, 48, 52, 48, 53, 48, 54, 48, 55, 48, 56, 48, 57, 49, 48, 49, 49, 49, 50, 49, 51, 49, 52, 49, 53, 49, 54, 49, 55, 49, 56, 49, 57, 50, 48, 50, 49, 50, 50, 50, 51, 50, 52, 50, 53, 50, 54, 50, 55, 50, 56, 50, 57, 51, 48, 51, 49, 51, 50, 51, 51, 51, 52, 51, 53, 51, 54, 51, 55, 51, 56, 51, 57, 52, 48, 52, 49, 52, 50, 52, 51, 52, 52, 52, 53, 52, 54, 52, 55, 52, 56, 52, 57, 53, 48, 53, 49, 53, 50, 53, 51, 53, 52, 53, 53, 53, 54, 53, 55, 53, 56, 53, 57, 54, 48, 54, 49, 54, 50, 54, 51, 54, 52, 54, 53, 54, 54, 54, 55, 54, 56, 54, 57, 55, 48, 55, 49, 55, 50, 55, 51, 55, 52, 55, 53, 55, 54, 55, 55, 55, 56, 55, 57, 56, 48, 56, 49, 56, 50, 56, 51, 56, 52, 56, 53, 56, 54, 56, 55, 56, 56, 56, 57, 57, 48, 57, 49, 57, 50, 57, 51, 57, 52, 57, 53, 57, 54, 57, 55, 57, 56, 57, 57]
theorem small_all : ((List.range 10).all fun i => (digits36.take (i + 1)).drop i == fmtP 10 i) = true := by decide +kernel
theorem small_all2 : ((List.range 100).all fun i => i < 10 || (smalls.take (i * 2 + 2)).drop (i * 2) == fmtP 10 i) = true := by decide +kernel
theorem small_at (i : Nat) (h : i < 10) : (digits36.take (i + 1)).drop i = fmtP 10 i := by
  have := List.all_eq_true.1 small_all i (List.mem_range.2 h)
  simpa using this
theorem small_at2 (i : Nat) (h : i < 100) (h10 : ¬ i < 10) : (smalls.take (i * 2 + 2)).drop (i * 2) = fmtP 10 i := by
  have := List.all_eq_true.1 small_all2 i (List.mem_range.2 h)
  rw [decide_eq_false h10, Bool.false_or, beq_iff_eq] at this
  exact this
theorem small_ok (i : Nat) (h : i < 100) (h0 : Heap) : M.call 26 [.int .i64 i] h0 = some (.str (fmtP 10 i), h0) := by
  refine call_of tab26 rfl (callF_wp ?_)
  have w1 : IntKind.wrap .i64 ((i : Int) + 1) = ((i + 1 : Nat) : Int) := by rw [wrap64 (by omega) (by omega)]; rfl
  have w2 : IntKind.wrap .i64 ((i : Int) * 2) = ((i * 2 : Nat) : Int) := by rw [wrap64 (by omega) (by omega)]; rfl
  have w3 : IntKind.wrap .i64 ((i : Int) * 2 + 2) = ((i * 2 + 2 : Nat) : Int) := by rw [wrap64 (by omega) (by omega)]; rfl
  by_cases h10 : i < 10
  · have h10' : (i : Int) < 10 := by omega
    have c1 : (0 : Int) ≤ (i : Int) + 1 := by omega
    have c2 : (i : Int) + 1 ≤ 36 := by omega
    have ha := small_at i h10
    unfold digits36 at ha
    simp [-List.take_succ_cons, wB26, h10', w1, c1, c2, ha]
  · have h10' : ¬ (i : Int) < 10 := by omega
    have c1 : (0 : Int) ≤ (i : Int) * 2 + 2 := by omega
    have c2 : (i : Int) * 2 + 2 ≤ 200 := by omega
    have c3 : (0 : Int) ≤ (i : Int) * 2 := by omega
    have c4 : (i : Int) * 2 ≤ (i : Int) * 2 + 2 := by omega
    have c5 : ((i : Int) * 2 + 2).toNat = i * 2 + 2 := by omega
    have c6 : ((i : Int) * 2).toNat = i * 2 := by omega
    have ha := small_at2 i h h10
    simp [-List.take_succ_cons, wB26, h10', w2, w3, c1, c2, c3, c4, c5, c6, ha]
end Go.Proofs.YtiobaboailhafaaDoor
