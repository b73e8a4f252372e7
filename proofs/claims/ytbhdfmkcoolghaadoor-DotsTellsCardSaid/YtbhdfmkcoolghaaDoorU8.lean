/-
  dots.Stuff, dots.Unstuff, in any machine.
-/
import Derived.Test.YtbhdfmkcoolghaaDoorAc
set_option linter.unusedVariables false
set_option linter.unusedSimpArgs false
namespace Go.Proofs.YtbhdfmkcoolghaaDoor
open Go Go.Am

/-- What a machine leaves to the program's own text. -/
def NoX (X : CallO) : Prop := ∀ f, f ∈ [20, 14, 19, 13, 25, 18, 7, 5, 15] → ∀ a h, X f a h = none
section
variable {X : CallO} (hX : NoX X)
include hX
theorem hasPrefix2_ok (s p : List UInt8) (h : Heap) : (lim X T).call 20 [.str s, .str p] h = some (.bool (decide (s.take p.length = p)), h) := by
  refine lim_call_of tab20 (hX _ (by decide) _ _) (callF_wp ?_)
  by_cases hl : p.length ≤ s.length
  · have : (p.length : Int) ≤ s.length := by omega
    simp [wB20, hl, this]
  · have : ¬ (p.length : Int) ≤ s.length := by omega
    have h2 : ¬ s.take p.length = p := fun e => by
      have := congrArg List.length e
      simp at this
      omega
    simp [wB20, hl, h2]
theorem hasPrefix_ok (s p : List UInt8) (h : Heap) : (lim X T).call 14 [.str s, .str p] h = some (.bool (decide (s.take p.length = p)), h) := by
  refine lim_call_of tab14 (hX _ (by decide) _ _) (callF_wp ?_)
  simp [wB14, hasPrefix2_ok hX]
theorem trimPrefix2_ok (s p : List UInt8) (h : Heap) : (lim X T).call 19 [.str s, .str p] h = some (.str (if s.take p.length = p then s.drop p.length else s), h) := by
  refine lim_call_of tab19 (hX _ (by decide) _ _) (callF_wp ?_)
  by_cases hp : s.take p.length = p
  · have hl : p.length ≤ s.length := by
      have := congrArg List.length hp
      simp at this
      omega
    simp [wB19, hasPrefix2_ok hX, hp, hl]
  · simp [wB19, hasPrefix2_ok hX, hp]
theorem trimPrefix_ok (s p : List UInt8) (h : Heap) : (lim X T).call 13 [.str s, .str p] h = some (.str (if s.take p.length = p then s.drop p.length else s), h) := by
  refine lim_call_of tab13 (hX _ (by decide) _ _) (callF_wp ?_)
  simp [wB13, trimPrefix2_ok hX]
end
def stuffP (s : List UInt8) : List UInt8 := if s.take 1 = [46] then 46 :: s else s
def unP (s : List UInt8) : List UInt8 := if s.take 1 = [46] then s.drop 1 else s
section
variable {X : CallO} (hX : NoX X)
include hX
theorem stuff_ok (s : List UInt8) (hl : s.length ≤ 1000000000) (h : Heap) : (lim X T).call 7 [.str s] h = some (.str (stuffP s), h) := by
  refine lim_call_of tab7 (hX _ (by decide) _ _) (callF_wp ?_)
  unfold stuffP
  by_cases hp : s.take 1 = [46]
  · simp [wB7, hasPrefix_ok hX, hp]
    omega
  · simp [wB7, hasPrefix_ok hX, hp]
theorem unstuff_ok (s : List UInt8) (h : Heap) : (lim X T).call 5 [.str s] h = some (.tup [.str (if s = [46] then [] else unP s), .bool (decide (s = [46]))], h) := by
  refine lim_call_of tab5 (hX _ (by decide) _ _) (callF_wp ?_)
  unfold unP
  by_cases hs : s = [46]
  · simp [wB5, hs]
  · simp [wB5, trimPrefix_ok hX, hs]
end
end Go.Proofs.YtbhdfmkcoolghaaDoor
