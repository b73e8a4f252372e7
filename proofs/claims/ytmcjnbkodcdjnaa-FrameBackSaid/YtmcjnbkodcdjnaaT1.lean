import Derived.Test.YtmcjnbkodcdjnaaAc
import Derived.Test.YtmcjnbkodcdjnaaAmC
set_option linter.unusedVariables false
set_option linter.unusedSimpArgs false
namespace Go.Proofs.Ytmcjnbkodcdjnaa
open Go Go.Am

def frA (most : Int) (held : List UInt8) (over cr : Bool) : AV := .agg [.int .i64 most, .str held, .bool over, .bool cr]

theorem new_ok (X : CallO) (hX : ∀ a h, X 15 a h = none) (n : Int) (h : Heap) (h1 : 1 ≤ n) (h2 : n ≤ 2000) : (lim X T).call 15 [.int .i64 n] h = some (.tup [frA n [] false false, .int .i64 0], h) := by
  refine lim_call_of tab15 (hX _ _) (callF_wp ?_)
  have e1 : ¬ n < 1 := by omega
  have e2 : ¬ 2000 < n := by omega
  simp [wB15, e1, e2, frA]
theorem new_bad (X : CallO) (hX : ∀ a h, X 15 a h = none) (n : Int) (h : Heap) (h1 : n < 1 ∨ 2000 < n) : (lim X T).call 15 [.int .i64 n] h = some (.tup [frA 0 [] false false, .int .i64 2], h) := by
  refine lim_call_of tab15 (hX _ _) (callF_wp ?_)
  by_cases h0 : n < 1
  · simp [wB15, h0, frA]
  · have e2 : 2000 < n := by omega
    simp [wB15, e2, h0, frA]
theorem rest_ok (X : CallO) (hX : ∀ a h, X 12 a h = none) (n : Int) (l : List UInt8) (o c : Bool) (hl : l.length ≤ 1000000) (h : Heap) : (lim X T).call 12 [frA n l o c] h = some (.str (if c then l ++ [13] else l), h) := by
  refine lim_call_of tab12 (hX _ _) (callF_wp ?_)
  cases c
  · simp [wB12, frA]
  · have : l.length + 1 ≤ 140737488355328 := by omega
    simp [wB12, frA, asBytes, this]
end Go.Proofs.Ytmcjnbkodcdjnaa
