/-
  A rule's cells.
-/
import Derived.Test.YtmmapbhhkmchcaaDoorB3
set_option linter.unusedVariables false
set_option linter.unusedSimpArgs false
namespace Go.Proofs.YtmmapbhhkmchcaaDoor
open Go Go.Am

def ruL (x : Ru) : List AV := [.str x.name, .int .i64 x.pos, .bool x.more] ++ x.tree.encL
@[simp] theorem ruL_len (x : Ru) : (ruL x).length = 10 := by simp [ruL]
theorem ruA_cells (x : Ru) : (ruA x).cells = ruL x := rfl
theorem ruL_take (x : Ru) : (ruL x).take 10 = ruL x := List.take_of_length_le (by simp)
theorem ruL_drop (x : Ru) : (ruL x).drop 10 = [] := List.drop_eq_nil_of_le (by simp)
theorem ruL_agg (x : Ru) : AV.agg (ruL x) = ruA x := rfl
theorem ruL_tree (x : Ru) : (ruL x).drop 3 = x.tree.encL := rfl
theorem ruL_pos (x : Ru) : (ruL x)[1]? = some (.int .i64 x.pos) := rfl
end Go.Proofs.YtmmapbhhkmchcaaDoor
