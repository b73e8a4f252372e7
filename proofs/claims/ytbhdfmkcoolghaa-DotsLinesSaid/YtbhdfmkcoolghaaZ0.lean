/-
  What the world's shape tells of the library's variable.
-/
import Derived.Test.YtbhdfmkcoolghaaAc
import Derived.Shelf.Vars
import Derived.ProofKit
set_option linter.unusedVariables false
namespace Go.Proofs.Ytbhdfmkcoolghaa
open Go Go.Am Go.RowKit

theorem zok_of_shaped {W : World} (h : W.ShapedOpen Try.prog) : ZOk W.heap.size W := by
  have h0 : ((begin Try.prog (fun _ _ => 0) default).world.heap[0]?).bind Obj.row? = some (#[.int .i64 0], 3) := by kernel_rfl
  have hg : 0 < Try.prog.globals.size := of_decide_eq_true (by kernel_rfl)
  obtain ⟨m, hm⟩ := cell_of_shapedOpen_int (zero := #[.int .i64 0]) (t := 3) h hg h0 rfl (by kernel_rfl) (by kernel_rfl) Try.underlying3
  obtain ⟨cs, hh, hs, _⟩ := h.1 0 _ 3 hg h0
  have hs1 : cs.size = 1 := hs
  have hc : cs[0]? = some (.int .i64 m) := by simpa [World.cell?, hh] using hm
  have : cs = #[.int .i64 m] := by
    apply Array.ext
    · exact hs1
    · intro i h1 h2
      obtain rfl : i = 0 := by omega
      rw [Array.getElem?_eq_getElem h1] at hc
      exact Option.some.inj hc
  rw [this] at hh
  exact ⟨(Array.getElem?_eq_some_iff.1 hh).1, m, _, _, hh⟩
end Go.Proofs.Ytbhdfmkcoolghaa
