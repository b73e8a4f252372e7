/-
  frankinglaw03: what the world's shape and the listed variables tell.
-/
import Derived.Test.YtcflbdikkcpiaaaGreatDoorRows
import Derived.Test.YtcflbdikkcpiaaaGreatDoorXK
import Derived.Shelf.Vars
import Derived.ProofKit
import Derived.LaidMore
import Derived.Lay
import Derived.MakeChecks
import Derived.OpenShut
import Derived.Handed
import Derived.Lib.LaidTab
import Derived.Deep.DeepHandedRow
import Derived.Stop.LaidErr
set_option linter.unusedVariables false
set_option linter.unusedSimpArgs false
set_option maxRecDepth 100000
namespace Go.Proofs.YtcflbdikkcpiaaaGreatDoor
open Go Go.Am Go.RowKit
theorem var_heap {P : Program} {W : World} {n : String} {g : Nat} {cs : Array Value} (hg : P.globalNamed n = some g) (h : W.var? P n = some cs) : g < W.heap.size ∧ ∃ t fr, W.heap[g]? = some (.cells cs t fr) := by
 simp only [World.var?, hg, Option.bind_some] at h
 split at h
 ·rename_i cs' t fr hh
  injection h with h
  subst h
  exact ⟨(Array.getElem?_eq_some_iff.1 hh).1, t, fr, hh⟩
 ·cases h
theorem zok_of {W : World} {rest : List (String × DataW Unit)} (h : laidMet Tryz.prog (("internal/strconv.uint64pow10", Rows.laid_internal_strconv_uint64pow10) :: rest) W) (hs : W.ShapedOpen Tryz.prog) : ZOk W.heap.size W := by
 have htab : Lib.TabIs Tryz.prog W "internal/strconv.uint64pow10" .u64 Lib.pow10Tab :=
  Lib.tabIs_of_head (g := 1) (t := 165) (e := 158) (n := 20) (by kernel_rfl) (by kernel_rfl) Tryz.underlying165 Tryz.underlying158 (by kernel_rfl) (by kernel_rfl) h
 have g4 : Tryz.prog.globalNamed "internal/strconv.uint64pow10" = some 1 := by kernel_rfl
 obtain ⟨k1, t1, f1, e1⟩ := var_heap g4 htab
 refine ⟨⟨k1, t1, f1, e1⟩, ?_⟩
 have h0 : ((begin Tryz.prog (fun _ _ => 0) default).world.heap[0]?).bind Obj.row? = some (#[.int .i64 0], 3) := by kernel_rfl
 have hg : 0 < Tryz.prog.globals.size := of_decide_eq_true (by kernel_rfl)
 obtain ⟨m, hm⟩ := cell_of_shapedOpen_int (zero := #[.int .i64 0]) (t := 3) hs hg h0 rfl (by kernel_rfl) (by kernel_rfl) Tryz.underlying3
 obtain ⟨cs, hh, hs, _⟩ := hs.1 0 _ 3 hg h0
 have hs1 : cs.size = 1 := hs
 have hc : cs[0]? = some (.int .i64 m) := by simpa [World.cell?, hh] using hm
 have : cs = #[.int .i64 m] := by
  apply Array.ext
  ·exact hs1
  ·intro i h1 h2
   obtain rfl : i = 0 := by omega
   rw [Array.getElem?_eq_getElem h1] at hc
   exact Option.some.inj hc
 rw [this] at hh
 exact ⟨(Array.getElem?_eq_some_iff.1 hh).1, m, _, _, hh⟩
end Go.Proofs.YtcflbdikkcpiaaaGreatDoor
