/-
  LexValues: what the listed variables hold, as the machine wants it.
-/
import Derived.Test.YtiobaboailhafaaDoorRows
import Derived.Test.YtiobaboailhafaaDoorX4
import Derived.ProofKit
import Derived.LaidMore
import Derived.OpenShut
import Derived.Lay
import Derived.MakeChecks
import Derived.Lib.LaidTab
import Derived.Stop.LaidErr
set_option linter.unusedVariables false
set_option linter.unusedSimpArgs false
set_option maxRecDepth 20000
namespace Go.Proofs.YtiobaboailhafaaDoor
open Go Go.Am Go.RowKit

theorem extOk : CallOk Tryd.prog XS := orX_ok (ibsX_ok Tryd.func82 rfl (by kernel_rfl) (by kernel_rfl) (by kernel_rfl)) upOk
theorem extFr : FrXT T XS := (orX_fr (ibsX_fr _) (fX_fr _ _)).weak T
abbrev laidL : List (String × DataW Unit) := [("math/bits.deBruijn32tab", Rows.laid_math_bits_deBruijn32tab), ("math/bits.deBruijn64tab", Rows.laid_math_bits_deBruijn64tab), ("internal/strconv.uint64pow10", Rows.laid_internal_strconv_uint64pow10), ("unicode/utf8.acceptRanges", Rows.laid_unicode_utf8_acceptRanges), ("unicode.CaseRanges", Rows.laid_unicode_CaseRanges), ("unicode/utf8.first", Rows.laid_unicode_utf8_first)]
def deB : List Int := [0, 1, 56, 2, 57, 49, 28, 3, 61, 58, 42, 50, 38, 29, 17, 4, 62, 47, 59, 36, 45, 43, 51, 22, 53, 39, 33, 30, 24, 18, 12, 5, 63, 55, 48, 27, 60, 41, 37, 16, 46, 35, 44, 21, 52, 32, 23, 11, 54, 26, 40, 15, 34, 20, 31, 10, 25, 14, 19, 9, 13, 8, 7, 6]
theorem var_heap {P : Program} {W : World} {n : String} {g : Nat} {cs : Array Value} (hg : P.globalNamed n = some g) (h : W.var? P n = some cs) : ∃ t fr, W.heap[g]? = some (.cells cs t fr) := by
  simp only [World.var?, hg, Option.bind_some] at h
  split at h
  · rename_i cs' t fr hh
    injection h with h
    subst h
    exact ⟨t, fr, hh⟩
  · cases h
/-- A table in memory, as the machine reads it. -/
theorem eptr_tab {W : World} {g : Nat} {k : IntKind} {zs : List Int} {t : TypeId} {fr : Nat × Nat} (h : W.heap[g]? = some (.cells (zs.map fun z => Value.int k z).toArray t fr)) : Rd (Env.of W) (.pointer (some ⟨g, 0, none⟩)) (.eptr (zs.map fun z => .int k z)) := by
  refine .eptr g 0 _ (fun j => (zs[j]?.map fun z => Value.int k z).getD undef) (fun y hy => ?_) (fun j hj => ?_) (fun j y hy => ?_)
  · obtain ⟨z, _, rfl⟩ := List.mem_map.1 hy
    trivial
  · have hj' : j < zs.length := by simpa using hj
    show W.cell? ⟨g, 0 + j, none⟩ = _
    simp [World.cell?, h, hj']
  · simp only [List.getElem?_map, Option.map_eq_some_iff] at hy
    obtain ⟨z, hz, rfl⟩ := hy
    simp only [hz, Option.map_some, Option.getD_some]
    exact .int _ _
theorem gl_of_laid {W : World} (h : laidMetH Tryd.prog laidL W) : GlOk (Env.of W) := by
  rw [MakeChecks.laidMetH_plain _ _ _ (by kernel_rfl)] at h
  have h1 := h.tail
  have t6 : Lib.TabIs Tryd.prog W "math/bits.deBruijn64tab" .u8 deB :=
    Lib.tabIs_of_head (g := 6) (t := 111) (e := 5) (n := 64) (by kernel_rfl) (by kernel_rfl) Tryd.underlying111 Tryd.underlying5 (by kernel_rfl) (by kernel_rfl) h1
  have t0 : Lib.TabIs Tryd.prog W "internal/strconv.uint64pow10" .u64 Lib.pow10Tab :=
    Lib.tabIs_of_head (g := 0) (t := 81) (e := 27) (n := 20) (by kernel_rfl) (by kernel_rfl) Tryd.underlying81 Tryd.underlying27 (by kernel_rfl) (by kernel_rfl) h1.tail
  have g6 : Tryd.prog.globalNamed "math/bits.deBruijn64tab" = some 6 := by kernel_rfl
  have g0 : Tryd.prog.globalNamed "internal/strconv.uint64pow10" = some 0 := by kernel_rfl
  obtain ⟨ty6, f6, e6⟩ := var_heap g6 t6
  obtain ⟨ty0, f0, e0⟩ := var_heap g0 t0
  intro g cs hg
  have hm := GT_mem hg
  simp only [gtList, List.mem_cons, List.not_mem_nil, or_false, Prod.mk.injEq] at hm
  rcases hm with ⟨rfl, rfl⟩ | ⟨rfl, rfl⟩
  · exact eptr_tab (zs := Lib.pow10Tab) e0
  · exact eptr_tab (zs := deB) e6
end Go.Proofs.YtiobaboailhafaaDoor
