/-
  frankinglow.Grown: numbers, one by one.
-/
import Derived.Test.YtmmapbhhkmchcaaDoorR5
set_option linter.unusedVariables false
set_option linter.unusedSimpArgs false
namespace Go.Proofs.YtmmapbhhkmchcaaDoor
open Go Go.Am

/-- The grower: numbers, a place, names. -/
def stG (U : List Nat) (rt : Rt) (nm : List (List UInt8)) (rn : Rt) (a : Nat) : AE := .cells [.list 1 (U.map fun j => .int .u16 (j : Nat)) rt, .int .i64 a, .list 1 (nm.map AV.str) rn]
theorem nums_low (n : Nat) (U : List Nat) : AV.lows n (U.map fun j => AV.int .u16 (j : Nat)) := lows_map _ _ fun _ _ => trivial
theorem strs_low (n : Nat) (l : List (List UInt8)) : AV.lows n (l.map AV.str) := lows_map _ _ fun _ _ => trivial
theorem stG_low {U : List Nat} {rt : Rt} {nm : List (List UInt8)} {rn : Rt} {a n : Nat} (h1 : ∀ t, rt = .tok t → t < n) (h2 : ∀ t, rn = .tok t → t < n) : (stG U rt nm rn a).low n := by
  simp only [stG, AE.low, AV.lows, AV.low, and_true]
  exact ⟨⟨h1, nums_low n U⟩, trivial, h2, strs_low n nm⟩
def nxV (U : List Nat) (a b : Nat) : Nat := match U[a]? with
  | some j => j % b
  | none => 0
def nxA (U : List Nat) (a : Nat) : Nat := if a < U.length then a + 1 else a
theorem nxV_lt (U : List Nat) (a : Nat) {b : Nat} (hb : 1 ≤ b) : nxV U a b < b := by
  unfold nxV
  split
  · exact Nat.mod_lt _ hb
  · omega
section
variable {U : List Nat} {rt : Rt} {nm : List (List UInt8)} {rn : Rt} {r : Nat} (hU : U.length ≤ 1000000) (hj : ∀ j ∈ U, j ≤ 65535)
include hU hj in
theorem gnext_ok (a b : Nat) (ha : a ≤ U.length) (hb : 1 ≤ b) (hb2 : b ≤ 1000) (h : Heap) (hr : h[r]? = some (stG U rt nm rn a)) (h1 : ∀ t, rt = .tok t → t < h.length) (h2 : ∀ t, rn = .tok t → t < h.length) :
    M.call 22 [.ptr r 0, .int .i64 b] h = some (.int .i64 (nxV U a b), h.set r (stG U rt nm rn (nxA U a))) := by
  obtain ⟨g, rfl, hlt⟩ := HH_of hr
  rw [HH_set0]
  rw [HH_len] at h1 h2
  have hlow := stG_low (U := U) (nm := nm) (a := a + 1) h1 h2
  have e1 := fun (e : AE) q => HH_get (g := g) (r := r) (e := e) hlt q
  have e2 := fun (e e' : AE) q => HH_set (g := g) (r := r) (e := e) hlt e' q
  have e10 := fun (e : AE) => HH_get0 (g := g) (r := r) (e := e) hlt
  have e20 := fun (e e' : AE) => HH_set0 (g := g) (r := r) (e := e) e'
  refine call_of tab22 rfl (callF_wp ?_)
  by_cases c : a < U.length
  · obtain ⟨j, ej⟩ : ∃ j, U[a]? = some j := ⟨_, List.getElem?_eq_getElem c⟩
    have hjl := hj j (List.mem_of_getElem? ej)
    have c' : ¬ (U.length : Int) ≤ a := by omega
    have hv : nxV U a b = j % b := by simp [nxV, ej]
    have ha' : nxA U a = a + 1 := by simp [nxA, c]
    have w1 : IntKind.wrap .i64 ((a : Int) + 1) = ((a + 1 : Nat) : Int) := by rw [wrap64 (by omega) (by omega)]; rfl
    have w2 : IntKind.wrap .i64 (((a + 1 : Nat) : Int) - 1) = (a : Int) := by rw [wrap64 (by omega) (by omega)]; omega
    have w3 : IntKind.wrap .i64 (j : Int) = (j : Int) := wrap64 (by omega) (by omega)
    have tm : (j : Int).tmod (b : Int) = ((j % b : Nat) : Int) := rfl
    have hb0 : ¬ (b : Int) = 0 := by omega
    have hb0' : ¬ b = 0 := by omega
    rw [hv, ha']
    unfold stG at *
    simp [-getElem?_pos, -Int.natCast_add, -Int.natCast_emod, wB22, e1, e2, e10, e20, c, c', ej, w1, w2, w3, tm, hb0, hb0', abin_rem]
    rw [finish_HH (by rw [List.take_of_length_le (by simp)]) hlt hlow]
    simp
  · have c' : (U.length : Int) ≤ a := by omega
    have hv : nxV U a b = 0 := by simp [nxV, List.getElem?_eq_none (by omega : U.length ≤ a)]
    have ha' : nxA U a = a := by simp [nxA, c]
    rw [hv, ha']
    unfold stG at *
    simp [-getElem?_pos, wB22, e1, e10, c, c']
end
end Go.Proofs.YtmmapbhhkmchcaaDoor
