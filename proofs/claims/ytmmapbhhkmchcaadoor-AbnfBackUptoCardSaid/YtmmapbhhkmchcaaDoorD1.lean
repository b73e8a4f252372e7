/-
  abnf: a tree's text: its small pieces, here and in the reference.
-/
import Derived.Test.YtmmapbhhkmchcaaDoorC1
set_option linter.unusedVariables false
set_option linter.unusedSimpArgs false
namespace Go.Proofs.YtmmapbhhkmchcaaDoor
open Go Go.Am

def hexL : List UInt8 := [48, 49, 50, 51, 52, 53, 54, 55, 56, 57, 65, 66, 67, 68, 69, 70]
def hexD (n : Nat) : UInt8 := UInt8.ofNat (if n < 10 then 48 + n else 55 + n)
def hexP (b : UInt8) : List UInt8 := [hexD (b.toNat / 16), hexD (b.toNat % 16)]
theorem wrap8 {i : Int} (h1 : 0 ≤ i) (h2 : i < 256) : IntKind.wrap .u8 i = i := by
  simp [IntKind.wrap, IntKind.bits, IntKind.signed]
  omega
theorem hexL_get (n : Nat) (h : n < 16) : hexL[n]? = some (hexD n) := by
  have : ((List.range 16).all fun n => hexL[n]? == some (hexD n)) = true := by decide +kernel
  have := List.all_eq_true.1 this n (by simpa using h)
  simpa using this
theorem hexL_sl (n : Nat) (h : n < 16) : (hexL.take (n + 1)).drop n = [hexD n] := by
  have : ((List.range 16).all fun n => (hexL.take (n + 1)).drop n == [hexD n]) = true := by decide +kernel
  have := List.all_eq_true.1 this n (by simpa using h)
  simpa using this
theorem shr4 (u : Nat) (hu : u < 256) : abin .shr (.int .u8 (u : Int)) (.int .u64 4) = some (.int .u8 ((u / 16 : Nat) : Int)) := by
  have e : (u : Int).fdiv 16 = ((u / 16 : Nat) : Int) := by rw [Int.fdiv_eq_ediv_of_nonneg _ (by omega)]; rfl
  simp [abin, ibin, IntKind.bits]
  rw [e]; rfl
theorem and15 (u : Nat) (hu : u < 256) : bitsOp .and .u8 (u : Int) 15 = ((u % 16 : Nat) : Int) := by
  have : ((List.range 256).all fun u => bitsOp .and .u8 (u : Int) 15 == ((u % 16 : Nat) : Int)) = true := by decide +kernel
  have := List.all_eq_true.1 this u (List.mem_range.2 hu)
  simpa using this
theorem hex_ok (b : UInt8) (h : Heap) : M.call 36 [.int .u8 b.toNat] h = some (.str (hexP b), h) := by
  have hb := b.toNat_lt
  have e1 := hexL_get (b.toNat / 16) (by omega)
  have e2 := hexL_get (b.toNat % 16) (by omega)
  unfold hexL at e1 e2
  refine call_of tab36 rfl (callF_wp ?_)
  simp [-getElem?_pos, wB36, shr4 b.toNat hb, and15 b.toNat hb]
  rw [show ((b.toNat : Int) / 16).toNat = b.toNat / 16 by omega, e1]
  simp [-getElem?_pos, wB36, shr4 b.toNat hb, and15 b.toNat hb]
  rw [show ((b.toNat : Int) % 16).toNat = b.toNat % 16 by omega, e2]
  have : asBytes [AV.int .u8 (hexD (b.toNat / 16)).toNat, AV.int .u8 (hexD (b.toNat % 16)).toNat] = some (hexP b) := asBytes_ofBytes (hexP b)
  simp [this]
  omega
end Go.Proofs.YtmmapbhhkmchcaaDoor
