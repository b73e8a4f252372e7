/-
  strconv.FormatUint, of bytes.
-/
import Derived.Test.YtiobaboailhafaaDoorS0
set_option linter.unusedVariables false
set_option linter.unusedSimpArgs false
set_option maxRecDepth 20000
namespace Go.Proofs.YtiobaboailhafaaDoor
open Go Go.Am

def dg (d : Nat) : UInt8 := if d < 10 then UInt8.ofNat (48 + d) else UInt8.ofNat (87 + d)
def fmtF : Nat → Nat → Nat → List UInt8
  | 0, _, _ => []
  | f + 1, base, u => if u < base then [dg u] else fmtF f base (u / base) ++ [dg (u % base)]
def fmtP (base u : Nat) : List UInt8 := fmtF 9 base u
def upC (c : UInt8) : UInt8 := if 97 ≤ c.toNat ∧ c.toNat ≤ 122 then UInt8.ofNat (c.toNat - 32) else c

theorem pow2_ok (n m : Int) (hm : IntKind.wrap .i64 (n - 1) = m) (hb : bitsOp .and .i64 n m = 0) (h : Heap) : M.call 55 [.int .i64 n] h = some (.bool true, h) := by
  refine call_of tab55 rfl (callF_wp ?_)
  simp [wB55, hm, hb]
theorem tz_ok (h : Heap) : M.call 73 [.int .u64 16] h = some (.int .i64 4, h) ∧ M.call 73 [.int .u64 2] h = some (.int .i64 1, h) := by
  have a1 : IntKind.wrap .u64 (-16) = 18446744073709551600 := by decide
  have a2 : bitsOp .and .u64 16 18446744073709551600 = 16 := by decide +kernel
  have a3 : IntKind.wrap .u64 4573923408821661840 = 4573923408821661840 := by decide
  have b1 : IntKind.wrap .u64 (-2) = 18446744073709551614 := by decide
  have b2 : bitsOp .and .u64 2 18446744073709551614 = 2 := by decide +kernel
  have b3 : IntKind.wrap .u64 571740426102707730 = 571740426102707730 := by decide
  have a4 : abin .shr (.int .u64 4573923408821661840) (.int .u64 58) = some (.int .u64 15) := by rfl
  have b4 : abin .shr (.int .u64 571740426102707730) (.int .u64 58) = some (.int .u64 1) := by rfl
  constructor
  · refine call_of tab73 rfl (callF_wp ?_)
    simp [wB73, a1, a2, a3, a4, show IntKind.wrap .i64 4 = 4 by decide]
  · refine call_of tab73 rfl (callF_wp ?_)
    simp [wB73, b1, b2, b3, b4, show IntKind.wrap .i64 1 = 1 by decide]
end Go.Proofs.YtiobaboailhafaaDoor
