/-
  reply: a line, cut; right; kinds of lists.
-/
import Derived.Test.YtjdpneceeinhhaaDoorP1
set_option linter.unusedVariables false
set_option linter.unusedSimpArgs false
namespace Go.Proofs.YtjdpneceeinhhaaDoor
open Go Go.Am

def digC (c : UInt8) : Bool := decide (48 ≤ c.toNat ∧ c.toNat ≤ 57)
def numP (a b c : UInt8) : Option Nat := if digC a && digC b && digC c then some (100 * (a.toNat - 48) + 10 * (b.toNat - 48) + (c.toNat - 48)) else none
theorem numP_le {a b c : UInt8} {n : Nat} (h : numP a b c = some n) : n ≤ 999 := by
  unfold numP at h
  split at h
  · rename_i hd
    injection h with h
    simp [digC] at hd
    omega
  · cases h
theorem parse3 (a b c : UInt8) : Lib.parseUintB 16 [a, b, c] = match numP a b c with | some n => .ok n | none => .syntax := by
  unfold Lib.parseUintB numP digC
  rw [if_neg (by simp)]
  by_cases ha : 48 ≤ a.toNat ∧ a.toNat ≤ 57
  · by_cases hb : 48 ≤ b.toNat ∧ b.toNat ≤ 57
    · by_cases hc : 48 ≤ c.toNat ∧ c.toNat ≤ 57
      · simp only [Lib.parseUintM, ha, hb, hc, and_self, if_true, decide_true, Bool.and_self]
        rw [if_neg (by omega), if_neg (by omega), if_neg (by omega), if_neg (by omega), if_neg (by omega), if_neg (by omega)]
        simp only [Lib.NumEnd.ok.injEq]
        omega
      · simp only [Lib.parseUintM, ha, hb, hc, and_self, if_true, if_false, decide_true, decide_false, Bool.and_false]
        rw [if_neg (by omega), if_neg (by omega), if_neg (by omega), if_neg (by omega)]
        rfl
    · simp only [Lib.parseUintM, ha, hb, and_self, if_true, if_false, decide_true, decide_false, Bool.and_false, Bool.false_and]
      rw [if_neg (by omega), if_neg (by omega)]
      rfl
  · simp only [Lib.parseUintM, ha, if_false, decide_false, Bool.false_and]
    rfl
theorem pu_ok (s : List UInt8) (hs : s.length ≤ 1000000000) (r : AV) (h : Heap) (hr : puPat [.str s, .int .i64 10, .int .i64 16] = some r) : M.call 40 [.str s, .int .i64 10, .int .i64 16] h = some (r, h) := by
  refine lim_ext ?_
  have e1 : fX 22 itPat 40 [.str s, .int .i64 10, .int .i64 16] h = none := rfl
  have e2 : fX 40 puPat 40 [.str s, .int .i64 10, .int .i64 16] h = some (r, h) := by
    unfold fX
    simp only [if_true, hr, Option.map_some]
  unfold XS orX
  rw [e1]
  simp only
  rw [e2]
theorem pu3_ok (a b c : UInt8) (h : Heap) : M.call 40 [.str [a, b, c], .int .i64 10, .int .i64 16] h = some (match numP a b c with | some n => .tup [.int .u64 n, .nili] | none => .tup [.int .u64 0, .iface 90 .junk], h) := by
  refine pu_ok _ (by simp) _ h ?_
  unfold puPat
  simp only [parse3]
  rw [if_pos (by simp)]
  cases numP a b c <;> rfl
/-- A line's code, mark, text; is it one? -/
def cutP (s : List UInt8) : Nat × UInt8 × List UInt8 × Bool :=
  match s with
  | a :: b :: c :: m :: t => ((numP a b c).getD 0, m, t, match numP a b c with | some n => decide (0 < kindN n) && saidP t | none => false)
  | _ => (0, 0, [], false)
theorem cut_ok (s : List UInt8) (h : Heap) : M.call 26 [.str s] h = some (.tup [.int .i64 (cutP s).1, .int .u8 (cutP s).2.1.toNat, .str (cutP s).2.2.1, .bool (cutP s).2.2.2], h) := by
  refine call_of tab26 rfl (callF_wp ?_)
  have short : ∀ s : List UInt8, s.length < 4 → cutP s = (0, 0, [], false) → Wp M B26 (fun e σ h' => isEnd e ∧ ∃ vs, resVals σ h' [ARes.tmp 2, ARes.tmp 3, ARes.tmp 4, ARes.tmp 5] = some vs ∧ finish h h' (oneOf vs) = some (.tup [.int .i64 (cutP s).1, .int .u8 (cutP s).2.1.toNat, .str (cutP s).2.2.1, .bool (cutP s).2.2.2], h)) (fun i => [AV.str s].getD i .junk) h := by
    intro s hl e
    have hl' : (s.length : Int) < 4 := by omega
    rw [e]
    simp [wB26, hl']
  match s with
  | [] => exact short _ (by simp) rfl
  | [a] => exact short _ (by simp) rfl
  | [a, b] => exact short _ (by simp) rfl
  | [a, b, c] => exact short _ (by simp) rfl
  | a :: b :: c :: m :: t =>
    have hl : ¬ ((t.length : Int) + 1 + 1 + 1 + 1 < 4) := by omega
    have l1 : (3 : Int) ≤ (t.length : Int) + 1 + 1 + 1 + 1 := by omega
    have l2 : (4 : Int) ≤ (t.length : Int) + 1 + 1 + 1 + 1 := by omega
    have hpu := fun h => pu3_ok a b c h
    unfold cutP
    simp only
    cases hn : numP a b c with
    | none =>
      rw [hn] at hpu
      simp at hpu
      have w0 : IntKind.wrap .i64 0 = 0 := by decide
      simp [wB26, hl, l1, l2, hpu, w0]
    | some n =>
      rw [hn] at hpu
      simp at hpu
      have hle := numP_le hn
      have w1 : IntKind.wrap .i64 (n : Int) = (n : Int) := wrap64 (by omega) (by omega)
      have hk := fun h => kind_ok (n : Int) h
      have hs' := fun h => said_ok t h
      by_cases hkn : 0 < kindN n
      · have hkn' : (0 : Int) < kindN n := by omega
        cases hsd : saidP t with
        | true =>
          rw [hsd] at hs'
          simp [wB26, hl, l1, l2, hpu, w1, hk, hkn, hkn', hs']
        | false =>
          rw [hsd] at hs'
          simp [wB26, hl, l1, l2, hpu, w1, hk, hkn, hkn', hs']
      · have hkn' : kindN n = 0 := by omega
        simp [wB26, hl, l1, l2, hpu, w1, hk, hkn', hs']
end Go.Proofs.YtjdpneceeinhhaaDoor
