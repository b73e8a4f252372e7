/-
  bytes.Cut at the line's end.
-/
import Derived.Test.YtbhdfmkcoolghaaDoorU0
set_option linter.unusedVariables false
set_option linter.unusedSimpArgs false
namespace Go.Proofs.YtbhdfmkcoolghaaDoor
open Go Go.Am

noncomputable def XS0 : CallO := fX 26 biPat
theorem ext0 : CallOk Tryd.prog XS0 := biOk
theorem fr0 : FrX XS0 := fX_fr _ _
noncomputable abbrev M0 : Orc := lim XS0 T
theorem call0 {f : FuncId} {F : AF} {args : List AV} {h : Heap} {r : AV × Heap} (hF : T f = some F) (hf : f ≠ 26) (hc : callF M0 F args h = some r) : M0.call f args h = some r := lim_call_of hF (by simp [XS0, fX, hf]) hc
theorem bindex_ok (s t : List UInt8) (r1 r2 : Rt) (h1 : 0 < s.length) (h2 : s.length < 4294967281) (h3 : 0 < t.length) (h4 : t.length ≤ 1000000) (h : Heap) : M0.call 26 [.list 1 (ofBytes s) r1, .list 1 (ofBytes t) r2] h = some (.int .i64 (Lib.index s t), h) := by
  refine lim_ext ?_
  unfold XS0 fX biPat
  simp [h1, h2, h3, h4]
/-- The line's end, where it first stands. -/
def cutAt (s : List UInt8) : Option Nat := if 0 ≤ Lib.index s [13, 10] then some (Lib.index s [13, 10]).toNat else none
theorem cut_room (s : List UInt8) (i : Nat) (h : cutAt s = some i) : i + 2 ≤ s.length ∧ Lib.index s [13, 10] = i := by
  unfold cutAt at h
  split at h
  · rename_i h0
    injection h with h
    have := Lib.index_room s [13, 10] h0
    simp at this
    omega
  · cases h
theorem cut_none (s : List UInt8) (h : cutAt s = none) : Lib.index s [13, 10] < 0 := by
  unfold cutAt at h
  split at h
  · cases h
  · omega
theorem bcut_ok (s : List UInt8) (r1 r2 : Rt) (hr1 : ∀ t, r1 ≠ .tok t) (h1 : 0 < s.length) (h2 : s.length ≤ 1000000000) (h : Heap) : ∃ q1 q2 : Rt, (∀ t, q1 ≠ .tok t) ∧ (∀ t, q2 ≠ .tok t) ∧ M0.call 22 [.list 1 (ofBytes s) r1, .list 1 [.int .u8 13, .int .u8 10] r2] h =
    some (match cutAt s with | some i => .tup [.list 1 (ofBytes (s.take i)) q1, .list 1 (ofBytes (s.drop (i + 2))) q2, .bool true] | none => .tup [.list 1 (ofBytes s) q1, .list 1 [] q2, .bool false], h) := by
  have hb := fun h => bindex_ok s [13, 10] r1 r2 h1 (by omega) (by simp) (by simp) h
  rw [show ofBytes [13, 10] = [AV.int .u8 13, AV.int .u8 10] from rfl] at hb
  cases hc : cutAt s with
  | none =>
    have hlt := cut_none s hc
    have hn : (0 ≤ Lib.index s [13, 10]) = False := eq_false (by omega)
    refine ⟨r1, .full, hr1, fun t h => (by cases h), call0 tab22 (by decide) (callF_wp ?_)⟩
    have hlow : AV.lows h.length (ofBytes s) := lows_map _ _ fun _ _ => trivial
    rcases r1 with _ | _ | t
    · simp [wB22, hb, hn, hlow]
    · simp [wB22, hb, hn, hlow]
    · exact absurd rfl (hr1 t)
  | some i =>
    obtain ⟨hr, hi⟩ := cut_room s i hc
    rw [hi] at hb
    have w1 : IntKind.wrap .i64 ((i : Int) + 2) = ((i + 2 : Nat) : Int) := by rw [wrap64 (by omega) (by omega)]; rfl
    have hlow : AV.lows h.length (ofBytes s) := lows_map _ _ fun _ _ => trivial
    refine ⟨.no, .no, fun t h => (by cases h), fun t h => (by cases h), call0 tab22 (by decide) (callF_wp ?_)⟩
    have e1 : i ≤ s.length := by omega
    have e2 : (i = s.length) = False := eq_false (by omega)
    have e3 : 0 ≤ (i : Int) + 2 ∧ (i : Int) + 2 ≤ (s.length : Int) := by omega
    have e4 : ((i : Int) + 2).toNat = i + 2 := by omega
    simp [wB22, hb, w1, hlow, e1, e2, e3, e4]
    try fail "x"
end Go.Proofs.YtbhdfmkcoolghaaDoor
