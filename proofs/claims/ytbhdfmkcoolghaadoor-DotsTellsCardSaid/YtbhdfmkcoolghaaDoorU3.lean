/-
  dots.lines$1: what its pieces do.
-/
import Derived.Test.YtbhdfmkcoolghaaDoorU2
set_option linter.unusedVariables false
set_option linter.unusedSimpArgs false
namespace Go.Proofs.YtbhdfmkcoolghaaDoor
open Go Go.Am

abbrev MT : List String := ["-franking/dots.Encode", "-franking/dots.Decode"]
theorem ci0 : compileC Tryd.prog MT 24 i0 = .seq (.region [⟨some 6, .load none (.t 1), none, 0⟩, ⟨some 7, .len (.t 6), none, 0⟩, ⟨some 8, .bin .gtr (.t 7) (.c (.int .i64 0)), none, 0⟩] 0 false []) (.cond (.t 8) .skip (.exit 0)) := by kernel_rfl
theorem ci1 : compileC Tryd.prog MT 24 i1 = .region [⟨some 10, .load none (.t 1), none, 0⟩, ⟨some 11, .cvStrBytes 5 (.c (.str [13, 10])), none, 0⟩, ⟨some 12, .cvMark (.t 11), none, 1⟩, ⟨some 13, .call (.c (.fn 22 [])) [.t 10, .t 12],
  none, 1⟩, ⟨some 9, .mv (.t 13), none, 1⟩, ⟨some 14, .ext (.t 9) 0, none, 1⟩, ⟨some 15, .ext (.t 9) 1, none, 1⟩, ⟨some 16, .ext (.t 9) 2, none, 1⟩, ⟨some 3, .mv (.t 14), none, 1⟩, ⟨some 4, .mv (.t 15),
  none, 1⟩, ⟨some 5, .mv (.t 16), none, 1⟩] 1 false [] := by kernel_rfl
theorem ci3 : compileC Tryd.prog MT 24 i3 = .region [⟨some 23, .mv (.t 4), none, 0⟩, ⟨none, .store 1 (.t 1) (.t 23), none, 0⟩] 0 false [] := by kernel_rfl
theorem pi0 : plainC i0 = true := by rfl
theorem pi1 : plainC i1 = true := by rfl
theorem pi3 : plainC i3 = true := by rfl
theorem run0 (b : Nat) (s : List UInt8) (r : Rt) (σ : Slots) (h : Heap) (h1 : σ 1 = .ptr b 0) (hb : h[b]? = some (.cells [.list 1 (ofBytes s) r])) :
    Wp M0 (compileC Tryd.prog MT 24 i0) (fun ex σ' h' => ex = (if 0 < s.length then .normal else .exit 0) ∧ h' = h ∧ σ' 0 = σ 0 ∧ σ' 1 = .ptr b 0) σ h := by
  rw [ci0]
  have e : ((0 : Int) < s.length) = (0 < s.length) := propext ⟨fun h => by omega, fun h => by omega⟩
  by_cases hs : 0 < s.length
  · simp [h1, hb, e, hs]
  · simp [h1, hb, e, hs]
theorem run3 (b : Nat) (v : AV) (w : AV) (σ : Slots) (h : Heap) (h1 : σ 1 = .ptr b 0) (h4 : σ 4 = v) (hv : v.cells = [v]) (hb : h[b]? = some (.cells [w])) :
    Wp M0 (compileC Tryd.prog MT 24 i3) (fun ex σ' h' => ex = .normal ∧ h' = h.set b (.cells [v]) ∧ σ' 0 = σ 0 ∧ σ' 1 = .ptr b 0) σ h := by
  rw [ci3]
  simp [h1, h4, hb, hv]
theorem run1 (b : Nat) (s : List UInt8) (r : Rt) (hr : ∀ t, r ≠ .tok t) (hs : 0 < s.length) (hl : s.length ≤ 1000000000) (σ : Slots) (h : Heap) (h1 : σ 1 = .ptr b 0) (hb : h[b]? = some (.cells [.list 1 (ofBytes s) r])) :
    Wp M0 (compileC Tryd.prog MT 24 i1) (fun ex σ' h' => ex = .normal ∧ (∃ l', h' = h ++ l') ∧ σ' 0 = σ 0 ∧ σ' 1 = .ptr b 0 ∧ ∃ q1 q2 : Rt, (∀ t, q1 ≠ .tok t) ∧ (∀ t, q2 ≠ .tok t) ∧
      σ' 3 = .list 1 (ofBytes (match cutAt s with | some i => s.take i | none => s)) q1 ∧ σ' 4 = .list 1 (ofBytes (match cutAt s with | some i => s.drop (i + 2) | none => [])) q2 ∧ σ' 5 = .bool (cutAt s).isSome) σ h := by
  rw [ci1]
  obtain ⟨q1, q2, n1, n2, hc⟩ := bcut_ok s r (.tok h.length) hr hs hl (h ++ [.tok 1 2 5])
  have hbl := (List.getElem?_eq_some_iff.1 hb).1
  have hb' : ∀ l', (h ++ l')[b]? = some (.cells [.list 1 (ofBytes s) r]) := fun l' => by rw [List.getElem?_append_left hbl]; exact hb
  cases hcs : cutAt s with
  | none =>
    rw [hcs] at hc
    simp [h1, hb, hb', hc, show ofBytes [13, 10] = [AV.int .u8 13, AV.int .u8 10] from rfl]
    exact ⟨n1, n2⟩
  | some i =>
    rw [hcs] at hc
    simp [h1, hb, hb', hc, show ofBytes [13, 10] = [AV.int .u8 13, AV.int .u8 10] from rfl]
    exact ⟨n1, n2⟩
end Go.Proofs.YtbhdfmkcoolghaaDoor
