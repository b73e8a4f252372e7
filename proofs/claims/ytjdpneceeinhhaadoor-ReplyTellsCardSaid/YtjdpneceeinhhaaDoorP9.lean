/-
  frankinglaw18: what the arguments are.
-/
import Derived.Test.YtjdpneceeinhhaaDoorP8
set_option linter.unusedVariables false
set_option linter.unusedSimpArgs false
namespace Go.Proofs.YtjdpneceeinhhaaDoor
open Go Go.Am

set_option maxRecDepth 100000 in
theorem arg_strs {n : Nat} {a : AV} (h : HasE Tryd.prog (Has Tryd.prog n) 22 a) : ∃ l : Txt, a = strL l .no ∧ l.length ≤ big := by
  obtain ⟨l, rfl, h1, _⟩ := has_strs Tryd.underlying22 Tryd.underlying9 (by kernel_rfl) h
  exact ⟨l, rfl, h1⟩
set_option maxRecDepth 100000 in
theorem arg_reply {n : Nat} {a : AV} (h : HasE Tryd.prog (Has Tryd.prog n) 24 a) : ∃ (c : Int) (l : Txt), a = repA c l .no ∧ l.length ≤ big := by
  obtain ⟨cs, m, rfl, hf⟩ := has_struct Tryd.underlying24 h
  obtain ⟨x, y, rfl, hx, z, w, rfl, hz, hw⟩ := hf
  have hw' : w = [] := hw
  subst hw'
  cases m with
  | zero => exact hx.elim
  | succ m =>
    change Has Tryd.prog (m + 1) 3 x at hx
    change Has Tryd.prog (m + 1) 22 z at hz
    simp only [Has, Tryd.underlying3] at hx
    simp only [Has, Tryd.underlying22] at hz
    obtain ⟨i, rfl, _⟩ := hx
    obtain ⟨xs, rfl, h1, h2⟩ := hz
    obtain ⟨l, rfl⟩ := choose_list (p := AV.str) fun x hx => (by
      obtain ⟨s, e, _⟩ := has_str Tryd.underlying9 (h2 x hx)
      exact ⟨s, e⟩ : ∃ y, x = AV.str y)
    have hc : Tryd.prog.cellsOf 9 = 1 := by kernel_rfl
    rw [hc]
    rw [List.length_map] at h1
    exact ⟨i, l, rfl, h1⟩
set_option maxRecDepth 100000 in
theorem ReplyBack_law (xs : List AV) (h : HasArgs Tryd.prog [24, 22] xs) : (lim XS T).call 3 xs [] = some (.bool true, []) := by
  obtain ⟨a0, r0, n0, rfl, h0, h⟩ := h
  obtain ⟨a1, r1, n1, rfl, h1, h⟩ := h
  obtain rfl := args_nil h
  obtain ⟨c, l, rfl, hl⟩ := arg_reply h0
  obtain ⟨more, rfl, hm⟩ := arg_strs h1
  exact replyBack_true c l more hl hm
set_option maxRecDepth 100000 in
theorem ReplyAgain_law (xs : List AV) (h : HasArgs Tryd.prog [22, 5] xs) : (lim XS T).call 4 xs [] = some (.bool true, []) := by
  obtain ⟨a0, r0, n0, rfl, h0, h⟩ := h
  obtain ⟨a1, r1, n1, rfl, h1, h⟩ := h
  obtain rfl := args_nil h
  obtain ⟨l, rfl, hl⟩ := arg_strs h0
  obtain ⟨c, rfl⟩ := has_u8 Tryd.underlying5 h1
  exact replyAgain_true l c hl
end Go.Proofs.YtjdpneceeinhhaaDoor
