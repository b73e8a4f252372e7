/-
  dots.Encode: its rounds, its end.
-/
import Derived.Test.YtbhdfmkcoolghaaDoorU7
import Derived.Test.YtbhdfmkcoolghaaDoorU8
set_option linter.unusedVariables false
set_option linter.unusedSimpArgs false
namespace Go.Proofs.YtbhdfmkcoolghaaDoor
open Go Go.Am

theorem nox0 : NoX XS0 := by
  intro f hf a h
  unfold XS0 fX
  rw [if_neg]
  intro e
  subst e
  revert hf
  decide
theorem get_of_take {g h : Heap} {n k : Nat} (e : g.take n = h.take n) (hk : k < n) : g[k]? = h[k]? := by
  have := congrArg (fun z : Heap => z[k]?) e
  simpa [List.getElem?_take, hk] using this
theorem enc_body {n0 o : Nat} {out line : List UInt8} {rr : Rt} {σ : Slots} {h : Heap} (h3 : σ 3 = .ptr o 0) (h4 : σ 4 = .str line) (ho : h[o]? = some (.cells [.list 1 (ofBytes out) rr])) (ow : Ow n0 h 1 5 rr out.length) (hn : n0 ≤ h.length) (hon : o < n0)
    (hl : out.length + line.length ≤ 1000000000) :
    Wp M0 qen4 (fun ex σ2 h2 => ex = .normal ∧ h.length ≤ h2.length ∧ (∃ rr', h2[o]? = some (.cells [.list 1 (ofBytes (out ++ stuffP line ++ [13, 10])) rr']) ∧ Ow n0 h2 1 5 rr' (out ++ stuffP line ++ [13, 10]).length) ∧ ∀ k, k < n0 → k ≠ o → h2[k]? = h[k]?) σ h := by
  have hsl : (stuffP line).length ≤ line.length + 1 := by unfold stuffP; split <;> simp
  obtain ⟨r1, g1, p1, p2, p3⟩ := app_own (n0 := n0) (key := h.length) (sz := 1) (bytes := 1) (e := 5) (h := h ++ [AE.dead, AE.dead]) (s' := 1) (xs := ofBytes out) (r := rr) (x := .str (stuffP line)) (ys := ofBytes (stuffP line)) rfl (.inl rfl) (by simpa using ow.app _) hn (by simp) (by simp; omega) (by simp; omega)
  have hg1 : g1.length = h.length + 2 := by rw [p3.len]; simp
  obtain ⟨r2, g2, q1, q2, q3⟩ := app_own (n0 := n0) (key := h.length + 1) (sz := 1) (bytes := 1) (e := 5) (h := g1) (s' := 1) (xs := ofBytes (out ++ stuffP line)) (r := r1) (x := .str [13, 10]) (ys := ofBytes [13, 10]) rfl (.inl rfl) (by simpa using p2) (by omega) (by omega) (by simp; omega) (by simp; omega)
  have ho1 : (h ++ [AE.dead, AE.dead])[o]? = some (.cells [.list 1 (ofBytes out) rr]) := get_left ho _
  have hs := fun h => stuff_ok nox0 line (by omega) h
  have ho2 : g1[o]? = some (.cells [.list 1 (ofBytes out) rr]) := p3.keep (by simpa using ow.app _) ho1 (by simp) (by omega)
  have ho3 : g2[o]? = some (.cells [.list 1 (ofBytes out) rr]) := q3.keep p2 ho2 (by simp) (by omega)
  simp [h3, h4, ho1, hs, p1, q1, ho3]
  refine ⟨by rw [q3.len]; omega, ⟨r2, get_set_eq (by rw [q3.len]; have := lt_of_get ho; omega), ?_⟩, fun k hk hne => ?_⟩
  · have := q2.set (i := o) (x := .cells [.list 1 (ofBytes (out ++ (stuffP line ++ [13, 10]))) r2]) (by rw [ho3]; simp)
    simpa [Nat.add_assoc] using this
  · rw [get_set_ne (Ne.symm hne)]
    have e : g2.take n0 = h.take n0 := by rw [q3.take, p3.take, take_app hn]
    exact get_of_take e hk
end Go.Proofs.YtbhdfmkcoolghaaDoor
