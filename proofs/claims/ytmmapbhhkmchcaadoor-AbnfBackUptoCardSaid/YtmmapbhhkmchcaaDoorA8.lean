/-
  abnf: how far a part reaches.
-/
import Derived.Test.YtmmapbhhkmchcaaDoorA7
set_option linter.unusedVariables false
set_option linter.unusedSimpArgs false
namespace Go.Proofs.YtmmapbhhkmchcaaDoor
open Go Go.Am

theorem kd_lt {l : List Tok} {n : Nat} {k : UInt8} (h : kd l n = k) (hk : k ≠ 0) : n < l.length := by
  unfold kd at h
  cases e : l[n]? with
  | none => rw [e] at h; exact absurd h.symm hk
  | some t => exact (List.getElem?_eq_some_iff.1 e).1
theorem prog (l : List Tok) : ∀ f, (∀ a t n, thingS l f a = some (.ok t n) → a < n ∧ n ≤ l.length) ∧ (∀ a t n, partS l f a = some (.ok t n) → a < n ∧ n ≤ l.length) ∧
    (∀ a ks t n, rowS l f a ks = some (.ok t n) → (a ≤ l.length ∨ ks = [] → n ≤ l.length) ∧ a ≤ n ∧ (ks = [] → a < n)) ∧ (∀ a ks t n, choicesS l f a ks = some (.ok t n) → a < n ∧ n ≤ l.length) := by
  intro f
  induction f with
  | zero => exact ⟨fun a t n h => by simp [thingS] at h, fun a t n h => by simp [partS] at h, fun a ks t n h => by simp [rowS] at h, fun a ks t n h => by simp [choicesS] at h⟩
  | succ f ih =>
    obtain ⟨i1, i2, i3, i4⟩ := ih
    refine ⟨fun a t n h => ?_, fun a t n h => ?_, fun a ks t n h => ?_, fun a ks t n h => ?_⟩
    · unfold thingS at h
      split at h
      · rename_i hk
        split at h
        · rename_i t1 n1 hc
          have := i4 _ _ _ _ hc
          split at h
          · rename_i hs
            have hlt := kd_lt hs (by rcases hk with e | e <;> rw [e] <;> decide)
            simp only [Option.some.injEq, Pr.ok.injEq] at h
            omega
          · cases h
        · rename_i hno
          exact absurd h (hno _ _)
      · split at h
        · cases h
        · rename_i t1 e
          have := (List.getElem?_eq_some_iff.1 e).1
          split at h
          · simp only [Option.some.injEq, Pr.ok.injEq] at h
            omega
          · cases h
    · unfold partS at h
      split at h
      · exact i1 _ _ _ h
      · split at h
        · split at h
          · split at h
            · rename_i t1 n1 hc
              have := i1 _ _ _ hc
              simp only [Option.some.injEq, Pr.ok.injEq] at h
              omega
            · rename_i hno
              exact absurd h (hno _ _)
          · cases h
        · exact i1 _ _ _ h
    · unfold rowS at h
      split at h
      · split at h
        · rename_i t1 n1 hc
          have h1 := i2 _ _ _ hc
          have h2 := i3 _ _ _ _ h
          have h3 := h2.1 (.inl h1.2)
          exact ⟨fun _ => h3, by omega, fun _ => by omega⟩
        · rename_i hno
          exact absurd h (hno _ _)
      · rename_i hb
        simp only [Option.some.injEq, Pr.ok.injEq] at h
        have : ks ≠ [] := by intro e; subst e; simp at hb
        exact ⟨fun q => by rcases q with q | q; omega; exact absurd q this, by omega, fun q => absurd q this⟩
    · unfold choicesS at h
      split at h
      · rename_i t1 n1 hc
        have h1 := i3 _ _ _ _ hc
        have h2 := h1.1 (.inr rfl)
        have h3 := h1.2.2 rfl
        split at h
        · have := i4 _ _ _ _ h
          omega
        · simp only [Option.some.injEq, Pr.ok.injEq] at h
          omega
      · rename_i hno
        exact absurd h (hno _ _)
theorem appA_tok {h h' : Heap} {key sz bytes : Nat} {e : TypeId} {s : Nat} {xs ys : List AV} {r r2 : Rt} {v : AV} (hy : ys ≠ []) (h1 : appA h key sz bytes e (.list s xs r) (.list sz ys r2) = some (v, h')) : ∃ zs, v = .list sz zs (.tok key) := by
  unfold appA at h1
  simp only [srcOf, true_or, if_true] at h1
  rw [if_neg hy] at h1
  split at h1
  · simp only [Option.some.injEq, Prod.mk.injEq] at h1
    exact ⟨_, h1.1.symm⟩
  · cases h1
end Go.Proofs.YtmmapbhhkmchcaaDoor
