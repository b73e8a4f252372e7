/-
  abnf: all parts of the reader; there is fuel enough.
-/
import Derived.Test.YtmmapbhhkmchcaaDoorA11
set_option linter.unusedVariables false
set_option linter.unusedSimpArgs false
namespace Go.Proofs.YtmmapbhhkmchcaaDoor
open Go Go.Am

theorem parts_ok {l : List Tok} {rt : Rt} {r : Nat} (hl : l.length ≤ 1000000000) (ht : ∀ t ∈ l, t.text.length ≤ 1000000000) : ∀ f, (∀ a p, thingS l f a = some p → CC 84 l rt r a p) ∧ (∀ a p, partS l f a = some p → CC 75 l rt r a p) ∧
    (∀ a p, rowS l f a [] = some p → CC 58 l rt r a p) ∧ (∀ a p, choicesS l f a [] = some p → CC 35 l rt r a p) := by
  intro f
  induction f using Nat.strongRecOn with
  | _ f ih =>
    refine ⟨fun a p hp => ?_, fun a p hp => ?_, fun a p hp => ?_, fun a p hp => ?_⟩
    · cases f with
      | zero => simp [thingS] at hp
      | succ f => exact thing_step hl ht f (ih f (by omega)).2.2.2 a p hp
    · cases f with
      | zero => simp [partS] at hp
      | succ f => exact part_step hl ht f (ih f (by omega)).1 a p hp
    · exact row_step hl f (fun f' a p hf => (ih f' hf).2.1 a p) a p hp
    · exact choices_step hl f (fun f' a p hf => (ih f' hf).2.2.1 a p) a p hp

/-- There is fuel enough. -/
theorem fuel (l : List Tok) : ∀ n, (∀ a f, l.length - a ≤ n → 4 * (l.length - a) + 1 ≤ f → thingS l f a ≠ none) ∧ (∀ a f, l.length - a ≤ n → 4 * (l.length - a) + 2 ≤ f → partS l f a ≠ none) ∧
    (∀ a ks f, l.length - a ≤ n → 4 * (l.length - a) + 3 ≤ f → rowS l f a ks ≠ none) ∧ (∀ a ks f, l.length - a ≤ n → 4 * (l.length - a) + 4 ≤ f → choicesS l f a ks ≠ none) := by
  intro n
  induction n using Nat.strongRecOn with
  | _ n ih =>
    have h1 : ∀ a f, l.length - a ≤ n → 4 * (l.length - a) + 1 ≤ f → thingS l f a ≠ none := by
      intro a f h1 h2
      obtain ⟨f, rfl⟩ : ∃ g, f = g + 1 := ⟨f - 1, by omega⟩
      unfold thingS
      split
      · rename_i hk
        have hal : a < l.length := by rcases hk with e | e <;> exact kd_lt e (by decide)
        have := (ih (n - 1) (by omega)).2.2.2 (a + 1) [] f (by omega) (by omega)
        cases hc : choicesS l f (a + 1) [] with
        | none => exact absurd hc this
        | some p => cases p <;> simp; split <;> simp
      · split
        · simp
        · split <;> simp
    have h2 : ∀ a f, l.length - a ≤ n → 4 * (l.length - a) + 2 ≤ f → partS l f a ≠ none := by
      intro a f q1 q2
      obtain ⟨f, rfl⟩ : ∃ g, f = g + 1 := ⟨f - 1, by omega⟩
      unfold partS
      split
      · exact h1 a f q1 (by omega)
      · rename_i x e
        have hal := (List.getElem?_eq_some_iff.1 e).1
        split
        · split
          · have := (ih (n - 1) (by omega)).1 (a + 1) f (by omega) (by omega)
            cases hc : thingS l f (a + 1) with
            | none => exact absurd hc this
            | some p => cases p <;> simp
          · simp
        · exact h1 a f q1 (by omega)
    have h3 : ∀ a ks f, l.length - a ≤ n → 4 * (l.length - a) + 3 ≤ f → rowS l f a ks ≠ none := by
      intro a ks f q1 q2
      obtain ⟨f, rfl⟩ : ∃ g, f = g + 1 := ⟨f - 1, by omega⟩
      unfold rowS
      split
      · have := h2 a f q1 (by omega)
        cases hc : partS l f a with
        | none => exact absurd hc this
        | some p =>
          cases p with
          | bad q => simp
          | ok t m =>
            have hp := (prog l f).2.1 _ _ _ hc
            exact (ih (n - 1) (by omega)).2.2.1 m _ f (by omega) (by omega)
      · simp
    refine ⟨h1, h2, h3, fun a ks f q1 q2 => ?_⟩
    obtain ⟨f, rfl⟩ : ∃ g, f = g + 1 := ⟨f - 1, by omega⟩
    unfold choicesS
    have := h3 a [] f q1 (by omega)
    cases hc : rowS l f a [] with
    | none => exact absurd hc this
    | some p =>
      cases p with
      | bad q => simp
      | ok t m =>
        have hp := (prog l f).2.2.1 _ _ _ _ hc
        have hp1 := hp.1 (.inr rfl)
        have hp2 := hp.2.2 rfl
        simp only
        split
        · rename_i hk
          have := kd_lt hk (by decide)
          exact (ih (n - 1) (by omega)).2.2.2 (m + 1) _ f (by omega) (by omega)
        · simp
/-- A rule's choices from a place on. -/
def choP (l : List Tok) (a : Nat) : Pr := (choicesS l (4 * l.length + 4) a []).getD (.bad a)
theorem choP_eq (l : List Tok) (a : Nat) : choicesS l (4 * l.length + 4) a [] = some (choP l a) := by
  unfold choP
  cases h : choicesS l (4 * l.length + 4) a [] with
  | none => exact absurd h ((fuel l l.length).2.2.2 a [] _ (by omega) (by omega))
  | some p => rfl
end Go.Proofs.YtmmapbhhkmchcaaDoor
