/-
  LexWhole, plainly: the token that is read stands there; an error's place.
-/
import Derived.Test.YtiobaboailhafaaW1
set_option linter.unusedVariables false
set_option linter.unusedSimpArgs false
namespace Go.Proofs.Ytiobaboailhafaa
open Go Go.Am

theorem sig_let : letC 61 = false ∧ letC 47 = false ∧ letC 40 = false ∧ letC 41 = false ∧ letC 91 = false ∧ letC 93 = false ∧ letC 34 = false ∧ letC 37 = false ∧ letC 60 = false := by decide +kernel
theorem cutB_pre {l : List UInt8} {c : UInt8} (h : c ∈ l) : cutB l c ++ [c] <+: l := by
  induction l with
  | nil => cases h
  | cons x l ih =>
    unfold cutB at ih ⊢
    by_cases hx : x = c
    · subst hx
      rw [List.takeWhile_cons, if_neg (by simp)]
      exact ⟨l, rfl⟩
    · rw [List.takeWhile_cons, if_pos (by simpa using hx)]
      have h' : c ∈ l := by
        rcases List.mem_cons.1 h with e | e
        · exact absurd e.symm hx
        · exact e
      obtain ⟨r, hr⟩ := ih h'
      exact ⟨r, by simp only [List.cons_append]; rw [hr]⟩
theorem ok_read (c : UInt8) (s : List UInt8) : fdOk c (c :: s) (readP c (c :: s)) := by
  obtain ⟨l1, l2, l3, l4, l5, l6, l7, l8, l9⟩ := sig_let
  refine readL_ok c (c :: s) rowsP fun p hp hc => ?_
  simp only [rowsP, List.mem_cons, List.not_mem_nil, or_false] at hp
  rcases hp with rfl | rfl | rfl | rfl | rfl | rfl | rfl | rfl | rfl | rfl | rfl | rfl
  · intro _
    have h2 : 1 ≤ runN namC (c :: s) := by
      unfold runN
      simp at hc
      simp [namC, hc]
    refine ⟨⟨?_, List.take_prefix _ _⟩, by simp [nameP], fun _ => rfl⟩
    intro e
    have := congrArg List.length e
    simp [nameP] at this
    omega
  · simp at hc
    subst hc
    show fdOk 61 (61 :: s) (isP (61 :: s))
    intro _
    unfold isP
    by_cases h2 : (61 :: s).take 2 = [61, 47]
    · rw [if_pos h2]
      refine ⟨⟨by decide, ?_⟩, by decide, fun h => by rw [l1] at h; cases h⟩
      have := List.take_prefix 2 (61 :: s)
      rw [h2] at this
      exact this
    · rw [if_neg h2]
      exact ⟨⟨by decide, pre_one _ _⟩, by decide, fun h => by rw [l1] at h; cases h⟩
  · simp at hc; subst hc
    show fdOk 47 (47 :: s) (signP 4)
    exact fun _ => ⟨⟨(by decide : signB 4 ≠ []), pre_one _ _⟩, (by decide : (4 : UInt8) ≠ 13), fun h => by rw [l2] at h; cases h⟩
  · simp at hc; subst hc
    show fdOk 40 (40 :: s) (signP 5)
    exact fun _ => ⟨⟨(by decide : signB 5 ≠ []), pre_one _ _⟩, (by decide : (5 : UInt8) ≠ 13), fun h => by rw [l3] at h; cases h⟩
  · simp at hc; subst hc
    show fdOk 41 (41 :: s) (signP 6)
    exact fun _ => ⟨⟨(by decide : signB 6 ≠ []), pre_one _ _⟩, (by decide : (6 : UInt8) ≠ 13), fun h => by rw [l4] at h; cases h⟩
  · simp at hc; subst hc
    show fdOk 91 (91 :: s) (signP 7)
    exact fun _ => ⟨⟨(by decide : signB 7 ≠ []), pre_one _ _⟩, (by decide : (7 : UInt8) ≠ 13), fun h => by rw [l5] at h; cases h⟩
  · simp at hc; subst hc
    show fdOk 93 (93 :: s) (signP 8)
    exact fun _ => ⟨⟨(by decide : signB 8 ≠ []), pre_one _ _⟩, (by decide : (8 : UInt8) ≠ 13), fun h => by rw [l6] at h; cases h⟩
  · exact ok_times c s hc
  · simp at hc
    subst hc
    show fdOk 34 (34 :: s) (charsP (34 :: s))
    intro he
    unfold charsP at he ⊢
    simp only at he ⊢
    by_cases h2 : 34 ∈ (34 :: s).tail ∧ (cutB (34 :: s).tail 34).all okC = true
    · rw [if_pos h2]
      refine ⟨?_, by simp, fun h => by rw [l7] at h; cases h⟩
      obtain ⟨r, hr⟩ := cutB_pre h2.1
      refine ⟨r, ?_⟩
      simp only [List.tail_cons, List.cons_append] at hr ⊢
      rw [hr]
    · rw [if_neg h2] at he; simp at he
  · simp at hc
    subst hc
    show fdOk 37 (37 :: s) (valueP (37 :: s))
    intro he
    have hk := value_kind (37 :: s) he
    refine ⟨?_, by rcases hk with e | e <;> rw [e] <;> decide, fun h => by rw [l8] at h; cases h⟩
    unfold stands
    rcases hk with e | e <;> rw [e]
    · exact ⟨by decide, pre_one _ _⟩
    · exact ⟨by decide, pre_one _ _⟩
  · intro he; simp at he
  · intro he; simp at he
end Go.Proofs.Ytiobaboailhafaa
