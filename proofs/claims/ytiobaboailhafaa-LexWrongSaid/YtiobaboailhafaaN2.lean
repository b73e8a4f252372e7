/-
  LexRules, plainly.
-/
import Derived.Test.YtiobaboailhafaaN1
set_option linter.unusedVariables false
set_option linter.unusedSimpArgs false
namespace Go.Proofs.Ytiobaboailhafaa
open Go Go.Am

theorem cutB_app {x : List UInt8} (y : List UInt8) {c : UInt8} (h : c ∈ x) : cutB (x ++ y) c = cutB x c := by
  induction x with
  | nil => cases h
  | cons d x ih =>
    unfold cutB at ih ⊢
    by_cases hd : d = c
    · subst hd; simp
    · have : c ∈ x := by simpa [Ne.symm hd] using h
      simp [hd, ih this]
theorem cutB_last {x : List UInt8} (y : List UInt8) {c : UInt8} (h : ¬ c ∈ x) : cutB (x ++ c :: y) c = x := by
  induction x with
  | nil => simp [cutB]
  | cons d x ih =>
    simp only [List.mem_cons, not_or] at h
    unfold cutB at ih ⊢
    have hd : d ≠ c := fun e => h.1 e.symm
    simp [hd, ih h.2]
theorem cutL_app {x : List UInt8} (y : List UInt8) (h : 10 ∈ x) : cutL (x ++ y) = cutL x := by
  unfold cutL
  rw [if_pos (by simp [h]), if_pos h, cutB_app y h]
theorem cutL_last {x : List UInt8} (y : List UInt8) (h : ¬ 10 ∈ x) : cutL (x ++ 10 :: y) = trimSuf x [13] := by
  unfold cutL
  rw [if_pos (by simp), cutB_last y h]
theorem cutL_all {x : List UInt8} (h : ¬ 10 ∈ x) : cutL x = x := by
  unfold cutL
  rw [if_neg h, cut_all h]
theorem trim_cases (x : List UInt8) : trimSuf x [13] = x ∨ ∃ v, x = v ++ [13] ∧ trimSuf x [13] = v := by
  unfold trimSuf
  by_cases h : [(13 : UInt8)].length ≤ x.length ∧ x.drop (x.length - [(13 : UInt8)].length) = [13]
  · right
    rw [if_pos h]
    refine ⟨x.take (x.length - [(13 : UInt8)].length), ?_, rfl⟩
    have := List.take_append_drop (x.length - [(13 : UInt8)].length) x
    rw [h.2] at this
    exact this.symm
  · left; rw [if_neg h]
theorem step_trim {x : List UInt8} {a : Nat} {any : Bool} {out : List Tok} (h : (stepL x a any out).2.2 = 0) : stepL (trimSuf x [13]) a any out = stepL x a any out := by
  rcases trim_cases x with e | ⟨v, rfl, e⟩
  · rw [e]
  · rw [e]; exact step13 h

theorem lexF_first (s t : List UInt8) : ∀ (f a : Nat) (any : Bool) (out : List Tok), a ≤ s.length → s.length - a < f → (lexF s f a any out).2.2 = 0 → ∃ any2 out2, lexF s f a any out = (if any2 then out2 ++ [endT s.length] else out2, 0, 0) ∧
    ∀ g, t.length + 1 + s.length - a < g → ∃ g', t.length < g' ∧ lexF (s ++ 10 :: t) g a any out = lexF (s ++ 10 :: t) g' (s.length + 1) any2 out2
  | 0, a, any, out, ha, hf, h => by omega
  | f + 1, a, any, out, ha, hf, h => by
    have hlt' : a < (s ++ 10 :: t).length := by simp; omega
    have e : (s ++ 10 :: t).drop a = s.drop a ++ 10 :: t := List.drop_append_of_le_length ha
    by_cases hlt : a < s.length
    · have hs := lexF_stepE f hlt h
      rw [lexF_step0 f hlt hs] at h ⊢
      by_cases hm : 10 ∈ s.drop a
      · have hcl := cut_len hm
        simp at hcl
        obtain ⟨any2, out2, e1, e2⟩ := lexF_first s t f _ _ _ (by omega) (by omega) h
        refine ⟨any2, out2, e1, fun g hg => ?_⟩
        obtain ⟨g, rfl⟩ : ∃ k, g = k + 1 := ⟨g - 1, by omega⟩
        obtain ⟨g', h1, h2⟩ := e2 g (by omega)
        refine ⟨g', h1, ?_⟩
        rw [lexF_step0 g hlt' (by rw [e, cutL_app _ hm]; exact hs), e, cutL_app _ hm, cutB_app _ hm]
        exact h2
      · have hb := cut_all hm
        have hl := cutL_all hm
        rw [hb] at h ⊢
        rw [hl] at h hs ⊢
        have hx : a + (s.drop a).length + 1 = s.length + 1 := by simp; omega
        rw [hx] at h ⊢
        obtain ⟨f, rfl⟩ : ∃ k, f = k + 1 := ⟨f - 1, by omega⟩
        rw [lexF_end _ _ _ _ _ (by omega)]
        refine ⟨_, _, rfl, fun g hg => ?_⟩
        obtain ⟨g, rfl⟩ : ∃ k, g = k + 1 := ⟨g - 1, by omega⟩
        have hst := step_trim hs
        refine ⟨g, by omega, ?_⟩
        rw [lexF_step0 g hlt' (by rw [e, cutL_last _ hm, hst]; exact hs), e, cutL_last _ hm, cutB_last _ hm, hst, hx]
    · have hae : a = s.length := by omega
      subst hae
      rw [lexF_end _ _ _ _ _ hlt]
      refine ⟨any, out, rfl, fun g hg => ?_⟩
      obtain ⟨g, rfl⟩ : ∃ k, g = k + 1 := ⟨g - 1, by omega⟩
      have hm : ¬ (10 : UInt8) ∈ s.drop s.length := by simp
      have e0 : cutL (s.drop s.length ++ 10 :: t) = [] := by
        rw [cutL_last _ hm]
        simp [trimSuf]
      have hst : stepL [] s.length any out = ((any, out), 0, 0) := rfl
      refine ⟨g, by omega, ?_⟩
      rw [lexF_step0 g hlt' (by rw [e, e0, hst]), e, e0, hst, cutB_last _ hm]
      simp
theorem rules_plain (s t : List UInt8) (hs : s.length ≤ 2000) (ht : t.length ≤ 2000) (h1 : (lexP s).2.2 = 0) (h2 : (lexP t).2.2 = 0) :
    ∃ u : List Tok, lexP (s ++ 10 :: t) = (u ++ (lexP t).1.map (shT (s.length + 1)), 0, 0) ∧ u.length = (lexP s).1.length ∧ u.map akT = (lexP s).1.map akT ∧ ∀ (i : Nat) (x y : Tok), u[i]? = some x → (lexP s).1[i]? = some y → x.kind ≠ 13 → x.pos = y.pos := by
  have hl : (s ++ 10 :: t).length = s.length + 1 + t.length := by simp; omega
  unfold lexP at h1 h2 ⊢
  rw [if_neg (by omega)] at h1 h2 ⊢
  rw [if_neg (by omega), if_neg (by omega)]
  obtain ⟨any2, out2, e1, e2⟩ := lexF_first s t (s.length + 1) 0 false [] (by omega) (by omega) h1
  obtain ⟨g', hg, e3⟩ := e2 ((s ++ 10 :: t).length + 1) (by omega)
  rw [e3, e1]
  have ep : s ++ 10 :: t = (s ++ [10]) ++ t := by simp
  have epl : (s ++ [(10 : UInt8)]).length = s.length + 1 := by simp
  rw [lexF_fuel _ g' (t.length + 1) _ _ _ (by omega) (by omega)]
  cases any2 with
  | false =>
    have := lexF_sh (s ++ [10]) t (t.length + 1) 0 false [] out2 (by omega) h2
    rw [epl, ← ep] at this
    simp only [List.map_nil, List.append_nil, Nat.add_zero] at this
    refine ⟨out2, this, rfl, rfl, fun i x y hx hy _ => ?_⟩
    simp only [Bool.false_eq_true, if_false] at hy
    rw [hx] at hy
    injection hy with hy
    rw [hy]
  | true =>
    obtain ⟨e, he⟩ := lexF_sh2 (s ++ [10]) t (t.length + 1) 0 out2 (by omega) h2
    rw [epl, ← ep] at he
    simp only [Nat.add_zero] at he
    refine ⟨out2 ++ [endT e], by rw [he]; simp, by simp, by simp [akT, endT], fun i x y hx hy hk => ?_⟩
    simp only [if_true] at hy
    rcases Nat.lt_or_ge i out2.length with hi | hi
    · rw [List.getElem?_append_left hi] at hx hy
      rw [hx] at hy
      injection hy with hy
      rw [hy]
    · rw [List.getElem?_append_right hi] at hx
      have : i - out2.length = 0 := by
        rcases Nat.eq_zero_or_pos (i - out2.length) with h | h
        · exact h
        · rw [List.getElem?_eq_none (by simp; omega)] at hx; cases hx
      rw [this] at hx
      simp at hx
      subst hx
      exact absurd rfl hk
end Go.Proofs.Ytiobaboailhafaa
