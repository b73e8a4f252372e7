/-
  LexWhole, plainly: each reader's token stands there.
-/
import Derived.Test.YtiobaboailhafaaW0
set_option linter.unusedVariables false
set_option linter.unusedSimpArgs false
namespace Go.Proofs.Ytiobaboailhafaa
open Go Go.Am

def fdOk (c : UInt8) (q : List UInt8) (f : Fd) : Prop := f.err = 0 → stands q f.tok ∧ f.tok.kind ≠ 13 ∧ (letC c = true → f.tok.kind = 1)
theorem readL_ok (c : UInt8) (s : List UInt8) : ∀ (ps : List RowP), (∀ p ∈ ps, p.1 c = true → fdOk c s (p.2 s)) → fdOk c s (readL ps c s)
  | [], _ => fun h => by simp [readL] at h
  | p :: ps, h => by
    unfold readL
    split
    · rename_i hp; exact h p List.mem_cons_self hp
    · exact readL_ok c s ps fun q hq => h q (List.mem_cons_of_mem _ hq)
theorem pre_one (c : UInt8) (s : List UInt8) : [c] <+: c :: s := ⟨s, rfl⟩
theorem numN_lt (l : List UInt8) (h : ∀ c ∈ l, digC c = true) : numN 10 l < 10 ^ l.length := by
  have : ∀ (l : List UInt8) (n k : Nat), (∀ c ∈ l, digC c = true) → n < 10 ^ k → l.foldl (fun n c => n * 10 + nib c) n < 10 ^ (k + l.length) := by
    intro l
    induction l with
    | nil => intro n k _ h; simpa using h
    | cons c l ih =>
      intro n k hd h
      have hc := hd c List.mem_cons_self
      have hn : nib c ≤ 9 := by
        unfold nib
        rw [if_pos hc]
        simp [digC] at hc
        omega
      have := ih (n * 10 + nib c) (k + 1) (fun d hdm => hd d (List.mem_cons_of_mem _ hdm)) (by rw [Nat.pow_succ]; omega)
      simpa [Nat.add_assoc, Nat.add_comm 1] using this
  simpa [numN] using this l 0 0 h (by simp)
theorem run_all (p : UInt8 → Bool) (s : List UInt8) : ∀ c ∈ s.take (runN p s), p c = true := by
  intro c hc
  obtain ⟨i, hi⟩ := List.getElem?_of_mem hc
  rw [List.getElem?_take] at hi
  split at hi
  · rename_i hl; exact runN_get hl hi
  · cases hi
theorem numN_4 {s : List UInt8} (h : runN digC s ≤ 4) : numN 10 (s.take (runN digC s)) ≤ 9999 := by
  have h1 := numN_lt _ (run_all digC s)
  have h2 : 10 ^ (s.take (runN digC s)).length ≤ 10 ^ 4 := Nat.pow_le_pow_right (by omega) (by simp; omega)
  omega
theorem ok_times (c : UInt8) (s : List UInt8) (h : (digC c || c == 42) = true) : fdOk c (c :: s) (timesP (c :: s)) := by
  intro he
  have hl : letC c = true → False := fun hl => by rw [(no_sign c h).1] at hl; cases hl
  have hc : ∃ d, (c :: s)[0]? = some d ∧ (d = 42 ∨ digC d = true) := ⟨c, rfl, by simpa [or_comm] using h⟩
  unfold timesP at he ⊢
  simp only at he ⊢
  generalize hA : runN digC (c :: s) = A at *
  by_cases h4 : A > 4
  · rw [if_pos h4] at he; simp at he
  rw [if_neg h4] at he ⊢
  have n1 := numN_4 (s := c :: s) (by rw [hA]; omega)
  rw [hA] at n1
  cases hs : ((c :: s)[A]? == some 42) with
  | false =>
    rw [hs] at he
    simp at he ⊢
    refine ⟨⟨hc, ?_⟩, by cases h : letC c <;> simp [h] at hl ⊢⟩
    simp only
    omega
  | true =>
    rw [hs] at he
    simp only [if_true, Bool.not_true, Bool.false_eq_true, if_false] at he ⊢
    have n2 := fun h => numN_4 (s := (c :: s).drop (A + 1)) h
    generalize runN digC ((c :: s).drop (A + 1)) = B at *
    by_cases h5 : B > 4
    · rw [if_pos h5] at he; simp at he
    rw [if_neg h5] at he ⊢
    have n2' := n2 (by omega)
    have hm : -1 ≤ (if B > 0 then (numN 10 (((c :: s).drop (A + 1)).take B) : Int) else -1) ∧ (if B > 0 then (numN 10 (((c :: s).drop (A + 1)).take B) : Int) else -1) ≤ 9999 := by split <;> omega
    generalize (if B > 0 then (numN 10 (((c :: s).drop (A + 1)).take B) : Int) else -1) = mx at *
    by_cases h6 : mx ≥ 0 ∧ mx < (numN 10 ((c :: s).take A) : Int)
    · rw [if_pos h6] at he; simp at he
    · rw [if_neg h6]
      refine ⟨⟨hc, by simp only; omega, by simp only; omega, hm.1, hm.2, h6⟩, by simp, fun h => (hl h).elim⟩
theorem dotsP_kind (base : Nat) (s : List UInt8) : ∀ (f a : Nat) (t : List UInt8), (dotsP base s f a t).err = 0 → (dotsP base s f a t).tok.kind = 11
  | 0, a, t, h => by simp [dotsP] at h
  | f + 1, a, t, h => by
    unfold dotsP at h ⊢
    by_cases h46 : s[a]? = some 46
    · rw [if_pos h46] at h ⊢
      cases ho : oneC base (s.drop (a + 1)) with
      | none => rw [ho] at h; simp at h
      | some q =>
        obtain ⟨x, n⟩ := q
        rw [ho] at h
        simp only at h ⊢
        by_cases hx : x ≤ 255
        · rw [if_pos hx] at h ⊢
          exact dotsP_kind base s f _ _ h
        · rw [if_neg hx] at h; simp at h
    · rw [if_neg h46]
theorem value_kind (s : List UInt8) (h : (valueP s).err = 0) : (valueP s).tok.kind = 11 ∨ (valueP s).tok.kind = 12 := by
  unfold valueP at h ⊢
  cases ho : oneC (baseL s.tail) (s.drop 2) with
  | none => rw [ho] at h; simp at h
  | some q =>
    obtain ⟨lo, n⟩ := q
    rw [ho] at h
    simp only at h ⊢
    by_cases hl : lo ≤ 255
    · rw [if_pos hl] at h ⊢
      by_cases h45 : s[2 + n]? = some 45
      · rw [if_pos h45] at h ⊢
        cases ho2 : oneC (baseL s.tail) (s.drop (2 + n + 1)) with
        | none => rw [ho2] at h; simp at h
        | some q =>
          obtain ⟨hi, m⟩ := q
          rw [ho2] at h
          simp only at h ⊢
          by_cases hc : hi ≤ 255 ∧ lo ≤ hi
          · rw [if_pos hc]; exact .inr rfl
          · rw [if_neg hc] at h; simp at h
      · rw [if_neg h45] at h ⊢
        exact .inl (dotsP_kind _ _ _ _ _ h)
    · rw [if_neg hl] at h; simp at h
end Go.Proofs.Ytiobaboailhafaa
