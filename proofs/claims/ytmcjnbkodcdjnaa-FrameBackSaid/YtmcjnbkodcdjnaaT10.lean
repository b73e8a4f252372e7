/-
  FrameBack, the plain law: lines in which no 10 stands behind a 13, each with 13 10 behind it, are told as they were.
-/
import Derived.Test.YtmcjnbkodcdjnaaT9
import Derived.Lib.IndexMore
import Derived.Lib.Join
set_option linter.unusedVariables false
set_option linter.unusedSimpArgs false
namespace Go.Proofs.Ytmcjnbkodcdjnaa
open Go Go.Am

def lineB (n : Nat) (s : List UInt8) : List UInt8 × Bool := (s.take n, decide (n < s.length))
theorem none_in : ∀ (s : List UInt8), Lib.contains s [13, 10] = false → ∀ a b, s ≠ a ++ 13 :: 10 :: b
  | [], _, a, b, e => by cases a <;> cases e
  | c :: l, h, a, b, e => by
    have hc : Lib.contains l [13, 10] = false := by
      unfold Lib.contains Lib.index at h
      unfold Lib.contains
      rw [decide_eq_false_iff_not] at h ⊢
      split at h
      · omega
      · split at h
        · rename_i k
          rw [beq_iff_eq] at k
          omega
        · have := Lib.index_ge l [13, 10]
          omega
    cases a with
    | nil =>
      injection e with e1 e2
      subst e1 e2
      simp [Lib.contains, Lib.index, List.isPrefixOf] at h
    | cons d a =>
      injection e with e1 e2
      exact none_in l hc a b e2
theorem bare_self : ∀ (s p : List UInt8), (∀ a b, p ++ s ≠ a ++ 13 :: 10 :: b) → s.foldl bareB p = p ++ s
  | [], p, _ => by simp
  | c :: s, p, h => by
    have hc : bareOk p c = true := by
      unfold bareOk
      by_cases h10 : c = 10
      · subst h10
        rcases List.eq_nil_or_concat p with hp | ⟨p', d, hp⟩
        · simp [hp]
        · subst hp
          by_cases hd : d = 13
          · subst hd
            exact absurd (by simp) (h p' s)
          · simp [List.getLast?_concat, hd]
      · simp [h10]
    rw [List.foldl_cons, show bareB p c = p ++ [c] by simp [bareB, hc], bare_self s (p ++ [c]) (by simpa using h)]
    simp
theorem push_line {n : Nat} (s : List UInt8) (h : Lib.contains s [13, 10] = false) : pushB n St0 (s ++ [13, 10]) = ⟨[], false, false, [lineB n s]⟩ := by
  have hb : bareF (s ++ [13]) = s ++ [13] := by
    have hs : bareF s = s := by simpa [bareF] using bare_self s [] (by simpa using none_in s h)
    unfold bareF at hs ⊢
    rw [List.foldl_append, hs]
    simp [bareB, bareOk]
  have k := bare_all (n := n) (s ++ [13])
  rw [hb] at k
  have e : s ++ [13, 10] = (s ++ [13]) ++ [10] := by simp
  have c1 : coreB (s ++ [13]) = s := by simp [coreB, ends]
  have c2 : ends (s ++ [13]) = true := by simp [ends]
  rw [e, pushB, List.foldl_append]
  rw [pushB, c1, c2] at k
  rw [k]
  simp [byteB, lineB]
theorem push_lines {n : Nat} : ∀ (l : List (List UInt8)), (∀ s ∈ l, Lib.contains s [13, 10] = false) → pushB n St0 (l.map (· ++ [13, 10])).flatten = ⟨[], false, false, l.map (lineB n)⟩
  | [], _ => rfl
  | s :: l, h => by
    have k := push_line (n := n) s (h s (by simp))
    have ih := push_lines (n := n) l (fun t ht => h t (by simp [ht]))
    rw [List.map_cons, List.flatten_cons, pushB, List.foldl_append]
    rw [pushB] at k
    rw [k]
    have := pushB_outB n [lineB n s] (l.map (· ++ [13, 10])).flatten St0
    rw [ih] at this
    simpa [outB, St0, pushB] using this
theorem join_lines (sep : List UInt8) : ∀ (r : List (List UInt8)) (x : List UInt8), Lib.join (x :: r) sep ++ sep = ((x :: r).map (· ++ sep)).flatten
  | [], x => by simp [Lib.join_one]
  | y :: r, x => by
    have ih := join_lines sep r y
    rw [Lib.join_cons] at ih ⊢
    rw [List.map_cons, List.flatten_cons, ← ih]
    simp [Lib.joinTail]
theorem lines_len (k m : Nat) : ∀ (l : List (List UInt8)), l.length ≤ k → (∀ s ∈ l, s.length ≤ m) → (l.map (· ++ [13, 10])).flatten.length ≤ k * (m + 2)
  | [], _, _ => by simp
  | s :: l, h, hs => by
    cases k with
    | zero => simp at h
    | succ k =>
      have ih := lines_len k m l (by simpa using h) (fun t ht => hs t (by simp [ht]))
      have h1 := hs s (by simp)
      rw [List.map_cons, List.flatten_cons, List.length_append, List.length_append, Nat.succ_mul]
      simp only [List.length_cons, List.length_nil]
      omega
end Go.Proofs.Ytmcjnbkodcdjnaa
