/-
  DotsFront, DotsAgain: the plain laws.
-/
import Derived.Test.YtbhdfmkcoolghaaDoorDV0
set_option linter.unusedVariables false
set_option linter.unusedSimpArgs false
namespace Go.Proofs.YtbhdfmkcoolghaaDoor
open Go Go.Am

theorem lines_whole : ∀ (xs : List Item) (t : List UInt8), (∀ x ∈ xs, NoEnd x.1) → linesP (wholeL xs ++ t) = xs.map (fun x => (x.1, true)) ++ linesP t
  | [], t, _ => by simp [wholeL]
  | x :: r, t, h => by
    have e : wholeL (x :: r) ++ t = x.1 ++ 13 :: 10 :: (wholeL r ++ t) := by simp [wholeL]
    rw [e, lines_cons (h x (by simp)), lines_whole r t fun y hy => h y (by simp [hy])]
    simp
theorem dec_mono (s : List UInt8) : ∀ (b0 : List UInt8) (n0 : Nat) (b : List UInt8) (n : Nat), decL (linesP s) b0 n0 = some (b, n) → ∀ q, decL (linesP (s ++ q)) b0 n0 = some (b, n) ∧ n ≤ n0 + s.length := by
  refine lines_ind (p := fun s => ∀ (b0 : List UInt8) (n0 : Nat) (b : List UInt8) (n : Nat), decL (linesP s) b0 n0 = some (b, n) → ∀ q, decL (linesP (s ++ q)) b0 n0 = some (b, n) ∧ n ≤ n0 + s.length) ?_ ?_ ?_ s
  · intro b0 n0 b n h
    cases h
  · intro s h1 h2 b0 n0 b n h
    rw [lines_last h2 h1] at h
    simp [decL] at h
  · intro l r h1 ih b0 n0 b n h q
    rw [lines_cons h1] at h
    have e : l ++ 13 :: 10 :: r ++ q = l ++ 13 :: 10 :: (r ++ q) := by simp
    rw [e, lines_cons h1]
    simp only [decL, if_true] at h ⊢
    by_cases hd : l = [46]
    · rw [if_pos hd] at h ⊢
      refine ⟨h, ?_⟩
      injection h with h
      injection h with h3 h4
      subst h4
      simp
    · rw [if_neg hd] at h ⊢
      obtain ⟨h3, h4⟩ := ih _ _ _ _ h q
      refine ⟨h3, ?_⟩
      simp
      omega
theorem enc_front (s : List UInt8) (k : Nat) (hk : k < (encP s).length) : decP ((encP s).take k) = none := by
  cases h : decP ((encP s).take k) with
  | none => rfl
  | some x =>
    obtain ⟨b, n⟩ := x
    obtain ⟨h1, h2⟩ := dec_mono _ _ _ _ _ h ((encP s).drop k)
    rw [List.take_append_drop] at h1
    have h3 := dec_enc s []
    rw [List.append_nil] at h3
    unfold decP at h3
    rw [h3] at h1
    injection h1 with h1
    injection h1 with h4 h5
    simp at h2
    omega
theorem encL_two : ∀ xs : List Item, lenL xs ≤ (encL xs).length ∧ (encL xs).length ≤ lenL xs + xs.length
  | [] => by simp [encL, lenL]
  | x :: r => by
    obtain ⟨h1, h2⟩ := encL_two r
    obtain ⟨h3, h4⟩ := stuff_len x.1
    simp only [lenL, encL, List.flatMap_cons, List.length_append, List.length_cons, List.length_nil] at *
    omega
theorem wholeL_len : ∀ xs : List Item, (wholeL xs).length = lenL xs
  | [] => rfl
  | x :: r => by
    have := wholeL_len r
    simp only [lenL, wholeL, List.flatMap_cons, List.length_append, List.length_cons, List.length_nil] at *
    omega
theorem wholeP_len (s : List UInt8) : s.length ≤ (wholeP s).length ∧ (wholeP s).length ≤ s.length + 2 := by
  unfold wholeP
  split <;> simp
theorem count_whole : ∀ xs : List Item, (∀ x ∈ xs, NoEnd x.1) → Lib.count (wholeL xs) [13, 10] = xs.length
  | [], _ => Lib.count_miss rfl
  | x :: r, h => by
    have e : wholeL (x :: r) = x.1 ++ 13 :: 10 :: wholeL r := by simp [wholeL]
    have hc := cut_app (h x (by simp)) (wholeL r)
    rw [e, Lib.count_hit (by simp) (cut_room _ _ hc).2]
    have e2 : (x.1 ++ 13 :: 10 :: wholeL r).drop (x.1.length + ([13, 10] : List UInt8).length) = wholeL r := by simp
    rw [e2, count_whole r fun y hy => h y (by simp [hy])]
    simp
    omega
/-- What is sent has a byte more for each line, at most, and the last five. -/
theorem enc_lens (s : List UInt8) : s.length + 3 ≤ (encP s).length ∧ (encP s).length ≤ s.length + Lib.count (wholeP s) [13, 10] + 5 := by
  obtain ⟨h1, h2⟩ := encL_two (linesP s)
  obtain ⟨h3, h4⟩ := wholeP_len s
  have h5 := wholeL_len (linesP s)
  rw [whole_lines] at h5
  have h6 := count_whole (linesP s) (lines_noEnd s)
  rw [whole_lines] at h6
  rw [h6]
  have h7 : (encP s).length = (encL (linesP s)).length + 3 := by simp [encP]
  omega
/-- What was read. -/
theorem dec_parts (s : List UInt8) : ∀ (b0 : List UInt8) (n0 : Nat) (b : List UInt8) (n : Nat), decL (linesP s) b0 n0 = some (b, n) → ∃ xs rest, goOn xs ∧ (∀ x ∈ xs, NoEnd x.1) ∧ s = wholeL xs ++ [46, 13, 10] ++ rest ∧ b = b0 ++ bodyL xs ∧ n = n0 + (lenL xs + 3) := by
  refine lines_ind (p := fun s => ∀ (b0 : List UInt8) (n0 : Nat) (b : List UInt8) (n : Nat), decL (linesP s) b0 n0 = some (b, n) → ∃ xs rest, goOn xs ∧ (∀ x ∈ xs, NoEnd x.1) ∧ s = wholeL xs ++ [46, 13, 10] ++ rest ∧ b = b0 ++ bodyL xs ∧ n = n0 + (lenL xs + 3)) ?_ ?_ ?_ s
  · intro b0 n0 b n h
    cases h
  · intro s h1 h2 b0 n0 b n h
    rw [lines_last h2 h1] at h
    simp [decL] at h
  · intro l r h1 ih b0 n0 b n h
    rw [lines_cons h1] at h
    simp only [decL, if_true] at h
    by_cases hd : l = [46]
    · rw [if_pos hd] at h
      injection h with h
      injection h with h3 h4
      refine ⟨[], r, fun x hx => (by cases hx), fun x hx => (by cases hx), ?_, ?_, ?_⟩
      · subst hd; simp [wholeL]
      · rw [← h3]; simp [bodyL]
      · rw [← h4, hd]; simp [lenL]
    · rw [if_neg hd] at h
      obtain ⟨xs, rest, i1, i2, i3, i4, i5⟩ := ih _ _ _ _ h
      refine ⟨(l, true) :: xs, rest, ?_, ?_, ?_, ?_, ?_⟩
      · intro x hx
        rcases List.mem_cons.1 hx with rfl | hx
        · exact ⟨rfl, hd⟩
        · exact i1 x hx
      · intro x hx
        rcases List.mem_cons.1 hx with rfl | hx
        · exact h1
        · exact i2 x hx
      · rw [i3]; simp [wholeL]
      · rw [i4]; simp [bodyL]
      · rw [i5]; simp [lenL]; omega
theorem goOn_map {xs : List Item} (h : goOn xs) : xs.map (fun x => (x.1, true)) = xs := by
  conv => rhs; rw [← List.map_id xs]
  apply List.map_congr_left
  intro x hx
  have := (h x hx).1
  cases x with
  | mk a b =>
    simp only at this
    subst this
    rfl
theorem dec_items {xs : List Item} (h1 : goOn xs) (h2 : ∀ x ∈ xs, NoEnd x.1) (rest : List UInt8) : decP (wholeL xs ++ [46, 13, 10] ++ rest) = some (bodyL xs, lenL xs + 3) := by
  have e : wholeL xs ++ [46, 13, 10] ++ rest = wholeL xs ++ ([46] ++ 13 :: 10 :: rest) := by simp
  unfold decP
  rw [e, lines_whole _ _ h2, lines_cons (noEnd_cons (by decide) noEnd_nil), goOn_map h1, decL_go _ _ _ _ h1]
  simp [decL]
theorem endsW_app (y : List UInt8) : endsW (y ++ [13, 10]) := ⟨by simp, by simp⟩
theorem last_cases {α : Type} (xs : List α) : xs = [] ∨ ∃ ys x, xs = ys ++ [x] := by
  rcases List.eq_nil_or_concat xs with h | ⟨ys, x, h⟩
  · exact .inl h
  · exact .inr ⟨ys, x, by simpa using h⟩
theorem body_whole (xs : List Item) : bodyL xs = wholeP (bodyL xs) := by
  rcases last_cases xs with rfl | ⟨ys, x, rfl⟩
  · rfl
  · rw [bodyL_add]
    unfold wholeP
    rw [if_pos (.inr (endsW_app _))]
theorem ends_five (xs : List Item) : ∃ y, [13, 10] ++ (wholeL xs ++ [46, 13, 10]) = y ++ [13, 10, 46, 13, 10] := by
  rcases last_cases xs with rfl | ⟨ys, x, rfl⟩
  · exact ⟨[], rfl⟩
  · exact ⟨[13, 10] ++ wholeL ys ++ x.1, by simp [wholeL]⟩
theorem un_count (l : List UInt8) : l.length ≤ (stuffP (unP l)).length + l.count 46 := by
  have h1 := (stuff_len (unP l)).1
  unfold unP at *
  split
  · rename_i h
    rw [if_pos h] at h1
    match l, h with
    | c :: t, h =>
      simp at h
      subst h
      simp at h1 ⊢
      omega
  · rename_i h
    rw [if_neg h] at h1
    omega
def unX (xs : List Item) : List Item := xs.map fun x => (unP x.1, true)
theorem bodyL_un (xs : List Item) : bodyL xs = wholeL (unX xs) := by simp [bodyL, wholeL, unX, List.flatMap_map]
theorem encL_un : ∀ xs : List Item, lenL xs ≤ (encL (unX xs)).length + (wholeL xs).count 46
  | [] => by simp [lenL]
  | x :: r => by
    have h1 := encL_un r
    have h2 := un_count x.1
    have e1 : encL (unX (x :: r)) = stuffP (unP x.1) ++ [13, 10] ++ encL (unX r) := by simp [encL, unX]
    have e2 : wholeL (x :: r) = x.1 ++ [13, 10] ++ wholeL r := by simp [wholeL]
    rw [e1, e2]
    simp only [lenL, List.length_append, List.length_cons, List.length_nil, List.count_append]
    omega
/-- What is read, sent again. -/
theorem again_all {s b : List UInt8} {n : Nat} (h : decP s = some (b, n)) : 3 ≤ n ∧ n ≤ s.length ∧ (∃ y, [13, 10] ++ s.take n = y ++ [13, 10, 46, 13, 10]) ∧ b = wholeP b ∧ n ≤ (encP b).length + s.count 46 ∧ decP (s.take n) = some (b, n) ∧ b.length ≤ s.length := by
  obtain ⟨xs, rest, i1, i2, i3, i4, i5⟩ := dec_parts s _ _ _ _ h
  rw [List.nil_append] at i4
  rw [Nat.zero_add] at i5
  have hw := wholeL_len xs
  have ht : s.take n = wholeL xs ++ [46, 13, 10] := by
    rw [i3, i5, ← hw]
    rw [show (wholeL xs).length + 3 = (wholeL xs ++ [46, 13, 10]).length by simp, List.take_left]
  have hl : s.length = lenL xs + 3 + rest.length := by rw [i3, ← hw]; simp; omega
  have hbl := bodyL_len xs
  refine ⟨by omega, by omega, ?_, ?_, ?_, ?_, by rw [i4]; omega⟩
  · rw [ht]
    exact ends_five xs
  · rw [i4]
    exact body_whole xs
  · have h1 := encL_un xs
    have hne : ∀ x ∈ unX xs, NoEnd x.1 := by
      intro x hx
      obtain ⟨y, hy, rfl⟩ := List.mem_map.1 hx
      exact noEnd_un (i2 y hy)
    have h2 : linesP b = unX xs := by
      have := lines_whole (unX xs) [] hne
      rw [List.append_nil, ← bodyL_un, ← i4, lines_nil, List.append_nil] at this
      rw [this]
      simp [unX]
    have h3 : s.count 46 = (wholeL xs).count 46 + (1 + rest.count 46) := by
      rw [i3]
      simp [List.count_append]
      omega
    have h4 : (encP b).length = (encL (unX xs)).length + 3 := by simp [encP, h2]
    omega
  · rw [ht, i4, i5]
    have := dec_items i1 i2 []
    rw [List.append_nil] at this
    exact this
end Go.Proofs.YtbhdfmkcoolghaaDoor
