/-
  DotsTells: the reference's Encode and Decode, in plain words.
-/
import Derived.Test.YtbhdfmkcoolghaaDoorDV3
import Derived.Lib.Replace
set_option linter.unusedVariables false
set_option linter.unusedSimpArgs false
namespace Go.Proofs.YtbhdfmkcoolghaaDoor
open Go Go.Am

theorem rep_miss {s old new : List UInt8} (h : Lib.index s old = -1) : Lib.replaceAll s old new = s := by
  unfold Lib.replaceAll Lib.replace
  split
  · rfl
  · have : Lib.replaceNum s old (-1) = 0 := by
      unfold Lib.replaceNum
      rw [if_pos (.inl (by decide)), Lib.count_miss h]
    rw [this]
    rfl
theorem rep_hit {s old new : List UInt8} {i : Nat} (ho : old ≠ []) (hne : old ≠ new) (h : Lib.index s old = i) : Lib.replaceAll s old new = s.take i ++ new ++ Lib.replaceAll (s.drop (i + old.length)) old new := by
  unfold Lib.replaceAll Lib.replace
  have hn : ¬ (old == new) = true := fun e => hne (beq_iff_eq.1 e)
  rw [if_neg hn, if_neg hn]
  unfold Lib.replaceNum
  rw [if_pos (.inl (by decide)), if_pos (.inl (by decide)), Lib.count_hit ho h, Nat.add_comm, Lib.replaceK_hit _ _ _ _ _ h]
theorem rep_skip {q t old new : List UInt8} (ho : old ≠ []) (hne : old ≠ new) (h : ∀ j, j < q.length → Lib.occAt (q ++ t) old j = false) : Lib.replaceAll (q ++ t) old new = q ++ Lib.replaceAll t old new := by
  have hd := Lib.index_drop (s := q ++ t) (sub := old) (i := q.length) h (by simp)
  rw [List.drop_left] at hd
  by_cases hm : Lib.index t old = -1
  · rw [rep_miss hm, rep_miss (by rw [hd, hm]; rfl)]
  · have hge := Lib.index_ge t old
    obtain ⟨i, hi⟩ : ∃ i : Nat, Lib.index t old = i := ⟨(Lib.index t old).toNat, by omega⟩
    have hb : ¬ (Lib.index t old == -1) = true := fun e => hm (beq_iff_eq.1 e)
    rw [if_neg hb, hi] at hd
    have hd' : Lib.index (q ++ t) old = ((q.length + i : Nat) : Int) := by rw [hd]; omega
    rw [rep_hit ho hne hi, rep_hit ho hne hd']
    have e1 : (q ++ t).take (q.length + i) = q ++ t.take i := by rw [List.take_append]; simp [List.take_of_length_le]
    have e2 : (q ++ t).drop (q.length + i + old.length) = t.drop (i + old.length) := by
      rw [Nat.add_assoc, List.drop_append]
      simp [List.drop_eq_nil_of_le]
    rw [e1, e2]
    simp
/-- Where 13, 10 and 46 stand. -/
theorem occ3 (s : List UInt8) (j : Nat) : Lib.occAt s [13, 10, 46] j = true ↔ s[j]? = some 13 ∧ s[j + 1]? = some 10 ∧ s[j + 2]? = some 46 := by
  have h0 : s[j]? = (s.drop j)[0]? := by simp
  have h1 : s[j + 1]? = (s.drop j)[1]? := by simp [List.getElem?_drop]
  have h2 : s[j + 2]? = (s.drop j)[2]? := by simp [List.getElem?_drop]
  unfold Lib.occAt
  rw [h0, h1, h2]
  generalize s.drop j = t
  match t with
  | [] => simp
  | [a] => simp
  | [a, b] => simp
  | a :: b :: c :: r =>
    simp [List.isPrefixOf]
    constructor
    · rintro ⟨h1, h2, h3⟩; exact ⟨h1.symm, h2.symm, h3.symm⟩
    · rintro ⟨h1, h2, h3⟩; exact ⟨h1.symm, h2.symm, h3.symm⟩
theorem occ5 (s : List UInt8) (j : Nat) : Lib.occAt s [13, 10, 46, 13, 10] j = true ↔ s[j]? = some 13 ∧ s[j + 1]? = some 10 ∧ s[j + 2]? = some 46 ∧ s[j + 3]? = some 13 ∧ s[j + 4]? = some 10 := by
  have h0 : s[j]? = (s.drop j)[0]? := by simp
  have h1 : s[j + 1]? = (s.drop j)[1]? := by simp [List.getElem?_drop]
  have h2 : s[j + 2]? = (s.drop j)[2]? := by simp [List.getElem?_drop]
  have h3 : s[j + 3]? = (s.drop j)[3]? := by simp [List.getElem?_drop]
  have h4 : s[j + 4]? = (s.drop j)[4]? := by simp [List.getElem?_drop]
  unfold Lib.occAt
  rw [h0, h1, h2, h3, h4]
  generalize s.drop j = t
  match t with
  | [] => simp
  | [a] => simp
  | [a, b] => simp
  | [a, b, c] => simp
  | [a, b, c, d] => simp
  | a :: b :: c :: d :: e :: r =>
    simp [List.isPrefixOf]
    constructor
    · rintro ⟨h1, h2, h3, h4, h5⟩; exact ⟨h1.symm, h2.symm, h3.symm, h4.symm, h5.symm⟩
    · rintro ⟨h1, h2, h3, h4, h5⟩; exact ⟨h1.symm, h2.symm, h3.symm, h4.symm, h5.symm⟩
/-- Within bytes without an end, and a 13 behind, 13 10 does not begin. -/
theorem noEnd_in {l : List UInt8} (h : NoEnd l) (t : List UInt8) {j : Nat} (hj : j < l.length) : ¬((l ++ 13 :: t)[j]? = some 13 ∧ (l ++ 13 :: t)[j + 1]? = some 10) := by
  rintro ⟨h1, h2⟩
  rw [List.getElem?_append_left hj] at h1
  by_cases hl : j + 1 < l.length
  · rw [List.getElem?_append_left hl] at h2
    exact h j ⟨h1, h2⟩
  · have : j + 1 = l.length := by omega
    rw [this] at h2
    simp at h2
theorem rep_noEnd {l : List UInt8} (h : NoEnd l) (t new : List UInt8) (hne : [13, 10, 46] ≠ new) : Lib.replaceAll (l ++ 13 :: t) [13, 10, 46] new = l ++ Lib.replaceAll (13 :: t) [13, 10, 46] new := by
  refine rep_skip (by simp) hne fun j hj => ?_
  cases ho : Lib.occAt (l ++ 13 :: t) [13, 10, 46] j with
  | false => rfl
  | true =>
    obtain ⟨h1, h2, _⟩ := (occ3 _ _).1 ho
    exact absurd ⟨h1, h2⟩ (noEnd_in h t hj)
def turnL (m l : List UInt8) : List UInt8 := if l.take 1 = [46] then m ++ l.drop 1 else l
/-- Dots behind ends are turned. -/
theorem rep_lines (m : List UInt8) (hm : m ≠ [46]) : ∀ xs : List Item, (∀ x ∈ xs, NoEnd x.1) → Lib.replaceAll (13 :: 10 :: wholeL xs) [13, 10, 46] (13 :: 10 :: m) = 13 :: 10 :: xs.flatMap fun x => turnL m x.1 ++ [13, 10]
  | [], _ => rep_miss rfl
  | x :: r, h => by
    have hne : [13, 10, 46] ≠ 13 :: 10 :: m := by simp; exact fun e => hm e.symm
    have ih := rep_lines m hm r fun y hy => h y (by simp [hy])
    have hx := h x (by simp)
    have e : (13 :: 10 :: wholeL (x :: r) : List UInt8) = 13 :: 10 :: (x.1 ++ 13 :: 10 :: wholeL r) := by simp [wholeL]
    rw [e]
    by_cases hd : x.1.take 1 = [46]
    · obtain ⟨l, hl⟩ : ∃ l, x.1 = 46 :: l := by
        match hxx : x.1, hd with
        | c :: t, hd => exact ⟨t, by simp at hd; rw [hd]⟩
      have h0 : Lib.index (13 :: 10 :: (x.1 ++ 13 :: 10 :: wholeL r)) [13, 10, 46] = ((0 : Nat) : Int) :=
        Lib.index_first (by simp) ((occ3 _ _).2 ⟨by simp, by simp, by simp [hl]⟩) fun j hj => absurd hj (Nat.not_lt_zero _)
      rw [rep_hit (by simp) hne h0]
      have e2 : (13 :: 10 :: (x.1 ++ 13 :: 10 :: wholeL r) : List UInt8).drop (0 + ([13, 10, 46] : List UInt8).length) = l ++ 13 :: (10 :: wholeL r) := by rw [hl]; simp
      rw [e2, rep_noEnd (by rw [hl] at hx; exact noEnd_tail hx) _ _ hne, ih]
      simp [turnL, hl]
    · have h1 : Lib.replaceAll ((13 :: 10 :: x.1) ++ 13 :: 10 :: wholeL r) [13, 10, 46] (13 :: 10 :: m) = (13 :: 10 :: x.1) ++ Lib.replaceAll (13 :: 10 :: wholeL r) [13, 10, 46] (13 :: 10 :: m) := by
        refine rep_skip (by simp) hne fun j hj => ?_
        cases ho : Lib.occAt ((13 :: 10 :: x.1) ++ 13 :: 10 :: wholeL r) [13, 10, 46] j with
        | false => rfl
        | true =>
          obtain ⟨h1, h2, h3⟩ := (occ3 _ _).1 ho
          match j, hj with
          | 0, _ =>
            match hxx : x.1, hd with
            | [], _ => rw [hxx] at h3; simp at h3
            | c :: t, hd => rw [hxx] at h3; simp at h3 hd; exact absurd h3 hd
          | 1, _ => simp at h1
          | j + 2, hj =>
            exact absurd ⟨by simpa using h1, by simpa using h2⟩ (noEnd_in hx (10 :: wholeL r) (j := j) (by simpa using hj))
      rw [List.cons_append, List.cons_append] at h1
      rw [h1, ih]
      simp [turnL, hd]
theorem turn_stuff (l : List UInt8) : turnL [46, 46] l = stuffP l := by
  unfold turnL stuffP
  split
  · rename_i h
    match l, h with
    | c :: t, h => simp at h; subst h; simp
  · rfl
theorem turn_un (l : List UInt8) : turnL [] l = unP l := by
  unfold turnL unP
  split <;> simp
theorem rep_enc (s : List UInt8) : Lib.replaceAll (13 :: 10 :: wholeP s) [13, 10, 46] [13, 10, 46, 46] = 13 :: 10 :: encL (linesP s) := by
  rw [← whole_lines, rep_lines [46, 46] (by simp) _ (lines_noEnd s)]
  simp only [turn_stuff]
  rfl
theorem rep_dec {xs : List Item} (h : ∀ x ∈ xs, NoEnd x.1) : Lib.replaceAll (13 :: 10 :: wholeL xs) [13, 10, 46] [13, 10] = 13 :: 10 :: bodyL xs := by
  rw [rep_lines [] (by simp) _ h]
  simp only [turn_un]
  rfl
/-- Where the end's line begins. -/
def idxL : List Item → Option Nat
  | [] => none
  | x :: r => if x.2 = true then (if x.1 = [46] then some 0 else (idxL r).map (· + (x.1.length + 2))) else none
theorem index_end (s : List UInt8) : Lib.index (13 :: 10 :: s) [13, 10, 46, 13, 10] = match idxL (linesP s) with | none => -1 | some i => (i : Int) := by
  refine lines_ind (p := fun s => Lib.index (13 :: 10 :: s) [13, 10, 46, 13, 10] = match idxL (linesP s) with | none => -1 | some i => (i : Int)) rfl ?_ ?_ s
  · intro s h1 h2
    rw [lines_last h2 h1]
    simp only [idxL]
    refine Lib.index_none fun j hj => ?_
    cases ho : Lib.occAt (13 :: 10 :: s) [13, 10, 46, 13, 10] j with
    | false => rfl
    | true =>
      obtain ⟨a1, a2, a3, a4, a5⟩ := (occ5 _ _).1 ho
      match j with
      | 0 => exact absurd ⟨by simpa using a4, by simpa using a5⟩ (h2 1)
      | 1 => simp at a1
      | j + 2 => exact absurd ⟨by simpa using a1, by simpa using a2⟩ (h2 j)
  · intro l r h1 ih
    rw [lines_cons h1]
    simp only [idxL, if_true]
    by_cases hd : l = [46]
    · rw [if_pos hd]
      subst hd
      exact Lib.index_first (i := 0) (by simp) ((occ5 _ _).2 ⟨by simp, by simp, by simp, by simp, by simp⟩) fun j hj => absurd hj (Nat.not_lt_zero _)
    · rw [if_neg hd]
      have hno : Lib.NoOcc (13 :: 10 :: (l ++ 13 :: 10 :: r)) [13, 10, 46, 13, 10] (l.length + 2) := by
        intro j hj
        cases ho : Lib.occAt (13 :: 10 :: (l ++ 13 :: 10 :: r)) [13, 10, 46, 13, 10] j with
        | false => rfl
        | true =>
          obtain ⟨a1, a2, a3, a4, a5⟩ := (occ5 _ _).1 ho
          match j, hj with
          | 0, _ =>
            have b3 : (l ++ 13 :: 10 :: r)[0]? = some 46 := by simpa using a3
            have b4 : (l ++ 13 :: 10 :: r)[1]? = some 13 := by simpa using a4
            have b5 : (l ++ 13 :: 10 :: r)[2]? = some 10 := by simpa using a5
            match l, h1, hd, b3, b4, b5 with
            | [], _, _, b3, _, _ => simp at b3
            | [c], _, hd, b3, _, _ => simp at b3; exact absurd (by rw [b3]) hd
            | c :: d :: t, h1, _, _, b4, b5 =>
              exact absurd ⟨b4, b5⟩ (noEnd_in h1 (10 :: r) (j := 1) (by simp))
          | 1, _ => simp at a1
          | j + 2, hj => exact absurd ⟨by simpa using a1, by simpa using a2⟩ (noEnd_in h1 (10 :: r) (j := j) (by omega))
      rw [Lib.index_drop hno (by simp)]
      have e : (13 :: 10 :: (l ++ 13 :: 10 :: r) : List UInt8).drop (l.length + 2) = 13 :: 10 :: r := by simp
      rw [e, ih]
      cases idxL (linesP r) with
      | none => rfl
      | some i =>
        have : ¬ (((i : Int) == -1) = true) := by simp
        simp only [Option.map_some, if_neg this]
        exact (Int.natCast_add i (l.length + 2)).symm
theorem idx_none : ∀ (xs : List Item) (b : List UInt8) (n : Nat), decL xs b n = none → idxL xs = none
  | [], _, _, _ => rfl
  | x :: r, b, n, h => by
    simp only [decL, idxL] at h ⊢
    split at h
    · rename_i h1
      rw [if_pos h1]
      split at h
      · cases h
      · rename_i h2
        rw [if_neg h2, idx_none r _ _ h]
        rfl
    · rename_i h1
      rw [if_neg h1]
theorem idx_some : ∀ (xs ys : List Item), goOn xs → idxL (xs ++ ([46], true) :: ys) = some (lenL xs)
  | [], ys, _ => by simp [idxL, lenL]
  | x :: r, ys, h => by
    have hx := h x (by simp)
    have := idx_some r ys fun y hy => h y (by simp [hy])
    simp only [List.cons_append, idxL, if_pos hx.1, if_neg hx.2, this, Option.map_some, lenL]
    congr 1
    omega
/-- What the reference's Decode finds. -/
theorem ref_dec (s : List UInt8) : (decP s = none ∧ Lib.index (13 :: 10 :: s) [13, 10, 46, 13, 10] = -1) ∨ ∃ (b : List UInt8) (i : Nat), decP s = some (b, i + 3) ∧ Lib.index (13 :: 10 :: s) [13, 10, 46, 13, 10] = (i : Int) ∧ i + 2 ≤ s.length + 2 ∧ Lib.replaceAll ((13 :: 10 :: s).take (i + 2)) [13, 10, 46] [13, 10] = 13 :: 10 :: b ∧ b.length ≤ s.length := by
  have hi := index_end s
  cases h : decP s with
  | none =>
    rw [idx_none _ _ _ h] at hi
    exact .inl ⟨rfl, hi⟩
  | some x =>
    obtain ⟨b, n⟩ := x
    obtain ⟨xs, rest, i1, i2, i3, i4, i5⟩ := dec_parts s _ _ _ _ h
    rw [List.nil_append] at i4
    rw [Nat.zero_add] at i5
    have hl : linesP s = xs ++ ([46], true) :: linesP rest := by
      have e : s = wholeL xs ++ ([46] ++ 13 :: 10 :: rest) := by rw [i3]; simp
      rw [e, lines_whole _ _ i2, lines_cons (noEnd_cons (by decide) noEnd_nil), goOn_map i1]
    rw [hl, idx_some _ _ i1] at hi
    have hw := wholeL_len xs
    have hsl : s.length = lenL xs + 3 + rest.length := by rw [i3, ← hw]; simp; omega
    have hbl := bodyL_len xs
    refine .inr ⟨b, lenL xs, by rw [i5], hi, by omega, ?_, by rw [i4]; omega⟩
    have e : (13 :: 10 :: s : List UInt8).take (lenL xs + 2) = 13 :: 10 :: wholeL xs := by
      rw [i3, ← hw]
      simp [List.take_append]
    rw [e, rep_dec i2, i4]
end Go.Proofs.YtbhdfmkcoolghaaDoor
