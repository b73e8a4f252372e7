/-
  Lines, ended by 13 10: plain laws.
-/
import Derived.Test.YtbhdfmkcoolghaaDoorD13
import Derived.Lib.CountLaws
import Derived.Lib.IndexLaws
import Derived.Lib.SplitLaws
set_option linter.unusedVariables false
set_option linter.unusedSimpArgs false
namespace Go.Proofs.YtbhdfmkcoolghaaDoor
open Go Go.Am

def NoEnd (s : List UInt8) : Prop := ∀ j : Nat, ¬(s[j]? = some 13 ∧ s[j + 1]? = some 10)
theorem occ_iff (s : List UInt8) (j : Nat) : Lib.occAt s [13, 10] j = true ↔ s[j]? = some 13 ∧ s[j + 1]? = some 10 := by
  have h0 : s[j]? = (s.drop j)[0]? := by simp
  have h1 : s[j + 1]? = (s.drop j)[1]? := by simp [List.getElem?_drop]
  unfold Lib.occAt
  rw [h0, h1]
  generalize s.drop j = t
  match t with
  | [] => simp
  | [a] => simp
  | a :: b :: r =>
    simp [List.isPrefixOf]
    constructor
    · rintro ⟨h1, h2⟩; exact ⟨h1.symm, h2.symm⟩
    · rintro ⟨h1, h2⟩; exact ⟨h1.symm, h2.symm⟩
theorem cut_none_iff (s : List UInt8) : cutAt s = none ↔ NoEnd s := by
  constructor
  · intro h j hj
    have hn := cut_none s h
    rcases Lib.index_spec s [13, 10] with ⟨_, h2⟩ | ⟨i, h2, _⟩
    · have hlt : j < s.length := (List.getElem?_eq_some_iff.1 hj.1).1
      have := h2 j (by omega)
      rw [(occ_iff s j).2 hj] at this
      cases this
    · omega
  · intro h
    have := Lib.index_none (s := s) (sub := [13, 10]) fun j _ => by
      cases ho : Lib.occAt s [13, 10] j with
      | false => rfl
      | true => exact absurd ((occ_iff s j).1 ho) (h j)
    unfold cutAt
    rw [this]
    rfl
theorem cut_app {l : List UInt8} (h : NoEnd l) (r : List UInt8) : cutAt (l ++ 13 :: 10 :: r) = some l.length := by
  have : Lib.index (l ++ 13 :: 10 :: r) [13, 10] = (l.length : Int) := by
    refine Lib.index_first (by simp) ((occ_iff _ _).2 ⟨by simp, by simp [List.getElem?_append]⟩) fun j hj => ?_
    cases ho : Lib.occAt (l ++ 13 :: 10 :: r) [13, 10] j with
    | false => rfl
    | true =>
      obtain ⟨h1, h2⟩ := (occ_iff _ _).1 ho
      rw [List.getElem?_append_left hj] at h1
      by_cases hl : j + 1 < l.length
      · rw [List.getElem?_append_left hl] at h2
        exact absurd ⟨h1, h2⟩ (h j)
      · have : j + 1 = l.length := by omega
        rw [this] at h2
        simp at h2
  unfold cutAt
  rw [this, if_pos (by omega)]
  simp
theorem cut_split {s : List UInt8} {i : Nat} (h : cutAt s = some i) : s = s.take i ++ 13 :: 10 :: s.drop (i + 2) ∧ NoEnd (s.take i) := by
  obtain ⟨h1, h2⟩ := cut_room s i h
  rcases Lib.index_spec s [13, 10] with ⟨h3, _⟩ | ⟨i', h3, h4, h5, h6⟩
  · omega
  · have : i' = i := by omega
    subst this
    obtain ⟨a, b⟩ := (occ_iff _ _).1 h5
    constructor
    · have e : s.drop i' = 13 :: 10 :: s.drop (i' + 2) := by
        apply List.ext_getElem?
        intro k
        match k with
        | 0 => simpa using a
        | 1 => simpa [List.getElem?_drop] using b
        | k + 2 => simp [List.getElem?_drop]; congr 1; omega
      rw [← e, List.take_append_drop]
    · intro j ⟨h7, h8⟩
      rw [List.getElem?_take] at h7 h8
      split at h7
      · split at h8
        · have := h6 j (by omega)
          rw [(occ_iff s j).2 ⟨h7, h8⟩] at this
          cases this
        · cases h8
      · cases h7
theorem lines_cons {l : List UInt8} (h : NoEnd l) (r : List UInt8) : linesP (l ++ 13 :: 10 :: r) = (l, true) :: linesP r := by
  rw [linesP_cut (cut_app h r)]
  simp
theorem lines_last {s : List UInt8} (h : NoEnd s) (hs : s ≠ []) : linesP s = [(s, false)] := linesP_last hs ((cut_none_iff s).2 h)
theorem lines_nil : linesP [] = [] := rfl
theorem lines_ind {p : List UInt8 → Prop} (nil : p []) (last : ∀ s, s ≠ [] → NoEnd s → p s) (cons : ∀ l r, NoEnd l → p r → p (l ++ 13 :: 10 :: r)) (s : List UInt8) : p s := by
  have key : ∀ n (s : List UInt8), s.length ≤ n → p s := by
    intro n
    induction n with
    | zero =>
      intro s hs
      have : s = [] := List.eq_nil_of_length_eq_zero (by omega)
      rw [this]
      exact nil
    | succ n ih =>
      intro s hs
      cases hc : cutAt s with
      | none =>
        by_cases he : s = []
        · rw [he]; exact nil
        · exact last s he ((cut_none_iff s).1 hc)
      | some i =>
        obtain ⟨h1, h2⟩ := cut_split hc
        rw [h1]
        exact cons _ _ h2 (ih _ (by have := (cut_room s i hc).1; simp; omega))
  exact key s.length s (Nat.le_refl _)
theorem noEnd_nil : NoEnd [] := by intro j; simp
theorem noEnd_cons {c : UInt8} {s : List UInt8} (hc : c ≠ 13) (h : NoEnd s) : NoEnd (c :: s) := by
  intro j ⟨h1, h2⟩
  match j with
  | 0 => simp at h1; exact hc h1
  | j + 1 => exact h j ⟨by simpa using h1, by simpa using h2⟩
theorem noEnd_tail {c : UInt8} {s : List UInt8} (h : NoEnd (c :: s)) : NoEnd s := fun j ⟨h1, h2⟩ => h (j + 1) ⟨by simpa using h1, by simpa using h2⟩
theorem noEnd_stuff {l : List UInt8} (h : NoEnd l) : NoEnd (stuffP l) := by
  unfold stuffP
  split
  · exact noEnd_cons (by decide) h
  · exact h
theorem noEnd_un {l : List UInt8} (h : NoEnd l) : NoEnd (unP l) := by
  unfold unP
  split
  · match l with
    | [] => exact noEnd_nil
    | c :: t => exact noEnd_tail h
  · exact h
theorem un_stuff (l : List UInt8) : unP (stuffP l) = l := by
  unfold stuffP
  split
  · rename_i h; simp [unP]
  · rename_i h; simp [unP, h]
theorem stuff_dot (l : List UInt8) : stuffP l ≠ [46] := by
  unfold stuffP
  split
  · rename_i h
    intro e
    have : l = [] := by simpa using e
    subst this
    simp at h
  · rename_i h
    intro e
    rw [e] at h
    simp at h
/-- The lines of any bytes have no end in them. -/
theorem lines_noEnd (s : List UInt8) : ∀ x ∈ linesP s, NoEnd x.1 := by
  refine lines_ind (p := fun s => ∀ x ∈ linesP s, NoEnd x.1) ?_ ?_ ?_ s
  · intro x hx; cases hx
  · intro s h1 h2 x hx
    rw [lines_last h2 h1] at hx
    simp only [List.mem_singleton] at hx
    subst hx
    exact h2
  · intro l r h1 ih x hx
    rw [lines_cons h1] at hx
    rcases List.mem_cons.1 hx with rfl | hx
    · exact h1
    · exact ih x hx
def wholeL (xs : List Item) : List UInt8 := xs.flatMap fun x => x.1 ++ [13, 10]
def endsW (s : List UInt8) : Prop := 2 ≤ s.length ∧ s.drop (s.length - 2) = [13, 10]
instance (s : List UInt8) : Decidable (endsW s) := by unfold endsW; exact inferInstance
def wholeP (s : List UInt8) : List UInt8 := if s = [] ∨ endsW s then s else s ++ [13, 10]
theorem lines_enc : ∀ (xs : List Item) (t : List UInt8), (∀ x ∈ xs, NoEnd x.1) → linesP (encL xs ++ t) = xs.map (fun x => (stuffP x.1, true)) ++ linesP t
  | [], t, _ => by simp [encL]
  | x :: r, t, h => by
    have e : encL (x :: r) ++ t = stuffP x.1 ++ 13 :: 10 :: (encL r ++ t) := by simp [encL]
    rw [e, lines_cons (noEnd_stuff (h x (by simp))), lines_enc r t fun y hy => h y (by simp [hy])]
    simp
theorem bodyL_enc (xs : List Item) : bodyL (xs.map fun x => (stuffP x.1, true)) = wholeL xs := by
  simp [bodyL, wholeL, List.flatMap_map, un_stuff]
theorem lenL_enc : ∀ xs : List Item, lenL (xs.map fun x => (stuffP x.1, true)) = (encL xs).length
  | [] => rfl
  | x :: r => by
    simp only [List.map_cons, lenL, lenL_enc r, encL, List.flatMap_cons, List.length_append, List.length_cons, List.length_nil]
theorem dec_enc_items (xs : List Item) (more : List UInt8) (h : ∀ x ∈ xs, NoEnd x.1) : decP (encL xs ++ [46, 13, 10] ++ more) = some (wholeL xs, (encL xs).length + 3) := by
  have e : encL xs ++ [46, 13, 10] ++ more = encL xs ++ ([46] ++ 13 :: 10 :: more) := by simp
  unfold decP
  rw [e, lines_enc _ _ h, lines_cons (noEnd_cons (by decide) noEnd_nil), decL_go _ _ _ _ (fun x hx => ?_)]
  · simp [decL, bodyL_enc, lenL_enc]
  · obtain ⟨y, hy, rfl⟩ := List.mem_map.1 hx
    exact ⟨rfl, stuff_dot _⟩
theorem dec_enc (s more : List UInt8) : decP (encP s ++ more) = some (wholeL (linesP s), (encP s).length) := by
  have := dec_enc_items (linesP s) more (lines_noEnd s)
  unfold encP
  rw [this]
  simp
theorem whole_lines (s : List UInt8) : wholeL (linesP s) = wholeP s := by
  refine lines_ind (p := fun s => wholeL (linesP s) = wholeP s) rfl ?_ ?_ s
  · intro s h1 h2
    rw [lines_last h2 h1]
    have : ¬endsW s := by
      intro ⟨h3, h4⟩
      refine h2 (s.length - 2) ⟨?_, ?_⟩
      · have := congrArg (fun z : List UInt8 => z[0]?) h4
        simpa [List.getElem?_drop] using this
      · have := congrArg (fun z : List UInt8 => z[1]?) h4
        simpa [List.getElem?_drop] using this
    simp [wholeL, wholeP, h1, this]
  · intro l r h1 ih
    rw [lines_cons h1]
    have e : wholeL ((l, true) :: linesP r) = l ++ 13 :: 10 :: wholeL (linesP r) := by simp [wholeL]
    rw [e, ih]
    unfold wholeP
    have hne : l ++ 13 :: 10 :: r ≠ [] := by simp
    by_cases hr : r = []
    · subst hr
      have : endsW (l ++ [13, 10]) := ⟨by simp, by simp⟩
      simp [this]
    · have hiff : endsW (l ++ 13 :: 10 :: r) ↔ endsW r := by
        unfold endsW
        by_cases h2 : 2 ≤ r.length
        · have e2 : (l ++ 13 :: 10 :: r).length - 2 = (l ++ [13, 10]).length + (r.length - 2) := by simp; omega
          rw [show l ++ 13 :: 10 :: r = (l ++ [13, 10]) ++ r by simp] at e2 ⊢
          rw [e2, List.drop_append]
          have hd : (l ++ [13, 10]).drop ((l ++ [13, 10]).length + (r.length - 2)) = [] := List.drop_eq_nil_of_le (by omega)
          have hd2 : (l ++ [13, 10]).length + (r.length - 2) - (l ++ [13, 10]).length = r.length - 2 := by omega
          rw [hd, hd2, List.nil_append]
          have : 2 ≤ ((l ++ [13, 10]) ++ r).length := by simp; omega
          simp only [this, h2, true_and]
        · match r, hr, h2 with
          | [c], _, _ =>
            simp only [List.length_append, List.length_cons, List.length_nil]
            have e2 : l.length + (0 + 1 + 1 + 1) - 2 = (l ++ [13]).length := by simp
            rw [e2, show l ++ [13, 10, c] = (l ++ [13]) ++ [10, c] by simp, List.drop_left]
            simp only [List.cons.injEq]
            constructor
            · rintro ⟨_, h, _⟩; cases h
            · rintro ⟨h, _⟩; omega
          | c :: d :: t, _, h2 => simp at h2
      simp only [hiff, hne, hr, false_or]
      split <;> simp
end Go.Proofs.YtbhdfmkcoolghaaDoor
