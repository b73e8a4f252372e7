/-
  A frame's lines are the lines, each that has an end: the plain law.
-/
import Derived.Test.YtbhdfmkcoolghaaV3
import Derived.Test.YtbhdfmkcoolghaaW0
set_option linter.unusedVariables false
set_option linter.unusedSimpArgs false
namespace Go.Proofs.Ytbhdfmkcoolghaa
open Go Go.Am

def endsC (w : List UInt8) : Bool := w.getLast? == some 13
def coreC (w : List UInt8) : List UInt8 := if endsC w then w.dropLast else w
theorem core_ends {w : List UInt8} (h : endsC w = true) : coreC w ++ [13] = w := by
  have hl : w.getLast? = some 13 := by simpa [endsC] using h
  unfold coreC
  rw [if_pos h]
  rcases List.eq_nil_or_concat w with rfl | ⟨ys, x, rfl⟩
  · simp at hl
  · simp at hl ⊢
    exact hl.symm
theorem core_not {w : List UInt8} (h : endsC w = false) : coreC w = w := by
  unfold coreC
  rw [if_neg (by rw [h]; decide)]
theorem core_len (w : List UInt8) : (coreC w).length ≤ w.length := by
  unfold coreC
  split <;> simp
theorem keepB_room {m : Int} {c : UInt8} {s : St} (h : (s.held.length : Int) < m) : keepB m c s = ⟨s.held ++ [c], s.over, s.cr, s.out⟩ := by
  unfold keepB
  rw [if_pos h]
theorem push_app (m : Int) (s : St) (a b : List UInt8) : pushB m s (a ++ b) = pushB m (pushB m s a) b := by simp [pushB]
theorem push_one (m : Int) (s : St) (c : UInt8) : pushB m s [c] = byteB m s c := rfl
theorem noEnd_init {w : List UInt8} {c : UInt8} (h : NoEnd (w ++ [c])) : NoEnd w ∧ (endsC w = true → c ≠ 10) := by
  constructor
  · intro j ⟨h1, h2⟩
    have l1 := (List.getElem?_eq_some_iff.1 h1).1
    have l2 := (List.getElem?_eq_some_iff.1 h2).1
    exact h j ⟨by rw [List.getElem?_append_left l1]; exact h1, by rw [List.getElem?_append_left l2]; exact h2⟩
  · intro he hc
    subst hc
    obtain ⟨q, rfl⟩ : ∃ q, w = q ++ [13] := ⟨_, (core_ends he).symm⟩
    exact h q.length ⟨by simp, by simp [List.getElem?_append]⟩
/-- What bytes without an end leave. -/
theorem push_noEnd (m : Int) (out : List (List UInt8 × Bool)) : ∀ (n : Nat) (w : List UInt8), w.length = n → (w.length : Int) < m → NoEnd w → pushB m ⟨[], false, false, out⟩ w = ⟨coreC w, false, endsC w, out⟩
  | 0, w, hn, _, _ => by
    have : w = [] := List.eq_nil_of_length_eq_zero hn
    subst this
    rfl
  | n + 1, w, hn, hm, hw => by
    rcases List.eq_nil_or_concat w with rfl | ⟨ys, c, rfl⟩
    · simp at hn
    · rw [List.concat_eq_append] at *
      obtain ⟨h1, h2⟩ := noEnd_init hw
      simp at hn hm
      rw [push_app, push_noEnd m out n ys (by omega) (by omega) h1, push_one]
      have hl := core_len ys
      have e2 : endsC (ys ++ [c]) = (c == 13) := by simp [endsC]
      have e3 : coreC (ys ++ [c]) = if c == 13 then ys else ys ++ [c] := by simp [coreC, e2]
      rw [e2, e3]
      unfold byteB
      cases he : endsC ys with
      | true =>
        have hc := core_ends he
        have hcl : (coreC ys).length + 1 = ys.length := by
          have := congrArg List.length hc
          simpa using this
        rw [if_pos rfl, if_neg (h2 he)]
        by_cases h13 : c = 13
        · subst h13
          rw [if_pos rfl, keepB_room (by simp only; omega)]
          simp [hc]
        · rw [if_neg h13, keepB_room (m := m) (c := 13) (by simp only; omega), keepB_room (by simp only [List.length_append, List.length_cons, List.length_nil]; omega)]
          simp [hc, h13]
      | false =>
        have hc := core_not he
        rw [if_neg (by simp)]
        by_cases h13 : c = 13
        · subst h13
          simp [hc]
        · rw [if_neg h13, keepB_room (by simp only; omega)]
          simp [hc, h13]
theorem push_line (m : Int) (out : List (List UInt8 × Bool)) (l : List UInt8) (hm : (l.length : Int) < m) (hl : NoEnd l) : pushB m ⟨[], false, false, out⟩ (l ++ [13, 10]) = ⟨[], false, false, out ++ [(l, false)]⟩ := by
  rw [push_app, push_noEnd m out _ l rfl hm hl]
  have hcl := core_len l
  cases he : endsC l with
  | true =>
    have hc := core_ends he
    have hcl' : (coreC l).length + 1 = l.length := by
      have := congrArg List.length hc
      simpa using this
    have e1 : byteB m ⟨coreC l, false, true, out⟩ 13 = ⟨l, false, true, out⟩ := by
      unfold byteB
      rw [if_pos rfl, if_neg (by decide), if_pos rfl, keepB_room (by simp only; omega)]
      simp [hc]
    show byteB m (byteB m ⟨coreC l, false, true, out⟩ 13) 10 = _
    rw [e1]
    rfl
  | false =>
    rw [core_not he]
    rfl
def endedL (xs : List Item) : List Item := xs.filter (·.2)
/-- The frame tells just the lines that have an end. -/
theorem frame_lines (m : Int) (s : List UInt8) : ∀ out, (s.length : Int) < m → (pushB m ⟨[], false, false, out⟩ s).out = out ++ (endedL (linesP s)).map fun x => (x.1, false) := by
  refine lines_ind (p := fun s => ∀ out, (s.length : Int) < m → (pushB m ⟨[], false, false, out⟩ s).out = out ++ (endedL (linesP s)).map fun x => (x.1, false)) ?_ ?_ ?_ s
  · intro out _
    simp [pushB, lines_nil, endedL]
  · intro s h1 h2 out hm
    rw [push_noEnd m out _ s rfl hm h2, lines_last h2 h1]
    simp [endedL]
  · intro l r h1 ih out hm
    have e : l ++ 13 :: 10 :: r = (l ++ [13, 10]) ++ r := by simp
    rw [lines_cons h1, e, push_app, push_line m out l (by simp at hm; omega) h1, ih _ (by simp at hm; omega)]
    simp [endedL]
/-- The lines: those with an end, and perhaps one without. -/
theorem lines_tail (s : List UInt8) : ∃ tl : List Item, linesP s = endedL (linesP s) ++ tl ∧ (tl = [] ∨ ∃ t, tl = [(t, false)]) := by
  refine lines_ind (p := fun s => ∃ tl : List Item, linesP s = endedL (linesP s) ++ tl ∧ (tl = [] ∨ ∃ t, tl = [(t, false)])) ?_ ?_ ?_ s
  · exact ⟨[], rfl, .inl rfl⟩
  · intro s h1 h2
    rw [lines_last h2 h1]
    exact ⟨[(s, false)], rfl, .inr ⟨s, rfl⟩⟩
  · intro l r h1 ⟨tl, h2, h3⟩
    refine ⟨tl, ?_, h3⟩
    rw [lines_cons h1]
    show (l, true) :: linesP r = (l, true) :: endedL (linesP r) ++ tl
    rw [List.cons_append, ← h2]
theorem ended_mem {xs : List Item} {x : Item} (h : x ∈ endedL xs) : x.2 = true := by simpa using (List.mem_filter.1 h).2
/-- The lines read so far are no end: what Decode says. -/
theorem dec_at {s : List UInt8} {pre post : List Item} {x : Item} (h : endedL (linesP s) = pre ++ x :: post) (hg : goOn pre) (hx : x.1 = [46]) : decP s = some (bodyL pre, lenL pre + 3) := by
  obtain ⟨tl, h1, _⟩ := lines_tail s
  have hx2 : x.2 = true := ended_mem (xs := linesP s) (by rw [h]; simp)
  have e : linesP s = pre ++ (x :: (post ++ tl)) := by rw [h1, h]; simp
  unfold decP
  rw [e, decL_go _ _ _ _ hg]
  simp [decL, hx2, hx]
theorem dec_never {s : List UInt8} (hg : goOn (endedL (linesP s))) : decP s = none := by
  obtain ⟨tl, h1, h2⟩ := lines_tail s
  unfold decP
  rw [h1, decL_go _ _ _ _ hg]
  rcases h2 with rfl | ⟨t, rfl⟩
  · rfl
  · simp [decL]
theorem stuff_un (l : List UInt8) : stuffP (unP l) = l ∨ l = 46 :: unP l := by
  unfold unP
  split
  · rename_i h
    right
    match l, h with
    | c :: t, h =>
      simp at h
      subst h
      rfl
  · rename_i h
    left
    unfold stuffP
    rw [if_neg h]
end Go.Proofs.Ytbhdfmkcoolghaa
