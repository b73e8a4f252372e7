/-
  How many tokens and rules there are, and how long their texts are; Of.
-/
import Derived.Test.YtmmapbhhkmchcaaDoorE1
set_option linter.unusedVariables false
set_option linter.unusedSimpArgs false
namespace Go.Proofs.YtmmapbhhkmchcaaDoor
open Go Go.Am

theorem dotsP_t (base : Nat) (s : List UInt8) : ∀ (f a : Nat) (t : List UInt8), a ≤ s.length → t.length ≤ a → (dotsP base s f a t).tok.text.length ≤ s.length
  | 0, a, t, h, h2 => by simp [dotsP]
  | f + 1, a, t, h, h2 => by
    unfold dotsP
    split
    · split
      · simp
      · rename_i x n ho
        have hn := oneC_len ho
        simp at hn
        split
        · exact dotsP_t base s f (a + 1 + n) (t ++ [UInt8.ofNat x]) (by omega) (by simp; omega)
        · simp
    · simp only; omega
theorem readL_t (c : UInt8) (s : List UInt8) (l : Nat) : ∀ (ps : List RowP), (∀ p ∈ ps, (p.2 s).tok.text.length ≤ l) → (readL ps c s).tok.text.length ≤ l
  | [], _ => by simp [readL]
  | p :: ps, h => by
    unfold readL
    split
    · exact h p List.mem_cons_self
    · exact readL_t c s l ps fun q hq => h q (List.mem_cons_of_mem _ hq)
theorem readP_t (c : UInt8) (s : List UInt8) : (readP c s).tok.text.length ≤ s.length := by
  refine readL_t c s s.length rowsP fun p hp => ?_
  simp only [rowsP, List.mem_cons, List.not_mem_nil, or_false] at hp
  rcases hp with rfl | rfl | rfl | rfl | rfl | rfl | rfl | rfl | rfl | rfl | rfl | rfl
  · simp [nameP, List.length_take]; exact Nat.min_le_right _ _
  · simp only [isP]; split <;> simp
  · simp [signP]
  · simp [signP]
  · simp [signP]
  · simp [signP]
  · simp [signP]
  · simp only [timesP]
    repeat' split
    all_goals simp
  · simp only [charsP]
    split
    · have := (List.takeWhile_prefix (l := s.tail) (· != 34)).length_le
      simp [cutB] at this ⊢
      omega
    · simp
  · simp only [valueP]
    split
    · simp
    · rename_i lo n ho
      have hn := oneC_len ho
      simp at hn
      split
      · split
        · split
          · simp
          · split <;> simp
        · by_cases hs : 2 ≤ s.length
          · exact dotsP_t _ s (s.length + 1) (2 + n) [UInt8.ofNat lo] (by omega) (by simp; omega)
          · have h1 : s.drop 2 = [] := List.drop_eq_nil_of_le (by omega)
            rw [h1] at ho
            simp [oneC, runN] at ho
      · simp
  · simp
  · simp
theorem lineP_cnt (s : List UInt8) (off : Nat) : ∀ (f i : Nat) (out : List Tok), (lineP s off f i out).1.length ≤ out.length + (s.length - i)
  | 0, i, out => by simp [lineP]
  | f + 1, i, out => by
    unfold lineP
    cases e : s[i]? with
    | none => simp
    | some c =>
      have hlt := (List.getElem?_eq_some_iff.1 e).1
      simp only
      split
      · simp
      · split
        · have := lineP_cnt s off f (i + 1) out; omega
        · split
          · simp
          · rename_i he
            have he : (readP c (s.drop i)).err = 0 := by simpa using he
            have hd := drop_at e
            have hg := readP_n c (s.drop (i + 1))
            rw [← hd] at hg
            have h1 := hg.2 he
            have := lineP_cnt s off f (i + (readP c (s.drop i)).n) (out ++ [{ (readP c (s.drop i)).tok with pos := ((off + i : Nat) : Int) }])
            simp at this ⊢
            omega
theorem lineP_t (s : List UInt8) (off m : Nat) (hm : s.length ≤ m) : ∀ (f i : Nat) (out : List Tok), (∀ t ∈ out, t.text.length ≤ m) → ∀ t ∈ (lineP s off f i out).1, t.text.length ≤ m
  | 0, i, out, h => by simpa [lineP] using h
  | f + 1, i, out, h => by
    unfold lineP
    cases e : s[i]? with
    | none => simpa using h
    | some c =>
      simp only
      split
      · exact h
      · split
        · exact lineP_t s off m hm f (i + 1) out h
        · split
          · intro t ht; cases ht
          · refine lineP_t s off m hm f _ _ fun t ht => ?_
            rcases List.mem_append.1 ht with ht | ht
            · exact h t ht
            · simp only [List.mem_singleton] at ht
              subst ht
              have := readP_t c (s.drop i)
              simp at this ⊢
              omega
theorem lexF_cnt (s : List UInt8) : ∀ (f a : Nat) (any : Bool) (out : List Tok), (lexF s f a any out).1.length ≤ out.length + (s.length + 1 - a) + 1
  | 0, a, any, out => by simp [lexF]; omega
  | f + 1, a, any, out => by
    unfold lexF
    have h2 := cutL_len (s.drop a)
    have h3 := cutB_len (s.drop a) 10
    simp at h3
    by_cases hlt : a < s.length
    · rw [if_pos hlt]
      have nx : ∀ any (out1 : List Tok), out1.length ≤ out.length + (1 + (cutB (s.drop a) 10).length) → (lexF s f (a + (cutB (s.drop a) 10).length + 1) any out1).1.length ≤ out.length + (s.length + 1 - a) + 1 := fun any out1 h => by
        have := lexF_cnt s f (a + (cutB (s.drop a) 10).length + 1) any out1
        omega
      simp only
      split
      · exact nx _ _ (by omega)
      · split
        · exact nx _ _ (by omega)
        · split
          · simp
          · split
            · simp
            · have h1 := lineP_cnt (cutL (s.drop a)) a ((cutL (s.drop a)).length + 2) 0 []
              simp at h1
              refine nx _ _ ?_
              rw [List.length_append]
              have h4 : ∀ (p : Prop) [Decidable p] (x : Tok), (if p then out ++ [x] else out).length ≤ out.length + 1 := fun p _ x => by split <;> simp
              have := h4 (runN blkC (cutL (s.drop a)) = 0 ∧ any = true) { kind := 13, pos := (a : Int) }
              omega
    · rw [if_neg hlt]
      cases any <;> simp
      omega
theorem lexF_t (s : List UInt8) (m : Nat) (hm : s.length ≤ m) : ∀ (f a : Nat) (any : Bool) (out : List Tok), (∀ t ∈ out, t.text.length ≤ m) → ∀ t ∈ (lexF s f a any out).1, t.text.length ≤ m
  | 0, a, any, out, h => by simpa [lexF] using h
  | f + 1, a, any, out, h => by
    unfold lexF
    have h2 := cutL_len (s.drop a)
    have h3 := cutB_len (s.drop a) 10
    simp at h3
    have hE : ∀ (p : Prop) [Decidable p] (q : Int), ∀ t ∈ (if p then out ++ [({ kind := 13, pos := q } : Tok)] else out), t.text.length ≤ m := fun p _ q t ht => by
      split at ht
      · rcases List.mem_append.1 ht with ht | ht
        · exact h t ht
        · simp only [List.mem_singleton] at ht
          subst ht
          simp
      · exact h t ht
    by_cases hlt : a < s.length
    · rw [if_pos hlt]
      simp only
      split
      · exact lexF_t s m hm f _ any out h
      · split
        · exact lexF_t s m hm f _ any out h
        · split
          · intro t ht; cases ht
          · split
            · intro t ht; cases ht
            · refine lexF_t s m hm f _ true _ fun t ht => ?_
              rcases List.mem_append.1 ht with ht | ht
              · exact hE _ _ t ht
              · exact lineP_t (cutL (s.drop a)) a m (by omega) _ 0 [] (fun t ht => by cases ht) t ht
    · rw [if_neg hlt]
      exact hE _ _
theorem lexP_cnt (s : List UInt8) : (lexP s).1.length ≤ s.length + 2 := by
  unfold lexP
  split
  · simp
  · have := lexF_cnt s (s.length + 1) 0 false []
    simp at this
    omega
theorem lexP_t (s : List UInt8) : ∀ t ∈ (lexP s).1, t.text.length ≤ s.length := by
  unfold lexP
  split
  · intro t ht; cases ht
  · exact lexF_t s s.length (Nat.le_refl _) _ 0 false [] (fun t ht => by cases ht)
theorem ruleS_ok {l : List Tok} {a m : Nat} {x : Ru} (h : ruleS l a = .ok x m) : a < m ∧ m ≤ l.length ∧ ∃ n t, l[a]? = some n ∧ n.kind = 1 ∧ aloneP (leafT n) = true ∧ (kd l (a + 1) = 2 ∨ kd l (a + 1) = 3) ∧ choP l (a + 2) = .ok t (m - 1) ∧ kd l (m - 1) = 13 ∧ x = ⟨smallP n.text, n.pos, decide (kd l (a + 1) = 3), t⟩ := by
  unfold ruleS at h
  cases en : l[a]? with
  | none => rw [en] at h; cases h
  | some n =>
    rw [en] at h
    simp only at h
    by_cases h1 : n.kind = 1 ∧ aloneP (leafT n) = true
    · rw [if_pos h1] at h
      by_cases h2 : kd l (a + 1) = 2 ∨ kd l (a + 1) = 3
      · rw [if_pos h2] at h
        cases hc : choP l (a + 2) with
        | bad q => rw [hc] at h; cases h
        | ok t m1 =>
          rw [hc] at h
          have h3 := cho_prog hc
          simp only at h
          by_cases h4 : kd l m1 = 13
          · rw [if_pos h4] at h
            have := kd_lt h4 (by decide)
            cases h
            exact ⟨by omega, by omega, n, t, rfl, h1.1, h1.2, h2, rfl, h4, rfl⟩
          · rw [if_neg h4] at h; cases h
      · rw [if_neg h2] at h; cases h
    · rw [if_neg h1] at h; cases h
theorem rulesS_ok {l : List Tok} (hl : l.length ≤ 1000000000) (ht : ∀ t ∈ l, t.text.length ≤ 1000000000) : ∀ (f a : Nat) (out : List Ru), (∀ x ∈ out, TOk x.tree ∧ x.name.length ≤ 1000000000) → (∀ x ∈ (rulesS l f a out).1, TOk x.tree ∧ x.name.length ≤ 1000000000) ∧ (a ≤ l.length → (rulesS l f a out).1.length ≤ out.length + (l.length - a))
  | 0, a, out, h => by simp only [rulesS]; exact ⟨h, fun _ => by omega⟩
  | f + 1, a, out, h => by
    unfold rulesS
    by_cases hlt : a < l.length
    · rw [if_pos hlt]
      cases hr : ruleS l a with
      | bad p => simp only; exact ⟨fun x hx => (by cases hx), fun _ => by simp⟩
      | ok x m =>
        obtain ⟨h1, h2, n, t, en, hk, hal, h23, hc, h13, rfl⟩ := ruleS_ok hr
        simp only
        cases hf : fitsP 100 t with
        | false => simp only [Bool.false_eq_true, if_false]; exact ⟨fun x hx => (by cases hx), fun _ => by simp⟩
        | true =>
          simp only [if_true]
          have := rulesS_ok hl ht f m (out ++ [⟨smallP n.text, n.pos, decide (kd l (a + 1) = 3), t⟩]) (fun y hy => by
            rcases List.mem_append.1 hy with hy | hy
            · exact h y hy
            · simp only [List.mem_singleton] at hy
              subst hy
              exact ⟨cho_TOk hl ht hc, by simp [smallP]; exact ht n (List.mem_of_getElem? en)⟩)
          refine ⟨this.1, fun _ => ?_⟩
          have := this.2 h2
          simp at this
          omega
    · rw [if_neg hlt]
      exact ⟨h, fun _ => by simp⟩
theorem parseP_ok {l : List Tok} (hl : l.length ≤ 1000000000) (ht : ∀ t ∈ l, t.text.length ≤ 1000000000) : (∀ x ∈ (parseP l).1, TOk x.tree ∧ x.name.length ≤ 1000000000) ∧ (parseP l).1.length ≤ 1000000000 := by
  have := rulesS_ok hl ht (l.length + 1) 0 [] (fun x hx => by cases hx)
  refine ⟨this.1, ?_⟩
  have h2 := this.2 (Nat.zero_le _)
  unfold parseP
  simp at h2
  omega

/-- The rules of a text, or the first error's place, and the error. -/
def ofP (s : List UInt8) : List Ru × Int × Int := if (lexP s).2.2 ≠ 0 then ([], (lexP s).2.1, (lexP s).2.2) else parseP (lexP s).1
theorem of_ok (s : List UInt8) (hs : s.length ≤ 900000000) (h0 : Heap) : ∃ x, M.call 9 [.str s] h0 = some x ∧ parR (ofP s) h0 x := by
  obtain ⟨y, hy, r, rfl, hr⟩ := lex_ok' s (by omega) h0
  have hc := lexP_cnt s
  have ht := lexP_t s
  unfold ofP
  generalize lexP s = res at *
  obtain ⟨l, p, e⟩ := res
  simp only at hy hc ht ⊢
  by_cases he : e = 0
  · subst he
    obtain ⟨z, hz, b, rfl⟩ := parse_ok l r (by omega) (fun t h => by have := ht t h; omega) h0 hr
    rw [if_neg (by simp)]
    have hlow := rus_low h0.length (parseP l).1
    refine ⟨_, call_of tab9 rfl (callF_wp (r := (.tup [.list 10 ((parseP l).1.map ruA) (rtB b), .int .i64 (parseP l).2.1, .int .i64 (parseP l).2.2], h0)) ?_), b, rfl⟩
    cases b <;> simp [wB9, hy, hz, hlow]
  · rw [if_pos he]
    refine ⟨_, call_of tab9 rfl (callF_wp (r := (.tup [.list 10 [] (rtB true), .int .i64 p, .int .i64 e], h0)) ?_), true, rfl⟩
    simp [wB9, hy, he]
end Go.Proofs.YtmmapbhhkmchcaaDoor
