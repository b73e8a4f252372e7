/-
  The round trip: trees, lines, texts.
-/
import Derived.Test.YtmmapbhhkmchcaaDoorR3
set_option linter.unusedVariables false
set_option linter.unusedSimpArgs false
namespace Go.Proofs.YtmmapbhhkmchcaaDoor
open Go Go.Am

theorem head_brk {d : Nat} {x : Tr} (hf : fitsP d x = true) (m : UInt8) (hm : needs m x.k = true ∨ (x.k ≠ 5 ∧ x.k ≠ 6 ∧ x.k ≠ 7)) (rest : List UInt8) : numR (brk m x ++ rest) := by
  unfold brk
  by_cases c : needs m x.k = true
  · rw [if_pos c]
    intro a r e
    simp only [List.cons_append, List.cons.injEq] at e
    rw [← e.1]
    exact ⟨by decide, by decide⟩
  · rw [if_neg c]
    have hx := hm.resolve_left c
    have ha := fits_alone hf
    rw [textP_eq]
    rcases alone_kinds ha with k | k | k | k | k | k | k
    · rw [if_pos k]
      have hn : namedP x.s = true := by
        unfold aloneP at ha
        simp [k] at ha
        exact ha.1
      match hs : x.s, hn with
      | c :: s, hn =>
        simp only [namedP, Bool.and_eq_true] at hn
        obtain ⟨_, _, _, f4, f5⟩ := low_facts hn.1
        intro a r e
        simp only [List.cons_append, List.cons.injEq] at e
        rw [← e.1]
        exact ⟨f4, f5⟩
    · rw [if_neg (by rw [k]; decide), if_pos k]
      intro a r e
      simp only [List.cons_append, List.cons.injEq] at e
      rw [← e.1]
      exact ⟨by decide, by decide⟩
    · rw [if_neg (by rw [k]; decide), if_neg (by rw [k]; decide), if_pos k]
      intro a r e
      simp only [List.cons_append, List.cons.injEq] at e
      rw [← e.1]
      exact ⟨by decide, by decide⟩
    · rw [if_neg (by rw [k]; decide), if_neg (by rw [k]; decide), if_neg (by rw [k]; decide), if_pos k]
      intro a r e
      simp only [List.cons_append, List.cons.injEq] at e
      rw [← e.1]
      exact ⟨by decide, by decide⟩
    · exact absurd k hx.1
    · exact absurd k hx.2.1
    · exact absurd k hx.2.2
theorem sep32 (r : List UInt8) : sepR (32 :: r) := fun c s e => by simp only [List.cons.injEq] at e; exact .inl e.1.symm
theorem sep41 (r : List UInt8) : sepR (41 :: r) := fun c s e => by simp only [List.cons.injEq] at e; exact .inr e.1.symm
theorem lx_brk {m : UInt8} {x : Tr} (h : LX (textP x) (tkT x) sepR) : LX (brk m x) (bt m x) sepR := by
  unfold brk bt
  by_cases c : needs m x.k = true
  · rw [if_pos c, if_pos c]
    have h1 := (h.app lx_shut fun rest _ => sep41 rest)
    have h2 := lx_open.app h1 fun rest _ => trivial
    exact (by simpa using h2 : LX (40 :: (textP x ++ [41])) ({ kind := 5 } :: (tkT x ++ [{ kind := 6 }])) anyR).weak fun _ _ => trivial
  · rw [if_neg c, if_neg c]
    exact h
theorem lx_list (m : UInt8) (sp : List UInt8) (st : List Tok) (hs : LX (32 :: sp) st anyR) : ∀ ks : List Tr, (∀ k ∈ ks, LX (textP k) (tkT k) sepR) → LX (Lib.join (ks.map (brk m)) (32 :: sp)) (tkB m st ks) sepR
  | [], _ => by simpa [Lib.join, List.intercalate, tkB] using LX.nil sepR
  | [t], h => by
    have := lx_brk (m := m) (h t (by simp))
    rw [tkB_cons]
    simpa [Lib.join, List.intercalate] using this
  | t :: u :: ks, h => by
    have h1 := lx_brk (m := m) (h t (by simp))
    have h2 := lx_list m sp st hs (u :: ks) fun k hk => h k (List.mem_cons_of_mem _ hk)
    have h3 := hs.app h2 fun _ _ => trivial
    have h4 := h1.app h3 fun rest _ => by
      simp only [List.cons_append]
      exact sep32 _
    have e1 : Lib.join ((t :: u :: ks).map (brk m)) (32 :: sp) = brk m t ++ ((32 :: sp) ++ Lib.join ((u :: ks).map (brk m)) (32 :: sp)) := by
      simp [Lib.join, List.intercalate]
    rw [e1, tkB_cons]
    simpa using h4
/-- A right tree's text is read as its tokens. -/
theorem lx_tree : ∀ (n d : Nat) (t : Tr), t.size ≤ n → fitsP d t = true → LX (textP t) (tkT t) sepR
  | 0, d, t, hn, _ => by cases t; simp [Tr.size] at hn
  | n + 1, d, t, hn, hf => by
    have ha := fits_alone hf
    have ih : ∀ k ∈ t.kids, LX (textP k) (tkT k) sepR := fun k hk => lx_tree n (d - 1) k (by have := Tr.size_kid hk; omega) (fits_kid hf hk)
    have kk : ∀ x ∈ t.kids, x.k = 1 ∨ x.k = 2 ∨ x.k = 3 ∨ x.k = 4 ∨ x.k = 5 ∨ x.k = 6 ∨ x.k = 7 := fun x hx => alone_kinds (fits_alone (fits_kid hf hx))
    rw [textP_eq, tkT_eq]
    rcases alone_kinds ha with k | k | k | k | k | k | k
    · rw [if_pos k, if_neg (by rw [k]; decide), if_neg (by rw [k]; decide), if_neg (by rw [k]; decide)]
      have hn : namedP t.s = true := by
        unfold aloneP at ha
        simp [k] at ha
        exact ha.1
      have := lx_name hn
      simpa [leafTok, k] using this
    · rw [if_neg (by rw [k]; decide), if_pos k, if_neg (by rw [k]; decide), if_neg (by rw [k]; decide), if_neg (by rw [k]; decide)]
      have hn : t.s.all prC = true := by
        unfold aloneP at ha
        rw [if_neg (by rw [k]; decide), if_pos k] at ha
        simp only [Bool.and_eq_true] at ha
        exact ha.1
      have := (lx_chars hn).weak (Q := sepR) fun _ _ => trivial
      simpa [leafTok, k] using this
    · rw [if_neg (by rw [k]; decide), if_neg (by rw [k]; decide), if_pos k, if_neg (by rw [k]; decide), if_neg (by rw [k]; decide), if_neg (by rw [k]; decide)]
      have hn : t.s ≠ [] := by
        unfold aloneP at ha
        simp [k] at ha
        exact ha.1
      have := lx_bytes hn
      simpa [leafTok, k] using this
    · rw [if_neg (by rw [k]; decide), if_neg (by rw [k]; decide), if_neg (by rw [k]; decide), if_pos k, if_neg (by rw [k]; decide), if_neg (by rw [k]; decide), if_neg (by rw [k]; decide)]
      have hn : t.lo.toNat ≤ t.hi.toNat := by
        unfold aloneP at ha
        rw [if_neg (by rw [k]; decide), if_neg (by rw [k]; decide), if_neg (by rw [k]; decide), if_pos k] at ha
        simp only [Bool.and_eq_true] at ha
        exact of_decide_eq_true ha.1
      have := lx_range hn
      simpa [leafTok, k] using this
    · rw [if_neg (by rw [k]; decide), if_neg (by rw [k]; decide), if_neg (by rw [k]; decide), if_neg (by rw [k]; decide), if_neg (by rw [k]; decide), if_pos k, if_neg (by rw [k]; decide), if_pos k]
      exact lx_list 5 [] [] LX.blank t.kids ih
    · rw [if_neg (by rw [k]; decide), if_neg (by rw [k]; decide), if_neg (by rw [k]; decide), if_neg (by rw [k]; decide), if_neg (by rw [k]; decide), if_neg (by rw [k]; decide), if_neg (by rw [k]; decide), if_neg (by rw [k]; decide), if_pos k]
      have h1 := (LX.blank.app (lx_or.app LX.blank fun _ _ => trivial) fun _ _ => trivial)
      exact lx_list 6 [47, 32] [{ kind := 4 }] (by simpa using h1) t.kids ih
    · rw [if_neg (by rw [k]; decide), if_neg (by rw [k]; decide), if_neg (by rw [k]; decide), if_neg (by rw [k]; decide), if_pos k, if_pos k]
      obtain ⟨a1, a2, a3, a4, a5, a6⟩ := alone7 ha k
      obtain ⟨x, hx⟩ : ∃ x, t.kids = [x] := by
        match t.kids, a1 with
        | [x], _ => exact ⟨x, rfl⟩
      have hxm : x ∈ t.kids := by rw [hx]; simp
      have h1 := lx_times a2 a3 a4 a5 a6
      have h2 := lx_brk (m := 7) (ih x hxm)
      have h3 := h1.app h2 fun rest _ => head_brk (fits_kid hf hxm) 7 (by
        rcases kk x hxm with e | e | e | e | e | e | e <;> rw [e] <;> decide) rest
      rw [hx, tkB_cons]
      simpa using h3
end Go.Proofs.YtmmapbhhkmchcaaDoor
