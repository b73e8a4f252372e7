/-
  Plainly: a byte 13 behind a line.
-/
import Derived.Test.YtiobaboailhafaaN0
set_option linter.unusedVariables false
set_option linter.unusedSimpArgs false
namespace Go.Proofs.Ytiobaboailhafaa
open Go Go.Am

theorem get13 {x : List UInt8} {a : Nat} {c : UInt8} (hc : c ≠ 13) : (x ++ [13])[a]? = some c ↔ x[a]? = some c := by
  rcases Nat.lt_or_ge a x.length with h | h
  · rw [List.getElem?_append_left h]
  · rw [List.getElem?_append_right h, List.getElem?_eq_none h]
    constructor
    · intro e
      have : a - x.length = 0 := by
        rcases Nat.eq_zero_or_pos (a - x.length) with h | h
        · exact h
        · rw [List.getElem?_eq_none (by simp; omega)] at e; cases e
      rw [this] at e
      simp at e
      exact absurd e.symm hc
    · intro e; cases e
theorem run13 {p : UInt8 → Bool} (hp : p 13 = false) (x : List UInt8) : runN p (x ++ [13]) = runN p x := by
  induction x with
  | nil => simp [runN, hp]
  | cons c x ih =>
    unfold runN at ih ⊢
    cases h : p c with
    | true => simp [h, ih]
    | false => simp [h]
theorem take_run13 {p : UInt8 → Bool} (x : List UInt8) : (x ++ [13]).take (runN p x) = x.take (runN p x) := List.take_append_of_le_length (runN_le p x)
theorem oneC13 (base : Nat) (hb : base ≤ 16) (x : List UInt8) : oneC base (x ++ [13]) = oneC base x := by
  have h13 : hexC base 13 = false := by
    have : nib 13 = 16 := by decide
    simp [hexC, this]
    exact hb
  unfold oneC
  simp only [run13 h13, take_run13]
theorem dots13 (base : Nat) (hb : base ≤ 16) (x : List UInt8) : ∀ (f f' a : Nat) (t : List UInt8), x.length + 1 ≤ a + f → x.length + 1 ≤ a + f' → a ≤ x.length → dotsP base (x ++ [13]) f a t = dotsP base x f' a t
  | 0, f', a, t, h1, h2, h3 => by omega
  | f + 1, 0, a, t, h1, h2, h3 => by omega
  | f + 1, f' + 1, a, t, h1, h2, h3 => by
    unfold dotsP
    by_cases h46 : x[a]? = some 46
    · have hlt : a < x.length := (List.getElem?_eq_some_iff.1 h46).1
      rw [if_pos h46, if_pos ((get13 (by decide)).2 h46), List.drop_append_of_le_length (by omega), oneC13 base hb]
      cases ho : oneC base (x.drop (a + 1)) with
      | none => rfl
      | some q =>
        obtain ⟨v, n⟩ := q
        have hn := oneC_len ho
        simp at hn
        simp only
        by_cases hv : v ≤ 255
        · rw [if_pos hv, if_pos hv]
          exact dots13 base hb x f f' (a + 1 + n) _ (by omega) (by omega) (by omega)
        · rw [if_neg hv, if_neg hv]
    · rw [if_neg h46, if_neg (fun h => h46 ((get13 (by decide)).1 h))]
theorem base_le (s : List UInt8) : baseL s ≤ 16 := by
  unfold baseL
  split
  · omega
  · unfold baseC; split
    · omega
    · split
      · omega
      · split <;> omega
theorem value13 (c : UInt8) (r : List UInt8) (h : (valueP (c :: r ++ [13])).err = 0) : valueP (c :: r) = valueP (c :: r ++ [13]) := by
  cases r with
  | nil =>
    have e : oneC (baseL [13]) [] = none := by decide
    have : valueP ([c] ++ [13]) = { err := 15 } := by
      have e' : oneC (baseL ([c] ++ [13]).tail) (([c] ++ [13]).drop 2) = none := e
      unfold valueP
      rw [e']
    rw [this] at h
    simp at h
  | cons d r =>
    have hb := base_le (c :: d :: r).tail
    unfold valueP
    have e1 : baseL ((c :: d :: r) ++ [13]).tail = baseL (c :: d :: r).tail := rfl
    have e2 : ((c :: d :: r) ++ [13]).drop 2 = (c :: d :: r).drop 2 ++ [13] := rfl
    rw [e1, e2, oneC13 _ hb]
    cases ho : oneC (baseL (c :: d :: r).tail) ((c :: d :: r).drop 2) with
    | none => rfl
    | some q =>
      obtain ⟨lo, n⟩ := q
      have hn := oneC_len ho
      simp at hn
      simp only
      by_cases hl : lo ≤ 255
      · rw [if_pos hl, if_pos hl]
        by_cases h45 : (c :: d :: r)[2 + n]? = some 45
        · have hlt := (List.getElem?_eq_some_iff.1 h45).1
          rw [if_pos h45, if_pos ((get13 (by decide)).2 h45), List.drop_append_of_le_length (by omega), oneC13 _ hb]
        · rw [if_neg h45, if_neg (fun h => h45 ((get13 (by decide)).1 h))]
          exact (dots13 _ hb _ _ _ _ _ (by simp; omega) (by omega) (by simp; omega)).symm
      · rw [if_neg hl, if_neg hl]
theorem cut13 {x : List UInt8} (h : 34 ∈ x) : cutB (x ++ [13]) 34 = cutB x 34 := by
  induction x with
  | nil => cases h
  | cons c x ih =>
    unfold cutB at ih ⊢
    by_cases hc : c = 34
    · subst hc; simp
    · have : 34 ∈ x := by simpa [Ne.symm hc] using h
      simp [hc, ih this]
theorem times13 (x : List UInt8) : timesP (x ++ [13]) = timesP x := by
  have hd : digC 13 = false := by decide
  unfold timesP
  simp only [run13 hd, take_run13]
  have hg : ((x ++ [13])[runN digC x]? == some 42) = (x[runN digC x]? == some 42) := by
    have := get13 (x := x) (a := runN digC x) (c := 42) (by decide)
    by_cases h : x[runN digC x]? = some 42
    · rw [h, this.2 h]
    · have h2 := fun e => h (this.1 e)
      have b1 : (x[runN digC x]? == some 42) = false := by simpa using h
      have b2 : ((x ++ [13])[runN digC x]? == some 42) = false := by simpa using h2
      rw [b1, b2]
  rw [hg]
  cases hs : (x[runN digC x]? == some 42) with
  | false => rfl
  | true =>
    have hlt : runN digC x < x.length := by
      have : x[runN digC x]? = some 42 := by simpa using hs
      exact (List.getElem?_eq_some_iff.1 this).1
    have e : (x ++ [13]).drop (runN digC x + 1) = x.drop (runN digC x + 1) ++ [13] := List.drop_append_of_le_length (by omega)
    simp only [e, run13 hd, take_run13, if_true]
theorem read13 (c : UInt8) (r : List UInt8) (h : (readP c (c :: r ++ [13])).err = 0) : readP c (c :: r) = readP c (c :: r ++ [13]) := by
  have key : ∀ p ∈ rowsP, p.1 c = true → (p.2 (c :: r ++ [13])).err = 0 → p.2 (c :: r) = p.2 (c :: r ++ [13]) := by
    intro p hp hc
    simp only [rowsP, List.mem_cons, List.not_mem_nil, or_false] at hp
    rcases hp with rfl | rfl | rfl | rfl | rfl | rfl | rfl | rfl | rfl | rfl | rfl | rfl
    · intro _
      have hd : namC 13 = false := by decide
      simp only [nameP, run13 hd, take_run13]
    · intro _
      simp only [isP]
      cases r with
      | nil => by_cases hc : c = 61 <;> simp
      | cons d r => rfl
    · intro _; rfl
    · intro _; rfl
    · intro _; rfl
    · intro _; rfl
    · intro _; rfl
    · intro _; exact (times13 _).symm
    · intro he
      simp only [charsP, List.cons_append, List.tail_cons] at he ⊢
      by_cases hm : 34 ∈ r
      · have hm' : (34 : UInt8) ∈ r ++ [13] := by simp [hm]
        simp only [cut13 hm, hm, hm', true_and]
      · have hm' : ¬ (34 : UInt8) ∈ r ++ [13] := by simp [hm]
        simp [hm'] at he
    · exact value13 c r
    · intro he; simp at he
    · intro he; simp at he
  have gen : ∀ ps : List RowP, (∀ p ∈ ps, p ∈ rowsP) → (readL ps c (c :: r ++ [13])).err = 0 → readL ps c (c :: r) = readL ps c (c :: r ++ [13]) := by
    intro ps
    induction ps with
    | nil => intro _ _; rfl
    | cons p ps ih =>
      intro hin he
      unfold readL at he ⊢
      by_cases hp : p.1 c = true
      · rw [if_pos hp] at he
        rw [if_pos hp, if_pos hp]
        exact key p (hin p List.mem_cons_self) hp he
      · rw [if_neg hp] at he
        rw [if_neg hp, if_neg hp]
        exact ih (fun q hq => hin q (List.mem_cons_of_mem _ hq)) he
  exact gen rowsP (fun p hp => hp) h
theorem finR_err {a : List Tok} {r : Res} (h : (finR a r).2.2 = 0) : r.2.2 = 0 := by
  unfold finR at h
  by_cases hr : r.2.2 = 0
  · exact hr
  · rw [if_neg hr] at h; exact h
theorem lineC13_13 (off : Nat) : (lineC [13] off).2.2 ≠ 0 := by
  rw [lineC_err [] off (by decide) (by decide) (by decide)]
  show (readP 13 [13]).err ≠ 0
  decide
theorem line13 : ∀ (k : Nat) (w : List UInt8) (off : Nat), w.length = k → (lineC (w ++ [13]) off).2.2 = 0 → lineC w off = lineC (w ++ [13]) off := by
  intro k
  induction k using Nat.strongRecOn with
  | _ k ih =>
    intro w off hk h
    cases w with
    | nil => exact absurd h (lineC13_13 off)
    | cons c r =>
      simp at hk
      by_cases h59 : c = 59
      · subst h59
        rw [List.cons_append, lineC_semi, lineC_semi]
      cases hb : blkC c with
      | true =>
        rw [List.cons_append, lineC_blank _ _ hb] at h
        rw [List.cons_append, lineC_blank _ _ hb, lineC_blank _ _ hb]
        exact ih r.length (by omega) r _ rfl h
      | false =>
        by_cases he : (readP c (c :: (r ++ [13]))).err = 0
        · have e := read13 c r he
          rw [List.cons_append] at e
          rw [List.cons_append, lineC_read _ _ hb h59 he] at h
          have hn := (readP_n c (r ++ [13])).2 he
          rw [List.cons_append, lineC_read _ _ hb h59 he, lineC_read _ _ hb h59 (by rw [e]; exact he), e]
          have h' := finR_err h
          generalize readP c (c :: (r ++ [13])) = fd at *
          rcases Nat.lt_or_ge (c :: r).length fd.n with hl | hl
          · rw [List.drop_eq_nil_of_le (by simp at hl ⊢; omega), List.drop_eq_nil_of_le (by simp at hl ⊢; omega)]
          · have e2 : (c :: (r ++ [13])).drop fd.n = (c :: r).drop fd.n ++ [13] := by
              rw [← List.cons_append, List.drop_append_of_le_length hl]
            rw [e2] at h' ⊢
            rw [ih ((c :: r).drop fd.n).length (by simp; omega) _ _ rfl h']
        · rw [List.cons_append, lineC_err _ _ hb h59 he] at h
          exact absurd h he
theorem blank13 : ∀ (v : List UInt8) (off : Nat), runN blkC v = v.length → (lineC (v ++ [13]) off).2.2 ≠ 0
  | [], off, h => lineC13_13 off
  | c :: v, off, h => by
    have hb : blkC c = true := by
      cases hb : blkC c with
      | true => rfl
      | false => simp [runN, hb] at h
    rw [List.cons_append, lineC_blank _ _ hb]
    refine blank13 v _ ?_
    simpa [runN, hb] using h
theorem step13 {v : List UInt8} {a : Nat} {any : Bool} {out : List Tok} (h : (stepL (v ++ [13]) a any out).2.2 = 0) : stepL v a any out = stepL (v ++ [13]) a any out := by
  have hr := run13 (p := blkC) (by decide) v
  have hle := runN_le blkC v
  rcases Nat.lt_or_ge (runN blkC v) v.length with hlt | hge
  · have hg : (v ++ [13])[runN blkC (v ++ [13])]? = v[runN blkC v]? := by rw [hr, List.getElem?_append_left hlt]
    obtain ⟨c, hc⟩ : ∃ c, v[runN blkC v]? = some c := ⟨_, List.getElem?_eq_getElem hlt⟩
    have hc' := hg.trans hc
    by_cases h59 : c = 59
    · unfold stepL
      rw [hc, hc']
      simp only
      rw [if_pos h59, if_pos h59]
    by_cases hbad : (runN blkC v = 0 ∧ letC c = false) ∨ (0 < runN blkC v ∧ any = false)
    · rw [step_bad hc h59 hbad, step_bad hc' h59 (by rw [hr]; exact hbad)]
    have hbad' : ¬ ((runN blkC (v ++ [13]) = 0 ∧ letC c = false) ∨ (0 < runN blkC (v ++ [13]) ∧ any = false)) := by rw [hr]; exact hbad
    by_cases he : (lineC (v ++ [13]) a).2.2 = 0
    · have e := line13 _ v a rfl he
      rw [step_ok hc h59 hbad (by rw [e]; exact he), step_ok hc' h59 hbad' he, hr, e]
    · rw [step_err hc' h59 hbad' he] at h
      exact absurd h he
  · exfalso
    have hn : runN blkC v = v.length := by omega
    have hc : (v ++ [13])[runN blkC (v ++ [13])]? = some 13 := by rw [hr, hn]; simp
    rcases step_cases0 h with k | ⟨c, hc', h59, hbad, he⟩
    · have := k 0 false []
      have hb : (runN blkC (v ++ [13]) = 0 ∧ letC 13 = false) ∨ (0 < runN blkC (v ++ [13]) ∧ false = false) := by
        rcases Nat.eq_zero_or_pos (runN blkC (v ++ [13])) with h | h
        · exact .inl ⟨h, by decide⟩
        · exact .inr ⟨h, rfl⟩
      rw [step_bad hc (by decide) hb] at this
      simp at this
    · exact blank13 v a hn he
end Go.Proofs.Ytiobaboailhafaa
