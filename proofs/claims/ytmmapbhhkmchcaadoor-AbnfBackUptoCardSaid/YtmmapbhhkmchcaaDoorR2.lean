/-
  The round trip, the lexer's half: pieces.
-/
import Derived.Test.YtmmapbhhkmchcaaDoorR1
set_option linter.unusedVariables false
set_option linter.unusedSimpArgs false
namespace Go.Proofs.YtmmapbhhkmchcaaDoor
open Go Go.Am

def akk (t : Tok) : Tok := { t with pos := 0 }
/-- What a piece of a line is read as, before a rest of that kind. -/
def LX (p : List UInt8) (ts : List Tok) (P : List UInt8 → Prop) : Prop := p.all okC = true ∧ ∀ (s : List UInt8) (off f i : Nat) (out : List Tok) (rest : List UInt8), s.drop i = p ++ rest → P rest → s.length + 1 ≤ i + f →
  ∃ f' out', lineP s off f i out = lineP s off f' (i + p.length) (out ++ out') ∧ out'.map akk = ts ∧ s.length + 1 ≤ (i + p.length) + f'
def anyR : List UInt8 → Prop := fun _ => True
/-- Behind a leaf: nothing, a blank, or a bracket. -/
def sepR (rest : List UInt8) : Prop := ∀ c r, rest = c :: r → c = 32 ∨ c = 41
theorem LX.nil (P : List UInt8 → Prop) : LX [] [] P := ⟨rfl, fun s off f i out rest _ _ h => ⟨f, [], by simp, rfl, by simpa using h⟩⟩
theorem LX.app {p q : List UInt8} {ts us : List Tok} {P Q : List UInt8 → Prop} (h1 : LX p ts P) (h2 : LX q us Q) (h : ∀ rest, Q rest → P (q ++ rest)) : LX (p ++ q) (ts ++ us) Q := by
  refine ⟨by simp [h1.1, h2.1], fun s off f i out rest hd hr hf => ?_⟩
  obtain ⟨f1, o1, e1, m1, g1⟩ := h1.2 s off f i out (q ++ rest) (by rw [hd]; simp) (h rest hr) hf
  have hd2 : s.drop (i + p.length) = q ++ rest := by rw [← List.drop_drop, hd]; simp
  obtain ⟨f2, o2, e2, m2, g2⟩ := h2.2 s off f1 (i + p.length) (out ++ o1) rest hd2 hr g1
  refine ⟨f2, o1 ++ o2, ?_, by simp [m1, m2], by simp; omega⟩
  rw [e1, e2]
  simp [Nat.add_assoc]
theorem LX.weak {p : List UInt8} {ts : List Tok} {P Q : List UInt8 → Prop} (h : LX p ts P) (k : ∀ r, Q r → P r) : LX p ts Q := ⟨h.1, fun s off f i out rest hd hr hf => h.2 s off f i out rest hd (k rest hr) hf⟩
theorem LX.piece {c : UInt8} {p : List UInt8} {t : Tok} {P : List UInt8 → Prop} (ho : (c :: p).all okC = true) (h1 : c ≠ 59) (h2 : blkC c = false) (h : ∀ rest, P rest → readP c (c :: p ++ rest) = { tok := t, n := p.length + 1, err := 0 }) : LX (c :: p) [akk t] P := by
  refine ⟨ho, fun s off f i out rest hd hr hf => ?_⟩
  have hc : s[i]? = some c := by
    have := congrArg (fun l : List UInt8 => l[0]?) hd
    simpa using this
  have hlt := (List.getElem?_eq_some_iff.1 hc).1
  obtain ⟨f, rfl⟩ : ∃ g, f = g + 1 := ⟨f - 1, by omega⟩
  refine ⟨f, [{ t with pos := ((off + i : Nat) : Int) }], ?_, rfl, by simp; omega⟩
  have hrd := h rest hr
  rw [← hd] at hrd
  conv => lhs; unfold lineP
  rw [hc]
  simp only
  rw [if_neg h1, h2]
  simp only [Bool.false_eq_true, if_false]
  rw [hrd]
  simp
theorem LX.blank : LX [32] [] anyR := by
  refine ⟨by decide, fun s off f i out rest hd _ hf => ?_⟩
  have hc : s[i]? = some 32 := by
    have := congrArg (fun l : List UInt8 => l[0]?) hd
    simpa using this
  have hlt := (List.getElem?_eq_some_iff.1 hc).1
  obtain ⟨f, rfl⟩ : ∃ g, f = g + 1 := ⟨f - 1, by omega⟩
  refine ⟨f, [], ?_, rfl, by simp; omega⟩
  conv => lhs; unfold lineP
  rw [hc]
  simp only
  rw [if_neg (by decide), show blkC 32 = true by decide]
  simp
theorem lx_open : LX [40] [{ kind := 5 }] anyR := LX.piece (c := 40) (p := []) (t := { kind := 5 }) (by decide) (by decide) (by decide) fun rest _ => rfl
theorem lx_shut : LX [41] [{ kind := 6 }] anyR := LX.piece (c := 41) (p := []) (t := { kind := 6 }) (by decide) (by decide) (by decide) fun rest _ => rfl
theorem lx_or : LX [47] [{ kind := 4 }] anyR := LX.piece (c := 47) (p := []) (t := { kind := 4 }) (by decide) (by decide) (by decide) fun rest _ => rfl
theorem lx_more : LX [61, 47] [{ kind := 3 }] anyR := LX.piece (c := 61) (p := [47]) (t := { kind := 3 }) (by decide) (by decide) (by decide) fun rest _ => rfl
theorem lx_is : LX [61] [{ kind := 2 }] sepR := LX.piece (c := 61) (p := []) (t := { kind := 2 }) (by decide) (by decide) (by decide) fun rest hr => by
  have e : readP 61 ([61] ++ rest) = isP ([61] ++ rest) := rfl
  rw [e]
  match rest, hr with
  | [], _ => rfl
  | c :: r, hr => rcases hr c r rfl with rfl | rfl <;> rfl
theorem runN_app {p : UInt8 → Bool} : ∀ (a rest : List UInt8), a.all p = true → (∀ c r, rest = c :: r → p c = false) → runN p (a ++ rest) = a.length
  | [], rest, _, h => by
    match rest, h with
    | [], _ => rfl
    | c :: r, h => simp [runN, h c r rfl]
  | x :: a, rest, ha, h => by
    simp only [List.all_cons, Bool.and_eq_true] at ha
    have := runN_app a rest ha.2 h
    unfold runN at this ⊢
    simp [ha.1, this]
theorem sep_not {p : UInt8 → Bool} (h1 : p 32 = false) (h2 : p 41 = false) {rest : List UInt8} (hr : sepR rest) : ∀ c r, rest = c :: r → p c = false := fun c r e => by
  rcases hr c r e with rfl | rfl
  · exact h1
  · exact h2
theorem nm_nam {c : UInt8} (h : nmC c = true) : namC c = true := by
  have := allU8 (p := fun c => !nmC c || namC c) (by decide +kernel) c
  simpa [h] using this
theorem nm_ok {c : UInt8} (h : nmC c = true) : okC c = true := by
  have := allU8 (p := fun c => !nmC c || okC c) (by decide +kernel) c
  simpa [h] using this
theorem low_facts {c : UInt8} (h : lowC c = true) : letC c = true ∧ c ≠ 59 ∧ blkC c = false ∧ digC c = false ∧ c ≠ 42 := by
  have := allU8 (p := fun c => !lowC c || (letC c && (c != 59) && !blkC c && !digC c && (c != 42))) (by decide +kernel) c
  simp [h] at this
  obtain ⟨⟨⟨⟨h1, h2⟩, h3⟩, h4⟩, h5⟩ := this
  exact ⟨h1, h2, h3, h4, h5⟩
theorem lx_name {s : List UInt8} (h : namedP s = true) : LX s [{ kind := 1, text := s }] sepR := by
  match s, h with
  | c :: s, h =>
    simp only [namedP, Bool.and_eq_true] at h
    obtain ⟨f1, f2, f3, _, _⟩ := low_facts h.1
    have hall : (c :: s).all namC = true := by
      rw [List.all_eq_true]
      intro x hx
      rcases List.mem_cons.1 hx with rfl | hx
      · exact nm_nam (low_nm h.1)
      · exact nm_nam (List.all_eq_true.1 h.2 x hx)
    refine LX.piece (t := { kind := 1, text := c :: s }) ?_ f2 f3 fun rest hr => ?_
    · rw [List.all_eq_true]
      intro x hx
      rcases List.mem_cons.1 hx with rfl | hx
      · exact nm_ok (low_nm h.1)
      · exact nm_ok (List.all_eq_true.1 h.2 x hx)
    · have e : readP c (c :: s ++ rest) = nameP (c :: s ++ rest) := by simp [readP, readL, rowsP, f1]
      have hn := runN_app (p := namC) (c :: s) rest hall (sep_not (by decide) (by decide) hr)
      rw [e]
      unfold nameP
      rw [hn, List.take_left' rfl]
      simp
theorem lx_chars {s : List UInt8} (h : s.all prC = true) : LX (34 :: (s ++ [34])) [{ kind := 10, text := s }] anyR := by
  have hp : ∀ x ∈ s, okC x = true ∧ x ≠ 34 := fun x hx => by
    have := List.all_eq_true.1 h x hx
    simpa [prC] using this
  refine LX.piece (t := { kind := 10, text := s }) ?_ (by decide) (by decide) fun rest _ => ?_
  · simp only [List.all_cons, List.all_append, List.all_nil, Bool.and_true, Bool.and_eq_true]
    exact ⟨by decide, List.all_eq_true.2 fun x hx => (hp x hx).1, by decide⟩
  · have e : readP 34 (34 :: (s ++ [34]) ++ rest) = charsP (34 :: (s ++ [34]) ++ rest) := rfl
    rw [e]
    have hc : cutB (s ++ [34] ++ rest) 34 = s := by
      unfold cutB
      rw [List.append_assoc, List.takeWhile_append_of_pos (fun x hx => by simpa using (hp x hx).2)]
      simp
    have h34 : (34 : UInt8) ∈ s ++ [34] ++ rest := by simp
    have hok : s.all okC = true := List.all_eq_true.2 fun x hx => (hp x hx).1
    unfold charsP
    simp only [List.cons_append, List.tail_cons, hc]
    rw [if_pos ⟨h34, hok⟩]
    simp
/-! ### Digits -/
theorem numN_app (b : Nat) (s t : List UInt8) : numN b (s ++ t) = t.foldl (fun n c => n * b + nib c) (numN b s) := by
  unfold numN
  rw [List.foldl_append]
theorem dgB_fact {n : Nat} (h : n ≤ 9) : nib (dgB n) = n ∧ digC (dgB n) = true ∧ okC (dgB n) = true := by
  have : ((List.range 10).all fun n => nib (dgB n) == n && digC (dgB n) && okC (dgB n)) = true := by decide +kernel
  have := List.all_eq_true.1 this n (by simp; omega)
  simp at this
  exact ⟨this.1.1, this.1.2, this.2⟩
theorem dec_num : ∀ (k n : Nat), n < 10 ^ k → 1 ≤ k → numN 10 (Lib.decDigits n) = n ∧ (Lib.decDigits n).all digC = true ∧ (Lib.decDigits n).all okC = true ∧ Lib.decDigits n ≠ []
  | 0, n, h, h1 => by omega
  | k + 1, n, h, _ => by
    by_cases h9 : n ≤ 9
    · have e : Lib.decDigits n = [dgB n] := by rw [Lib.decDigits, dif_pos (by omega)]; rfl
      obtain ⟨f1, f2, f3⟩ := dgB_fact h9
      rw [e]
      simp [numN, f1, f2, f3]
    · have hk : 1 ≤ k := by
        cases k with
        | zero => simp at h; omega
        | succ k => omega
      have e : Lib.decDigits n = Lib.decDigits (n / 10) ++ [dgB (n % 10)] := by rw [Lib.decDigits, dif_neg (by omega)]; rfl
      obtain ⟨i1, i2, i3, i4⟩ := dec_num k (n / 10) (by rw [Nat.div_lt_iff_lt_mul (by omega)]; rw [Nat.pow_succ] at h; exact h) hk
      obtain ⟨f1, f2, f3⟩ := dgB_fact (n := n % 10) (by omega)
      rw [e, numN_app, i1]
      simp [f1, f2, f3, i2, i3]
      omega
theorem itoa_num {n : Int} (h0 : 0 ≤ n) (h : n ≤ 9999) : ∃ D : List UInt8, Lib.itoa n = D ∧ (numN 10 D : Int) = n ∧ D.all digC = true ∧ D.all okC = true ∧ D ≠ [] ∧ D.length ≤ 4 := by
  obtain ⟨h1, h2, h3, h4⟩ := dec_num 4 n.toNat (by omega) (by omega)
  refine ⟨Lib.decDigits n.toNat, ?_, by rw [h1]; omega, h2, h3, h4, dec_len4 (by omega)⟩
  unfold Lib.itoa
  rw [if_neg (by omega)]
/-- Behind a number: no digit, no star. -/
def numR (rest : List UInt8) : Prop := ∀ c r, rest = c :: r → digC c = false ∧ c ≠ 42
theorem readP_times {c : UInt8} {s : List UInt8} (h : (digC c || c == 42) = true) : readP c s = timesP s := by
  have := allU8 (p := fun c => !(digC c || c == 42) || (!letC c && (c != 61) && (c != 47) && (c != 40) && (c != 41) && (c != 91) && (c != 93))) (by decide +kernel) c
  simp only [h, Bool.not_true, Bool.false_or, Bool.and_eq_true, Bool.not_eq_true', bne_iff_ne] at this
  obtain ⟨⟨⟨⟨⟨⟨h1, h2⟩, h3⟩, h4⟩, h5⟩, h6⟩, h7⟩ := this
  simp [readP, readL, rowsP, h1, h2, h3, h4, h5, h6, h7, h]
theorem dig_facts {c : UInt8} (h : (digC c || c == 42) = true) : c ≠ 59 ∧ blkC c = false := by
  have := allU8 (p := fun c => !(digC c || c == 42) || ((c != 59) && !blkC c)) (by decide +kernel) c
  simp only [h, Bool.not_true, Bool.false_or, Bool.and_eq_true, Bool.not_eq_true', bne_iff_ne] at this
  exact this
theorem times_num {D rest : List UInt8} (h1 : D.all digC = true) (h2 : D.length ≤ 4) (h3 : D ≠ []) (hr : numR rest) : timesP (D ++ rest) = { tok := { kind := 9, mn := numN 10 D, mx := numN 10 D }, n := D.length, err := 0 } := by
  have ha := runN_app (p := digC) D rest h1 fun c r e => (hr c r e).1
  have hs : ((D ++ rest)[D.length]? == some 42) = false := by
    rw [List.getElem?_append_right (Nat.le_refl _), Nat.sub_self]
    match rest, hr with
    | [], _ => rfl
    | c :: r, hr =>
      have := (hr c r rfl).2
      simp [this]
  unfold timesP
  simp only [ha, hs, Bool.false_eq_true, if_false, Bool.not_false, if_true]
  rw [if_neg (by omega), if_neg (by omega), List.take_left' rfl]
theorem times_star {D E rest : List UInt8} (h1 : D.all digC = true) (h2 : D.length ≤ 4) (g1 : E.all digC = true) (g2 : E.length ≤ 4) (hr : numR rest) (hle : E ≠ [] → numN 10 D ≤ numN 10 E) :
    timesP (D ++ 42 :: (E ++ rest)) = { tok := { kind := 9, mn := numN 10 D, mx := if E = [] then -1 else (numN 10 E : Int) }, n := D.length + 1 + E.length, err := 0 } := by
  have ha := runN_app (p := digC) D (42 :: (E ++ rest)) h1 fun c r e => by simp only [List.cons.injEq] at e; rw [← e.1]; decide
  have hs : ((D ++ 42 :: (E ++ rest))[D.length]? == some 42) = true := by
    rw [List.getElem?_append_right (Nat.le_refl _), Nat.sub_self]
    simp
  have hd : (D ++ 42 :: (E ++ rest)).drop (D.length + 1) = E ++ rest := by
    rw [← List.drop_drop, List.drop_left' rfl]
    rfl
  have hb := runN_app (p := digC) E rest g1 fun c r e => (hr c r e).1
  unfold timesP
  simp only [ha, hs, hd, hb, if_true, Bool.not_true, Bool.false_eq_true, if_false]
  rw [if_neg (by omega), if_neg (by omega), List.take_left' rfl, List.take_left' rfl]
  by_cases he : E = []
  · subst he
    simp
  · have hpos : E.length > 0 := by cases E; exact absurd rfl he; simp
    have := hle he
    rw [if_pos hpos, if_neg he, if_neg (by omega)]
theorem lx_times {mn mx : Int} (h1 : 0 ≤ mn) (h2 : mn ≤ 9999) (h3 : -1 ≤ mx) (h4 : mx ≤ 9999) (h5 : mx = -1 ∨ mn ≤ mx) : LX (manyP mn mx) [{ kind := 9, mn := mn, mx := mx }] numR := by
  obtain ⟨D, d0, d1, d2, d3, d4, d5⟩ := itoa_num h1 h2
  unfold manyP
  by_cases c1 : mn = mx
  · rw [if_pos c1, d0]
    match hD : D, d4 with
    | c :: D', _ =>
      have hc : (digC c || c == 42) = true := by
        simp only [List.all_cons, Bool.and_eq_true] at d2
        simp [d2.1]
      obtain ⟨f1, f2⟩ := dig_facts hc
      have := LX.piece (c := c) (p := D') (t := { kind := 9, mn := numN 10 (c :: D'), mx := numN 10 (c :: D') }) (P := numR) d3 f1 f2 fun rest hr => by
        rw [readP_times hc]
        exact times_num d2 d5 (by simp) hr
      rw [d1] at this
      rw [← c1]
      exact this
  · rw [if_neg c1]
    obtain ⟨D1, hD1, n1, n2, n3, n4⟩ : ∃ D1 : List UInt8, (if 0 < mn then Lib.itoa mn else []) = D1 ∧ (numN 10 D1 : Int) = mn ∧ D1.all digC = true ∧ D1.all okC = true ∧ D1.length ≤ 4 := by
      by_cases c : 0 < mn
      · exact ⟨D, by rw [if_pos c, d0], d1, d2, d3, d5⟩
      · exact ⟨[], by rw [if_neg c], by simp [numN]; omega, rfl, rfl, by simp⟩
    obtain ⟨E, hE, m1, m2, m3, m4, m5⟩ : ∃ E : List UInt8, (if 0 ≤ mx then Lib.itoa mx else []) = E ∧ (if E = [] then (-1 : Int) else (numN 10 E : Int)) = mx ∧ E.all digC = true ∧ E.all okC = true ∧ E.length ≤ 4 ∧ (E ≠ [] → numN 10 D1 ≤ numN 10 E) := by
      by_cases c : 0 ≤ mx
      · obtain ⟨E, e0, e1, e2, e3, e4, e5⟩ := itoa_num c h4
        exact ⟨E, by rw [if_pos c, e0], by rw [if_neg e4, e1], e2, e3, e5, fun _ => by omega⟩
      · exact ⟨[], by rw [if_neg c], by simp; omega, rfl, rfl, by simp, fun h => absurd rfl h⟩
    rw [hD1, hE]
    have key : ∀ rest, numR rest → timesP (D1 ++ 42 :: E ++ rest) = { tok := { kind := 9, mn := mn, mx := mx }, n := D1.length + 1 + E.length, err := 0 } := fun rest hr => by
      have := times_star n2 n4 m2 m4 hr m5
      rw [n1, m1] at this
      simpa using this
    have hok : (D1 ++ 42 :: E).all okC = true := by
      simp only [List.all_append, List.all_cons, n3, m3, Bool.and_true, Bool.true_and]
      decide
    match hD : D1, n2 with
    | [], _ =>
      refine LX.piece (c := 42) (p := E) (t := { kind := 9, mn := mn, mx := mx }) (P := numR) hok (by decide) (by decide) fun rest hr => ?_
      rw [readP_times (by decide)]
      have := key rest hr
      simpa [Nat.add_comm] using this
    | c :: D', n2 =>
      have hc : (digC c || c == 42) = true := by
        simp only [List.all_cons, Bool.and_eq_true] at n2
        simp [n2.1]
      obtain ⟨f1, f2⟩ := dig_facts hc
      refine LX.piece (c := c) (p := D' ++ 42 :: E) (t := { kind := 9, mn := mn, mx := mx }) (P := numR) hok f1 f2 fun rest hr => ?_
      rw [readP_times hc]
      have := key rest hr
      simp only [List.cons_append] at this ⊢
      rw [this]
      congr 1
      simp
      omega
end Go.Proofs.YtmmapbhhkmchcaaDoor
