/-
  The round trip: a line is read as its rule.
-/
import Derived.Test.YtmmapbhhkmchcaaDoorR4
set_option linter.unusedVariables false
set_option linter.unusedSimpArgs false
namespace Go.Proofs.YtmmapbhhkmchcaaDoor
open Go Go.Am

theorem get_akk (l : List Tok) (a : Nat) : (l.map akk)[a]? = l[a]?.map akk := List.getElem?_map ..
theorem kd_akk (l : List Tok) (a : Nat) : kd (l.map akk) a = kd l a := by
  unfold kd
  rw [get_akk]
  cases l[a]? <;> rfl
theorem leafT_akk (t : Tok) : leafT (akk t) = leafT t := rfl
/-- Places are nothing to a tree. -/
theorem parts_akk (l : List Tok) : ∀ f, (∀ a, thingS (l.map akk) f a = thingS l f a) ∧ (∀ a, partS (l.map akk) f a = partS l f a) ∧ (∀ a ks, rowS (l.map akk) f a ks = rowS l f a ks) ∧ (∀ a ks, choicesS (l.map akk) f a ks = choicesS l f a ks) := by
  intro f
  induction f with
  | zero => exact ⟨fun _ => by simp [thingS], fun _ => by simp [partS], fun _ _ => by simp [rowS], fun _ _ => by simp [choicesS]⟩
  | succ f ih =>
    obtain ⟨i1, i2, i3, i4⟩ := ih
    refine ⟨fun a => ?_, fun a => ?_, fun a ks => ?_, fun a ks => ?_⟩
    · unfold thingS
      simp only [kd_akk, i4, get_akk]
      cases l[a]? <;> rfl
    · unfold partS
      simp only [get_akk, i1]
      cases l[a]? <;> rfl
    · unfold rowS
      simp only [kd_akk, i2, i3]
    · unfold choicesS
      simp only [kd_akk, i3, i4]
theorem choP_akk (l : List Tok) (a : Nat) : choP (l.map akk) a = choP l a := by
  unfold choP
  rw [(parts_akk l _).2.2.2, List.length_map]
/-- More fuel changes nothing. -/
theorem parts_mono (l : List Tok) : ∀ f, (∀ a p, thingS l f a = some p → thingS l (f + 1) a = some p) ∧ (∀ a p, partS l f a = some p → partS l (f + 1) a = some p) ∧ (∀ a ks p, rowS l f a ks = some p → rowS l (f + 1) a ks = some p) ∧ (∀ a ks p, choicesS l f a ks = some p → choicesS l (f + 1) a ks = some p) := by
  intro f
  induction f with
  | zero => exact ⟨fun a p h => by simp [thingS] at h, fun a p h => by simp [partS] at h, fun a ks p h => by simp [rowS] at h, fun a ks p h => by simp [choicesS] at h⟩
  | succ f ih =>
    obtain ⟨i1, i2, i3, i4⟩ := ih
    refine ⟨fun a p h => ?_, fun a p h => ?_, fun a ks p h => ?_, fun a ks p h => ?_⟩
    · unfold thingS at h ⊢
      by_cases hk : kd l a = 5 ∨ kd l a = 7
      · rw [if_pos hk] at h ⊢
        cases hc : choicesS l f (a + 1) [] with
        | none => rw [hc] at h; cases h
        | some q => rw [hc] at h; rw [i4 _ _ _ hc]; exact h
      · rw [if_neg hk] at h ⊢
        exact h
    · unfold partS at h ⊢
      cases e : l[a]? with
      | none => rw [e] at h; exact i1 _ _ h
      | some x =>
        rw [e] at h
        simp only at h ⊢
        by_cases hx : x.kind = 9
        · rw [if_pos hx] at h ⊢
          cases hal : aloneP (timesT x.mn x.mx zeroT) with
          | false => rw [hal] at h; exact h
          | true =>
            rw [hal] at h
            simp only [if_true] at h ⊢
            cases hc : thingS l f (a + 1) with
            | none => rw [hc] at h; cases h
            | some q => rw [hc] at h; rw [i1 _ _ hc]; exact h
        · rw [if_neg hx] at h ⊢
          exact i1 _ _ h
    · unfold rowS at h ⊢
      cases hb : (ks.isEmpty || begins (kd l a)) with
      | false => rw [hb] at h; exact h
      | true =>
        rw [hb] at h
        simp only [if_true] at h ⊢
        cases hc : partS l f a with
        | none => rw [hc] at h; cases h
        | some q =>
          rw [hc] at h
          rw [i2 _ _ hc]
          cases q with
          | bad r => exact h
          | ok t n => exact i3 _ _ _ h
    · unfold choicesS at h ⊢
      cases hc : rowS l f a [] with
      | none => rw [hc] at h; cases h
      | some q =>
        rw [hc] at h
        rw [i3 _ _ _ hc]
        cases q with
        | bad r => exact h
        | ok t n =>
          simp only at h ⊢
          by_cases hk : kd l n = 4
          · rw [if_pos hk] at h ⊢
            exact i4 _ _ _ h
          · rw [if_neg hk] at h ⊢
            exact h
theorem choices_mono {l : List Tok} {f g a : Nat} {ks : List Tr} {p : Pr} (h : choicesS l f a ks = some p) (hg : f ≤ g) : choicesS l g a ks = some p := by
  obtain ⟨d, rfl⟩ : ∃ d, g = f + d := ⟨g - f, by omega⟩
  induction d with
  | zero => exact h
  | succ d ih => exact (parts_mono l _).2.2.2 _ _ _ (ih (by omega))
/-- What is read so with fuel enough is read so. -/
theorem choP_reads {ts : List Tok} {t : Tr} (h : Reads (fun L f a => choicesS L f a []) ts t stopC) {l : List Tok} {a : Nat} {post : List Tok} (hd : (l.map akk).drop a = ts ++ post) (hs : stopC post) : choP l a = .ok t (a + ts.length) := by
  obtain ⟨F, hF⟩ := h (l.map akk) a post hd hs
  have h1 : choicesS (l.map akk) (max F (4 * (l.map akk).length + 4)) a [] = some (.ok t (a + ts.length)) := hF _ (by omega)
  have h2 := choices_mono (choP_eq (l.map akk) a) (g := max F (4 * (l.map akk).length + 4)) (by omega)
  rw [h1, choP_akk] at h2
  injection h2 with h2
  exact h2.symm
/-- A name, in letters great or small. -/
theorem lx_nameG {c : UInt8} {s : List UInt8} (h1 : letC c = true) (h2 : s.all namC = true) : LX (c :: s) [{ kind := 1, text := c :: s }] sepR := by
  have f := allU8 (p := fun c => !letC c || ((c != 59) && !blkC c && namC c)) (by decide +kernel) c
  simp only [h1, Bool.not_true, Bool.false_or, Bool.and_eq_true, Bool.not_eq_true', bne_iff_ne] at f
  obtain ⟨⟨f2, f3⟩, f4⟩ := f
  have hno : ∀ {x : UInt8}, namC x = true → okC x = true := fun {x} hx => by
    have := allU8 (p := fun c => !namC c || okC c) (by decide +kernel) x
    simpa [hx] using this
  have hall : (c :: s).all namC = true := by rw [List.all_cons, f4, h2]; rfl
  refine LX.piece (t := { kind := 1, text := c :: s }) (List.all_eq_true.2 fun x hx => hno (List.all_eq_true.1 hall x hx)) f2 f3 fun rest hr => ?_
  have e : readP c (c :: s ++ rest) = nameP (c :: s ++ rest) := by simp [readP, readL, rowsP, h1]
  have hn := runN_app (p := namC) (c :: s) rest hall (sep_not (by decide) (by decide) hr)
  rw [e]
  unfold nameP
  rw [hn, List.take_left' rfl]
  simp
theorem lx_line {p : List UInt8} {ts : List Tok} {P : List UInt8 → Prop} (h : LX p ts P) (hP : P []) (off : Nat) : ∃ out, lineP p off (p.length + 2) 0 [] = (out, 0, 0) ∧ out.map akk = ts := by
  obtain ⟨f', o, e, m, g⟩ := h.2 p off (p.length + 2) 0 [] [] (by simp) hP (by omega)
  obtain ⟨f, rfl⟩ : ∃ k, f' = k + 1 := ⟨f' - 1, by omega⟩
  refine ⟨o, ?_, m⟩
  rw [e]
  unfold lineP
  have : p[0 + p.length]? = none := by simp
  rw [this]
  simp
theorem takeWhile_all {p : UInt8 → Bool} : ∀ {l : List UInt8}, (∀ x ∈ l, p x = true) → l.takeWhile p = l
  | [], _ => rfl
  | x :: l, h => by rw [List.takeWhile_cons, if_pos (h x List.mem_cons_self), takeWhile_all fun y hy => h y (List.mem_cons_of_mem _ hy)]
theorem ok_no10 {p : List UInt8} (h : p.all okC = true) : ¬ (10 : UInt8) ∈ p := fun hm => by
  have := List.all_eq_true.1 h 10 hm
  exact absurd this (by decide)
theorem lexP_line {c : UInt8} {p : List UInt8} {ts : List Tok} {P : List UInt8 → Prop} (h : LX (c :: p) ts P) (hP : P []) (hc : letC c = true) (hl : (c :: p).length ≤ 65536) : ∃ out, lexP (c :: p) = (out, 0, 0) ∧ out.map akk = ts ++ [{ kind := 13 }] := by
  obtain ⟨o, ho, hm⟩ := lx_line h hP 0
  have h10 := ok_no10 h.1
  have hcut : cutB (c :: p) 10 = c :: p := by
    unfold cutB
    exact takeWhile_all fun x hx => by
      simp only [bne_iff_ne]
      intro e
      rw [e] at hx
      exact h10 hx
  have hcutL : cutL ((c :: p).drop 0) = c :: p := by
    unfold cutL
    simp only [List.drop_zero]
    rw [if_neg h10, hcut]
  have f := allU8 (p := fun c => !letC c || ((c != 59) && !blkC c)) (by decide +kernel) c
  simp only [hc, Bool.not_true, Bool.false_or, Bool.and_eq_true, Bool.not_eq_true', bne_iff_ne] at f
  have hn : runN blkC (c :: p) = 0 := by simp [runN, f.2]
  refine ⟨o ++ [{ kind := 13, pos := ((c :: p).length : Int) }], ?_, by simp [hm, akk]⟩
  unfold lexP
  rw [if_neg (by omega)]
  unfold lexF
  rw [if_pos (by simp)]
  simp only [hcutL, hn, List.getElem?_cons_zero]
  rw [if_neg f.1, if_neg (by simp [hc]), if_neg (by rw [ho]; simp), ho]
  simp only [List.drop_zero, hcut]
  have hz : (0 + (c :: p).length + 1) = (c :: p).length + 1 := by omega
  rw [hz, show (c :: p).length = p.length + 1 from rfl]
  unfold lexF
  rw [if_neg (by simp)]
  simp
theorem fits_norm : ∀ (n d : Nat) (t : Tr), t.size ≤ n → fitsP d t = true → fitsP d (normT t) = true
  | 0, d, t, hn, _ => by cases t; simp [Tr.size] at hn
  | n + 1, d, t, hn, hf => by
    have ha := fits_alone hf
    cases d with
    | zero => simp [fitsP] at hf
    | succ d =>
      have ih : ∀ k ∈ t.kids, fitsP d (normT k) = true := fun k hk => fits_norm n d k (by have := Tr.size_kid hk; omega) (by have := fits_kid hf hk; simpa using this)
      have hkids : (t.kids.map normT).all (fitsP d) = true := by
        rw [List.all_eq_true]
        intro x hx
        obtain ⟨k, hk, rfl⟩ := List.mem_map.1 hx
        exact ih k hk
      unfold fitsP
      rw [normT_eq]
      by_cases h7 : t.k = 7
      · rw [if_pos h7]
        obtain ⟨a1, a2, a3, a4, a5, a6⟩ := alone7 ha h7
        have : aloneP (.mk 7 [] 0 0 t.mn t.mx false (t.kids.map normT)) = true := by
          have h : t.mx = -1 ∨ t.mn ≤ t.mx ∧ t.mx ≤ 9999 := by omega
          simp [aloneP, Tr.k, Tr.s, Tr.lo, Tr.hi, Tr.mn, Tr.mx, Tr.kids]
          exact ⟨a1, a2, a3, h⟩
        rw [this]
        simpa [Tr.kids] using hkids
      · rw [if_neg h7]
        by_cases h56 : t.k = 5 ∨ t.k = 6
        · rw [if_pos h56]
          obtain ⟨q1, _⟩ := alone_two ha h56
          have : aloneP (.mk t.k [] 0 0 0 0 false (t.kids.map normT)) = true := by
            rcases h56 with e | e
            · rw [e]; simp [aloneP, Tr.k, Tr.s, Tr.lo, Tr.hi, Tr.mn, Tr.mx, Tr.kids]; exact q1
            · rw [e]; simp [aloneP, Tr.k, Tr.s, Tr.lo, Tr.hi, Tr.mn, Tr.mx, Tr.kids]; exact q1
          rw [this]
          simpa [Tr.kids] using hkids
        · rw [if_neg h56]
          obtain ⟨h5, h6⟩ := not_or.1 h56
          have hk : t.k = 1 ∨ t.k = 2 ∨ t.k = 3 ∨ t.k = 4 := by
            rcases alone_kinds ha with k | k | k | k | k | k | k
            · exact .inl k
            · exact .inr (.inl k)
            · exact .inr (.inr (.inl k))
            · exact .inr (.inr (.inr k))
            · exact absurd k h5
            · exact absurd k h6
            · exact absurd k h7
          have := (leaf_right ha hk).2.1
          rw [normT_eq, if_neg h7, if_neg h56] at this
          rw [this]
          simp [Tr.kids]
/-- A line of a rule is read as that rule. -/
theorem of_line {c : UInt8} {nm body : List UInt8} {ts : List Tok} {t : Tr} (more : Bool) (h1 : letC c = true) (h2 : nm.all namC = true) (h3 : namedP (smallP (c :: nm)) = true) (hb : LX body ts sepR) (hr : Reads (fun L f a => choicesS L f a []) ts t stopC) (hf : fitsP 100 t = true)
    (hl : (c :: nm ++ ((if more then [32, 61, 47, 32] else [32, 61, 32]) ++ body)).length ≤ 65536) : ∃ pos, ofP (c :: nm ++ ((if more then [32, 61, 47, 32] else [32, 61, 32]) ++ body)) = ([⟨smallP (c :: nm), pos, more, t⟩], 0, 0) := by
  have hsign : LX (if more then [32, 61, 47, 32] else [32, 61, 32]) [{ kind := if more then 3 else 2 }] anyR := by
    cases more
    · have := LX.blank.app ((lx_is.app LX.blank fun rest _ => sep32 rest)) fun _ _ => trivial
      simpa using this
    · have := LX.blank.app ((lx_more.app LX.blank fun rest _ => trivial)) fun _ _ => trivial
      simpa using this
  have hL := (lx_nameG h1 h2).app (hsign.app hb fun _ _ => trivial) fun rest _ => by
    cases more <;> exact sep32 _
  obtain ⟨l, hlx, hm⟩ := lexP_line (c := c) (p := nm ++ ((if more then [32, 61, 47, 32] else [32, 61, 32]) ++ body)) (by simpa using hL) (fun c r e => by cases e) h1 (by simpa using hl)
  have hm' : l.map akk = { kind := 1, text := c :: nm } :: { kind := if more then 3 else 2 } :: (ts ++ [{ kind := 13 }]) := by rw [hm]; simp
  have hd2 : (l.map akk).drop 2 = ts ++ [{ kind := 13 }] := by rw [hm']; rfl
  have hcho := choP_reads hr hd2 fun x r e => by
    simp only [List.cons.injEq] at e
    rw [← e.1]
    exact ⟨by decide, by decide⟩
  have hlen : l.length = 3 + ts.length := by
    have := congrArg List.length hm'
    simp at this
    omega
  obtain ⟨n, hn0, hnk, hnt⟩ : ∃ n, l[0]? = some n ∧ n.kind = 1 ∧ n.text = c :: nm := by
    have := congrArg (fun l : List Tok => l[0]?) hm'
    simp only [get_akk, List.getElem?_cons_zero] at this
    cases e : l[0]? with
    | none => rw [e] at this; cases this
    | some n =>
      rw [e] at this
      simp only [Option.map_some, Option.some.injEq] at this
      refine ⟨n, rfl, ?_, ?_⟩
      · have := congrArg Tok.kind this; exact this
      · have := congrArg Tok.text this; exact this
  have hk1 : kd l 1 = if more then 3 else 2 := by
    rw [← kd_akk, hm']
    rfl
  have hke : kd l (2 + ts.length) = 13 := by
    rw [← kd_akk, hm']
    have : (({ kind := 1, text := c :: nm } : Tok) :: { kind := if more then 3 else 2 } :: (ts ++ [{ kind := 13 }]))[2 + ts.length]? = some { kind := 13 } := by
      rw [show 2 + ts.length = ts.length + 1 + 1 by omega]
      simp
    rw [kd_of this]
  have hal : aloneP (leafT n) = true := by
    simp [leafT, hnk, hnt, aloneP, Tr.k, Tr.s, Tr.lo, Tr.hi, Tr.mn, Tr.mx, Tr.kids, h3]
  refine ⟨n.pos, ?_⟩
  unfold ofP
  have e0 : c :: nm ++ ((if more then [32, 61, 47, 32] else [32, 61, 32]) ++ body) = c :: (nm ++ ((if more then [32, 61, 47, 32] else [32, 61, 32]) ++ body)) := rfl
  rw [e0, hlx]
  rw [if_neg (by simp)]
  have hrule : ruleS l 0 = .ok ⟨smallP (c :: nm), n.pos, more, t⟩ (2 + ts.length + 1) := by
    unfold ruleS
    rw [hn0]
    simp only
    rw [if_pos ⟨hnk, hal⟩, if_pos (by rw [Nat.zero_add, hk1]; cases more <;> simp), Nat.zero_add, hcho]
    simp only
    rw [if_pos hke, hnt, hk1]
    cases more <;> simp
  show rulesS l (l.length + 1) 0 [] = _
  unfold rulesS
  rw [if_pos (by omega), hrule]
  simp only
  rw [if_pos hf, hlen]
  rw [show 3 + ts.length = (2 + ts.length) + 1 by omega]
  unfold rulesS
  rw [if_neg (by omega)]
  rfl
end Go.Proofs.YtmmapbhhkmchcaaDoor
