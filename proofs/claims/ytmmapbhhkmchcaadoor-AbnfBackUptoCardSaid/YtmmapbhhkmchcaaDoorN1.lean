/-
  AbnfBack, plainly: how much a text's trees hold, and a printed rule is read as it is.
-/
import Derived.Test.YtmmapbhhkmchcaaDoorR5
import Derived.Test.YtmmapbhhkmchcaaDoorE4
set_option linter.unusedVariables false
set_option linter.unusedSimpArgs false
namespace Go.Proofs.YtmmapbhhkmchcaaDoor
open Go Go.Am

theorem wts_snoc : ∀ (l : List Tr) (t : Tr), wts (l ++ [t]) = wts l + t.wt
  | [], t => by simp [wts]
  | x :: l, t => by
    have := wts_snoc l t
    simp only [List.cons_append, wts]
    omega
theorem wt_leaf {t : Tok} (h : t.text.length ≤ 2000) : (leafT t).wt + 32 ≤ 6048 := by
  have : (leafT t).kids = [] := by unfold leafT; split <;> (try split) <;> (try split) <;> (try split) <;> rfl
  have h2 : (leafT t).s.length ≤ 2000 := by unfold leafT; split <;> (try split) <;> (try split) <;> (try split) <;> simp [Tr.s, smallP] <;> exact h
  rw [wt_eq, this]
  simp only [wts]
  omega
theorem wt_join (k : UInt8) {B : Nat} : ∀ {ks : List Tr}, ks ≠ [] → wts ks + 32 * ks.length ≤ B → (joinT k ks).wt + 32 ≤ B
  | [], h, _ => absurd rfl h
  | [t], _, h => by
    simp only [wts, List.length_cons, List.length_nil] at h
    simp only [joinT]
    omega
  | x :: y :: q, _, h => by
    have e : joinT k (x :: y :: q) = rowT k (x :: y :: q) := rfl
    rw [e, wt_eq]
    simp only [rowT, Tr.s, Tr.kids, List.length_nil]
    simp only [List.length_cons] at h
    omega
theorem parts_wt (l : List Tok) (ht : ∀ t ∈ l, t.text.length ≤ 2000) : ∀ f, (∀ a t n, thingS l f a = some (.ok t n) → t.wt + 32 ≤ 6048 * (n - a)) ∧ (∀ a t n, partS l f a = some (.ok t n) → t.wt + 32 ≤ 6048 * (n - a)) ∧
    (∀ a0 a ks t n, rowS l f a ks = some (.ok t n) → a0 ≤ a → wts ks + 32 * ks.length ≤ 6048 * (a - a0) → t.wt + 32 ≤ 6048 * (n - a0)) ∧ (∀ a0 a ks t n, choicesS l f a ks = some (.ok t n) → a0 ≤ a → wts ks + 32 * ks.length ≤ 6048 * (a - a0) → t.wt + 32 ≤ 6048 * (n - a0)) := by
  intro f
  induction f with
  | zero => exact ⟨fun a t n h => by simp [thingS] at h, fun a t n h => by simp [partS] at h, fun a0 a ks t n h => by simp [rowS] at h, fun a0 a ks t n h => by simp [choicesS] at h⟩
  | succ f ih =>
    obtain ⟨i1, i2, i3, i4⟩ := ih
    refine ⟨fun a t n h => ?_, fun a t n h => ?_, fun a0 a ks t n h q1 q2 => ?_, fun a0 a ks t n h q1 q2 => ?_⟩
    · unfold thingS at h
      split at h
      · split at h
        · rename_i t1 n1 hc
          have := i4 (a + 1) _ _ _ _ hc (Nat.le_refl _) (by simp [wts])
          have hp := (prog l f).2.2.2 _ _ _ _ hc
          split at h
          · simp only [Option.some.injEq, Pr.ok.injEq] at h
            obtain ⟨rfl, rfl⟩ := h
            split
            · have e : (mayT t1).wt = 16 + t1.wt := by rw [wt_eq]; simp [mayT, Tr.s, Tr.kids, wts]
              omega
            · omega
          · cases h
        · rename_i hno
          exact absurd h (hno _ _)
      · split at h
        · cases h
        · rename_i t1 e
          split at h
          · simp only [Option.some.injEq, Pr.ok.injEq] at h
            obtain ⟨rfl, rfl⟩ := h
            have := wt_leaf (ht _ (List.mem_of_getElem? e))
            omega
          · cases h
    · unfold partS at h
      split at h
      · exact i1 _ _ _ h
      · split at h
        · split at h
          · split at h
            · rename_i t1 n1 hc
              have := i1 _ _ _ hc
              have hp := (prog l f).1 _ _ _ hc
              simp only [Option.some.injEq, Pr.ok.injEq] at h
              obtain ⟨rfl, rfl⟩ := h
              have e : ∀ mn mx, (timesT mn mx t1).wt = 16 + t1.wt := fun mn mx => by rw [wt_eq]; simp [timesT, Tr.s, Tr.kids, wts]
              rw [e]
              omega
            · rename_i hno
              exact absurd h (hno _ _)
          · cases h
        · exact i1 _ _ _ h
    · unfold rowS at h
      split at h
      · split at h
        · rename_i t1 n1 hc
          have h1 := (prog l f).2.1 _ _ _ hc
          have h2 := i2 _ _ _ hc
          have h3 := wts_snoc ks t1
          refine i3 a0 _ _ _ _ h (by omega) ?_
          rw [h3]
          simp only [List.length_append, List.length_cons, List.length_nil]
          omega
        · rename_i hno
          exact absurd h (hno _ _)
      · rename_i hk
        simp only [Option.some.injEq, Pr.ok.injEq] at h
        obtain ⟨rfl, rfl⟩ := h
        refine wt_join 5 ?_ q2
        rintro rfl
        simp at hk
    · unfold choicesS at h
      split at h
      · rename_i t1 n1 hc
        have h1 := (prog l f).2.2.1 _ _ _ _ hc
        have h2 := i3 a _ _ _ _ hc (Nat.le_refl _) (by simp [wts])
        have h3 := wts_snoc ks t1
        have h4 := h1.2.2 rfl
        split at h
        · refine i4 a0 _ _ _ _ h (by omega) ?_
          rw [h3]
          simp only [List.length_append, List.length_cons, List.length_nil]
          omega
        · simp only [Option.some.injEq, Pr.ok.injEq] at h
          obtain ⟨rfl, rfl⟩ := h
          refine wt_join 6 (by simp) ?_
          rw [h3]
          simp only [List.length_append, List.length_cons, List.length_nil]
          omega
      · rename_i hno
        exact absurd h (hno _ _)
theorem cho_wt {l : List Tok} (ht : ∀ t ∈ l, t.text.length ≤ 2000) {a n : Nat} {t : Tr} (h : choP l a = .ok t n) : t.wt ≤ 6048 * n := by
  have := (parts_wt l ht _).2.2.2 a a [] t n (by rw [choP_eq, h]) (Nat.le_refl _) (by simp [wts])
  omega
theorem rulesS_wt {l : List Tok} (hl : l.length ≤ 2002) (ht : ∀ t ∈ l, t.text.length ≤ 2000) : ∀ (f a : Nat) (out : List Ru), (∀ x ∈ out, x.tree.wt ≤ 1000000000 ∧ x.name.length ≤ 2000) → (∀ x ∈ (rulesS l f a out).1, x.tree.wt ≤ 1000000000 ∧ x.name.length ≤ 2000)
  | 0, a, out, h => by simp only [rulesS]; exact h
  | f + 1, a, out, h => by
    unfold rulesS
    by_cases hlt : a < l.length
    · rw [if_pos hlt]
      cases hr : ruleS l a with
      | bad p => simp only; exact fun x hx => (by cases hx)
      | ok x m =>
        obtain ⟨h1, h2, n, t, en, hk, hal, h23, hc, h13, rfl⟩ := ruleS_ok hr
        simp only
        cases hf : fitsP 100 t with
        | false => simp only [Bool.false_eq_true, if_false]; exact fun x hx => (by cases hx)
        | true =>
          simp only [if_true]
          exact rulesS_wt hl ht f m (out ++ [⟨smallP n.text, n.pos, decide (kd l (a + 1) = 3), t⟩]) (fun y hy => by
            rcases List.mem_append.1 hy with hy | hy
            · exact h y hy
            · simp only [List.mem_singleton] at hy
              subst hy
              have := cho_wt ht hc
              exact ⟨by simp only; omega, by simp [smallP]; exact ht n (List.mem_of_getElem? en)⟩)
    · rw [if_neg hlt]
      exact h
theorem of_wt {s : List UInt8} (hs : s.length ≤ 2000) : (∀ x ∈ (ofP s).1, x.tree.wt ≤ 1000000000 ∧ x.name.length ≤ 2000) ∧ (ofP s).1.length ≤ 1000000000 := by
  unfold ofP
  split
  · exact ⟨fun x hx => (by cases hx), by simp⟩
  · have hc := lexP_cnt s
    have ht := lexP_t s
    exact ⟨rulesS_wt (l := (lexP s).1) (by omega) (fun t h => by have := ht t h; omega) _ 0 [] (fun x hx => by cases hx), (parseP_ok (l := (lexP s).1) (by omega) (fun t h => by have := ht t h; omega)).2⟩
theorem of_TOk {s : List UInt8} (hs : s.length ≤ 900000000) : ∀ x ∈ (ofP s).1, TOk x.tree := by
  unfold ofP
  split
  · intro x hx; cases hx
  · have hc := lexP_cnt s
    have ht := lexP_t s
    exact fun x hx => ((parseP_ok (l := (lexP s).1) (by omega) (fun t h => by have := ht t h; omega)).1 x hx).1
theorem fits_mono : ∀ (d e : Nat) (t : Tr), d ≤ e → fitsP d t = true → fitsP e t = true
  | 0, e, t, _, h => by simp [fitsP] at h
  | d + 1, 0, t, hde, h => by omega
  | d + 1, e + 1, t, hde, h => by
    simp only [fitsP, Bool.and_eq_true] at h ⊢
    exact ⟨h.1, List.all_eq_true.2 fun k hk => fits_mono d e k (by omega) (List.all_eq_true.1 h.2 k hk)⟩
theorem low_letC {c : UInt8} (h : lowC c = true) : letC c = true := by
  have := allU8 (p := fun c => !lowC c || letC c) (by decide +kernel) c
  simpa [h] using this
/-- A right rule's text is read as that rule. -/
theorem back_of {x : Ru} (h2 : (printP x).2 = 0) (hl : (printP x).1.length ≤ 60000) : ∃ pos, ofP (printP x).1 = ([⟨x.name, pos, x.more, normT x.tree⟩], 0, 0) ∧ eqRs false [⟨x.name, pos, x.more, normT x.tree⟩] [x] = true := by
  unfold printP at h2 hl ⊢
  cases h1 : namedP x.name && fitsP 100 x.tree with
  | false => rw [h1] at h2; simp at h2
  | true =>
    rw [h1] at hl
    simp only [if_true] at hl ⊢
    simp only [Bool.and_eq_true] at h1
    obtain ⟨hn, hf⟩ := h1
    have hs := named_small hn
    have hb := lx_tree x.tree.size 100 x.tree (Nat.le_refl _) hf
    have hr := reads_tree x.tree.size 100 x.tree (Nat.le_refl _) hf
    have hfn := fits_norm x.tree.size 100 x.tree (Nat.le_refl _) hf
    obtain ⟨name, p, more, t⟩ := x
    simp only at *
    match name, hn, hs, hl with
    | c :: nm, hn, hs, hl =>
      have hnn := hn
      simp only [namedP, Bool.and_eq_true] at hn
      obtain ⟨pos, e⟩ := of_line (c := c) (nm := nm) more (low_letC hn.1) (List.all_eq_true.2 fun d hd => nm_nam (List.all_eq_true.1 hn.2 d hd)) (by rw [hs]; exact hnn) hb hr.1 hfn (by omega)
      rw [hs] at e
      exact ⟨pos, e, by simp [eqRs, eqR, hr.2.2.2]⟩
theorem not_right {x : Ru} (h2 : ¬ (printP x).2 = 0) : printP x = ([], 2) ∧ (x.name = [114, 45, 49] → fitsP 100 x.tree = false) := by
  unfold printP at h2 ⊢
  cases h1 : namedP x.name && fitsP 100 x.tree with
  | true => rw [h1] at h2; simp at h2
  | false =>
    refine ⟨by simp, fun e => ?_⟩
    rw [e] at h1
    simpa [show namedP [114, 45, 49] = true by decide] using h1
end Go.Proofs.YtmmapbhhkmchcaaDoor
