/-
  Brackets: bodies with brackets more.
-/
import Derived.Test.YtmmapbhhkmchcaaGreatDoorR5
set_option linter.unusedVariables false
set_option linter.unusedSimpArgs false
namespace Go.Proofs.YtmmapbhhkmchcaaGreatDoor
open Go Go.Am

theorem reads_two_parts {ts us : List Tok} {t u : Tr} (h1 : Reads (fun L f a => partS L f a) ts t (fun _ => True)) (h2 : Reads (fun L f a => partS L f a) us u (fun _ => True)) (h3 : ∃ x r, us = x :: r ∧ begins x.kind = true) : Reads (fun L f a => rowS L f a []) (ts ++ us) (rowT 5 [t, u]) stopR := by
  intro L a post hL hs
  obtain ⟨x, r, hx, hb⟩ := h3
  rw [List.append_assoc] at hL
  obtain ⟨F1, hF1⟩ := h1 L a (us ++ post) hL trivial
  have hF1 : ∀ f, F1 ≤ f → partS L f a = some (.ok t (a + ts.length)) := hF1
  have hd1 : L.drop (a + ts.length) = us ++ post := by rw [← List.drop_drop, hL]; simp
  obtain ⟨F2, hF2⟩ := h2 L (a + ts.length) post hd1 trivial
  have hF2 : ∀ f, F2 ≤ f → partS L f (a + ts.length) = some (.ok u (a + ts.length + us.length)) := hF2
  have hd2 : L.drop (a + ts.length + us.length) = post := by rw [← List.drop_drop, hd1]; simp
  have hk : begins (kd L (a + ts.length)) = true := by
    rw [hx] at hd1
    rw [(drop_kd hd1).2.1]
    exact hb
  have hk2 := stop_kd hd2 hs
  refine ⟨max F1 F2 + 3, fun f hf => ?_⟩
  obtain ⟨f, rfl⟩ : ∃ g, f = g + 3 := ⟨f - 3, by omega⟩
  show rowS L (f + 3) a [] = _
  unfold rowS
  rw [if_pos (by simp), hF1 (f + 2) (by omega)]
  simp only [List.nil_append]
  unfold rowS
  rw [if_pos (by simp [hk]), hF2 (f + 1) (by omega)]
  simp only [List.cons_append, List.nil_append]
  unfold rowS
  rw [if_neg (by simp [hk2])]
  simp [joinT]
  omega
theorem reads_two_rows {ts us : List Tok} {t u : Tr} (h1 : Reads (fun L f a => rowS L f a []) ts t stopR) (h2 : Reads (fun L f a => rowS L f a []) us u stopR) : Reads (fun L f a => choicesS L f a []) (ts ++ { kind := 4 } :: us) (rowT 6 [t, u]) stopC := by
  intro L a post hL hs
  rw [List.append_assoc] at hL
  obtain ⟨F1, hF1⟩ := h1 L a ({ kind := 4 } :: us ++ post) hL (fun x r e => by
    simp only [List.cons_append, List.cons.injEq] at e
    rw [← e.1]
    decide)
  have hF1 : ∀ f, F1 ≤ f → rowS L f a [] = some (.ok t (a + ts.length)) := hF1
  have hd1 : L.drop (a + ts.length) = { kind := 4 } :: (us ++ post) := by rw [← List.drop_drop, hL]; simp
  obtain ⟨e1, e2, e3⟩ := drop_kd hd1
  obtain ⟨F2, hF2⟩ := h2 L (a + ts.length + 1) post e3 hs.R
  have hF2 : ∀ f, F2 ≤ f → rowS L f (a + ts.length + 1) [] = some (.ok u (a + ts.length + 1 + us.length)) := hF2
  have hd2 : L.drop (a + ts.length + 1 + us.length) = post := by rw [← List.drop_drop, e3]; simp
  have hk2 := stop_kd4 hd2 hs
  refine ⟨max F1 F2 + 2, fun f hf => ?_⟩
  obtain ⟨f, rfl⟩ : ∃ g, f = g + 2 := ⟨f - 2, by omega⟩
  show choicesS L (f + 2) a [] = _
  unfold choicesS
  rw [hF1 (f + 1) (by omega)]
  simp only [List.nil_append]
  rw [if_pos e2]
  unfold choicesS
  rw [hF2 f (by omega)]
  simp only [List.cons_append, List.nil_append]
  rw [if_neg hk2]
  simp [joinT]
  omega
theorem reads_br_row {ts : List Tok} {t : Tr} (h : Reads (fun L f a => choicesS L f a []) ts t stopC) : Reads (fun L f a => partS L f a) ({ kind := 5 } :: (ts ++ [{ kind := 6 }])) t (fun _ => True) :=
  reads_part (reads_br h) ⟨_, _, rfl, by decide⟩
/-- So many brackets. -/
def brN : Nat → List Tok → List Tok
  | 0, ts => ts
  | n + 1, ts => { kind := 5 } :: (brN n ts ++ [{ kind := 6 }])
theorem reads_brN {ts : List Tok} {t : Tr} (h : Reads (fun L f a => choicesS L f a []) ts t stopC) : ∀ n, Reads (fun L f a => choicesS L f a []) (brN n ts) t stopC
  | 0 => h
  | n + 1 => reads_choice (reads_row (reads_br_row (reads_brN h n)))
theorem repL_succ' (s : List UInt8) : ∀ n, repL s (n + 1) = s ++ repL s n := by
  intro n
  simp [repL, List.replicate_succ]
theorem repL_snoc (s : List UInt8) : ∀ n, repL s n ++ s = s ++ repL s n
  | 0 => by simp [repL]
  | n + 1 => by rw [repL_succ', List.append_assoc, repL_snoc s n]
theorem lx_brN {p : List UInt8} {ts : List Tok} (h : LX p ts sepR) : ∀ n, LX (repL [40] n ++ (p ++ repL [32, 41] n)) (brN n ts) sepR
  | 0 => by simpa [repL, brN] using h
  | n + 1 => by
    have h1 := lx_brN h n
    have h2 := h1.app (LX.blank.app lx_shut fun _ _ => trivial) fun rest _ => sep32 _
    have h3 := lx_open.app h2 fun _ _ => trivial
    have e : repL [40] (n + 1) ++ (p ++ repL [32, 41] (n + 1)) = [40] ++ ((repL [40] n ++ (p ++ repL [32, 41] n)) ++ ([32] ++ [41])) := by
      rw [repL_succ', repL_succ', ← repL_snoc [32, 41] n]
      simp
    rw [e]
    exact (by simpa [brN] using h3 : LX _ (brN (n + 1) ts) anyR).weak fun _ _ => trivial
theorem fits_mono : ∀ (d e : Nat) (t : Tr), d ≤ e → fitsP d t = true → fitsP e t = true
  | 0, e, t, _, h => by simp [fitsP] at h
  | d + 1, 0, t, hde, h => by omega
  | d + 1, e + 1, t, hde, h => by
    simp only [fitsP, Bool.and_eq_true] at h ⊢
    exact ⟨h.1, List.all_eq_true.2 fun k hk => fits_mono d e k (by omega) (List.all_eq_true.1 h.2 k hk)⟩
/-- The two texts of the statement: what they are read as. -/
theorem brackets_one {a : Tr} (ha : fitsP 7 a = true) (n : Nat) (hl : (textP a).length + 3 * n ≤ 60000) : ∃ pos, ofP ([82, 117, 108, 101, 32, 61, 32] ++ (repL [40] n ++ (textP a ++ repL [32, 41] n))) = ([⟨[114, 117, 108, 101], pos, false, normT a⟩], 0, 0) := by
  have h1 := lx_brN (lx_tree a.size 7 a (Nat.le_refl _) ha) n
  have h2 := reads_brN (reads_tree a.size 7 a (Nat.le_refl _) ha).1 n
  have h3 : fitsP 100 (normT a) = true := fits_mono 7 100 _ (by omega) (fits_norm a.size 7 a (Nat.le_refl _) ha)
  have hlen : ∀ (s : List UInt8) n, (repL s n).length = s.length * n := fun s n => by
    induction n with
    | zero => simp [repL]
    | succ n ih => rw [repL_succ', List.length_append, ih, Nat.mul_succ]; omega
  have := of_line (c := 82) (nm := [117, 108, 101]) (more := false) (by decide) (by decide) (by decide) h1 h2 h3 (by simp [hlen]; omega)
  rw [show smallP [82, 117, 108, 101] = [114, 117, 108, 101] by decide] at this
  simpa using this
theorem brackets_two {a b : Tr} (ha : fitsP 7 a = true) (hb : fitsP 7 b = true) (n : Nat) (hl : 2 * (textP a).length + (textP b).length + 3 * n ≤ 60000) :
    ∃ pos, ofP ([114, 85, 108, 101, 32, 61, 32] ++ ([40] ++ ((repL [40] n ++ (textP a ++ repL [32, 41] n)) ++ ([41, 32, 47, 32, 40] ++ (textP b ++ ([41, 32, 40] ++ (textP a ++ [41]))))))) = ([⟨[114, 117, 108, 101], pos, false, rowT 6 [normT a, rowT 5 [normT b, normT a]]⟩], 0, 0) := by
  have t1 := lx_tree a.size 7 a (Nat.le_refl _) ha
  have t2 := lx_tree b.size 7 b (Nat.le_refl _) hb
  have r1 := (reads_tree a.size 7 a (Nat.le_refl _) ha).1
  have r2 := (reads_tree b.size 7 b (Nat.le_refl _) hb).1
  have f1 := fits_norm a.size 7 a (Nat.le_refl _) ha
  have f2 := fits_norm b.size 7 b (Nat.le_refl _) hb
  have h1 := lx_brN t1 n
  have l1 := t1.app lx_shut fun rest _ => sep41 rest
  have l2 := (LX.blank.app (lx_open.app l1 fun _ _ => trivial) fun _ _ => trivial)
  have l3 := lx_shut.app l2 fun _ _ => trivial
  have l4 := t2.app l3 fun rest _ => sep41 _
  have l5 := lx_open.app l4 fun _ _ => trivial
  have l6 := LX.blank.app (lx_or.app (LX.blank.app l5 fun _ _ => trivial) fun _ _ => trivial) fun _ _ => trivial
  have l7 := lx_shut.app l6 fun _ _ => trivial
  have l8 := h1.app l7 fun rest _ => sep41 _
  have l9 := lx_open.app l8 fun _ _ => trivial
  have hR := reads_two_rows (reads_row (reads_br_row (reads_brN r1 n))) (reads_two_parts (reads_br_row r2) (reads_br_row r1) ⟨_, _, rfl, by decide⟩)
  have hf : fitsP 100 (rowT 6 [normT a, rowT 5 [normT b, normT a]]) = true := by
    have g1 : fitsP 98 (normT a) = true := fits_mono 7 98 _ (by omega) f1
    have g2 : fitsP 98 (normT b) = true := fits_mono 7 98 _ (by omega) f2
    have g3 : fitsP 99 (normT a) = true := fits_mono 7 99 _ (by omega) f1
    have g4 : fitsP 99 (rowT 5 [normT b, normT a]) = true := by
      unfold fitsP
      simp [rowT, aloneP, Tr.k, Tr.s, Tr.lo, Tr.hi, Tr.mn, Tr.mx, Tr.kids, g1, g2]
    unfold fitsP
    simp only [rowT, Tr.kids, List.all_cons, List.all_nil, g3, Bool.and_true, Bool.true_and] at g4 ⊢
    rw [g4]
    simp [aloneP, Tr.k, Tr.s, Tr.lo, Tr.hi, Tr.mn, Tr.mx, Tr.kids]
  have hlen : ∀ (s : List UInt8) n, (repL s n).length = s.length * n := fun s n => by
    induction n with
    | zero => simp [repL]
    | succ n ih => rw [repL_succ', List.length_append, ih, Nat.mul_succ]; omega
  have hts : ∀ (o s u : Tok) (A B C : List Tok), (o :: (A ++ [s])) ++ u :: ((o :: (B ++ [s])) ++ (o :: (C ++ [s]))) = [o] ++ (A ++ ([s] ++ ([] ++ ([u] ++ ([] ++ ([o] ++ (B ++ ([s] ++ ([] ++ ([o] ++ (C ++ [s]))))))))))) := by intros; simp
  rw [hts] at hR
  have := of_line (c := 114) (nm := [85, 108, 101]) (more := false) (by decide) (by decide) (by decide) (l9.weak (Q := sepR) fun _ _ => trivial) hR hf (by simp [hlen]; omega)
  rw [show smallP [114, 85, 108, 101] = [114, 117, 108, 101] by decide] at this
  simpa using this
end Go.Proofs.YtmmapbhhkmchcaaGreatDoor
