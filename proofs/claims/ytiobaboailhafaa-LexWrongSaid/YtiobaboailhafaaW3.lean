/-
  LexWhole, plainly: of a line, and of a text.
-/
import Derived.Test.YtiobaboailhafaaW2
set_option linter.unusedVariables false
set_option linter.unusedSimpArgs false
namespace Go.Proofs.Ytiobaboailhafaa
open Go Go.Am

theorem readL_P {P : Fd → Prop} (c : UInt8) (s : List UInt8) (h0 : P { err := 11 }) : ∀ ps : List RowP, (∀ p ∈ ps, p.1 c = true → P (p.2 s)) → P (readL ps c s)
  | [], _ => h0
  | p :: ps, h => by
    unfold readL
    split
    · rename_i hp; exact h p List.mem_cons_self hp
    · exact readL_P c s h0 ps fun q hq => h q (List.mem_cons_of_mem _ hq)
theorem dots_err (base : Nat) (s : List UInt8) : ∀ (f a : Nat) (t : List UInt8), (dotsP base s f a t).err ≠ 0 → (dotsP base s f a t).n = 0
  | 0, a, t => by simp [dotsP]
  | f + 1, a, t => by
    unfold dotsP
    split
    · split
      · simp
      · split
        · exact dots_err base s _ _ _
        · simp
    · simp
theorem valueP_err (s : List UInt8) : (valueP s).err ≠ 0 → (valueP s).n = 0 := by
  unfold valueP
  split
  · simp
  · split
    · split
      · split
        · simp
        · split <;> simp
      · exact dots_err _ _ _ _ _
    · simp
theorem times_err (c : UInt8) (s : List UInt8) : (timesP (c :: s)).err ≠ 0 → (timesP (c :: s)).n ≤ s.length := by
  have hb := runN_le digC ((c :: s).drop (runN digC (c :: s) + 1))
  unfold timesP
  simp only
  generalize runN digC (c :: s) = A at *
  cases hs : ((c :: s)[A]? == some 42) with
  | false =>
    simp only [Bool.false_eq_true, if_false, Bool.not_false, if_true]
    split
    · simp
    · rw [if_neg (by omega)]; simp
  | true =>
    simp only [if_true, Bool.not_true, Bool.false_eq_true, if_false]
    generalize runN digC ((c :: s).drop (A + 1)) = B at *
    split
    · simp
    · split
      · intro _
        simp only
        simp at hb
        omega
      · generalize (if B > 0 then (numN 10 (((c :: s).drop (A + 1)).take B) : Int) else -1) = mx
        split <;> simp
theorem chars_err (s : List UInt8) : (charsP s).err ≠ 0 → (charsP s).n = 0 := by
  unfold charsP
  simp only
  split <;> simp
theorem err_n (c : UInt8) (s : List UInt8) : (readP c (c :: s)).err ≠ 0 → (readP c (c :: s)).n ≤ s.length := by
  refine readL_P (P := fun f => f.err ≠ 0 → f.n ≤ s.length) c (c :: s) (by simp) rowsP fun p hp hc => ?_
  simp only [rowsP, List.mem_cons, List.not_mem_nil, or_false] at hp
  rcases hp with rfl | rfl | rfl | rfl | rfl | rfl | rfl | rfl | rfl | rfl | rfl | rfl
  · simp [nameP]
  · simp only [isP]; split <;> simp
  · simp [signP]
  · simp [signP]
  · simp [signP]
  · simp [signP]
  · simp [signP]
  · exact times_err c s
  · intro h; have := chars_err _ h; simp only at this ⊢; omega
  · intro h; have := valueP_err _ h; simp only at this ⊢; omega
  · simp
  · simp

theorem lineP_chk (src text : List UInt8) (off : Nat) (hoff : off ≤ src.length) (hpre : text <+: src.drop off) (base : List Tok) : ∀ (f i : Nat) (out : List Tok), chkA src (base ++ out) → (stOf (base ++ out)).1 ≤ ((off + i : Nat) : Int) → (stOf (base ++ out)).1 ≤ ((off + text.length : Nat) : Int) →
    ((stOf (base ++ out)).2 = true → 0 < f ∧ ∃ c, text[i]? = some c ∧ letC c = true) →
    ((lineP text off f i out).2.2 = 0 → (lineP text off f i out).2.1 = 0 ∧ chkA src (base ++ (lineP text off f i out).1) ∧ (stOf (base ++ (lineP text off f i out).1)).1 ≤ ((off + text.length : Nat) : Int) ∧ (stOf (base ++ (lineP text off f i out).1)).2 = false) ∧
    ((lineP text off f i out).2.2 ≠ 0 → (lineP text off f i out).1 = [] ∧ (off : Int) ≤ (lineP text off f i out).2.1 ∧ (lineP text off f i out).2.1 < ((off + text.length : Nat) : Int))
  | 0, i, out, h1, h2, h3, h4 => by
    refine ⟨fun _ => ⟨rfl, h1, h3, ?_⟩, fun h => absurd rfl h⟩
    cases hb : (stOf (base ++ out)).2 with
    | false => exact hb
    | true => have := (h4 hb).1; omega
  | f + 1, i, out, h1, h2, h3, h4 => by
    have hlen : text.length ≤ src.length - off := by simpa using hpre.length_le
    unfold lineP
    cases hc : text[i]? with
    | none =>
      refine ⟨fun _ => ⟨rfl, h1, h3, ?_⟩, fun h => absurd rfl h⟩
      cases hb : (stOf (base ++ out)).2 with
      | false => rfl
      | true =>
        obtain ⟨_, c, hc', _⟩ := h4 hb
        rw [hc] at hc'; cases hc'
    | some c =>
      simp only
      have hst : letC c = false → (stOf (base ++ out)).2 = false := fun hl => by
        cases hb : (stOf (base ++ out)).2 with
        | false => rfl
        | true =>
          obtain ⟨_, d, hd, hl'⟩ := h4 hb
          rw [hc] at hd
          injection hd with hd
          subst hd
          rw [hl] at hl'; cases hl'
      by_cases h59 : c = 59
      · rw [if_pos h59]
        subst h59
        exact ⟨fun _ => ⟨rfl, h1, h3, hst (by decide)⟩, fun h => absurd rfl h⟩
      rw [if_neg h59]
      have hi : i < text.length := (List.getElem?_eq_some_iff.1 hc).1
      cases hb : blkC c with
      | true =>
        rw [if_pos rfl]
        have hf : (stOf (base ++ out)).2 = false := hst (by
          simp only [blkC, Bool.or_eq_true, beq_iff_eq] at hb
          rcases hb with rfl | rfl <;> decide)
        exact lineP_chk src text off hoff hpre base f (i + 1) out h1 (by omega) h3 (fun h => by rw [hf] at h; cases h)
      | false =>
        rw [if_neg (by simp)]
        have hdrop : text.drop i = c :: text.drop (i + 1) := by
          obtain ⟨_, he⟩ := List.getElem?_eq_some_iff.1 hc
          rw [← he]; exact List.drop_eq_getElem_cons hi
        have k1 := ok_read c (text.drop (i + 1))
        have k2 := readP_n c (text.drop (i + 1))
        have k3 := err_n c (text.drop (i + 1))
        rw [← hdrop] at k1 k2 k3
        generalize readP c (text.drop i) = fd at *
        by_cases he : fd.err = 0
        · rw [if_neg (fun h => h he)]
          obtain ⟨j1, j2, j3⟩ := k1 he
          have hn := k2.2 he
          have hch : chkT src (stOf (base ++ out)) { fd.tok with pos := ((off + i : Nat) : Int) } := by
            refine ⟨h2, by simp only; omega, fun h => ?_, ?_⟩
            · obtain ⟨_, d, hd, hl'⟩ := h4 h
              rw [hc] at hd
              injection hd with hd
              subst hd
              exact j3 hl'
            · have : stands (src.drop (off + i)) fd.tok := stands_pre j1 (by
                rw [← List.drop_drop]
                obtain ⟨r, hr⟩ := hpre
                exact ⟨r, by rw [← hr, List.drop_append_of_le_length (by omega)]⟩)
              exact this
          have hs := stOf_snoc (base ++ out) { fd.tok with pos := ((off + i : Nat) : Int) }
          have e1 : stp (stOf (base ++ out)) { fd.tok with pos := ((off + i : Nat) : Int) } = (((off + i : Nat) : Int) + 1, false) := by
            unfold stp
            simp only
            rw [if_neg j2]
            congr
            simpa using j2
          rw [e1] at hs
          have := lineP_chk src text off hoff hpre base f (i + fd.n) (out ++ [{ fd.tok with pos := ((off + i : Nat) : Int) }]) (by rw [← List.append_assoc]; exact chkA_snoc h1 hch)
            (by rw [← List.append_assoc, hs]; simp only; omega) (by rw [← List.append_assoc, hs]; simp only; omega) (by rw [← List.append_assoc, hs]; intro h; cases h)
          exact this
        · rw [if_pos he]
          refine ⟨fun h => absurd h he, fun _ => ⟨rfl, ?_, ?_⟩⟩
          · simp only; omega
          · have := k3 he
            simp at this ⊢
            omega
theorem cutB_pre0 (s : List UInt8) (c : UInt8) : cutB s c <+: s := List.takeWhile_prefix _
theorem trimSuf_pre (s p : List UInt8) : trimSuf s p <+: s := by
  unfold trimSuf
  split
  · exact List.take_prefix _ _
  · exact List.prefix_refl _
theorem cutL_pre (s : List UInt8) : cutL s <+: s := by
  unfold cutL
  split
  · exact (trimSuf_pre _ _).trans (cutB_pre0 _ _)
  · exact cutB_pre0 _ _
def endT (n : Nat) : Tok := { kind := 13, pos := (n : Int) }
theorem chk_end {s : List UInt8} {out : List Tok} {a : Nat} (ha : a ≤ s.length) (h1 : (stOf out).1 ≤ a) (h2 : (stOf out).2 = false) : chkT s (stOf out) (endT a) := by
  refine ⟨h1, by simp only [endT]; omega, fun h => (by rw [h2] at h; cases h), ?_⟩
  unfold stands
  simp [endT]
def goodX (src : List UInt8) (r : List Tok × Int × Int) : Prop := (r.2.2 = 0 → r.2.1 = 0 ∧ chkA src r.1 ∧ (r.1 = [] ∨ ∃ l, r.1 = l ++ [endT src.length])) ∧ (r.2.2 ≠ 0 → r.1 = [] ∧ 0 ≤ r.2.1 ∧ r.2.1 < (src.length : Int))
theorem lexF_chk (src : List UInt8) : ∀ (f a : Nat) (any : Bool) (out : List Tok), src.length - a < f → chkA src out → (stOf out).1 ≤ (a : Int) → (stOf out).1 ≤ (src.length : Int) → (any = true → (stOf out).2 = false) → (any = false → out = []) →
    goodX src (lexF src f a any out)
  | 0, a, any, out, hf, h1, h2, h3, h4, h5 => by omega
  | f + 1, a, any, out, hf, h1, h2, h3, h4, h5 => by
    unfold lexF
    by_cases hlt : a < src.length
    · rw [if_pos hlt]
      simp only
      have hpre := cutL_pre (src.drop a)
      have hcl := cutL_len (src.drop a)
      have hlen : (cutL (src.drop a)).length ≤ src.length - a := by simpa using hpre.length_le
      generalize (cutB (src.drop a) 10).length = tl at *
      generalize cutL (src.drop a) = text at *
      have next : ∀ (any : Bool) (out : List Tok), chkA src out → (stOf out).1 ≤ ((a + tl + 1 : Nat) : Int) → (stOf out).1 ≤ (src.length : Int) → (any = true → (stOf out).2 = false) → (any = false → out = []) → goodX src (lexF src f (a + tl + 1) any out) := fun any out g1 g2 g3 g4 g5 => lexF_chk src f (a + tl + 1) any out (by omega) g1 g2 g3 g4 g5
      cases hc : text[runN blkC text]? with
      | none => exact next any out h1 (by omega) h3 h4 h5
      | some c =>
        simp only
        by_cases h59 : c = 59
        · rw [if_pos h59]; exact next any out h1 (by omega) h3 h4 h5
        rw [if_neg h59]
        by_cases hbad : (runN blkC text = 0 ∧ letC c = false) ∨ (0 < runN blkC text ∧ any = false)
        · rw [if_pos hbad]
          exact ⟨fun h => absurd h (by simp), fun _ => ⟨rfl, by simp only; omega, by simp only; omega⟩⟩
        rw [if_neg hbad]
        have line : ∀ out1 : List Tok, chkA src out1 → (stOf out1).1 ≤ (a : Int) → ((stOf out1).2 = true → ∃ c, text[0]? = some c ∧ letC c = true) →
            goodX src (if (lineP text a (text.length + 2) 0 []).2.2 ≠ 0 then (([] : List Tok), (lineP text a (text.length + 2) 0 []).2.1, (lineP text a (text.length + 2) 0 []).2.2) else lexF src f (a + tl + 1) true (out1 ++ (lineP text a (text.length + 2) 0 []).1)) := by
          intro out1 g1 g2 g3
          obtain ⟨k1, k2⟩ := lineP_chk src text a (by omega) hpre out1 (text.length + 2) 0 [] (by simpa using g1) (by simpa using g2) (by simp only [List.append_nil]; omega) (by simpa using g3)
          generalize lineP text a (text.length + 2) 0 [] = r at *
          by_cases he : r.2.2 = 0
          · rw [if_neg (fun h => h he)]
            obtain ⟨q1, q2, q3, q4⟩ := k1 he
            exact next true _ q2 (by omega) (by omega) (fun _ => q4) (fun h => by cases h)
          · rw [if_pos he]
            obtain ⟨q1, q2, q3⟩ := k2 he
            exact ⟨fun h => absurd h he, fun _ => ⟨rfl, by simp only; omega, by simp only; omega⟩⟩
        rcases Nat.eq_zero_or_pos (runN blkC text) with hn | hn
        · rw [hn] at hbad hc
          have hl : letC c = true := by
            cases h : letC c with
            | true => rfl
            | false => exact absurd (.inl ⟨rfl, h⟩) hbad
          cases any with
          | false =>
            rw [show (if runN blkC text = 0 ∧ false = true then out ++ [{ kind := 13, pos := (a : Int) }] else out) = out from if_neg (by simp)]
            exact line out h1 h2 fun _ => ⟨c, hc, hl⟩
          | true =>
            rw [show (if runN blkC text = 0 ∧ true = true then out ++ [{ kind := 13, pos := (a : Int) }] else out) = out ++ [{ kind := 13, pos := (a : Int) }] from if_pos ⟨hn, rfl⟩]
            have e := chk_end (s := src) (a := a) (by omega) h2 (h4 rfl)
            have e2 := stOf_snoc out (endT a)
            refine line (out ++ [endT a]) (chkA_snoc h1 e) ?_ fun _ => ⟨c, hc, hl⟩
            rw [e2]
            simp [stp, endT]
        · rw [show (if runN blkC text = 0 ∧ any = true then out ++ [{ kind := 13, pos := (a : Int) }] else out) = out from if_neg (by omega)]
          cases any with
          | false => exact absurd (.inr ⟨hn, rfl⟩) hbad
          | true => exact line out h1 h2 fun h => (by rw [h4 rfl] at h; cases h)
    · rw [if_neg hlt]
      cases any with
      | false =>
        have := h5 rfl
        subst this
        exact ⟨fun _ => ⟨rfl, h1, .inl rfl⟩, fun h => absurd rfl h⟩
      | true =>
        have e := chk_end (s := src) (a := src.length) (Nat.le_refl _) h3 (h4 rfl)
        exact ⟨fun _ => ⟨rfl, chkA_snoc h1 e, .inr ⟨out, rfl⟩⟩, fun h => absurd rfl h⟩
theorem lexP_chk (src : List UInt8) (hs : src.length ≤ 65536) : goodX src (lexP src) := by
  unfold lexP
  rw [if_neg (by omega)]
  refine lexF_chk src (src.length + 1) 0 false [] (by omega) (fun i t h => by simp at h) ?_ ?_ (fun h => by cases h) (fun _ => rfl)
  · simp [stOf]
  · simp [stOf]
end Go.Proofs.Ytiobaboailhafaa
