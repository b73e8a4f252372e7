/-
  lex: a line.
-/
import Derived.Test.YtmmapbhhkmchcaaDoorS5
set_option linter.unusedVariables false
set_option linter.unusedSimpArgs false
namespace Go.Proofs.YtmmapbhhkmchcaaDoor
open Go Go.Am

theorem dotsP_n (base : Nat) (s : List UInt8) : ∀ (f a : Nat) (t : List UInt8), a ≤ s.length → (dotsP base s f a t).n ≤ s.length ∧ ((dotsP base s f a t).err = 0 → a ≤ (dotsP base s f a t).n)
  | 0, a, t, h => by simp [dotsP]
  | f + 1, a, t, h => by
    unfold dotsP
    split
    · split
      · simp
      · rename_i x n ho
        have hn := oneC_len ho
        simp at hn
        split
        · have := dotsP_n base s f (a + 1 + n) (t ++ [UInt8.ofNat x]) (by omega)
          refine ⟨this.1, fun e => ?_⟩
          have := this.2 e
          omega
        · simp
    · simp [h]
def goodF (l : Nat) (f : Fd) : Prop := f.n ≤ l + 2 ∧ (f.err = 0 → 1 ≤ f.n)
theorem readL_good (c : UInt8) (s : List UInt8) (l : Nat) : ∀ (ps : List RowP), (∀ p ∈ ps, p.1 c = true → goodF l (p.2 s)) → goodF l (readL ps c s)
  | [], _ => by simp [readL, goodF]
  | p :: ps, h => by
    unfold readL
    split
    · rename_i hp; exact h p List.mem_cons_self hp
    · exact readL_good c s l ps fun q hq => h q (List.mem_cons_of_mem _ hq)
theorem good_name (c : UInt8) (s : List UInt8) (hc : letC c = true) : goodF s.length (nameP (c :: s)) := by
  have h1 := runN_le namC (c :: s)
  have h2 : 1 ≤ runN namC (c :: s) := by
    unfold runN
    simp [namC, hc]
  simp [nameP, goodF]
  simp at h1
  omega
theorem good_is (c : UInt8) (s : List UInt8) : goodF s.length (isP (c :: s)) := by
  unfold isP goodF; split <;> simp
theorem good_times (c : UInt8) (s : List UInt8) (h : (digC c || c == 42) = true) : goodF s.length (timesP (c :: s)) := by
  have hrun : ∀ (p : UInt8 → Bool) (l : List UInt8), runN p l ≤ l.length := runN_le
  have ha := hrun digC (c :: s)
  simp at ha
  have hb : runN digC ((c :: s).drop (runN digC (c :: s) + 1)) ≤ s.length - runN digC (c :: s) := by
    have := hrun digC ((c :: s).drop (runN digC (c :: s) + 1))
    simpa using this
  have h1 : digC c = true → 1 ≤ runN digC (c :: s) := fun hd => by unfold runN; simp [hd]
  have h0 : runN digC (c :: s) = 0 → digC c = false := fun e => by
    cases hd : digC c with
    | false => rfl
    | true => have := h1 hd; omega
  unfold timesP goodF
  simp only
  generalize hA : runN digC (c :: s) = A at *
  generalize hB : runN digC ((c :: s).drop (A + 1)) = B at *
  cases hs : ((c :: s)[A]? == some 42) with
  | false =>
    simp only [Bool.false_eq_true, if_false, Bool.not_false, if_true]
    split
    · simp
    · rw [if_neg (by omega)]
      refine ⟨by simp only; omega, fun _ => ?_⟩
      show 1 ≤ A
      rcases Nat.eq_zero_or_pos A with e | e
      · exfalso
        have hd := h0 e
        rw [hd] at h
        simp at h
        rw [e, h] at hs
        simp at hs
      · exact e
  | true =>
    have hs' : (c :: s)[A]? = some 42 := by simpa using hs
    have hlt : A < (c :: s).length := (List.getElem?_eq_some_iff.1 hs').1
    simp at hlt
    simp only [if_true, Bool.not_true, Bool.false_eq_true, if_false]
    by_cases h4 : A > 4
    · rw [if_pos h4]; simp
    rw [if_neg h4]
    by_cases h5 : B > 4
    · rw [if_pos h5]
      refine ⟨by simp only; omega, fun e => by simp at e⟩
    rw [if_neg h5]
    generalize (if B > 0 then (numN 10 (((c :: s).drop (A + 1)).take B) : Int) else -1) = mx
    by_cases h6 : mx ≥ 0 ∧ mx < (numN 10 ((c :: s).take A) : Int)
    · rw [if_pos h6]; simp
    · rw [if_neg h6]
      refine ⟨by simp only; omega, fun _ => by simp only; omega⟩
theorem good_chars (c : UInt8) (s : List UInt8) : goodF s.length (charsP (c :: s)) := by
  unfold charsP goodF
  simp only
  split
  · have := (List.takeWhile_prefix (l := (c :: s).tail) (· != 34)).length_le
    simp [cutB] at this ⊢
    omega
  · simp
theorem good_value (c : UInt8) (s : List UInt8) : goodF s.length (valueP (c :: s)) := by
  unfold valueP goodF
  split
  · simp
  · rename_i lo n ho
    have hn := oneC_len ho
    simp at hn
    split
    · split
      · split
        · simp
        · rename_i hi m ho2
          have hm := oneC_len ho2
          simp at hm
          split
          · simp; omega
          · simp
      · have := dotsP_n (baseL (c :: s).tail) (c :: s) ((c :: s).length + 1) (2 + n) [UInt8.ofNat lo] (by simp; omega)
        refine ⟨by have := this.1; simp at this ⊢; omega, fun e => ?_⟩
        have := this.2 e
        omega
    · simp
/-- How many bytes are read. -/
theorem readP_n (c : UInt8) (s : List UInt8) : goodF s.length (readP c (c :: s)) := by
  refine readL_good c (c :: s) s.length rowsP fun p hp hc => ?_
  simp only [rowsP, List.mem_cons, List.not_mem_nil, or_false] at hp
  rcases hp with rfl | rfl | rfl | rfl | rfl | rfl | rfl | rfl | rfl | rfl | rfl | rfl
  · exact good_name c s hc
  · exact good_is c s
  · simp [signP, goodF]
  · simp [signP, goodF]
  · simp [signP, goodF]
  · simp [signP, goodF]
  · simp [signP, goodF]
  · exact good_times c s hc
  · exact good_chars c s
  · exact good_value c s
  · simp [goodF]
  · simp [goodF]

/-- The tokens of a line, from a place on. -/
def lineP (s : List UInt8) (off : Nat) : Nat → Nat → List Tok → List Tok × Int × Int
  | 0, _, out => (out, 0, 0)
  | f + 1, i, out =>
    match s[i]? with
    | none => (out, 0, 0)
    | some c =>
      if c = 59 then (out, 0, 0)
      else if blkC c then lineP s off f (i + 1) out
      else
        let fd := readP c (s.drop i)
        if fd.err ≠ 0 then ([], ((off + i + fd.n : Nat) : Int), fd.err)
        else lineP s off f (i + fd.n) (out ++ [{ fd.tok with pos := ((off + i : Nat) : Int) }])

theorem rowsA_len (n : Nat) : (rowsA n).length = 12 := rfl
theorem HR_of {n : Nat} {h0 h : Heap} (k : HR n h0) (ht : h.take h0.length = h0) : HR n h := by
  intro j e he
  have := k j e he
  rw [← ht] at this
  rw [List.getElem?_take] at this
  split at this
  · exact this
  · cases this

def InvI (s : List UInt8) (off n0 : Nat) (i : Nat) (c : UInt8) (out : List Tok) (rr : Rt) (h0 : Heap) (k : Nat) (σ : Slots) (h : Heap) : Prop := ∃ j r, j < 12 ∧ k = 12 - j ∧ readL (rowsP.drop j) c (s.drop i) = readP c (s.drop i) ∧
  σ 0 = .str s ∧ σ 1 = .int .i64 off ∧ σ 2 = .list 2 (rowsA n0) rr ∧ σ 30 = .list 2 (rowsA n0) rr ∧ σ 31 = .int .i64 12 ∧ σ 32 = .int .i64 j ∧ σ 10 = .int .i64 i ∧ σ 9 = .list 7 (out.map tokA) r ∧ Ow h0.length h 7 67 r out.length ∧ h.take h0.length = h0

theorem line_inner (s : List UInt8) (hs : s.length ≤ 100000) (off : Nat) (hoff : off ≤ 100000) (n0 i : Nat) (c : UInt8) (hc : s[i]? = some c) (out : List Tok) (hout : out.length ≤ 1000000) (rr : Rt) (h0 : Heap) (hR : HR n0 h0) (Q : Ex → Slots → Heap → Prop)
    (hret : (readP c (s.drop i)).err ≠ 0 → ∀ σ h, σ 6 = .list 7 [] .full → σ 7 = .int .i64 ((off + i + (readP c (s.drop i)).n : Nat) : Int) → σ 8 = .int .i64 (readP c (s.drop i)).err → h.take h0.length = h0 → Q .ret σ h)
    (hexit : (readP c (s.drop i)).err = 0 → ∀ σ h r, σ 0 = .str s → σ 1 = .int .i64 off → σ 2 = .list 2 (rowsA n0) rr → σ 10 = .int .i64 ((i + (readP c (s.drop i)).n : Nat) : Int) → σ 9 = .list 7 ((out ++ [{ (readP c (s.drop i)).tok with pos := ((off + i : Nat) : Int) }]).map tokA) r →
      Ow h0.length h 7 67 r (out.length + 1) → h.take h0.length = h0 → Q (.exit 2) σ h) (n : Nat) (σ : Slots) (h : Heap) (hI : InvI s off n0 i c out rr h0 n σ h) : Wp M (.loop L31_0) Q σ h := by
  refine Wp.loop (InvI s off n0 i c out rr h0) ?_ hI
  clear hI
  rintro k σ h ⟨j, r, hj, rfl, hrd, s0, s1, s2, s30, s31, s32, s10, s9, ow, ht⟩
  have hlt : i < s.length := (List.getElem?_eq_some_iff.1 hc).1
  obtain ⟨row, erow⟩ : ∃ row, (rowsA n0)[j]? = some row := ⟨_, List.getElem?_eq_getElem (by rw [rowsA_len]; exact hj)⟩
  obtain ⟨p, ep⟩ : ∃ p, rowsP[j]? = some p := ⟨_, List.getElem?_eq_getElem (by exact hj)⟩
  have hle : h0.length ≤ h.length := by have := congrArg List.length ht; simp at this; omega
  have hrow : ∀ e : AE, RowOk (h ++ [e]) row p := fun e => rows_row (HR_of (h := h ++ [e]) hR (by rw [take_app hle, ht])) j row p erow ep
  have hrow2 : ∀ e e' : AE, RowOk (h ++ [e, e']) row p := fun e e' => rows_row (HR_of (h := h ++ [e, e']) hR (by rw [take_app hle, ht])) j row p erow ep
  have hdrop : s.drop i = c :: s.drop (i + 1) := by
    obtain ⟨_, he⟩ := List.getElem?_eq_some_iff.1 hc
    rw [← he]; exact List.drop_eq_getElem_cons hlt
  have hpd : rowsP.drop j = p :: rowsP.drop (j + 1) := by
    obtain ⟨hj', he⟩ := List.getElem?_eq_some_iff.1 ep
    rw [← he]; exact List.drop_eq_getElem_cons hj'
  obtain ⟨f, fc, g, gc, rfl, _, _⟩ := hrow .dead
  have hb : ∀ e, M.call f (.int .u8 c.toNat :: fc) (h ++ [e]) = some (.bool (p.1 c), h ++ [e]) := fun e => by
    obtain ⟨f', fc', g', gc', e1, e2, e3⟩ := hrow e
    simp only [rowA, AV.agg.injEq, List.cons.injEq, AV.fn.injEq, and_true] at e1
    obtain ⟨⟨rfl, rfl⟩, ⟨rfl, rfl⟩⟩ := e1
    exact e2 c
  have hg : ∀ e e', M.call g (.str (s.drop i) :: gc) (h ++ [e, e']) = some (fdA (p.2 (s.drop i)), h ++ [e, e']) := fun e e' => by
    obtain ⟨f', fc', g', gc', e1, e2, e3⟩ := hrow2 e e'
    simp only [rowA, AV.agg.injEq, List.cons.injEq, AV.fn.injEq, and_true] at e1
    obtain ⟨⟨rfl, rfl⟩, ⟨rfl, rfl⟩⟩ := e1
    exact e3 _ (by simp; omega) (by simp; omega)
  have hjI : (j : Int) < 12 := by omega
  have e64 : IntKind.wrap .i64 ((j : Int) + 1) = ((j + 1 : Nat) : Int) := by rw [wrap64 (by omega) (by omega)]; rfl
  cases hp : p.1 c with
  | false =>
    rw [hp] at hb
    have hj11 : j + 1 < 12 := by
      rcases Nat.lt_or_ge (j + 1) 12 with h | h
      · exact h
      · have : j = 11 := by omega
        subst this
        simp [rowsP] at ep
        subst ep
        simp at hp
    simp [-getElem?_pos, wL31_0, s0, s1, s2, s30, s31, s32, s10, s9, hjI, hj, erow, rowA, hc, hlt, hb, e64]
    refine ⟨12 - (j + 1), by omega, j + 1, r, hj11, rfl, ?_, by simp [s0], by simp [s1], by simp [s2], by simp [s30], by simp [s31], by simp, by simp [s10], by simp [s9], ow.app _, by rw [take_app hle, ht]⟩
    rw [← hrd, hpd]
    simp [readL, hp]
  | true =>
    rw [hp] at hb
    have hrp : p.2 (s.drop i) = readP c (s.drop i) := by
      rw [← hrd, hpd]
      simp [readL, hp]
    rw [hrp] at hg
    have hgn := readP_n c (s.drop (i + 1))
    rw [← hdrop] at hgn
    generalize readP c (s.drop i) = fd at *
    obtain ⟨hgn1, hgn2⟩ := hgn
    simp at hgn1
    have w1 : IntKind.wrap .i64 ((off : Int) + i) = (off : Int) + i := wrap64 (by omega) (by omega)
    have w2 : IntKind.wrap .i64 ((off : Int) + i + fd.n) = (off : Int) + i + fd.n := wrap64 (by omega) (by omega)
    have w3 : IntKind.wrap .i64 ((i : Int) + fd.n) = (i : Int) + fd.n := wrap64 (by omega) (by omega)
    have hi' : (i : Int) ≤ s.length := by omega
    have hi2 : i ≤ s.length := by omega
    obtain ⟨tok, n, err⟩ := fd
    simp only at w1 w2 w3 hgn1 hgn2 hret hexit
    by_cases he : err = 0
    · subst he
      have hexit' := hexit rfl
      clear hret hexit
      simp [-getElem?_pos, wL31_0, s0, s1, s2, s30, s31, s32, s10, s9, hjI, hj, erow, rowA, hc, hlt, hb, hg, hi2, e64, w1, w2, w3, fdA, tokL, Nat.add_assoc]
      obtain ⟨r', g', p1, p2, p3⟩ := app_list (n0 := h0.length) (key := h.length + 2) (sz := 7) (bytes := 56) (e := 67) (h := h ++ [AE.cells [AV.fn f fc, AV.fn g gc], AE.cells [AV.int IntKind.u8 tok.kind.toNat, AV.int IntKind.i64 ((off : Int) + i), AV.str tok.text, AV.int IntKind.i64 tok.mn, AV.int IntKind.i64 tok.mx, AV.int IntKind.u8 tok.lo.toNat, AV.int IntKind.u8 tok.hi.toNat, AV.int IntKind.i64 n, AV.int IntKind.i64 0], AE.dead])
        (xs := out.map tokA) (ys := [AV.agg [AV.int IntKind.u8 tok.kind.toNat, AV.int IntKind.i64 ((off : Int) + i), AV.str tok.text, AV.int IntKind.i64 tok.mn, AV.int IntKind.i64 tok.mx, AV.int IntKind.u8 tok.lo.toNat, AV.int IntKind.u8 tok.hi.toNat]]) (r := r) (r2 := .full)
        (by simpa using ow.app _) (by omega) (by simp) (by simp; omega) (by simp; omega)
      have q1 : g'[h.length + 1]? = some (AE.cells [AV.int IntKind.u8 tok.kind.toNat, AV.int IntKind.i64 ((off : Int) + i), AV.str tok.text, AV.int IntKind.i64 tok.mn, AV.int IntKind.i64 tok.mx, AV.int IntKind.u8 tok.lo.toNat, AV.int IntKind.u8 tok.hi.toNat, AV.int IntKind.i64 n, AV.int IntKind.i64 0]) :=
        p3.keep (ow.app _) (by simp) (by simp) (by omega)
      rw [p1]
      simp [q1, s10, w3, Nat.add_assoc]
      refine hexit' _ _ r' (by simp [s0]) (by simp [s1]) (by simp [s2]) (by simp) (by simp [tokA, tokL]) (by simpa using p2) ?_
      rw [p3.takeLe (Nat.le_refl _), take_app hle, ht]
    · have hret' := hret he
      clear hret hexit
      simp [-getElem?_pos, wL31_0, s0, s1, s2, s30, s31, s32, s10, s9, hjI, hj, erow, rowA, hc, hlt, hb, hg, hi2, e64, he, w1, w2, w3, fdA, tokL, Nat.add_assoc]
      refine hret' _ _ (by simp) (by simp) (by simp) ?_
      rw [take_app hle, ht]
end Go.Proofs.YtmmapbhhkmchcaaDoor
