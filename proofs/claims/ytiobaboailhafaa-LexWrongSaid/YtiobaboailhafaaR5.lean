/-
  The reference: the token at a place.
-/
import Derived.Test.YtiobaboailhafaaR4
set_option linter.unusedVariables false
set_option linter.unusedSimpArgs false
namespace Go.Proofs.Ytiobaboailhafaa
open Go Go.Am

theorem no_sign (c : UInt8) : (digC c || c == 42) = true → letC c = false ∧ (c == 61) = false ∧ (c == 47) = false ∧ (c == 40) = false ∧ (c == 41) = false ∧ (c == 91) = false ∧ (c == 93) = false := by
  revert c
  apply forall_u8
  decide +kernel

theorem dotsP_err (base : Nat) (s : List UInt8) : ∀ (f a : Nat) (t : List UInt8), (dotsP base s f a t).err ≠ 0 → dotsP base s f a t = { err := 15 }
  | 0, a, t, h => rfl
  | f + 1, a, t, h => by
    unfold dotsP at h ⊢
    by_cases h46 : s[a]? = some 46
    · rw [if_pos h46] at h ⊢
      cases ho : oneC base (s.drop (a + 1)) with
      | none => rfl
      | some q =>
        obtain ⟨x, n⟩ := q
        rw [ho] at h
        simp only at h ⊢
        by_cases hx : x ≤ 255
        · rw [if_pos hx] at h ⊢
          exact dotsP_err base s f _ _ h
        · rw [if_neg hx]
    · rw [if_neg h46] at h
      exact absurd rfl h
theorem value_err (s : List UInt8) (h : (valueP s).err ≠ 0) : valueP s = { err := 15 } := by
  unfold valueP at h ⊢
  cases ho : oneC (baseL s.tail) (s.drop 2) with
  | none => rfl
  | some q =>
    obtain ⟨lo, n⟩ := q
    rw [ho] at h
    simp only at h ⊢
    by_cases hl : lo ≤ 255
    · rw [if_pos hl] at h ⊢
      by_cases h45 : s[2 + n]? = some 45
      · rw [if_pos h45] at h ⊢
        cases ho2 : oneC (baseL s.tail) (s.drop (2 + n + 1)) with
        | none => rfl
        | some q =>
          obtain ⟨hi, m⟩ := q
          rw [ho2] at h
          simp only at h ⊢
          by_cases hc : hi ≤ 255 ∧ lo ≤ hi
          · rw [if_pos hc] at h
            exact absurd rfl h
          · rw [if_neg hc]
      · rw [if_neg h45] at h ⊢
        exact dotsP_err _ _ _ _ _ h
    · rw [if_neg hl]

def InvM (s : List UInt8) (a : Nat) (h0 : Heap) (k : Nat) (σ : Slots) (h : Heap) : Prop := ∃ i, i ≤ runN namC (s.drop a) ∧ k = runN namC (s.drop a) - i ∧ σ 0 = .str s ∧ σ 1 = .int .i64 a ∧ σ 4 = .ptr h0.length 0 ∧ σ 7 = .int .i64 ((a + i : Nat) : Int) ∧ h = h0 ++ [.cells z7]

theorem rnext_ok (s : List UInt8) (hs : s.length ≤ 1000000000) (a : Nat) (c : UInt8) (hc : s[a]? = some c) (h0 : Heap) : M.call 30 [.str s, .int .i64 a] h0 = some (atA a (readP c (s.drop a)), h0) := by
  refine call_of tab30 rfl (callF_wp ?_)
  have ha : a < s.length := (List.getElem?_eq_some_iff.1 hc).1
  have hdrop : s.drop a = c :: s.drop (a + 1) := by
    obtain ⟨_, he⟩ := List.getElem?_eq_some_iff.1 hc
    rw [← he]; exact List.drop_eq_getElem_cons ha
  have w1 : IntKind.wrap .i64 ((a : Int) + 1) = ((a + 1 : Nat) : Int) := by rw [wrap64 (by omega) (by omega)]; rfl
  have w2 : IntKind.wrap .i64 ((a : Int) + 2) = ((a + 2 : Nat) : Int) := by rw [wrap64 (by omega) (by omega)]; rfl
  cases hl : letC c with
  | true =>
    have hrd : readP c (s.drop a) = nameP (s.drop a) := by simp [readP, readL, rowsP, hl]
    rw [hrd]
    unfold nameP
    generalize hQ : (fun (e : Ex) σ h => isEnd e ∧ ∃ vs, resVals σ h [ARes.cell 4 (some 7), ARes.tmp 5, ARes.tmp 6] = some vs ∧ finish h0 h (oneOf vs) = some (atA a { tok := { kind := 1, text := (s.drop a).take (runN namC (s.drop a)) }, n := runN namC (s.drop a) }, h0)) = Q
    simp [-getElem?_pos, -Int.natCast_add, wB30, ha, hc, rletter_ok, hl]
    refine Wp.loop (InvM s a h0) ?_ (n := runN namC (s.drop a)) ⟨0, by omega, by omega, by simp, by simp, by simp, by simp, by simp [z7, tokL]⟩
    rintro k σ h ⟨i, hi, rfl, s0, s1, s4, s7, rfl⟩
    have hle := runN_le namC (s.drop a)
    simp at hle
    have hfin : ∀ (σ : Slots), σ 0 = .str s → σ 1 = .int .i64 a → σ 4 = .ptr h0.length 0 → σ 7 = .int .i64 ((a + runN namC (s.drop a) : Nat) : Int) → Wp M K30_0 (thenQ (Wp M K30_1 Q) Q) σ (h0 ++ [.cells z7]) := by
      intro σ s0 s1 s4 s7
      generalize runN namC (s.drop a) = n at *
      have z1 : (a : Int) ≤ ((a + n : Nat) : Int) := by omega
      have z2 : a + n ≤ s.length := by omega
      have z3 : (s.take (a + n)).drop a = (s.drop a).take n := by rw [List.drop_take]; congr 1; omega
      have z4 : a ≤ a + n := by omega
      simp [-getElem?_pos, -Int.natCast_add, wK30_0, s0, s1, s4, s7, z1, z2, z3, z4, z7, tokL]
      subst hQ
      simp [-Int.natCast_add, s4, atA, tokA, tokL]
    by_cases hlt : a + i < s.length
    · obtain ⟨d, ed⟩ : ∃ d, s[a + i]? = some d := ⟨_, List.getElem?_eq_getElem hlt⟩
      have ed' : (s.drop a)[i]? = some d := by rw [List.getElem?_drop]; exact ed
      have e64 : IntKind.wrap .i64 (((a + i : Nat) : Int) + 1) = ((a + (i + 1) : Nat) : Int) := by rw [wrap64 (by omega) (by omega)]; rfl
      have e45 : ((d.toNat : Int) = 45) = (d = 45) := u8_eq d 45 (by omega)
      by_cases hr : i < runN namC (s.drop a)
      · have hn := runN_get hr ed'
        have nx : ∃ m, m < runN namC (s.drop a) - i ∧ runN namC (s.drop a) - (i + 1) = m := ⟨_, by omega, rfl⟩
        simp only [namC, Bool.or_eq_true] at hn
        cases h1 : letC d with
        | true =>
          simp [-getElem?_pos, -Int.natCast_add, wL30_0, s0, s1, s4, s7, hlt, ed, rletter_ok, h1, e64]
          exact ⟨runN namC (s.drop a) - (i + 1), by omega, i + 1, by omega, rfl, by simp [s0], by simp [s1], by simp [s4], by simp, rfl⟩
        | false =>
          cases h2 : digC d with
          | true =>
            simp [-getElem?_pos, -Int.natCast_add, wL30_0, s0, s1, s4, s7, hlt, ed, rletter_ok, rdigit_ok, h1, h2, e64]
            exact ⟨runN namC (s.drop a) - (i + 1), by omega, i + 1, by omega, rfl, by simp [s0], by simp [s1], by simp [s4], by simp, rfl⟩
          | false =>
            have h3 : d = 45 := by rw [h1, h2] at hn; simpa using hn
            have e45' : ((d.toNat : Int) = 45) = True := by rw [e45]; exact eq_true h3
            simp [-getElem?_pos, -Int.natCast_add, wL30_0, s0, s1, s4, s7, hlt, ed, rletter_ok, rdigit_ok, h1, h2, e45', e64]
            exact ⟨runN namC (s.drop a) - (i + 1), by omega, i + 1, by omega, rfl, by simp [s0], by simp [s1], by simp [s4], by simp, rfl⟩
      · have hir : i = runN namC (s.drop a) := by omega
        subst hir
        have hn := runN_end ed'
        simp only [namC, Bool.or_eq_false_iff] at hn
        obtain ⟨⟨h1, h2⟩, h3⟩ := hn
        have e45' : ((d.toNat : Int) = 45) = False := by rw [e45]; exact eq_false (by simpa using h3)
        simp [-getElem?_pos, -Int.natCast_add, wL30_0, s0, s1, s4, s7, hlt, ed, rletter_ok, rdigit_ok, h1, h2, e45']
        exact hfin _ (by simp [s0]) (by simp [s1]) (by simp [s4]) (by simp [s7])
    · have hir : i = runN namC (s.drop a) := by omega
      subst hir
      simp [-getElem?_pos, -Int.natCast_add, wL30_0, s0, s1, s4, s7, hlt]
      exact hfin _ (by simp [s0]) (by simp [s1]) (by simp [s4]) (by simp [s7])
  | false =>
    have gs : ∀ e, ((h0 ++ [AE.cells z7]).set h0.length e)[h0.length]? = some e := fun e => get_set_eq (by simp)
    have ft : ∀ e, ((h0 ++ [AE.cells z7]).set h0.length e).take h0.length = h0 := fun e => by rw [take_set (by omega)]; simp
    simp only [z7, tokL] at gs ft
    cases hd : digC c || c == 42 with
    | true =>
      obtain ⟨-, g1, g2, g3, g4, g5, g6⟩ := no_sign c hd
      have hrd : readP c (s.drop a) = timesP (s.drop a) := by simp only [readP, readL, rowsP, hl, hd, g1, g2, g3, g4, g5, g6]; rfl
      rw [hrd]
      have ht := fun h => rtimes_ok s a hs (by omega) h
      generalize timesP (s.drop a) = fd at *
      obtain ⟨tok, n, err⟩ := fd
      simp only [atA, tokA, tokL] at ht
      cases h2 : digC c with
      | true =>
        simp [-getElem?_pos, -Int.natCast_add, wB30, wK30_1, ha, hc, rletter_ok, rdigit_ok, hl, h2, ht, atA, tokA, tokL]
      | false =>
        rw [h2] at hd
        have h42 : c = 42 := by simpa using hd
        have e42 : ((c.toNat : Int) = 42) = True := by
          rw [h42]; simp
        simp [-getElem?_pos, -Int.natCast_add, wB30, wK30_1, ha, hc, rletter_ok, rdigit_ok, hl, h2, e42, ht, atA, tokA, tokL]
    | false =>
      have h2 : digC c = false := by cases h : digC c <;> simp [h] at hd ⊢
      have h42 : ¬ c = 42 := by rw [h2] at hd; simpa using hd
      have hL : ∀ h, M.call 28 [.int .u8 c.toNat] h = some (.bool false, h) := fun h => by rw [rletter_ok, hl]
      have hD : ∀ h, M.call 53 [.int .u8 c.toNat] h = some (.bool false, h) := fun h => by rw [rdigit_ok, h2]
      have f0 : ((c.toNat : Int) = 42) = (c = 42) := u8_eq c 42 (by omega)
      have f1 : ((c.toNat : Int) = 61) = (c = 61) := u8_eq c 61 (by omega)
      have f2 : ((c.toNat : Int) = 47) = (c = 47) := u8_eq c 47 (by omega)
      have f3 : ((c.toNat : Int) = 40) = (c = 40) := u8_eq c 40 (by omega)
      have f4 : ((c.toNat : Int) = 41) = (c = 41) := u8_eq c 41 (by omega)
      have f5 : ((c.toNat : Int) = 91) = (c = 91) := u8_eq c 91 (by omega)
      have f6 : ((c.toNat : Int) = 93) = (c = 93) := u8_eq c 93 (by omega)
      have f7 : ((c.toNat : Int) = 60) = (c = 60) := u8_eq c 60 (by omega)
      have f8 : ((c.toNat : Int) = 34) = (c = 34) := u8_eq c 34 (by omega)
      have f9 : ((c.toNat : Int) = 37) = (c = 37) := u8_eq c 37 (by omega)
      by_cases q1 : c = 61
      · subst q1
        simp at hL hD
        have hrd : readP 61 (s.drop a) = isP (s.drop a) := by simp [readP, readL, rowsP, hl]
        rw [hrd]
        unfold isP
        cases hs2 : s[a + 1]? with
        | none =>
          have hge : ¬ a + 1 < s.length := fun h => by rw [List.getElem?_eq_getElem h] at hs2; cases hs2
          have ht : (s.drop a).take 2 = [61] := by rw [hdrop, List.drop_of_length_le (by omega)]; rfl
          rw [ht]
          simp [-getElem?_pos, -Int.natCast_add, wB30, wK30_1, ha, hc, hL, hD, w1, hge, atA, tokA, tokL]
        | some d =>
          have hlt : a + 1 < s.length := (List.getElem?_eq_some_iff.1 hs2).1
          have ht : (s.drop a).take 2 = [61, d] := by
            obtain ⟨_, he⟩ := List.getElem?_eq_some_iff.1 hs2
            rw [hdrop, List.drop_eq_getElem_cons hlt, he]; rfl
          rw [ht]
          have fd : ((d.toNat : Int) = 47) = (d = 47) := u8_eq d 47 (by omega)
          by_cases hd47 : d = 47
          · subst hd47
            simp [-getElem?_pos, -Int.natCast_add, wB30, wK30_1, ha, hc, hL, hD, w1, w2, hlt, hs2, atA, tokA, tokL]
          · simp [-getElem?_pos, -Int.natCast_add, wB30, wK30_1, ha, hc, hL, hD, w1, hlt, hs2, fd, hd47, atA, tokA, tokL]
      by_cases q2 : c = 47
      · subst q2
        simp at hL hD
        have hrd : readP 47 (s.drop a) = signP 4 := by simp [readP, readL, rowsP, hl]
        rw [hrd]
        simp [-getElem?_pos, -Int.natCast_add, wB30, wK30_1, ha, hc, hL, hD, w1, signP, atA, tokA, tokL]
      by_cases q3 : c = 40
      · subst q3
        simp at hL hD
        have hrd : readP 40 (s.drop a) = signP 5 := by simp [readP, readL, rowsP, hl]
        rw [hrd]
        simp [-getElem?_pos, -Int.natCast_add, wB30, wK30_1, ha, hc, hL, hD, w1, signP, atA, tokA, tokL]
      by_cases q4 : c = 41
      · subst q4
        simp at hL hD
        have hrd : readP 41 (s.drop a) = signP 6 := by simp [readP, readL, rowsP, hl]
        rw [hrd]
        simp [-getElem?_pos, -Int.natCast_add, wB30, wK30_1, ha, hc, hL, hD, w1, signP, atA, tokA, tokL]
      by_cases q5 : c = 91
      · subst q5
        simp at hL hD
        have hrd : readP 91 (s.drop a) = signP 7 := by simp [readP, readL, rowsP, hl]
        rw [hrd]
        simp [-getElem?_pos, -Int.natCast_add, wB30, wK30_1, ha, hc, hL, hD, w1, signP, atA, tokA, tokL]
      by_cases q6 : c = 93
      · subst q6
        simp at hL hD
        have hrd : readP 93 (s.drop a) = signP 8 := by simp [readP, readL, rowsP, hl]
        rw [hrd]
        simp [-getElem?_pos, -Int.natCast_add, wB30, wK30_1, ha, hc, hL, hD, w1, signP, atA, tokA, tokL]
      by_cases q7 : c = 60
      · subst q7
        simp at hL hD
        have hrd : readP 60 (s.drop a) = { err := 16 } := by simp [readP, readL, rowsP, hl, digC]
        rw [hrd]
        simp [-getElem?_pos, -Int.natCast_add, wB30, wK30_1, ha, hc, hL, hD, atA, tokA, tokL]
      by_cases q8 : c = 34
      · subst q8
        simp at hL hD
        have hrd : readP 34 (s.drop a) = charsP (s.drop a) := by simp [readP, readL, rowsP, hl, digC]
        rw [hrd]
        unfold charsP
        have hq := fun h => rquoted_ok s a hs ha h
        have et : (s.drop a).tail = s.drop (a + 1) := by rw [List.tail_drop]
        rw [et]
        by_cases hin : 34 ∈ s.drop (a + 1) ∧ (cutB (s.drop (a + 1)) 34).all okC = true
        · rw [if_pos hin]
          simp only [if_pos hin] at hq
          have hcl := cutB_len (s.drop (a + 1)) 34
          simp at hcl
          generalize cutB (s.drop (a + 1)) 34 = t at *
          have w3 : IntKind.wrap .i64 ((a : Int) + t.length) = ((a + t.length : Nat) : Int) := by rw [wrap64 (by omega) (by omega)]; simp
          have w4 : IntKind.wrap .i64 (((a + t.length : Nat) : Int) + 2) = ((a + t.length + 2 : Nat) : Int) := by rw [wrap64 (by omega) (by omega)]; rfl
          simp [-getElem?_pos, -Int.natCast_add, wB30, wK30_1, ha, hc, hL, hD, hq, w3, w4, atA, tokA, tokL, Nat.add_assoc]
        · rw [if_neg hin]
          simp only [if_neg hin] at hq
          simp [-getElem?_pos, -Int.natCast_add, wB30, wK30_1, ha, hc, hL, hD, hq, atA, tokA, tokL]
      by_cases q9 : c = 37
      · subst q9
        simp at hL hD
        have hrd : readP 37 (s.drop a) = valueP (s.drop a) := by simp [readP, readL, rowsP, hl, digC]
        rw [hrd]
        have hv := fun h => rvalue_ok s hs a ha h
        have herr : (valueP (s.drop a)).err ≠ 0 → valueP (s.drop a) = { err := 15 } := value_err _
        generalize valueP (s.drop a) = fd at *
        obtain ⟨tok, n, err⟩ := fd
        by_cases he : err = 0
        · subst he
          simp only [rvA, if_true, tokA, tokL] at hv
          simp [-getElem?_pos, -Int.natCast_add, wB30, wK30_1, ha, hc, hL, hD, w1, hv, atA, tokA, tokL]
        · rw [herr he] at hv ⊢
          simp only [rvA, tokA, tokL] at hv
          simp [-Int.natCast_add] at hv
          simp [-getElem?_pos, -Int.natCast_add, wB30, wK30_1, ha, hc, hL, hD, w1, hv, atA, tokA, tokL]
      have hrd : readP c (s.drop a) = { err := 11 } := by simp [readP, readL, rowsP, hl, h2, h42, q1, q2, q3, q4, q5, q6, q7, q8, q9]
      rw [hrd]
      simp [-getElem?_pos, -Int.natCast_add, wB30, wK30_1, ha, hc, hL, hD, f0, f1, f2, f3, f4, f5, f6, f7, f8, f9, h42, q1, q2, q3, q4, q5, q6, q7, q8, q9, atA, tokA, tokL]
end Go.Proofs.Ytiobaboailhafaa
