/-
  The reference: a number of times.
-/
import Derived.Test.YtiobaboailhafaaR1
set_option linter.unusedVariables false
set_option linter.unusedSimpArgs false
namespace Go.Proofs.Ytiobaboailhafaa
open Go Go.Am

theorem hexC_10 : hexC 10 = digC := by
  funext c
  revert c
  apply forall_u8
  decide +kernel
theorem digV_le {base n : Nat} {s : List UInt8} (h : n ≤ 8) : digV base n s = numN base (s.take n) := by unfold digV; rw [if_neg (by omega)]
/-- The reference's answer, at a place. -/
def atA (a : Nat) (f : Fd) : AV := .tup [tokA f.tok, .int .i64 ((a + f.n : Nat) : Int), .int .i64 f.err]

theorem rtimes_ok (s : List UInt8) (a : Nat) (hs : s.length ≤ 1000000000) (ha : a ≤ s.length) (h : Heap) : M.call 54 [.str s, .int .i64 a] h = some (atA a (timesP (s.drop a)), h) := by
  refine call_of tab54 rfl (callF_wp ?_)
  have hl := runN_le digC (s.drop a)
  have hl2 := runN_le digC ((s.drop a).drop (runN digC (s.drop a) + 1))
  simp at hl hl2
  have hd1 := fun h => rdigits_ok s a 10 hs (by omega) (by omega) h
  have hd2 := fun h => rdigits_ok s (a + (runN digC (s.drop a) + 1)) 10 hs (by omega) (by omega) h
  rw [hexC_10] at hd1 hd2
  have e10 : ((10 : Nat) : Int) = 10 := rfl
  simp only [e10] at hd1 hd2
  rw [← List.drop_drop] at hd2
  have hst : (s.drop a)[runN digC (s.drop a)]? = s[a + runN digC (s.drop a)]? := by rw [List.getElem?_drop]
  unfold timesP atA
  simp only
  rw [hst]
  generalize he1 : s.drop a = s1 at *
  generalize hn : runN digC s1 = n at *
  generalize he2 : s1.drop (n + 1) = s2 at *
  generalize hm : runN digC s2 = m at *
  have hm2 : m ≤ s.length - (a + (n + 1)) := by
    have := runN_le digC s2
    rw [hm, ← he2, ← he1] at this
    simpa [List.drop_drop] using this
  have w1 : IntKind.wrap .i64 ((a : Int) + n) = ((a + n : Nat) : Int) := by rw [wrap64 (by omega) (by omega)]; simp
  have w2 : IntKind.wrap .i64 (((a + n : Nat) : Int) + 1) = ((a + (n + 1) : Nat) : Int) := by rw [wrap64 (by omega) (by omega)]; simp; omega
  have w3 : IntKind.wrap .i64 (((a + (n + 1) : Nat) : Int) + m) = ((a + (n + 1) + m : Nat) : Int) := by rw [wrap64 (by omega) (by omega)]; simp
  by_cases h4 : n > 4
  · have h4' : (4 : Int) < n := by omega
    simp [-getElem?_pos, -Int.natCast_add, wB54, hd1, h4, h4', tokA, tokL]
  · have h4' : ¬ (4 : Int) < n := by omega
    have v1 : digV 10 n s1 = numN 10 (s1.take n) := digV_le (by omega)
    rw [v1] at hd1
    generalize numN 10 (s1.take n) = x at *
    cases hstar : (s[a + n]? == some 42) with
    | false =>
      rcases Nat.lt_or_ge (a + n) s.length with hlt | hge
      · obtain ⟨c, ec⟩ : ∃ c, s[a + n]? = some c := ⟨_, List.getElem?_eq_getElem hlt⟩
        have hne : ((c.toNat : Int) = 42) = False := by
          show ((c.toNat : Int) = ((42 : Nat) : Int)) = False
          rw [u8_eq c 42 (by omega)]
          apply eq_false
          intro e
          rw [ec, e] at hstar
          simp at hstar
        have hge' : ¬ (s.length : Int) ≤ ((a + n : Nat) : Int) := by omega
        have hge2 : ¬ s.length ≤ a + n := by omega
        simp [-getElem?_pos, -Int.natCast_add, wB54, hd1, h4, h4', w1, hge', hge2, hlt, ec, hne, tokA, tokL]
      · have hge' : (s.length : Int) ≤ ((a + n : Nat) : Int) := by omega
        simp [-getElem?_pos, -Int.natCast_add, wB54, hd1, h4, h4', w1, hge', hge, tokA, tokL]
    | true =>
      have hsa : s[a + n]? = some 42 := by simpa using hstar
      have hlt : a + n < s.length := (List.getElem?_eq_some_iff.1 hsa).1
      have hge' : ¬ (s.length : Int) ≤ ((a + n : Nat) : Int) := by omega
      have hge2 : ¬ s.length ≤ a + n := by omega
      simp only [if_true, Bool.not_true, Bool.false_eq_true, if_false, h4]
      by_cases h5 : m > 4
      · have h5' : (4 : Int) < m := by omega
        simp [-getElem?_pos, -Int.natCast_add, wB54, hd1, hd2, h4, h4', w1, w2, hge', hge2, hlt, hsa, h5, h5', tokA, tokL]
      · have h5' : ¬ (4 : Int) < m := by omega
        have v2 : digV 10 m s2 = numN 10 (s2.take m) := digV_le (by omega)
        rw [v2] at hd2
        generalize numN 10 (s2.take m) = y at *
        by_cases h0 : m > 0
        · have h0' : ¬ m = 0 := by omega
          rw [if_pos h0]
          by_cases hxy : y < x
          · have hxy' : (y : Int) < x := by omega
            simp [-getElem?_pos, -Int.natCast_add, wB54, hd1, hd2, h4, h4', w1, w2, w3, hge', hge2, hlt, hsa, h5, h5', h0, h0', hxy, hxy', tokA, tokL]
          · have hxy' : ¬ (y : Int) < x := by omega
            simp [-getElem?_pos, -Int.natCast_add, wB54, hd1, hd2, h4, h4', w1, w2, w3, hge', hge2, hlt, hsa, h5, h5', h0, h0', hxy, hxy', tokA, tokL, Nat.add_assoc]
        · have h0' : m = 0 := by omega
          subst h0'
          have w3 : IntKind.wrap .i64 ((a + (n + 1) : Nat) : Int) = ((a + (n + 1) : Nat) : Int) := wrap64 (by omega) (by omega)
          simp [-getElem?_pos, -Int.natCast_add, wB54, hd1, hd2, h4, h4', w1, w2, w3, hge', hge2, hlt, hsa, tokA, tokL, Nat.add_assoc]
end Go.Proofs.Ytiobaboailhafaa
