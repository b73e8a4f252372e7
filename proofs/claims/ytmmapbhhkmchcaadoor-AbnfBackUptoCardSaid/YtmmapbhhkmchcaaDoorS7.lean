/-
  lex: a line, whole.
-/
import Derived.Test.YtmmapbhhkmchcaaDoorS6
set_option linter.unusedVariables false
set_option linter.unusedSimpArgs false
namespace Go.Proofs.YtmmapbhhkmchcaaDoor
open Go Go.Am

theorem tokA_low (n : Nat) (t : Tok) : (tokA t).low n := by simp [tokA, tokL]
theorem toks_low (n : Nat) (l : List Tok) : AV.lows n (l.map tokA) := lows_map _ _ fun t _ => tokA_low n t
/-- An answer of tokens, a place and an error. -/
def lexR (res : List Tok × Int × Int) (h0 : Heap) (x : AV × Heap) : Prop := ∃ r, x = (.tup [.list 7 (res.1.map tokA) r, .int .i64 res.2.1, .int .i64 res.2.2], h0)
def InvO (s : List UInt8) (off n0 : Nat) (rr : Rt) (res : List Tok × Int × Int) (h0 : Heap) (k : Nat) (σ : Slots) (h : Heap) : Prop := ∃ i f out r, i ≤ s.length + 1 ∧ k = s.length + 1 - i ∧ s.length + 1 - i < f ∧ out.length ≤ i ∧ lineP s off f i out = res ∧
  σ 0 = .str s ∧ σ 1 = .int .i64 off ∧ σ 2 = .list 2 (rowsA n0) rr ∧ σ 10 = .int .i64 i ∧ σ 9 = .list 7 (out.map tokA) r ∧ Ow h0.length h 7 67 r out.length ∧ h.take h0.length = h0

theorem line_ok (s : List UInt8) (hs : s.length ≤ 100000) (off : Nat) (hoff : off ≤ 100000) (n0 : Nat) (rr : Rt) (h0 : Heap) (hR : HR n0 h0) :
    ∃ x, M.call 31 [.str s, .int .i64 off, .list 2 (rowsA n0) rr] h0 = some x ∧ lexR (lineP s off (s.length + 2) 0 []) h0 x := by
  refine call_post tab31 rfl ?_
  generalize hres : lineP s off (s.length + 2) 0 [] = res
  generalize hQ : (fun e σ h => isEnd e ∧ ∃ vs, resVals σ h [ARes.tmp 6, ARes.tmp 7, ARes.tmp 8] = some vs ∧ ∃ r, finish h0 h (oneOf vs) = some r ∧ lexR res h0 r) = Q
  simp [wB31]
  refine Wp.loop (InvO s off n0 rr res h0) ?_ (n := s.length + 1) ⟨0, s.length + 2, [], .full, by omega, by omega, by omega, by simp, hres, by simp, by simp, by simp, by simp, by simp, .full, by simp⟩
  rintro k σ h ⟨i, f, out, r, hi, rfl, hf, hout, hd, s0, s1, s2, s10, s9, ow, ht⟩
  have fin : ∀ (σ : Slots) (h : Heap) (xs : List Tok) (r : Rt) (a b : Int), σ 6 = .list 7 (xs.map tokA) r → σ 7 = .int .i64 a → σ 8 = .int .i64 b → h.take h0.length = h0 → res = (xs, a, b) → Q .ret σ h := by
    intro σ h xs r a b s6 s7 s8 ht e
    subst hQ
    have k := toks_low h0.length xs
    subst e
    simp [s6, s7, s8, finish_of_take ht, lexR]
    rcases r with _ | _ | t <;> simp [k]
  obtain ⟨f, rfl⟩ : ∃ g, f = g + 1 := ⟨f - 1, by omega⟩
  unfold lineP at hd
  cases hc : s[i]? with
  | none =>
    have hlt : ¬ i < s.length := fun h => by rw [List.getElem?_eq_getElem h] at hc; cases hc
    rw [hc] at hd
    simp only at hd
    simp [-getElem?_pos, wL31_1, wK31_0, s0, s1, s2, s10, s9, hlt]
    exact fin _ _ out r 0 0 (by simp) (by simp) (by simp) ht hd.symm
  | some c =>
    have hlt : i < s.length := (List.getElem?_eq_some_iff.1 hc).1
    rw [hc] at hd
    simp only at hd
    have e59 : ((c.toNat : Int) = 59) = (c = 59) := u8_eq c 59 (by omega)
    by_cases h59 : c = 59
    · rw [if_pos h59] at hd
      subst h59
      simp [-getElem?_pos, wL31_1, wK31_0, s0, s1, s2, s10, s9, hlt, hc]
      exact fin _ _ out r 0 0 (by simp) (by simp) (by simp) ht hd.symm
    · rw [if_neg h59] at hd
      have e59' := eq_false h59
      rw [← e59] at e59'
      have e64 : IntKind.wrap .i64 ((i : Int) + 1) = ((i + 1 : Nat) : Int) := by rw [wrap64 (by omega) (by omega)]; rfl
      cases hb : blkC c with
      | true =>
        rw [hb] at hd
        simp only [if_true] at hd
        simp [-getElem?_pos, wL31_1, s0, s1, s2, s10, s9, hlt, hc, e59', blank_ok, hb, e64]
        refine ⟨s.length + 1 - (i + 1), by omega, i + 1, f, out, r, by omega, rfl, by omega, by omega, hd, by simp [s0], by simp [s1], by simp [s2], by simp, by simp [s9], ow, ht⟩
      | false =>
        rw [hb] at hd
        simp only [Bool.false_eq_true, if_false] at hd
        have hg := readP_n c (s.drop (i + 1))
        have hdrop : s.drop i = c :: s.drop (i + 1) := by
          obtain ⟨_, he⟩ := List.getElem?_eq_some_iff.1 hc
          rw [← he]; exact List.drop_eq_getElem_cons hlt
        rw [← hdrop] at hg
        obtain ⟨hg1, hg2⟩ := hg
        simp at hg1
        simp [-getElem?_pos, wL31_1, s0, s1, s2, s10, s9, hlt, hc, e59', blank_ok, hb, e64, rowsA_len]
        refine line_inner s hs off hoff n0 i c hc out (by omega) rr h0 hR _ ?_ ?_ 12 _ _ ⟨0, r, by omega, by omega, rfl, by simp [s0], by simp [s1], by simp [s2], by simp, by simp, by simp, by simp [s10], by simp [s9], ow, ht⟩
        · intro he σ h t6 t7 t8 ht
          rw [if_pos he] at hd
          simp
          exact fin σ h [] .full _ _ (by simpa using t6) t7 t8 ht hd.symm
        · intro he σ h r' t0 t1 t2 t10 t9 ow' ht
          rw [if_neg (fun h => h he)] at hd
          have h1 := hg2 he
          simp
          refine ⟨s.length + 1 - (i + (readP c (s.drop i)).n), by omega, i + (readP c (s.drop i)).n, f, _, r', by omega, rfl, by omega, by simp; omega, hd, t0, t1, t2, t10, t9, by simpa using ow', ht⟩
end Go.Proofs.YtmmapbhhkmchcaaDoor
