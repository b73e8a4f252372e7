/-
  reply, plainly: what is printed is read, and what is read is printed.
-/
import Derived.Test.YtjdpneceeinhhaaDoorP5
set_option linter.unusedVariables false
set_option linter.unusedSimpArgs false
namespace Go.Proofs.YtjdpneceeinhhaaDoor
open Go Go.Am

theorem cut_dig {n : Nat} {m : UInt8} {t : List UInt8} (h1 : 200 ≤ n) (h2 : n ≤ 599) (ht : saidP t = true) : cutP (dig3 n ++ m :: t) = (n, m, t, true) := by
  have hn := num3 (n := n) (by omega)
  have hk : 0 < kindN (n : Int) := by
    unfold kindN
    rw [if_neg (by omega)]
    simp
    omega
  show cutP (dg (n / 100) :: dg (n / 10 % 10) :: dg (n % 10) :: m :: t) = _
  unfold cutP
  simp only [hn, Option.getD_some, ht, hk, decide_true, Bool.and_self]
theorem digit_eq {a : UInt8} (h : digC a = true) : a = dg (a.toNat - 48) := by
  simp [digC] at h
  apply UInt8.toNat_inj.1
  rw [dg_nat (by omega)]
  omega
theorem cut_back {s : List UInt8} {n : Nat} {m : UInt8} {t : List UInt8} (h : cutP s = (n, m, t, true)) : s = dig3 n ++ m :: t ∧ 200 ≤ n ∧ n ≤ 599 ∧ saidP t = true := by
  unfold cutP at h
  split at h
  · rename_i a b c m' t'
    simp only [Prod.mk.injEq] at h
    obtain ⟨h1, rfl, rfl, h4⟩ := h
    cases hn : numP a b c with
    | none => rw [hn] at h4; cases h4
    | some k =>
      rw [hn] at h1 h4
      simp only [Option.getD_some] at h1
      subst h1
      simp only [Bool.and_eq_true, decide_eq_true_eq] at h4
      obtain ⟨hk, hs⟩ := h4
      have hk2 : 200 ≤ k ∧ k ≤ 599 := by
        unfold kindN at hk
        split at hk <;> omega
      refine ⟨?_, hk2.1, hk2.2, hs⟩
      unfold numP at hn
      split at hn
      · rename_i hd
        simp only [Bool.and_eq_true] at hd
        obtain ⟨⟨d1, d2⟩, d3⟩ := hd
        injection hn with hn
        have e1 := digit_eq d1
        have e2 := digit_eq d2
        have e3 := digit_eq d3
        simp [digC] at d1 d2 d3
        have k1 : k / 100 = a.toNat - 48 := by omega
        have k2 : k / 10 % 10 = b.toNat - 48 := by omega
        have k3 : k % 10 = c.toNat - 48 := by omega
        unfold dig3
        rw [k1, k2, k3, ← e1, ← e2, ← e3]
        rfl
      · cases hn
  · simp at h
/-- What is told of an error. -/
theorem go_err : ∀ (l : Txt) (i : Nat) (code : Int) (out : Txt), (goP l i code out).2.2 ≠ 0 → ((goP l i code out).2.2 = 180 ∨ (goP l i code out).2.2 = 181) ∧ (goP l i code out).2.1 = 0 ∧ (goP l i code out).1 = (0, [])
  | [], i, code, out => by simp [goP]
  | s :: l, i, code, out => by
    unfold goP
    split
    · simp
    · split
      · simp
      · split
        · exact go_err l _ _ _
        · simp
theorem go_ok : ∀ (l : Txt) (i : Nat) (code : Int) (out : Txt) (c : Int) (ls : Txt) (n : Int), i ≤ 100 → goP l i code out = ((c, ls), n, 0) →
    ∃ (ts : Txt) (cc : Nat), c = cc ∧ ts ≠ [] ∧ ls = out ++ ts ∧ n = ((i + ts.length : Nat) : Int) ∧ i + ts.length ≤ 100 ∧ ts.length ≤ l.length ∧ (0 < i → c = code) ∧
      (∀ (j : Nat) (t : List UInt8), ts[j]? = some t → ∃ s, l[j]? = some s ∧ cutP s = (cc, if j + 1 = ts.length then 32 else 45, t, true)) ∧ ∀ k, k < ts.length → goP (l.take k) i code out = ((0, []), 0, 181)
  | [], i, code, out, c, ls, n, hi, h => by simp [goP] at h
  | s :: l, i, code, out, c, ls, n, hi, h => by
    unfold goP at h
    generalize hcp : cutP s = cp at h
    obtain ⟨cc, m, t, ok⟩ := cp
    simp only at h
    by_cases hbad : ok = false ∨ (0 < i ∧ (cc : Int) ≠ code) ∨ i = 100
    · rw [if_pos hbad] at h; simp at h
    rw [if_neg hbad] at h
    have hbad' := hbad
    simp only [not_or, Bool.not_eq_false, not_and, Classical.not_not] at hbad
    obtain ⟨rfl, hcode, h100⟩ := hbad
    by_cases h32 : m = 32
    · rw [if_pos h32] at h
      subst h32
      simp only [Prod.mk.injEq, and_true] at h
      obtain ⟨⟨rfl, rfl⟩, rfl⟩ := h
      refine ⟨[t], cc, rfl, by simp, rfl, by simp, by simp; omega, by simp, hcode, ?_, ?_⟩
      · intro j u hu
        match j with
        | 0 => simp at hu; subst hu; exact ⟨s, rfl, hcp⟩
        | j + 1 => simp at hu
      · intro k hk
        simp at hk
        subst hk
        rfl
    · rw [if_neg h32] at h
      by_cases h45 : m = 45
      · rw [if_pos h45] at h
        subst h45
        obtain ⟨ts, cc', k1, k2, k3, k4, k5, k6, k7, k8, k9⟩ := go_ok l (i + 1) cc (out ++ [t]) c ls n (by omega) h
        have hc := k7 (by omega)
        have hcc : cc' = cc := by omega
        subst hcc
        have hpos : 0 < ts.length := List.length_pos_iff.2 k2
        refine ⟨t :: ts, cc', k1, by simp, by rw [k3]; simp, by rw [k4]; simp only [List.length_cons]; omega, by simp; omega, by simp; omega, fun hi0 => by rw [hc]; exact hcode hi0, ?_, ?_⟩
        · intro j u hu
          match j with
          | 0 =>
            simp at hu
            subst hu
            refine ⟨s, rfl, ?_⟩
            rw [hcp, if_neg (by simp; omega)]
          | j + 1 =>
            simp at hu
            obtain ⟨s', e1, e2⟩ := k8 j u hu
            exact ⟨s', by simpa using e1, by rw [e2]; simp⟩
        · intro k hk
          match k with
          | 0 => rfl
          | k + 1 =>
            simp at hk
            rw [List.take_succ_cons]
            unfold goP
            rw [hcp]
            simp only
            rw [if_neg hbad', if_neg (by decide)]
            simp only [if_true]
            exact k9 k hk
      · rw [if_neg h45] at h; simp at h
theorem again_plain {l : Txt} {c : Int} {ls : Txt} {n : Int} (h : parseP l = ((c, ls), n, 0)) : ∃ k : Nat, n = k ∧ 1 ≤ k ∧ k ≤ l.length ∧ k ≤ 100 ∧ ls.length = k ∧ rightP c ls = true ∧ prL c ls = l.take k ∧ ∀ j, j < k → parseP (l.take j) = ((0, []), 0, 181) := by
  obtain ⟨ts, cc, rfl, k2, k3, k4, k5, k6, k7, k8, k9⟩ := go_ok l 0 0 [] c ls n (by omega) h
  simp only [List.nil_append] at k3
  subst k3
  have hpos : 0 < ls.length := List.length_pos_iff.2 k2
  have hr : 200 ≤ cc ∧ cc ≤ 599 := by
    obtain ⟨t, et⟩ : ∃ t, ls[0]? = some t := ⟨_, List.getElem?_eq_getElem hpos⟩
    obtain ⟨s, _, e2⟩ := k8 0 t et
    obtain ⟨_, h1, h2, _⟩ := cut_back e2
    exact ⟨h1, h2⟩
  refine ⟨ls.length, by simpa using k4, hpos, k6, by omega, rfl, ?_, ?_, k9⟩
  · unfold rightP
    have hk : 0 < kindN (cc : Int) := by
      unfold kindN
      rw [if_neg (by omega)]
      simp
      omega
    simp only [hk, hpos, true_and, Bool.and_eq_true, decide_eq_true_eq]
    refine ⟨by omega, ?_⟩
    rw [List.all_eq_true]
    intro t ht
    obtain ⟨j, hj⟩ := List.getElem?_of_mem ht
    obtain ⟨s, _, e2⟩ := k8 j t hj
    exact (cut_back e2).2.2.2
  · apply List.ext_getElem?
    intro j
    rw [prL_get, List.getElem?_take]
    cases hj : ls[j]? with
    | none =>
      have : ls.length ≤ j := List.getElem?_eq_none_iff.1 hj
      rw [if_neg (by omega)]
      rfl
    | some t =>
      have hlt := (List.getElem?_eq_some_iff.1 hj).1
      obtain ⟨s, e1, e2⟩ := k8 j t hj
      rw [if_pos hlt, e1]
      obtain ⟨e3, _⟩ := cut_back e2
      simp only [Option.map_some, mkL, itoa3 (n := cc) (by omega) (by omega)]
      rw [e3]
theorem back_plain {c : Int} {l : Txt} (hr : rightP c l = true) (more : Txt) : parseP (prL c l ++ more) = ((c, l), (l.length : Int), 0) := by
  obtain ⟨⟨n, rfl, hn1, hn2⟩, hl1, hl2, hsaid⟩ := right_spec hr
  have key : ∀ (k i : Nat), l.length - i = k → i < l.length → goP ((prL n l).drop i ++ more) i (if i = 0 then 0 else (n : Int)) (l.take i) = (((n : Int), l), (l.length : Int), 0) := by
    intro k
    induction k with
    | zero => intro i h1 h2; omega
    | succ k ih =>
      intro i h1 h2
      obtain ⟨s, es⟩ : ∃ s, l[i]? = some s := ⟨_, List.getElem?_eq_getElem h2⟩
      have hpl : i < (prL n l).length := by rw [prL_len]; exact h2
      have hd : (prL n l).drop i = mkL n l.length i s :: (prL n l).drop (i + 1) := by
        have hg : (prL n l)[i]? = some (mkL n l.length i s) := by rw [prL_get, es]; rfl
        obtain ⟨_, he⟩ := List.getElem?_eq_some_iff.1 hg
        rw [← he]; exact List.drop_eq_getElem_cons hpl
      have hcut : cutP (mkL n l.length i s) = (n, if i + 1 = l.length then 32 else 45, s, true) := by
        unfold mkL
        rw [itoa3 (by omega) (by omega)]
        exact cut_dig hn1 hn2 (hsaid s (List.mem_of_getElem? es))
      have htk : l.take (i + 1) = l.take i ++ [s] := by rw [List.take_add_one, es]; rfl
      rw [hd, List.cons_append]
      unfold goP
      rw [hcut]
      simp only
      have hno : ¬ (true = false ∨ (0 < i ∧ (n : Int) ≠ if i = 0 then 0 else (n : Int)) ∨ i = 100) := by
        rintro (h | ⟨h, h'⟩ | h)
        · cases h
        · rw [if_neg (by omega)] at h'; exact h' rfl
        · omega
      rw [if_neg hno]
      by_cases hlast : i + 1 = l.length
      · rw [if_pos hlast, if_pos rfl]
        have : l.take (i + 1) = l := List.take_of_length_le (by omega)
        rw [← htk, this, hlast]
      · rw [if_neg hlast, if_neg (by decide), if_pos rfl]
        have := ih (i + 1) (by omega) (by omega)
        rw [if_neg (by omega), htk] at this
        exact this
  have := key l.length 0 (by omega) hl1
  unfold parseP
  simpa using this
end Go.Proofs.YtjdpneceeinhhaaDoor
