/-
  reply, plainly: a line that is wrong.
-/
import Derived.Test.YtjdpneceeinhhaaDoorP8
set_option linter.unusedVariables false
set_option linter.unusedSimpArgs false
namespace Go.Proofs.YtjdpneceeinhhaaDoor
open Go Go.Am

theorem go_ahead {n : Nat} {l : Txt} (hn1 : 200 ≤ n) (hn2 : n ≤ 599) (hl2 : l.length ≤ 100) (hsaid : ∀ s ∈ l, saidP s = true) (rest : Txt) : ∀ k, k < l.length → goP ((prL n l).take k ++ rest) 0 0 [] = goP rest k (if k = 0 then 0 else (n : Int)) (l.take k) := by
  have key : ∀ (d i k : Nat), k - i = d → i ≤ k → k < l.length → goP (((prL n l).take k).drop i ++ rest) i (if i = 0 then 0 else (n : Int)) (l.take i) = goP rest k (if k = 0 then 0 else (n : Int)) (l.take k) := by
    intro d
    induction d with
    | zero =>
      intro i k h1 h2 h3
      have : i = k := by omega
      subst this
      rw [List.drop_eq_nil_of_le (by simp; omega)]
      rfl
    | succ d ih =>
      intro i k h1 h2 h3
      obtain ⟨s, es⟩ : ∃ s, l[i]? = some s := ⟨_, List.getElem?_eq_getElem (by omega)⟩
      have hg : ((prL n l).take k)[i]? = some (mkL n l.length i s) := by rw [List.getElem?_take, if_pos (by omega), prL_get, es]; rfl
      have hd : ((prL n l).take k).drop i = mkL n l.length i s :: ((prL n l).take k).drop (i + 1) := by
        obtain ⟨hlt, he⟩ := List.getElem?_eq_some_iff.1 hg
        rw [← he]; exact List.drop_eq_getElem_cons hlt
      have hcut : cutP (mkL n l.length i s) = (n, 45, s, true) := by
        unfold mkL
        rw [itoa3 (by omega) (by omega), if_neg (by omega)]
        exact cut_dig hn1 hn2 (hsaid s (List.mem_of_getElem? es))
      have htk : l.take (i + 1) = l.take i ++ [s] := by rw [List.take_add_one, es]; rfl
      rw [hd, List.cons_append]
      conv => lhs; unfold goP
      rw [hcut]
      simp only
      have hno : ¬ (true = false ∨ (0 < i ∧ (n : Int) ≠ if i = 0 then 0 else (n : Int)) ∨ i = 100) := by
        rintro (h | ⟨h, h'⟩ | h)
        · cases h
        · rw [if_neg (by omega)] at h'; exact h' rfl
        · omega
      rw [if_neg hno, if_neg (by decide)]
      simp only [if_true]
      have := ih (i + 1) k (by omega) (by omega) h3
      rw [if_neg (by omega), htk] at this
      exact this
  intro k hk
  have := key k 0 k (by omega) (by omega) hk
  simpa using this
/-- What spoils a reply of this code at this place. -/
def BadAt (n k : Nat) (b : List UInt8) : Prop := (cutP b).2.2.2 = false ∨ (0 < k ∧ (cutP b).1 ≠ n) ∨ ((cutP b).2.1 ≠ 32 ∧ (cutP b).2.1 ≠ 45)
theorem bad_plain {n : Nat} {l : Txt} (hr : rightP n l = true) {k : Nat} (hk : k < l.length) {b : List UInt8} (hb : BadAt n k b) (rest : Txt) : parseP ((prL n l).take k ++ b :: rest) = ((0, []), 0, 180) := by
  obtain ⟨⟨n', hn, hn1, hn2⟩, hl1, hl2, hsaid⟩ := right_spec hr
  have : n' = n := by omega
  subst this
  unfold parseP
  rw [go_ahead hn1 hn2 hl2 hsaid (b :: rest) k hk]
  unfold goP
  by_cases hbad : (cutP b).2.2.2 = false ∨ (0 < k ∧ ((cutP b).1 : Int) ≠ if k = 0 then 0 else (n' : Int)) ∨ k = 100
  · rw [if_pos hbad]
  · rw [if_neg hbad]
    rcases hb with h | ⟨h1, h2⟩ | ⟨h1, h2⟩
    · exact absurd (.inl h) hbad
    · exact absurd (.inr (.inl ⟨h1, by rw [if_neg (by omega)]; omega⟩)) hbad
    · rw [if_neg h1, if_neg h2]
theorem cut4 (a b c m : UInt8) (t : List UInt8) : cutP (a :: b :: c :: m :: t) = ((numP a b c).getD 0, m, t, match numP a b c with | some n => decide (0 < kindN n) && saidP t | none => false) := rfl
theorem bad_num {n k : Nat} {a b c m : UInt8} {t : List UInt8} (h : numP a b c = none ∨ ∃ x, numP a b c = some x ∧ kindN x = 0) : BadAt n k (a :: b :: c :: m :: t) := by
  left
  rw [cut4]
  rcases h with h | ⟨x, h, hx⟩
  · rw [h]
  · rw [h]; simp [hx]
theorem bad_said {n k : Nat} {a b c m : UInt8} {t : List UInt8} (h : saidP t = false) : BadAt n k (a :: b :: c :: m :: t) := by
  left
  rw [cut4]
  cases numP a b c <;> simp [h]
theorem bad_mark {n k : Nat} {a b c m : UInt8} {t : List UInt8} (h1 : m ≠ 32) (h2 : m ≠ 45) : BadAt n k (a :: b :: c :: m :: t) := .inr (.inr ⟨h1, h2⟩)
theorem said_snoc {s : List UInt8} {c : UInt8} (h : okT c = false) : saidP (s ++ [c]) = false := by
  simp [saidP, h]
/-- All that ReplyWrong tries. -/
def bads (a b c m : UInt8) (s : List UInt8) : Txt := [[], [a, b, c], 49 :: b :: c :: m :: s, 54 :: b :: c :: m :: s, a :: b :: 120 :: m :: s, a :: b :: c :: 43 :: s, a :: b :: c :: m :: (s ++ [127]), a :: b :: c :: m :: (s ++ [31]), [a, b, c, m, 233]]
theorem bads_ok {n : Nat} (hn1 : 200 ≤ n) (hn2 : n ≤ 599) (k : Nat) (m : UInt8) (s : List UInt8) : ∀ x ∈ bads (dg (n / 100)) (dg (n / 10 % 10)) (dg (n % 10)) m s, BadAt n k x := by
  have a2 := dg_nat (n := n / 10 % 10) (by omega)
  have a3 := dg_nat (n := n % 10) (by omega)
  intro x hx
  simp only [bads, List.mem_cons, List.not_mem_nil, or_false] at hx
  rcases hx with rfl | rfl | rfl | rfl | rfl | rfl | rfl | rfl | rfl
  · exact .inl rfl
  · exact .inl rfl
  · refine bad_num (.inr ⟨100 + n % 100, ?_, ?_⟩)
    · unfold numP digC
      rw [a2, a3]
      rw [if_pos (by simp; omega)]
      congr 1
      show 100 * (49 - 48) + _ + _ = _
      omega
    · unfold kindN; rw [if_pos (by omega)]
  · refine bad_num (.inr ⟨600 + n % 100, ?_, ?_⟩)
    · unfold numP digC
      rw [a2, a3]
      rw [if_pos (by simp; omega)]
      congr 1
      show 100 * (54 - 48) + _ + _ = _
      omega
    · unfold kindN; rw [if_pos (by omega)]
  · refine bad_num (.inl ?_)
    unfold numP
    rw [if_neg]
    have : digC 120 = false := by decide
    simp [this]
  · exact bad_mark (by decide) (by decide)
  · exact bad_said (said_snoc (by decide))
  · exact bad_said (said_snoc (by decide))
  · exact bad_said (by decide)
theorem bad_digit {n : Nat} (hn1 : 200 ≤ n) (hn2 : n ≤ 599) {k : Nat} (hk : 0 < k) (m : UInt8) (s : List UInt8) : BadAt n k (dg (n / 100) :: dg (n / 10 % 10) :: dg ((n % 10 + 1) % 10) :: m :: s) := by
  have a1 := dg_nat (n := n / 100) (by omega)
  have a2 := dg_nat (n := n / 10 % 10) (by omega)
  have a3 := dg_nat (n := (n % 10 + 1) % 10) (by omega)
  refine .inr (.inl ⟨hk, ?_⟩)
  rw [cut4]
  have : numP (dg (n / 100)) (dg (n / 10 % 10)) (dg ((n % 10 + 1) % 10)) = some (n / 10 * 10 + (n % 10 + 1) % 10) := by
    unfold numP digC
    rw [a1, a2, a3]
    rw [if_pos (by simp; omega)]
    congr 1
    omega
  rw [this]
  simp only [Option.getD_some]
  omega
end Go.Proofs.YtjdpneceeinhhaaDoor
