/-
  frankingref18: Parse, what its first loop finds.
-/
import Derived.Test.YtjdpneceeinhhaaDoorS2
set_option linter.unusedVariables false
set_option linter.unusedSimpArgs false
namespace Go.Proofs.YtjdpneceeinhhaaDoor
open Go Go.Am

/-- A right line of three digits, a mark, a text. -/
def LineIs (s : List UInt8) (a b c m : UInt8) (t : List UInt8) (n : Nat) : Prop := s = a :: b :: c :: m :: t ∧ numP a b c = some n ∧ cutP s = (n, m, t, true) ∧ (m = 45 ∨ m = 32) ∧ 48 ≤ a.toNat ∧ a.toNat ≤ 57 ∧ 48 ≤ b.toNat ∧ b.toNat ≤ 57 ∧ 48 ≤ c.toNat ∧ c.toNat ≤ 57 ∧ n = 100 * (a.toNat - 48) + 10 * (b.toNat - 48) + (c.toNat - 48)
theorem line_is {s : List UInt8} (h : lineP s = true) : ∃ a b c m t n, LineIs s a b c m t n := by
  have hc := lineP_cut s
  rw [h] at hc
  match s with
  | [] => cases h
  | [a] => cases h
  | [a, b] => cases h
  | [a, b, c] => cases h
  | a :: b :: c :: m :: t =>
    have h1 := hc.symm
    simp only [Bool.and_eq_true, Bool.or_eq_true, beq_iff_eq] at h1
    obtain ⟨k1, k2⟩ := h1
    cases hn : numP a b c with
    | none => simp [cutP, hn] at k1
    | some n =>
      have hd := hn
      unfold numP at hd
      split at hd
      · rename_i d
        injection hd with hd
        simp only [Bool.and_eq_true, digC, decide_eq_true_eq] at d
        refine ⟨a, b, c, m, t, n, rfl, hn, ?_, k2, d.1.1.1, d.1.1.2, d.1.2.1, d.1.2.2, d.2.1, d.2.2, hd.symm⟩
        have : (cutP (a :: b :: c :: m :: t)) = ((cutP (a :: b :: c :: m :: t)).1, (cutP (a :: b :: c :: m :: t)).2.1, (cutP (a :: b :: c :: m :: t)).2.2.1, (cutP (a :: b :: c :: m :: t)).2.2.2) := rfl
        rw [this, k1]
        simp [cutP, hn]
      · cases hd
theorem num_inj {a b c a' b' c' : UInt8} {n n' : Nat} (h : 48 ≤ a.toNat ∧ a.toNat ≤ 57 ∧ 48 ≤ b.toNat ∧ b.toNat ≤ 57 ∧ 48 ≤ c.toNat ∧ c.toNat ≤ 57 ∧ n = 100 * (a.toNat - 48) + 10 * (b.toNat - 48) + (c.toNat - 48))
    (h' : 48 ≤ a'.toNat ∧ a'.toNat ≤ 57 ∧ 48 ≤ b'.toNat ∧ b'.toNat ≤ 57 ∧ 48 ≤ c'.toNat ∧ c'.toNat ≤ 57 ∧ n' = 100 * (a'.toNat - 48) + 10 * (b'.toNat - 48) + (c'.toNat - 48)) : (n = n') = ([a, b, c] = [a', b', c']) := by
  apply propext
  constructor
  · intro e
    have e1 : a = a' := UInt8.toNat_inj.1 (by omega)
    have e2 : b = b' := UInt8.toNat_inj.1 (by omega)
    have e3 : c = c' := UInt8.toNat_inj.1 (by omega)
    rw [e1, e2, e3]
  · intro e
    injection e with e1 e
    injection e with e2 e
    injection e with e3 e
    subst e1 e2 e3
    omega
theorem go_bad {s : List UInt8} (h : lineP s = false) (l : Txt) (i : Nat) (code : Int) (out : Txt) : goP (s :: l) i code out = ((0, []), 0, 180) := by
  rw [lineP_cut] at h
  unfold goP
  split
  · rfl
  · rename_i hb
    simp only [not_or, Bool.not_eq_false] at hb
    rw [hb.1] at h
    simp only [Bool.true_and, Bool.or_eq_false_iff, beq_eq_false_iff_ne, ne_eq] at h
    rw [if_neg h.2, if_neg h.1]
theorem go_line {s : List UInt8} {a b c m : UInt8} {t : List UInt8} {n : Nat} (h : LineIs s a b c m t n) (l : Txt) (i : Nat) (code : Int) (out : Txt) :
    goP (s :: l) i code out = if (0 < i ∧ (n : Int) ≠ code) ∨ i = 100 then ((0, []), 0, 180) else if m = 32 then (((n : Int), out ++ [t]), ((i + 1 : Nat) : Int), 0) else goP l (i + 1) n (out ++ [t]) := by
  obtain ⟨_, _, hc, hm, _⟩ := h
  conv => lhs; unfold goP
  rw [hc]
  simp only [Bool.true_eq_false, false_or]
  split
  · rfl
  · split
    · rfl
    · rename_i h32
      rw [if_pos (by rcases hm with h | h; exact h; exact absurd h h32)]

/-- What has been seen ahead of line i: lines of one code, all of which go on. -/
def Seen (l : Txt) (i : Nat) : Prop := ∀ j s, j < i → l[j]? = some s → lineP s = true ∧ s.take 3 = (l.headD []).take 3
def numOf (s : List UInt8) : Nat := (cutP s).1
def codeAt (l : Txt) (i : Nat) : Int := if i = 0 then 0 else (numOf (l.headD []) : Nat)
/-- Behind the first loop. -/
def Found (l : Txt) (res : PRes) (i : Nat) : Prop := (i = l.length ∧ res = ((0, []), 0, 181)) ∨
  (∃ s a b c m t n, l[i]? = some s ∧ LineIs (l.headD []) a b c m t n ∧ Seen l (i + 1) ∧ i ≤ 99 ∧ res = (((n : Int), (l.take (i + 1)).map (·.drop 4)), ((i + 1 : Nat) : Int), 0))
def InvS (l : Txt) (rl : Rt) (res : PRes) (h0 : Heap) (k : Nat) (σ : Slots) (h : Heap) : Prop := ∃ i, i ≤ l.length ∧ k = l.length - i ∧ i ≤ 100 ∧ goP (l.drop i) i (codeAt l i) ((l.take i).map (·.drop 4)) = res ∧ Seen l i ∧
  σ 0 = .list 1 (l.map AV.str) rl ∧ σ 2 = .ptr h0.length 0 ∧ σ 5 = .int .i64 i ∧ h = h0 ++ [.cells [.int .i64 0, .list 1 [] .full]]
theorem scan_ok (l : Txt) (hl : l.length ≤ big) (hm : ∀ s ∈ l, s.length ≤ big) (rl : Rt) (res : PRes) (h0 : Heap) (σ : Slots) (Q : Ex → Slots → Heap → Prop) (hres : parseP l = res)
    (t0 : σ 0 = .list 1 (l.map AV.str) rl) (t2 : σ 2 = .ptr h0.length 0) (t5 : σ 5 = .int .i64 0)
    (hQ : ∀ i (σ' : Slots), i ≤ l.length → Found l res i → σ' 0 = .list 1 (l.map AV.str) rl → σ' 2 = .ptr h0.length 0 → σ' 5 = .int .i64 i → Q (.exit 0) σ' (h0 ++ [.cells [.int .i64 0, .list 1 [] .full]]))
    (hR : ∀ (σ' : Slots), res = ((0, []), 0, 180) → σ' 2 = .ptr h0.length 0 → σ' 3 = .int .i64 0 → σ' 4 = .int .i64 180 → Q .ret σ' (h0 ++ [.cells [.int .i64 0, .list 1 [] .full]])) :
    Wp M (.loop L16_0) Q σ (h0 ++ [.cells [.int .i64 0, .list 1 [] .full]]) := by
  refine Wp.loop (InvS l rl res h0) ?_ (n := l.length) ⟨0, by omega, by omega, by omega, by simpa [codeAt, parseP] using hres, fun j s hj => absurd hj (by omega), t0, t2, by simpa using t5, rfl⟩
  rintro k σ h ⟨i, hi, rfl, hi100, hd, seen, s0, s2, s5, rfl⟩
  by_cases hlt : i < l.length
  · obtain ⟨s, es⟩ : ∃ s, l[i]? = some s := ⟨_, List.getElem?_eq_getElem hlt⟩
    have es' : (l.map AV.str)[i]? = some (.str s) := by rw [List.getElem?_map, es]; rfl
    obtain ⟨f, ef⟩ : ∃ f, l[0]? = some f := ⟨_, List.getElem?_eq_getElem (by omega)⟩
    have ef' : (l.map AV.str)[0]? = some (.str f) := by rw [List.getElem?_map, ef]; rfl
    have hf : l.headD [] = f := by
      cases l with
      | nil => cases ef
      | cons x l => injection ef
    have hdrop : l.drop i = s :: l.drop (i + 1) := by
      obtain ⟨_, he⟩ := List.getElem?_eq_some_iff.1 es
      rw [← he]; exact List.drop_eq_getElem_cons hlt
    rw [hdrop] at hd
    have hltI : (i : Int) < l.length := by omega
    have hlt0 : 0 < l.length := by omega
    have hset : ∀ e, (h0 ++ [AE.cells [.int .i64 0, .list 1 [] .full]]).set h0.length e = h0 ++ [e] := fun e => by simp
    have e64 : IntKind.wrap .i64 ((i : Int) + 1) = ((i + 1 : Nat) : Int) := by rw [wrap64 (by omega) (by omega)]; rfl
    have hline := fun h => rline_ok s (hm s (List.mem_of_getElem? es)) h
    cases hb : lineP s with
    | false =>
      rw [hb] at hline
      rw [go_bad hb] at hd
      simp [-getElem?_pos, -List.getElem?_map, -Int.natCast_add, wL16_0, s0, s2, s5, hlt, hltI, es', hline]
      exact hR _ hd.symm (by simp [s2]) (by simp) (by simp)
    | true =>
      rw [hb] at hline
      obtain ⟨a, b, c, m, t, n, L⟩ := line_is hb
      rw [go_line L] at hd
      have hfl : lineP f = true := by
        by_cases h0 : i = 0
        · subst h0
          rw [es] at ef
          injection ef with ef
          rw [← ef]; exact hb
        · exact (seen 0 f (by omega) ef).1
      obtain ⟨a', b', c', m', t', n', L'⟩ := line_is hfl
      have hnum : numOf (l.headD []) = n' := by rw [hf, numOf, L'.2.2.1]
      have hinj := num_inj L.2.2.2.2 L'.2.2.2.2
      obtain ⟨rfl, hn, hcut, hmm, hdig⟩ := L
      obtain ⟨rfl, hn', hcut', hmm', hdig'⟩ := L'
      have l3 : (3 : Int) ≤ ((t.length + 1 + 1 + 1 + 1 : Nat) : Int) := by omega
      have l3' : (3 : Int) ≤ ((t'.length + 1 + 1 + 1 + 1 : Nat) : Int) := by omega
      have l4 : (3 : Int) < ((t.length + 1 + 1 + 1 + 1 : Nat) : Int) := by omega
      have e32 : ((m.toNat : Int) = 32) = (m = 32) := u8_eq m 32 (by omega)
      have e100 : ((100 : Int) ≤ (i : Int)) = (100 ≤ i) := propext ⟨fun h => by omega, fun h => by omega⟩
      by_cases hsame : [a, b, c] = [a', b', c']
      · have hnn : n = n' := by rw [hinj]; exact hsame
        by_cases h100 : 100 ≤ i
        · rw [if_pos (.inr (by omega))] at hd
          simp [-getElem?_pos, -List.getElem?_map, -Int.natCast_add, wL16_0, s0, s2, s5, hlt, hltI, hlt0, es', ef', hline, l3, l3', hsame, h100, e100]
          exact hR _ hd.symm (by simp [s2]) (by simp) (by simp)
        · rw [if_neg (by
            rintro (⟨h1, h2⟩ | h)
            · apply h2
              rw [codeAt, if_neg (by omega), hnum, hnn]
            · omega)] at hd
          have seen' : Seen l (i + 1) := by
            intro j s' hj hs'
            by_cases hji : j < i
            · exact seen j s' hji hs'
            · have : j = i := by omega
              subst this
              rw [es] at hs'
              injection hs' with hs'
              subst hs'
              exact ⟨hb, by rw [hf]; simpa using hsame⟩
          have htake : (l.take (i + 1)).map (·.drop 4) = (l.take i).map (·.drop 4) ++ [t] := by
            rw [List.take_add_one, es]
            simp
          by_cases hm32 : m = 32
          · subst hm32
            rw [if_pos rfl] at hd
            simp [-getElem?_pos, -List.getElem?_map, -Int.natCast_add, wL16_0, s0, s2, s5, hlt, hltI, hlt0, es', ef', hline, l3, l3', l4, hsame, h100, e100]
            exact hQ i _ hi (.inr ⟨_, _, _, _, _, _, _, es, by rw [hf]; exact ⟨rfl, hn', hcut', hmm', hdig'⟩, seen', by omega, by rw [← hd, htake, hnn]⟩) (by simp [s0]) (by simp [s2]) (by simp [s5])
          · rw [if_neg hm32] at hd
            rw [← e32] at hm32
            simp [-getElem?_pos, -List.getElem?_map, -Int.natCast_add, wL16_0, s0, s2, s5, hlt, hltI, hlt0, es', ef', hline, l3, l3', l4, hsame, h100, e100, hm32, e64]
            exact ⟨l.length - (i + 1), by omega, i + 1, by omega, rfl, by omega, by rw [htake, codeAt, if_neg (by omega), hnum, ← hnn]; exact hd, seen', by simp [s0], by simp [s2], by simp, rfl⟩
      · have hnn : ¬ n = n' := by rw [hinj]; exact hsame
        have hi0 : 0 < i := by
          rcases Nat.eq_zero_or_pos i with h | h
          · subst h
            rw [es] at ef
            injection ef with ef
            injection ef with e1 ef
            injection ef with e2 ef
            injection ef with e3 ef
            exact absurd (by rw [e1, e2, e3]) hsame
          · exact h
        rw [if_pos (.inl ⟨hi0, by rw [codeAt, if_neg (by omega), hnum]; omega⟩)] at hd
        have hd1 : (a = a' ∧ b = b' ∧ c = c') = False := eq_false fun ⟨h1, h2, h3⟩ => hsame (by rw [h1, h2, h3])
        have hd2 : (¬ a = a' ∨ ¬ b = b' ∨ ¬ c = c') = True := eq_true (Classical.byContradiction fun h => hsame (by
          simp only [not_or, Classical.not_not] at h
          rw [h.1, h.2.1, h.2.2]))
        simp [-getElem?_pos, -List.getElem?_map, -Int.natCast_add, wL16_0, s0, s2, s5, hlt, hltI, hlt0, es', ef', hline, l3, l3', hd1, hd2]
        exact hR _ hd.symm (by simp [s2]) (by simp) (by simp)
  · obtain rfl : i = l.length := by omega
    rw [List.drop_length] at hd
    simp [wL16_0, s0, s2, s5]
    exact hQ _ _ (Nat.le_refl _) (.inl ⟨rfl, by rw [← hd]; rfl⟩) (by simp [s0]) (by simp [s2]) (by simp [s5])
end Go.Proofs.YtjdpneceeinhhaaDoor
