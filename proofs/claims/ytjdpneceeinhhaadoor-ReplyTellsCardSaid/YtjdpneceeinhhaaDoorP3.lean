/-
  reply: right; lists of texts are compared.
-/
import Derived.Test.YtjdpneceeinhhaaDoorP2
set_option linter.unusedVariables false
set_option linter.unusedSimpArgs false
namespace Go.Proofs.YtjdpneceeinhhaaDoor
open Go Go.Am

abbrev Txt := List (List UInt8)
abbrev big : Nat := 9223372036854775807
def strL (l : Txt) (r : Rt) : AV := .list 1 (l.map AV.str) r
def repA (c : Int) (l : Txt) (r : Rt) : AV := .agg [.int .i64 c, strL l r]
theorem notsaid_ok (s : List UInt8) (h : Heap) : M.call 24 [.str s] h = some (.bool (!saidP s), h) := by
  refine call_of tab24 rfl (callF_wp ?_)
  have := fun h => said_ok s h
  simp [wB24, this]
def firstL (l : Txt) : Int := if l.all saidP then -1 else ((l.takeWhile saidP).length : Int)
theorem firstL_at {t : Txt} {p : Nat} {c : List UInt8} (h : ∀ i c, i < p → t[i]? = some c → saidP c = true) (hc : t[p]? = some c) (hb : saidP c = false) : firstL t = p := by
  have hlt := (List.getElem?_eq_some_iff.1 hc).1
  have hall : t.all saidP = false := by
    rw [Bool.eq_false_iff]
    intro ha
    rw [List.all_eq_true] at ha
    have := ha c (List.mem_of_getElem? hc)
    rw [hb] at this; cases this
  unfold firstL
  rw [hall, if_neg (by simp)]
  congr 1
  have : t = t.take p ++ c :: t.drop (p + 1) := by
    have e := (List.take_append_drop p t).symm
    rw [List.drop_eq_getElem_cons hlt] at e
    obtain ⟨_, he⟩ := List.getElem?_eq_some_iff.1 hc
    rw [he] at e
    exact e
  rw [this, List.takeWhile_append_of_pos]
  · simp [hb]
    omega
  · intro x hx
    obtain ⟨i, hi⟩ := List.getElem?_of_mem hx
    rw [List.getElem?_take] at hi
    split at hi
    · rename_i hl; exact h i x hl hi
    · cases hi
def InvLf (t : Txt) (r : Rt) (h0 : Heap) (k : Nat) (σ : Slots) (h : Heap) : Prop := ∃ p, p ≤ t.length ∧ k = t.length - p ∧ (∀ i c, i < p → t[i]? = some c → saidP c = true) ∧ σ 0 = strL t r ∧ σ 1 = .fn 24 [] ∧ σ 7 = .int .i64 t.length ∧ σ 8 = .int .i64 p ∧ h = h0
theorem indexL_ok (t : Txt) (ht : t.length ≤ big) (r : Rt) (h0 : Heap) : M.call 37 [strL t r, .fn 24 []] h0 = some (.int .i64 (firstL t), h0) := by
  refine call_of tab37 rfl (callF_wp ?_)
  simp [wB37, strL]
  refine Wp.loop (InvLf t r h0) ?_ (n := t.length) ⟨0, by omega, by omega, fun i c h => absurd h (by omega), by simp [strL], by simp, by simp, by simp, rfl⟩
  rintro k σ h ⟨p, hpl, rfl, hp, s0, s1, s7, s8, rfl⟩
  unfold strL at s0
  by_cases hlt : p < t.length
  · obtain ⟨c, ec⟩ : ∃ c, t[p]? = some c := ⟨_, List.getElem?_eq_getElem hlt⟩
    have ec' : (t.map AV.str)[p]? = some (.str c) := by rw [List.getElem?_map, ec]; rfl
    have hltI : (p : Int) < t.length := by omega
    have e64 : IntKind.wrap .i64 ((p : Int) + 1) = ((p + 1 : Nat) : Int) := by rw [wrap64 (by omega) (by unfold big at ht; omega)]; rfl
    have hc := fun h => notsaid_ok c h
    cases hb : saidP c with
    | true =>
      rw [hb] at hc
      simp [-getElem?_pos, -List.getElem?_map, wL37_0, s0, s1, s7, s8, hlt, hltI, ec', hc, e64]
      refine ⟨t.length - (p + 1), by omega, p + 1, by omega, rfl, fun i d hi hd => ?_, by simp [s0, strL], by simp [s1], by simp [s7], by simp, rfl⟩
      rcases Nat.lt_or_ge i p with h | h
      · exact hp i d h hd
      · have : i = p := by omega
        subst this
        rw [ec] at hd
        injection hd with hd
        rw [← hd]; exact hb
    | false =>
      rw [hb] at hc
      have e := firstL_at hp ec hb
      simp [-getElem?_pos, -List.getElem?_map, wL37_0, s0, s1, s7, s8, hlt, hltI, ec', hc, e64, e]
  · have hltI : ((p : Int) < t.length) = False := eq_false (by omega)
    have e : firstL t = -1 := by
      unfold firstL
      rw [if_pos]
      rw [List.all_eq_true]
      intro x hx
      obtain ⟨i, hi⟩ := List.getElem?_of_mem hx
      exact hp i x (by have := (List.getElem?_eq_some_iff.1 hi).1; omega) hi
    simp [wL37_0, wK37_0, s0, s1, s7, s8, hltI, e]
theorem containsL_ok (t : Txt) (ht : t.length ≤ big) (r : Rt) (h0 : Heap) : M.call 23 [strL t r, .fn 24 []] h0 = some (.bool (!t.all saidP), h0) := by
  refine call_of tab23 rfl (callF_wp ?_)
  have hi := fun h => indexL_ok t ht r h
  unfold firstL at hi
  cases ha : t.all saidP with
  | true => rw [ha] at hi; simp at hi; simp [wB23, hi]
  | false => rw [ha] at hi; simp at hi; simp [wB23, hi]
def rightP (c : Int) (l : Txt) : Bool := decide (0 < kindN c ∧ 0 < l.length ∧ l.length ≤ 100) && l.all saidP
theorem right_ok (c : Int) (l : Txt) (hl : l.length ≤ big) (r : Rt) (h : Heap) : M.call 10 [repA c l r] h = some (.bool (rightP c l), h) := by
  refine call_of tab10 rfl (callF_wp ?_)
  have hk := fun h => kind_ok c h
  have hc := fun h => containsL_ok l hl r h
  unfold rightP
  unfold strL at hc
  by_cases h1 : 0 < kindN c
  · have h1' : (0 : Int) < kindN c := by omega
    by_cases h2 : 0 < l.length
    · have h2' : (0 : Int) < l.length := by omega
      have h2n : ¬ l = [] := by intro e; subst e; simp at h2
      by_cases h3 : l.length ≤ 100
      · have h3' : (l.length : Int) ≤ 100 := by omega
        cases ha : l.all saidP with
        | true => rw [ha] at hc; simp at hc; simp [wB10, repA, strL, hk, h1, h1', h2, h2', h2n, h3, h3', hc]
        | false => rw [ha] at hc; simp at hc; simp [wB10, repA, strL, hk, h1, h1', h2, h2', h2n, h3, h3', hc]
      · have h3' : ¬ (l.length : Int) ≤ 100 := by omega
        simp [wB10, repA, strL, hk, h1, h1', h2, h2', h2n, h3, h3']
    · have h2' : ¬ (0 : Int) < l.length := by omega
      have h2n : l = [] := by simpa using h2
      subst h2n
      simp [wB10, repA, strL, hk, h1, h1']
  · have h1' : kindN c = 0 := by omega
    simp [wB10, repA, strL, hk, h1', finish_app]
def InvTx (a b : Txt) (r1 r2 : Rt) (h : Heap) (n : Nat) (σ : Slots) (h' : Heap) : Prop := ∃ i, i ≤ a.length ∧ n = a.length - i ∧ σ 0 = strL a r1 ∧ σ 1 = strL b r2 ∧ σ 12 = .int .i64 a.length ∧ σ 13 = .int .i64 i ∧ a.take i = b.take i ∧ h' = h
theorem texts_ok (a b : Txt) (r1 r2 : Rt) (ha : a.length ≤ big) (h : Heap) : M.call 14 [strL a r1, strL b r2] h = some (.bool (decide (a = b)), h) := by
  refine call_of tab14 rfl (callF_wp ?_)
  by_cases hl : a.length = b.length
  · simp [wB14, hl, strL]
    refine Wp.loop (InvTx a b r1 r2 h) ?_ (n := a.length) ⟨0, by omega, by omega, by simp [strL], by simp [strL], by simp [hl], by simp, by simp, rfl⟩
    rintro n σ h' ⟨i, hi, rfl, s0, s1, s12, s13, ht, rfl⟩
    unfold strL at s0 s1
    have e64 : i < a.length → IntKind.wrap .i64 ((i : Int) + 1) = ((i + 1 : Nat) : Int) := fun h => by rw [wrap64 (by omega) (by unfold big at ha; omega)]; rfl
    by_cases hlt : i < a.length
    · have e64 := e64 hlt
      have hltI : (i : Int) < a.length := by omega
      have hlb : i < b.length := by omega
      obtain ⟨x, ex⟩ : ∃ x, a[i]? = some x := ⟨_, List.getElem?_eq_getElem hlt⟩
      obtain ⟨y, ey⟩ : ∃ y, b[i]? = some y := ⟨_, List.getElem?_eq_getElem hlb⟩
      have ex' : (a.map AV.str)[i]? = some (.str x) := by rw [List.getElem?_map, ex]; rfl
      have ey' : (b.map AV.str)[i]? = some (.str y) := by rw [List.getElem?_map, ey]; rfl
      by_cases hxy : x = y
      · subst hxy
        simp [-getElem?_pos, -List.getElem?_map, -Int.natCast_add, wL14_0, s0, s1, s12, s13, hlt, hltI, hlb, ex', ey', e64]
        refine ⟨a.length - (i + 1), by omega, i + 1, by omega, rfl, by simp [s0, strL], by simp [s1, strL], by simp [s12], by simp, ?_, rfl⟩
        rw [List.take_add_one, List.take_add_one, ht, ex, ey]
      · have hab : ¬ a = b := fun e => by subst e; rw [ex] at ey; injection ey with ey; exact hxy ey
        simp [-getElem?_pos, -List.getElem?_map, -Int.natCast_add, wL14_0, s0, s1, s12, s13, hlt, hltI, hlb, ex', ey', e64, hxy, hab]
    · have hltI : ((i : Int) < a.length) = False := eq_false (by omega)
      simp [wL14_0, wK14_0, s0, s1, s12, s13, hltI]
      rw [List.take_of_length_le (by omega), List.take_of_length_le (by omega)] at ht
      exact ht
  · have hab : ¬ a = b := fun e => hl (by rw [e])
    have hlI : ¬ (a.length : Int) = b.length := by omega
    simp [wB14, hl, hlI, hab, strL]
theorem same_ok (c d : Int) (a b : Txt) (r1 r2 : Rt) (ha : a.length ≤ big) (h : Heap) : M.call 12 [repA c a r1, repA d b r2] h = some (.bool (decide (c = d ∧ a = b)), h) := by
  refine call_of tab12 rfl (callF_wp ?_)
  have ht := fun h => texts_ok a b r1 r2 ha h
  unfold strL at ht
  by_cases hc : c = d
  · simp [wB12, repA, strL, hc, ht, Nat.add_assoc]
  · simp [wB12, repA, strL, hc, Nat.add_assoc]
end Go.Proofs.YtjdpneceeinhhaaDoor
