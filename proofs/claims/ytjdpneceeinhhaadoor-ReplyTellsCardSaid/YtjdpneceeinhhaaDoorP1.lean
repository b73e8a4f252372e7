/-
  reply: a code's kind; what may be said; a line.
-/
import Derived.Test.YtjdpneceeinhhaaDoorP0
set_option linter.unusedVariables false
set_option linter.unusedSimpArgs false
namespace Go.Proofs.YtjdpneceeinhhaaDoor
open Go Go.Am

def kindN (c : Int) : Nat := if c < 200 ∨ 599 < c then 0 else c.toNat / 100
theorem kindN_le (c : Int) : kindN c ≤ 5 := by unfold kindN; split <;> omega
theorem kind_ok (c : Int) (h : Heap) : M.call 13 [.int .i64 c] h = some (.int .u8 (kindN c), h) := by
  refine call_of tab13 rfl (callF_wp ?_)
  unfold kindN
  by_cases h1 : c < 200
  · have h1' : ¬ 200 ≤ c := by omega
    simp [wB13, h1, h1']
  · have h1' : 200 ≤ c := by omega
    by_cases h2 : 599 < c
    · have h2' : ¬ c ≤ 599 := by omega
      simp [wB13, h1, h1', h2, h2']
    · have h2' : c ≤ 599 := by omega
      obtain ⟨n, rfl⟩ : ∃ n : Nat, c = n := ⟨c.toNat, by omega⟩
      have q : Int.tdiv (n : Int) 100 = ((n / 100 : Nat) : Int) := rfl
      have w1 : IntKind.wrap .i64 ((n / 100 : Nat) : Int) = ((n / 100 : Nat) : Int) := wrap64 (by omega) (by omega)
      have w2 : IntKind.wrap .u8 ((n / 100 : Nat) : Int) = ((n / 100 : Nat) : Int) := wrap8 (by omega) (by omega)
      have e : (n : Int).toNat / 100 = n / 100 := rfl
      rw [if_neg (by omega), e]
      generalize n / 100 = q' at *
      simp [wB13, abin_quo, h1, h1', h2, h2', q, w1, w2]
/-- May a byte be said? -/
def okT (c : UInt8) : Bool := decide (32 ≤ c.toNat ∧ c.toNat ≤ 126 ∨ c.toNat = 9)
def saidP (s : List UInt8) : Bool := decide (s.length ≤ 500) && s.all okT
def badR (r : Int) : Bool := decide ((r < 32 ∨ 126 < r) ∧ r ≠ 9)
theorem rune_ok (r : Int) (h : Heap) : M.call 39 [.int .i32 r] h = some (.bool (badR r), h) := by
  refine call_of tab39 rfl (callF_wp ?_)
  unfold badR
  by_cases h1 : r < 32
  · have h1' : ¬ 32 ≤ r := by omega
    by_cases h9 : r = 9
    · subst h9; simp [wB39]
    · simp [wB39, h1, h1', h9]
  · have h1' : 32 ≤ r := by omega
    by_cases h2 : 126 < r
    · have h2' : ¬ r ≤ 126 := by omega
      have h9 : ¬ r = 9 := by omega
      simp [wB39, h1, h1', h2, h2', h9]
    · have h2' : r ≤ 126 := by omega
      simp [wB39, h1, h1', h2, h2']
/-- The first place of a byte that may not be; else -1. -/
def InvIf (t : List UInt8) (h0 : Heap) (k : Nat) (σ : Slots) (h : Heap) : Prop := ∃ p, k = t.length - p ∧ (∀ i c, i < p → t[i]? = some c → okT c = true) ∧ σ 1 = .fn 39 [] ∧ σ 2 = .bool true ∧ σ 10 = .it h0.length ∧ h = h0 ++ [.siter t p]
def firstB (t : List UInt8) : Int := if t.all okT then -1 else ((t.takeWhile okT).length : Int)
theorem first_at {t : List UInt8} {p : Nat} {c : UInt8} (h : ∀ i c, i < p → t[i]? = some c → okT c = true) (hc : t[p]? = some c) (hb : okT c = false) : firstB t = p := by
  have hlt := (List.getElem?_eq_some_iff.1 hc).1
  have hall : t.all okT = false := by
    rw [Bool.eq_false_iff]
    intro ha
    rw [List.all_eq_true] at ha
    have := ha c (List.mem_of_getElem? hc)
    rw [hb] at this; cases this
  unfold firstB
  rw [hall, if_neg (by simp)]
  congr 1
  have : t = t.take p ++ c :: t.drop (p + 1) := by
    have e := (List.take_append_drop p t).symm
    rw [List.drop_eq_getElem_cons hlt] at e
    obtain ⟨_, he⟩ := List.getElem?_eq_some_iff.1 hc
    rw [he] at e
    exact e
  rw [this, List.takeWhile_append_of_pos]
  · simp [hb]
    omega
  · intro x hx
    obtain ⟨i, hi⟩ := List.getElem?_of_mem hx
    rw [List.getElem?_take] at hi
    split at hi
    · rename_i hl; exact h i x hl hi
    · cases hi
theorem indexFunc_ok (t : List UInt8) (ht : t.length ≤ 1000000000) (h0 : Heap) : M.call 47 [.str t, .fn 39 [], .bool true] h0 = some (.int .i64 (firstB t), h0) := by
  refine call_of tab47 rfl (callF_wp ?_)
  simp [wB47]
  refine Wp.loop (InvIf t h0) ?_ (n := t.length) ⟨0, by omega, fun i c h => absurd h (by omega), by simp, by simp, by simp, rfl⟩
  rintro k σ h ⟨p, rfl, hp, s1, s2, s10, rfl⟩
  by_cases hlt : p < t.length
  · obtain ⟨c, ec⟩ : ∃ c, t[p]? = some c := ⟨_, List.getElem?_eq_getElem hlt⟩
    by_cases h128 : c.toNat < 128
    · have hdec := decode_low t p c ec h128
      have hrune := fun h => rune_ok (c.toNat : Int) h
      cases hb : okT c with
      | true =>
        have hbr : badR (c.toNat : Int) = false := by
          simp [okT] at hb
          simp only [badR, decide_eq_false_iff_not]
          omega
        rw [hbr] at hrune
        simp [wL47_0, s1, s2, s10, hlt, hdec, hrune]
        refine ⟨t.length - (p + 1), by omega, p + 1, rfl, fun i d hi hd => ?_, by simp [s1], by simp [s2], by simp [s10], rfl⟩
        rcases Nat.lt_or_ge i p with h | h
        · exact hp i d h hd
        · have : i = p := by omega
          subst this
          rw [ec] at hd
          injection hd with hd
          rw [← hd]; exact hb
      | false =>
        have hbr : badR (c.toNat : Int) = true := by
          simp [okT] at hb
          simp only [badR, decide_eq_true_eq]
          omega
        rw [hbr] at hrune
        have e := first_at hp ec hb
        simp [wL47_0, s1, s2, s10, hlt, hdec, hrune, e]
    · have hdec := decode_high t p c ec h128
      generalize hde : Utf8.decode ⟨⟨t⟩⟩ p = de at *
      obtain ⟨r, w⟩ := de
      simp only at hdec
      have hbr : badR (r : Int) = true := by
        simp only [badR, decide_eq_true_eq]
        omega
      have hrune := fun h => rune_ok (r : Int) h
      rw [hbr] at hrune
      have hno : okT c = false := by unfold okT; apply decide_eq_false; omega
      have e := first_at hp ec hno
      simp [wL47_0, s1, s2, s10, hlt, hde, hrune, e]
  · have e : firstB t = -1 := by
      unfold firstB
      rw [if_pos]
      rw [List.all_eq_true]
      intro x hx
      obtain ⟨i, hi⟩ := List.getElem?_of_mem hx
      exact hp i x (by have := (List.getElem?_eq_some_iff.1 hi).1; omega) hi
    simp [wL47_0, wK47_0, s1, s2, s10, hlt, e]
theorem said_ok (s : List UInt8) (h : Heap) : M.call 25 [.str s] h = some (.bool (saidP s), h) := by
  refine call_of tab25 rfl (callF_wp ?_)
  unfold saidP
  by_cases h1 : s.length ≤ 500
  · have h1' : (s.length : Int) ≤ 500 := by omega
    have hi := fun h => indexFunc_ok s (by omega) h
    have hi2 : ∀ h, M.call 38 [.str s, .fn 39 []] h = some (.int .i64 (firstB s), h) := fun h => by
      refine call_of tab38 rfl (callF_wp ?_)
      simp [wB38, hi]
    unfold firstB at hi2
    cases ha : s.all okT with
    | true =>
      rw [ha] at hi2
      simp at hi2
      simp [wB25, h1, h1', hi2]
    | false =>
      rw [ha] at hi2
      simp at hi2
      simp [wB25, h1, h1', hi2]
  · have h1' : ¬ (s.length : Int) ≤ 500 := by omega
    simp [wB25, h1, h1']
end Go.Proofs.YtjdpneceeinhhaaDoor
