/-
  abnf: named, alone, fits, Right.
-/
import Derived.Test.YtmmapbhhkmchcaaDoorA1
set_option linter.unusedVariables false
set_option linter.unusedSimpArgs false
namespace Go.Proofs.YtmmapbhhkmchcaaDoor
open Go Go.Am

theorem lit_le (k n : Nat) : (no_index (OfNat.ofNat k : Int) ≤ (n : Int)) = ((OfNat.ofNat k : Nat) ≤ n) := propext ⟨fun h => Int.ofNat_le.1 h, fun h => Int.ofNat_le.2 h⟩
theorem le_lit (k n : Nat) : ((n : Int) ≤ no_index (OfNat.ofNat k : Int)) = (n ≤ (OfNat.ofNat k : Nat)) := propext ⟨fun h => Int.ofNat_le.1 h, fun h => Int.ofNat_le.2 h⟩
theorem lit_lt (k n : Nat) : (no_index (OfNat.ofNat k : Int) < (n : Int)) = ((OfNat.ofNat k : Nat) < n) := propext ⟨fun h => Int.ofNat_lt.1 h, fun h => Int.ofNat_lt.2 h⟩
theorem lt_lit (k n : Nat) : ((n : Int) < no_index (OfNat.ofNat k : Int)) = (n < (OfNat.ofNat k : Nat)) := propext ⟨fun h => Int.ofNat_lt.1 h, fun h => Int.ofNat_lt.2 h⟩
theorem eq_lit (k n : Nat) : ((n : Int) = no_index (OfNat.ofNat k : Int)) = (n = (OfNat.ofNat k : Nat)) := propext ⟨fun h => Int.ofNat_inj.1 h, fun h => Int.ofNat_inj.2 h⟩
theorem drop_at {α : Type} {s : List α} {i : Nat} {c : α} (ec : s[i]? = some c) : s.drop i = c :: s.drop (i + 1) := by
  obtain ⟨_, he⟩ := List.getElem?_eq_some_iff.1 ec
  rw [← he]; exact List.drop_eq_getElem_cons _

def InvNm (s : List UInt8) (h0 : Heap) (k : Nat) (σ : Slots) (h : Heap) : Prop := ∃ i, i ≤ s.length ∧ k = s.length - i ∧ (0 < i → namedP s = (s.drop i).all nmC) ∧ σ 0 = .str s ∧ σ 6 = .int .i64 s.length ∧ σ 7 = .int .i64 i ∧ h = h0
theorem named_ok (s : List UInt8) (hs : s.length ≤ 1000000000) (h0 : Heap) : M.call 19 [.str s] h0 = some (.bool (namedP s), h0) := by
  refine call_of tab19 rfl (callF_wp ?_)
  simp [wB19]
  refine Wp.loop (InvNm s h0) ?_ (n := s.length) ⟨0, by omega, by omega, by omega, by simp, by simp, by simp, rfl⟩
  rintro k σ h ⟨i, hi, rfl, hn, s0, s6, s7, rfl⟩
  by_cases hlt : i < s.length
  · obtain ⟨c, ec⟩ : ∃ c, s[i]? = some c := ⟨_, List.getElem?_eq_getElem hlt⟩
    have hd := drop_at ec
    have e64 : IntKind.wrap .i64 ((i : Int) + 1) = ((i + 1 : Nat) : Int) := by rw [wrap64 (by omega) (by omega)]; rfl
    have e45 : ((c.toNat : Int) = 45) = (c = 45) := u8_eq c 45 (by omega)
    have next : ∀ (σ' : Slots) (g : Heap), (i = 0 → lowC c = true) → nmC c = true → σ' 0 = σ 0 → σ' 6 = σ 6 → σ' 7 = .int .i64 ((i + 1 : Nat) : Int) → g = h → ∃ m, m < s.length - i ∧ InvNm s h m σ' g := by
      intro σ' g q0 q1 q2 q3 q4 q5
      refine ⟨s.length - (i + 1), by omega, i + 1, by omega, rfl, fun _ => ?_, by rw [q2, s0], by rw [q3, s6], q4, q5⟩
      rcases Nat.eq_zero_or_pos i with h0 | h0
      · subst h0
        rw [List.drop_zero] at hd
        have := q0 rfl
        rw [hd]
        simp [namedP, this]
      · rw [hn h0, hd]
        simp [q1]
    have bad : (i = 0 ∧ lowC c = false) ∨ nmC c = false → namedP s = false := by
      intro q
      rcases Nat.eq_zero_or_pos i with h0 | h0
      · subst h0
        rw [List.drop_zero] at hd
        rcases q with ⟨_, q⟩ | q
        · rw [hd]; simp [namedP, q]
        · have : lowC c = false := by
            unfold nmC at q
            simp at q
            exact q.1.1
          rw [hd]; simp [namedP, this]
      · rw [hn h0, hd]
        rcases q with ⟨q, _⟩ | q
        · omega
        · simp [q]
    by_cases a1 : 97 ≤ c.toNat
    · by_cases a2 : c.toNat ≤ 122
      · have hl : lowC c = true := by simp [lowC, a1, a2]
        simp [-getElem?_pos, -Int.natCast_add, wL19_0, s0, s6, s7, hlt, ec, lit_le, le_lit, a1, a2, e64]
        exact next _ _ (fun _ => hl) (by simp [nmC, hl]) (by simp) (by simp) (by simp) rfl
      · have hl : lowC c = false := by simp [lowC]; omega
        have hg : digC c = false := by simp [digC]; omega
        have h57 : ¬ c.toNat ≤ 57 := by omega
        have h48 : ¬ c.toNat < 48 := by omega
        have h45 : ¬ c = 45 := by intro e; subst e; simp at a1
        have hb := bad (.inr (by simp [nmC, hl, hg, h45]))
        by_cases hi0 : i = 0
        · subst hi0
          simp [-getElem?_pos, -Int.natCast_add, wL19_0, s0, s6, s7, hlt, ec, lit_le, le_lit, lt_lit, a1, a2, hb]
        · have hi0' : ¬ (i : Int) = 0 := by omega
          simp [-getElem?_pos, -Int.natCast_add, wL19_0, s0, s6, s7, hlt, ec, lit_le, le_lit, lit_lt, lt_lit, a1, a2, e64, hi0, hi0', e45, h45, h48, h57, hb]
    · have hl : lowC c = false := by simp [lowC]; omega
      by_cases hi0 : i = 0
      · have hb := bad (.inl ⟨hi0, hl⟩)
        subst hi0
        simp [-getElem?_pos, -Int.natCast_add, wL19_0, s0, s6, s7, hlt, ec, lit_le, le_lit, a1, hb]
      · have hi0' : ¬ (i : Int) = 0 := by omega
        by_cases h45 : c = 45
        · simp [-getElem?_pos, -Int.natCast_add, wL19_0, s0, s6, s7, hlt, ec, lit_le, le_lit, a1, e64, hi0, hi0', e45, h45]
          exact next _ _ (fun q => absurd q hi0) (by simp [nmC, h45]) (by simp) (by simp) (by simp) rfl
        · by_cases b1 : c.toNat < 48
          · have hg : digC c = false := by simp [digC]; omega
            have hb := bad (.inr (by simp [nmC, hl, hg, h45]))
            simp [-getElem?_pos, -Int.natCast_add, wL19_0, s0, s6, s7, hlt, ec, lit_le, le_lit, lit_lt, lt_lit, a1, e64, hi0, hi0', e45, h45, b1, hb]
          · by_cases b2 : c.toNat ≤ 57
            · have hg : digC c = true := by simp [digC]; omega
              have b2' : ¬ 57 < c.toNat := by omega
              simp [-getElem?_pos, -Int.natCast_add, wL19_0, s0, s6, s7, hlt, ec, lit_le, le_lit, lit_lt, lt_lit, a1, e64, hi0, hi0', e45, h45, b1, b2, b2']
              exact next _ _ (fun q => absurd q hi0) (by simp [nmC, hg]) (by simp) (by simp) (by simp) rfl
            · have hg : digC c = false := by simp [digC]; omega
              have hb := bad (.inr (by simp [nmC, hl, hg, h45]))
              have b2' : 57 < c.toNat := by omega
              simp [-getElem?_pos, -Int.natCast_add, wL19_0, s0, s6, s7, hlt, ec, lit_le, le_lit, lit_lt, lt_lit, a1, e64, hi0, hi0', e45, h45, b1, b2, b2', hb]
  · have hil : i = s.length := by omega
    subst hil
    cases s with
    | nil => simp [wL19_0, wK19_0, s0, s6, s7, namedP]
    | cons c l =>
      have := hn (by simp)
      rw [List.drop_length] at this
      simp [wL19_0, wK19_0, s0, s6, s7, this]

/-- A rune that may not stand in a quoted text. -/
def odd (r : Int) : Bool := decide (r < 32 ∨ 126 < r ∨ r = 34)
theorem odd_ok (r : Int) (h : Heap) : M.call 41 [.int .i32 r] h = some (.bool (odd r), h) := by
  refine call_of tab41 rfl (callF_wp ?_)
  unfold odd
  by_cases h1 : r < 32
  · simp [wB41, h1]
  · by_cases h2 : 126 < r
    · simp [wB41, h1, h2]
    · simp [wB41, h1, h2]
def InvIf (t : List UInt8) (h0 : Heap) (k : Nat) (σ : Slots) (h : Heap) : Prop := ∃ p, k = t.length - p ∧ (∀ j c, j < p → t[j]? = some c → prC c = true) ∧ σ 1 = .fn 41 [] ∧ σ 2 = .bool true ∧ σ 10 = .it h0.length ∧ h = h0 ++ [.siter t p]
theorem indexFunc_ok (t : List UInt8) (hs : t.length ≤ 1000000000) (h0 : Heap) : ∃ i : Int, M.call 40 [.str t, .fn 41 []] h0 = some (.int .i64 i, h0) ∧ decide (i < 0) = t.all prC := by
  have h129 : ∃ x, M.call 64 [.str t, .fn 41 [], .bool true] h0 = some x ∧ ∃ i : Int, x = (.int .i64 i, h0) ∧ decide (i < 0) = t.all prC := by
    refine call_post tab64 rfl ?_
    simp [wB64]
    refine Wp.loop (InvIf t h0) ?_ (n := t.length) ⟨0, by omega, by omega, by simp, by simp, by simp, by simp⟩
    rintro k σ h ⟨p, rfl, hp, s1, s2, s10, rfl⟩
    by_cases hlt : p < t.length
    · obtain ⟨c, ec⟩ : ∃ c, t[p]? = some c := ⟨_, List.getElem?_eq_getElem hlt⟩
      have next : ∀ (σ' : Slots) (g : Heap), prC c = true → σ' 1 = σ 1 → σ' 2 = σ 2 → σ' 10 = σ 10 → g = h0 ++ [.siter t (p + 1)] → ∃ m, m < t.length - p ∧ InvIf t h0 m σ' g := by
        intro σ' g q0 q1 q2 q3 q4
        refine ⟨t.length - (p + 1), by omega, p + 1, rfl, fun j d hj hd => ?_, by rw [q1, s1], by rw [q2, s2], by rw [q3, s10], q4⟩
        by_cases e : j = p
        · subst e; rw [ec] at hd; injection hd with hd; subst hd; exact q0
        · exact hp j d (by omega) hd
      have bad : ¬ prC c = true → t.all prC = false := by
        intro q
        rw [List.all_eq_false]
        exact ⟨c, List.mem_of_getElem? ec, q⟩
      by_cases h128 : c.toNat < 128
      · have hdec := decode_low t p c ec h128
        by_cases hpr : prC c = true
        · have ho : odd (c.toNat : Int) = false := by
            unfold prC okC at hpr
            unfold odd
            simp at hpr ⊢
            have h34 : ¬ c.toNat = 34 := fun e => hpr.2 (UInt8.toNat_inj.1 e)
            omega
          simp [-getElem?_pos, wL64_0, s1, s2, s10, hlt, hdec, odd_ok, ho]
          exact next _ _ hpr (by simp) (by simp) (by simp) (by simp)
        · have ho : odd (c.toNat : Int) = true := by
            unfold prC okC at hpr
            unfold odd
            simp at hpr ⊢
            by_cases h1 : 32 ≤ c.toNat
            · by_cases h2 : c.toNat ≤ 126
              · have := hpr h1 h2
                subst this
                simp
              · omega
            · omega
          have := bad hpr
          simp [-getElem?_pos, wL64_0, s1, s2, s10, hlt, hdec, odd_ok, ho, this]
          exact ⟨_, _, ⟨rfl, rfl⟩, _, ⟨rfl, rfl⟩, by omega⟩
      · obtain ⟨g1, g2⟩ := decode_high t p c ec h128
        generalize hdec : Utf8.decode ⟨⟨t⟩⟩ p = d at *
        obtain ⟨r, w⟩ := d
        simp only at g1 g2
        have ho : odd (r : Int) = true := by unfold odd; simp; omega
        have := bad (by unfold prC okC; simp; omega)
        simp [-getElem?_pos, wL64_0, s1, s2, s10, hlt, hdec, odd_ok, ho, this]
        exact ⟨_, _, ⟨rfl, rfl⟩, _, ⟨rfl, rfl⟩, by omega⟩
    · have : t.all prC = true := by
        rw [List.all_eq_true]
        intro c hc
        obtain ⟨j, hj⟩ := List.getElem?_of_mem hc
        exact hp j c (by have := (List.getElem?_eq_some_iff.1 hj).1; omega) hj
      simp [wL64_0, wK64_0, s1, s2, s10, hlt, this]
      exact ⟨_, _, ⟨rfl, rfl⟩, _, ⟨rfl, rfl⟩, by omega⟩
  obtain ⟨x, hx, i, rfl, hi⟩ := h129
  refine ⟨i, call_of tab40 rfl (callF_wp ?_), hi⟩
  simp [wB40, hx]
end Go.Proofs.YtmmapbhhkmchcaaDoor
