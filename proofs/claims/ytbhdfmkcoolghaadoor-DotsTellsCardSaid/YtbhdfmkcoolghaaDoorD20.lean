/-
  DotsTells: the law.
-/
import Derived.Test.YtbhdfmkcoolghaaDoorD19
set_option linter.unusedVariables false
set_option linter.unusedSimpArgs false
namespace Go.Proofs.YtbhdfmkcoolghaaDoor
open Go Go.Am Go.RowKit

theorem enc_len (s : List UInt8) : (encP s).length ≤ 4 * s.length + 3 := by
  have := encL_len s.length s
  show (encL (linesF s.length s) ++ [46, 13, 10]).length ≤ _
  simp
  omega
theorem tail1' {s : List UInt8} {rs : Rt} {v v2 : AV} {n n2 k k2 : Nat} {h0 : Heap} {σ : Slots} {h : Heap} {Q : Ex → Slots → Heap → Prop} (hn : n ≤ 1000000) (hn2 : n2 ≤ 1000000) (hk : h0.length ≤ k) (hk2 : h0.length ≤ k2) (hkk : v = .list 1 [] .no ∨ k ≠ k2) (hQ : ∀ σ' h', σ' 4 = .bool true → h'.take h0.length = h0 → Q .ret σ' h')
    (hi : InvT s rs v v2 n n2 k k2 h0 n σ h) : Wp (lim XL T) (AC.loop L3_0) (blkQ 0 (thenQ (Wp (lim XL T) K3_1 Q) Q)) σ h := by
  have := tail1 hn hn2 hk hk2 hkk hQ hi
  simp at this
  exact this
theorem tells_ok (l s : List UInt8) (rs : Rt) (hl : l.length ≤ 9223372036854775807) (hs : s.length ≤ 9223372036854775807) (h0 : Heap) : ML.call 3 [.str l, .list 1 (ofBytes s) rs] h0 = some (.bool true, h0) := by
  refine lim_call_of tab3 (XL_none (by decide) (by decide) (by decide) (by decide) _ _) (callF_wp ?_)
  have aw := fun h => awake_ok h
  by_cases h1 : l.length ≤ 3000
  · by_cases h2 : s.length ≤ 3000
    · have n1 : ¬ (3000 < (l.length : Int)) := by omega
      have n2 : ¬ (3000 < (s.length : Int)) := by omega
      have f1 := fun h => unstuff_ok noxL l h
      have f2 := fun h => runstuff_ok l (by omega) h
      have f3 := fun h => stuff_ok noxL l (by omega) h
      have f4 := fun h => rstuff_ok l (by omega) h
      have f5 := fun h => decM s rs (by omega) h
      have f6 := fun h => refDec_ok s rs (by omega) h
      have f7 := fun h => encM s rs (by omega) h
      have f8 := fun h => refEnc_ok s rs (by omega) h
      have el := enc_len s
      unfold decA at f5
      unfold refA at f6
      cases hp : decP s with
      | none =>
        rw [hp] at f5 f6
        simp only at f5 f6
        simp [wB3, n1, n2, f1, f2, f3, f4, f5, f6, f7, f8, show asBytes [] = some [] from rfl]
        refine tail1' (s := s) (rs := rs) (v := .list 1 [] .no) (v2 := .gl 1 h0.length (encP s).length) (n := 0) (n2 := (encP s).length) (k := h0.length) (k2 := h0.length) (by omega) (by omega) (Nat.le_refl _) (Nat.le_refl _) (.inl rfl) (fun σ' h' e ht => ⟨by simp [isEnd], by rw [e, finish_of_take ht]; simp⟩) ⟨0, by omega, by omega, by simp, by simp, by simp, by simp, by simp, by simp, .inl ⟨rfl, rfl⟩, .inr ⟨rfl, _, by simp; rfl, by simp, u8s_bytes _⟩, by simp⟩
      | some x =>
        obtain ⟨b, n⟩ := x
        rw [hp] at f5 f6
        simp only at f5 f6
        have hbl : b.length ≤ s.length := (again_all hp).2.2.2.2.2.2
        by_cases hb : b = []
        · subst hb
          simp only [if_true] at f5
          simp [wB3, n1, n2, f1, f2, f3, f4, f5, f6, f7, f8, show asBytes [] = some [] from rfl]
          refine tail1' (s := s) (rs := rs) (v := .list 1 [] .no) (v2 := .gl 1 h0.length (encP s).length) (n := 0) (n2 := (encP s).length) (k := h0.length) (k2 := h0.length) (by omega) (by omega) (Nat.le_refl _) (Nat.le_refl _) (.inl rfl) (fun σ' h' e ht => ⟨by simp [isEnd], by rw [e, finish_of_take ht]; simp⟩) ⟨0, by omega, by omega, by simp, by simp, by simp, by simp, by simp, by simp, .inl ⟨rfl, rfl⟩, .inr ⟨rfl, _, by simp; rfl, by simp, u8s_bytes _⟩, by simp⟩
        · simp only [if_neg hb] at f5
          simp [wB3, n1, n2, f1, f2, f3, f4, f5, f6, f7, f8, show asBytes [] = some [] from rfl]
          refine tail1' (s := s) (rs := rs) (v := .gl 1 h0.length b.length) (v2 := .gl 1 (h0.length + 1) (encP s).length) (n := b.length) (n2 := (encP s).length) (k := h0.length) (k2 := h0.length + 1) (by omega) (by omega) (Nat.le_refl _) (by omega) (.inr (by omega)) (fun σ' h' e ht => ⟨by simp [isEnd], by rw [e, finish_of_take ht]; simp⟩) ⟨0, by omega, by omega, by simp, by simp, by simp, by simp, by simp, by simp, .inr ⟨rfl, _, by simp; rfl, by simp, u8s_bytes _⟩, .inr ⟨rfl, _, by simp; rfl, by simp, u8s_bytes _⟩, by simp⟩
    · have n1 : ¬ (3000 < (l.length : Int)) := by omega
      have n2 : (3000 < (s.length : Int)) := by omega
      simp [wB3, n1, n2, aw]
  · have n1 : (3000 < (l.length : Int)) := by omega
    simp [wB3, n1, aw]
theorem DotsTells_law (xs : List AV) (h : HasArgs Tryd.prog [9, 22] xs) : (lim XL T).call 3 xs [] = some (.bool true, []) := by
  obtain ⟨a0, r0, n0, rfl, h0, h⟩ := h
  obtain ⟨a1, r1, n1, rfl, h1, h⟩ := h
  obtain rfl := args_nil h
  obtain ⟨l, rfl, hl⟩ := has_str Tryd.underlying9 h0
  obtain ⟨s, rfl, hs⟩ := has_bytes Tryd.underlying22 Tryd.underlying5 (by kernel_rfl) h1
  exact tells_ok l s _ hl hs []
end Go.Proofs.YtbhdfmkcoolghaaDoor
