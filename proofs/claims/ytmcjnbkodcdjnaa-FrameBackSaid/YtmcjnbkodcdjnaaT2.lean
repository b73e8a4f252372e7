import Derived.Test.YtmcjnbkodcdjnaaT1
set_option linter.unusedVariables false
set_option linter.unusedSimpArgs false
namespace Go.Proofs.Ytmcjnbkodcdjnaa
open Go Go.Am

def lnA (x : List UInt8 × Bool) : AV := .agg [.str x.1, .bool x.2]

theorem same_ok (X : CallO) (hX : ∀ a h, X 9 a h = none) (a b : List (List UInt8 × Bool)) (r1 r2 : Rt) (ha : a.length ≤ 1000000) (hb : b.length ≤ 1000000) (h : Heap) :
    (lim X T).call 9 [.list 2 (a.map lnA) r1, .list 2 (b.map lnA) r2] h = some (.bool (decide (a = b)), h) := by
  refine lim_call_of tab9 (hX _ _) (callF_wp ?_)
  by_cases hl : a.length = b.length
  · simp [wB9, hl]
    refine Wp.loop (fun n σ h' => ∃ i, i ≤ b.length ∧ n = b.length - i ∧ σ 0 = .list 2 (a.map lnA) r1 ∧ σ 1 = .list 2 (b.map lnA) r2 ∧ σ 12 = .int .i64 b.length ∧ σ 13 = .int .i64 i ∧ a.take i = b.take i ∧ h' = h) ?_ (n := b.length) ⟨0, by simp, by simp, by simp, by simp, by simp, by simp, by simp, rfl⟩
    rintro n σ h' ⟨i, hi, rfl, s0, s1, s12, s13, ht, rfl⟩
    by_cases hlt : i < b.length
    · have hla : i < a.length := by omega
      simp [wL9_0, wK9_0, s0, s1, s12, s13, hlt, hla, lnA]
      split
      · rename_i hne
        intro e
        subst e
        simp at hne
      · rename_i heq
        simp only [not_or, Decidable.not_not] at heq
        refine ⟨b.length - (i + 1), by omega, i + 1, by omega, rfl, by rw [wrap64 (by omega) (by omega)]; rfl, ?_⟩
        rw [List.take_succ_eq_append_getElem hla, List.take_succ_eq_append_getElem hlt, ht]
        congr 2
        exact Prod.ext heq.1 heq.2
    · simp [wL9_0, wK9_0, s0, s1, s12, s13, hlt]
      rw [List.take_of_length_le (by omega), List.take_of_length_le (by omega)] at ht
      exact ht
  · have : ¬ a = b := fun e => hl (by rw [e])
    simp [wB9, hl, this]
    intro e
    omega
end Go.Proofs.Ytmcjnbkodcdjnaa
