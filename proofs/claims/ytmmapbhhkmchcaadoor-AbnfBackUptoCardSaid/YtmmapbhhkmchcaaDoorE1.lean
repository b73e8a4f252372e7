/-
  The law's own functions: what a text's rules are.
-/
import Derived.Test.YtmmapbhhkmchcaaDoorD5
set_option linter.unusedVariables false
set_option linter.unusedSimpArgs false
namespace Go.Proofs.YtmmapbhhkmchcaaDoor
open Go Go.Am

theorem clean1_lowR {h : Heap} {n : Nat} {v : AV} {sz : Nat} {xs : List AV} {r : Rt} (hc : clean1 h n v = some (.list sz xs r)) : ∀ t, r = .tok t → t < n := by
  intro t ht
  subst ht
  cases v with
  | list s x q =>
    simp only [clean1] at hc
    split at hc
    · cases q with
      | tok t' =>
        simp only [Option.some.injEq, AV.list.injEq] at hc
        obtain ⟨_, _, h3⟩ := hc
        split at h3
        · injection h3 with h3; omega
        · cases h3
      | no => simp at hc
      | full => simp at hc
    · cases hc
  | sl s b o m c =>
    simp only [clean1] at hc
    split at hc
    · simp at hc
    · split at hc
      · split at hc
        · simp at hc
        · split at hc
          · simp at hc
          · cases hc
      · cases hc
  | _ => simp only [clean1] at hc; split at hc <;> simp at hc
theorem clean2_lowR {h : Heap} {n : Nat} {v : AV} {sz : Nat} {xs : List AV} {r : Rt} (hc : clean2 h n v = some (.list sz xs r)) : ∀ t, r = .tok t → t < n := by
  cases v with
  | agg cs =>
    simp only [clean2] at hc
    cases e : cleans h n cs <;> simp [e] at hc
  | _ => simp only [clean2] at hc; exact clean1_lowR hc
theorem finish_lowR {h0 h1 : Heap} {v : AV} {sz : Nat} {xs : List AV} {r : Rt} {b : List AV} {h' : Heap} (hc : finish h0 h1 v = some (.tup (.list sz xs r :: b), h')) : ∀ t, r = .tok t → t < h0.length := by
  unfold finish at hc
  split at hc
  · rename_i v' hv
    split at hc
    · simp only [Option.some.injEq, Prod.mk.injEq] at hc
      obtain ⟨rfl, _⟩ := hc
      cases v with
      | tup vs =>
        simp only [clean] at hv
        cases vs with
        | nil => simp [cleans2] at hv
        | cons w ws =>
          simp only [cleans2] at hv
          split at hv
          · rename_i a c h1 h2
            simp only [Option.map_some, Option.some.injEq, AV.tup.injEq, List.cons.injEq] at hv
            obtain ⟨rfl, _⟩ := hv
            exact clean2_lowR h1
          · simp at hv
      | agg cs =>
        simp only [clean, clean2] at hv
        cases e : cleans h1 h0.length cs <;> simp [e] at hv
      | sl s b o m c =>
        simp only [clean, clean2, clean1] at hv
        split at hv
        · simp at hv
        · split at hv
          · split at hv
            · simp at hv
            · split at hv
              · simp at hv
              · cases hv
          · cases hv
      | list s x q =>
        simp only [clean, clean2, clean1] at hv
        split at hv
        · cases q <;> simp at hv
        · cases hv
      | _ => simp only [clean, clean2, clean1] at hv; split at hv <;> simp at hv
    · cases hc
  · cases hc
theorem call_lowR {f : FuncId} {B : AC} {res : List ARes} {args : List AV} {h0 : Heap} {sz : Nat} {xs : List AV} {r : Rt} {b : List AV} {h' : Heap} (hF : T f = some ⟨B, res, false⟩) (hX : XS f args h0 = none)
    (hc : M.call f args h0 = some (.tup (.list sz xs r :: b), h')) : ∀ t, r = .tok t → t < h0.length := by
  obtain ⟨k, hk⟩ := lim_call.1 hc
  cases k with
  | zero => simp [iter, hX] at hk
  | succ k =>
    simp only [iter, callX, hX, hF] at hk
    obtain ⟨ex, σ, h1, vs, hrun, hex, hvs, hend⟩ := callF_cases hk
    exact finish_lowR hend

def lexR' (res : List Tok × Int × Int) (h0 : Heap) (x : AV × Heap) : Prop := ∃ r, x = (.tup [.list 7 (res.1.map tokA) r, .int .i64 res.2.1, .int .i64 res.2.2], h0) ∧ ∀ t, r = .tok t → t < h0.length
theorem lex_ok' (src : List UInt8) (hs : src.length ≤ 1000000000) (h0 : Heap) : ∃ x, M.call 17 [.str src] h0 = some x ∧ lexR' (lexP src) h0 x := by
  obtain ⟨x, h1, r, rfl⟩ := lex_ok src hs h0
  exact ⟨_, h1, r, rfl, call_lowR tab17 rfl h1⟩
end Go.Proofs.YtmmapbhhkmchcaaDoor
