/-
  dots.lines$1: the pieces of its code.
-/
import Derived.Test.YtbhdfmkcoolghaaDoorU1
import Derived.Test.YtbhdfmkcoolghaaDoorAmD
set_option linter.unusedVariables false
set_option linter.unusedSimpArgs false
namespace Go.Proofs.YtbhdfmkcoolghaaDoor
open Go Go.Am

def seqA : Code → Code
  | .seq a _ => a
  | c => c
def seqB : Code → Code
  | .seq _ b => b
  | c => c
def inner : Code → Code
  | .block _ a => a
  | .loop a => a
  | c => c
noncomputable def body25 : Code := inner (inner (Tryd.f21.body.getD .skip))
noncomputable def i0 : Code := seqA body25
noncomputable def i1 : Code := seqA (inner (seqB body25))
noncomputable def i2 : Code := seqA (seqA (seqB (inner (seqB body25))))
noncomputable def i2c : Code := seqB (seqA (seqB (inner (seqB body25))))
noncomputable def i3 : Code := seqB (seqB (inner (seqB body25)))
theorem f25_body : Tryd.f21.body = some (.block 0 (.loop (.seq i0 (.block 1 (.seq i1 (.seq (.seq i2 i2c) i3)))))) := by rfl
/-- The lines of bytes: each with whether it has an end. -/
def linesF : Nat → List UInt8 → List (List UInt8 × Bool)
  | 0, _ => []
  | n + 1, s => if s = [] then [] else match cutAt s with
    | some i => (s.take i, true) :: linesF n (s.drop (i + 2))
    | none => [(s, false)]
def linesP (s : List UInt8) : List (List UInt8 × Bool) := linesF s.length s
theorem linesF_more : ∀ (n m : Nat) (s : List UInt8), s.length ≤ n → s.length ≤ m → linesF n s = linesF m s
  | 0, m, s, h1, h2 => by
    have : s = [] := List.eq_nil_of_length_eq_zero (by omega)
    subst this
    cases m <;> simp [linesF]
  | n + 1, 0, s, h1, h2 => by
    have : s = [] := List.eq_nil_of_length_eq_zero (by omega)
    subst this
    simp [linesF]
  | n + 1, m + 1, s, h1, h2 => by
    simp only [linesF]
    split
    · rfl
    · split
      · rename_i i hc
        have := (cut_room s i hc).1
        rw [linesF_more n m (s.drop (i + 2)) (by simp; omega) (by simp; omega)]
      · rfl
theorem linesP_cut {s : List UInt8} {i : Nat} (h : cutAt s = some i) : linesP s = (s.take i, true) :: linesP (s.drop (i + 2)) := by
  have hr := (cut_room s i h).1
  have hs : s ≠ [] := by intro e; subst e; simp at hr
  unfold linesP
  obtain ⟨n, hn⟩ : ∃ n, s.length = n + 1 := ⟨s.length - 1, by omega⟩
  rw [hn]
  simp only [linesF, if_neg hs, h]
  rw [linesF_more n (s.drop (i + 2)).length _ (by simp; omega) (Nat.le_refl _)]
theorem linesP_last {s : List UInt8} (hs : s ≠ []) (h : cutAt s = none) : linesP s = [(s, false)] := by
  unfold linesP
  have : 0 < s.length := List.length_pos_iff.2 hs
  obtain ⟨n, hn⟩ : ∃ n, s.length = n + 1 := ⟨s.length - 1, by omega⟩
  rw [hn]
  simp only [linesF, if_neg hs, h]
end Go.Proofs.YtbhdfmkcoolghaaDoor
