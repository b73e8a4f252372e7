/-
  LexWhole, plainly: what stands where a token is.
-/
import Derived.Test.YtiobaboailhafaaL1
set_option linter.unusedVariables false
set_option linter.unusedSimpArgs false
namespace Go.Proofs.Ytiobaboailhafaa
open Go Go.Am

def signB (k : UInt8) : List UInt8 := if k = 2 then [61] else if k = 3 then [61, 47] else if k = 4 then [47] else if k = 5 then [40] else if k = 6 then [41] else if k = 7 then [91] else if k = 8 then [93] else if k = 12 ∨ k = 11 then [37] else []
/-- What stands there. -/
def stands (q : List UInt8) (t : Tok) : Prop :=
  if t.kind = 1 then t.text ≠ [] ∧ t.text <+: q
  else if t.kind = 10 then (34 :: t.text ++ [34]) <+: q
  else if t.kind = 9 then (∃ c, q[0]? = some c ∧ (c = 42 ∨ digC c = true)) ∧ 0 ≤ t.mn ∧ t.mn ≤ 9999 ∧ -1 ≤ t.mx ∧ t.mx ≤ 9999 ∧ ¬ (t.mx ≥ 0 ∧ t.mx < t.mn)
  else if t.kind = 13 then True
  else signB t.kind ≠ [] ∧ signB t.kind <+: q
def stp (st : Int × Bool) (t : Tok) : Int × Bool := (if t.kind = 13 then t.pos else t.pos + 1, t.kind == 13)
def stOf (out : List Tok) : Int × Bool := out.foldl stp (0, true)
def chkT (s : List UInt8) (st : Int × Bool) (t : Tok) : Prop := st.1 ≤ t.pos ∧ t.pos ≤ s.length ∧ (st.2 = true → t.kind = 1) ∧ stands (s.drop t.pos.toNat) t
def chkA (s : List UInt8) (out : List Tok) : Prop := ∀ i t, out[i]? = some t → chkT s (stOf (out.take i)) t

theorem chkA_snoc {s : List UInt8} {out : List Tok} {t : Tok} (h : chkA s out) (ht : chkT s (stOf out) t) : chkA s (out ++ [t]) := by
  intro i u hu
  rcases Nat.lt_trichotomy i out.length with hl | hl | hl
  · rw [List.getElem?_append_left hl] at hu
    rw [List.take_append_of_le_length (by omega)]
    exact h i u hu
  · subst hl
    simp at hu
    subst hu
    simpa using ht
  · rw [List.getElem?_eq_none (by simp; omega)] at hu
    cases hu
theorem stOf_snoc (out : List Tok) (t : Tok) : stOf (out ++ [t]) = stp (stOf out) t := by simp [stOf]
theorem stands_pre {q q' : List UInt8} {t : Tok} (h : stands q t) (hq : q <+: q') : stands q' t := by
  unfold stands at h ⊢
  by_cases h1 : t.kind = 1
  · rw [if_pos h1] at h ⊢
    exact ⟨h.1, h.2.trans hq⟩
  rw [if_neg h1] at h ⊢
  by_cases h2 : t.kind = 10
  · rw [if_pos h2] at h ⊢
    exact h.trans hq
  rw [if_neg h2] at h ⊢
  by_cases h3 : t.kind = 9
  · rw [if_pos h3] at h ⊢
    obtain ⟨⟨c, k1, k2⟩, k3⟩ := h
    refine ⟨⟨c, ?_, k2⟩, k3⟩
    obtain ⟨r, rfl⟩ := hq
    rw [List.getElem?_append_left (List.getElem?_eq_some_iff.1 k1).1]
    exact k1
  rw [if_neg h3] at h ⊢
  by_cases h4 : t.kind = 13
  · rw [if_pos h4]; trivial
  rw [if_neg h4] at h ⊢
  exact ⟨h.1, h.2.trans hq⟩
end Go.Proofs.Ytiobaboailhafaa
