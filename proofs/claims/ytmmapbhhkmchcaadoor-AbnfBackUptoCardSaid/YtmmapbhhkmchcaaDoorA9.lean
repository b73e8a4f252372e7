/-
  abnf: row.
-/
import Derived.Test.YtmmapbhhkmchcaaDoorA8
set_option linter.unusedVariables false
set_option linter.unusedSimpArgs false
namespace Go.Proofs.YtmmapbhhkmchcaaDoor
open Go Go.Am

def z7 : List AV := [.int .u8 0, .str [], .int .u8 0, .int .u8 0, .int .i64 0, .int .i64 0, .list 7 [] .full]
def begL : List UInt8 := [9, 1, 10, 11, 12, 5, 7]
theorem begL_eq (k : UInt8) : begL.contains k = begins k := by
  have h : ∀ n : Fin 256, begL.contains (UInt8.ofNat n) = begins (UInt8.ofNat n) := by decide +kernel
  exact forall_u8 (p := fun k => begL.contains k = begins k) h k
/-- The answer of a part of the reader, of a heap told apart. -/
def PR (l : List Tok) (rt : Rt) (g : Heap) (r : Nat) (p : Pr) (x : AV × Heap) : Prop := match p with
  | .ok t n => x = (t.enc, HH g r (stC l rt n false))
  | .bad q => ∃ t : Tr, x = (t.enc, HH g r (stC l rt q true))
theorem CC_of {f : FuncId} {l : List Tok} {rt : Rt} {r a : Nat} {p : Pr} (k : ∀ g : Heap, r < g.length → (∀ t, rt = .tok t → t < g.length) → ∃ x, M.call f [.ptr r 0] (HH g r (stC l rt a false)) = some x ∧ PR l rt g r p x) : CC f l rt r a p := by
  cases p with
  | ok t n =>
    intro h hr hrt
    obtain ⟨g, rfl, hlt⟩ := HH_of hr
    obtain ⟨x, h1, rfl⟩ := k g hlt (by simpa using hrt)
    rw [h1, HH_set0]
  | bad q =>
    refine CC_bad fun h hr hrt => ?_
    obtain ⟨g, rfl, hlt⟩ := HH_of hr
    obtain ⟨x, h1, t, rfl⟩ := k g hlt (by simpa using hrt)
    exact ⟨t, by rw [h1, HH_set0]⟩

/-- A list of kids under way. -/
structure InK (l : List Tok) (rt : Rt) (g : Heap) (r : Nat) (E : TypeId) (σ : Slots) (h : Heap) (a : Nat) (off : Bool) (ks : List Tr) (rk : Rt) : Prop where
  ne : ks ≠ []
  len : ks.length ≤ l.length + 1
  tok : 2 ≤ ks.length → ∃ t, rk = .tok t ∧ g.length ≤ t
  s0 : σ 0 = .ptr r 0
  s2 : σ 2 = .ptr g.length 0
  s3 : σ 3 = .list 7 (ks.map Tr.enc) rk
  ow : Ow (g.length + 1) h 7 E rk ks.length
  ht : h.take (g.length + 1) = HH g r (stC l rt a off) ++ [.cells z7]
theorem InK.hl {l rt g r E σ h a off ks rk} (k : InK l rt g r E σ h a off ks rk) : g.length + 1 ≤ h.length := by
  have := congrArg List.length k.ht
  simp at this
  omega
theorem InK.at {l rt g r E σ h a off ks rk} (k : InK l rt g r E σ h a off ks rk) : h[g.length]? = some (.cells z7) := by
  have := congrArg (fun l : Heap => l[g.length]?) k.ht
  simp only [List.getElem?_take, if_pos (Nat.lt_succ_self _)] at this
  rw [this]
  simp
theorem InK.take {l rt g r E σ h a off ks rk} (k : InK l rt g r E σ h a off ks rk) : h.take g.length = HH g r (stC l rt a off) := by
  have := congrArg (List.take g.length) k.ht
  rw [List.take_take, Nat.min_eq_left (by omega), List.take_left' (by simp)] at this
  exact this
theorem InK.st {l rt g r E σ h a off ks rk} (k : InK l rt g r E σ h a off ks rk) (hr : r < g.length) : h[r]? = some (stC l rt a off) := HH_of_take k.take hr
theorem InK.low {l rt g r E σ h a off ks rk} (k : InK l rt g r E σ h a off ks rk) : ∀ t, rk = .tok t → t < h.length := by
  intro t ht
  rcases k.ow with q | ⟨t', q1, q2, q3⟩
  · rw [q] at ht; cases ht
  · rw [q1] at ht; injection ht with ht; subst ht
    exact (List.getElem?_eq_some_iff.1 q3).1
theorem joinT_enc (k : UInt8) : ∀ ks : List Tr, ks ≠ [] → 2 ≤ ks.length → joinT k ks = rowT k ks
  | [], h, _ => absurd rfl h
  | [_], _, h => by simp at h
  | _ :: _ :: _, _, _ => rfl
theorem row_enc (k : UInt8) (ks : List Tr) : (rowT k ks).encL = [.int .u8 k.toNat, .str [], .int .u8 0, .int .u8 0, .int .i64 0, .int .i64 0, .list 7 (ks.map Tr.enc) .no] := by
  rw [Tr.encL_eq]; simp [rowT, Tr.k, Tr.s, Tr.lo, Tr.hi, Tr.mn, Tr.mx, Tr.kids, Tr.full]
theorem joined_all (k : UInt8) (ks : List Tr) (hne : ks ≠ []) (rk : Rt) (n : Nat) (h2 : 2 ≤ ks.length → ∃ t, rk = .tok t ∧ n ≤ t) : ∃ cs : List AV, cs.length = 7 ∧ (∀ h : Heap, (∀ t, rk = .tok t → t < h.length) → M.call 59 [.int .u8 k.toNat, .list 7 (ks.map Tr.enc) rk] h = some (.agg cs, h)) ∧ ∀ q, cleans q n cs = some (joinT k ks).encL := by
  match ks, hne with
  | [t], hne =>
    refine ⟨t.encL, by simp, fun h hr => ?_, fun q => by simp [joinT]⟩
    rw [joined_ok k [t] hne rk h hr]
    rfl
  | x :: y :: ks, hne =>
    obtain ⟨t, rfl, ht⟩ := h2 (by simp)
    refine ⟨[.int .u8 k.toNat, .str [], .int .u8 0, .int .u8 0, .int .i64 0, .int .i64 0, .list 7 ((x :: y :: ks).map Tr.enc) (.tok t)], rfl, fun h hr => ?_, fun q => ?_⟩
    · rw [joined_ok k _ hne _ h hr]
    · have e : joinT k (x :: y :: ks) = rowT k (x :: y :: ks) := rfl
      rw [e, row_enc]
      have := trs_low n (x :: y :: ks)
      have h3 : ¬ t < n := by omega
      simp only [cleans_cons, clean1_tok, if_pos this, if_neg h3]
      simp [cleans, cleans_cons]
end Go.Proofs.YtmmapbhhkmchcaaDoor
