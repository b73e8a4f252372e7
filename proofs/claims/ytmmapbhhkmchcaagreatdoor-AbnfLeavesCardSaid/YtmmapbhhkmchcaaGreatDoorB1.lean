/-
  The reference: names, trees alone, leaves.
-/
import Derived.Test.YtmmapbhhkmchcaaGreatDoorA14
set_option linter.unusedVariables false
set_option linter.unusedSimpArgs false
namespace Go.Proofs.YtmmapbhhkmchcaaGreatDoor
open Go Go.Am

theorem rdigit_ok (c : UInt8) (h : Heap) : M.call 89 [.int .u8 c.toNat] h = some (.bool (digC c), h) := by
  refine call_of tab89 rfl (callF_wp ?_)
  by_cases h1 : 48 ≤ c.toNat <;> by_cases h2 : c.toNat ≤ 57 <;> simp [wB89, digC, h1, h2, lit_le, le_lit]

def InvRn (s : List UInt8) (h0 : Heap) (k : Nat) (σ : Slots) (h : Heap) : Prop := ∃ i, 1 ≤ i ∧ i ≤ s.length ∧ k = s.length - i ∧ namedP s = (s.drop i).all nmC ∧ σ 0 = .str s ∧ σ 3 = .int .i64 i ∧ h = h0
theorem rnamed_ok (s : List UInt8) (hs : s.length ≤ 1000000000) (h0 : Heap) : M.call 46 [.str s] h0 = some (.bool (namedP s), h0) := by
  refine call_of tab46 rfl (callF_wp ?_)
  match s, hs with
  | [], _ => simp [wB46, namedP]
  | c :: s, hs =>
    have hne : ¬ ((s.length : Int) + 1 = 0) := by omega
    generalize hQ : (fun e σ h => isEnd e ∧ ∃ vs, resVals σ h [ARes.tmp 2] = some vs ∧ finish h0 h (oneOf vs) = some (.bool (namedP (c :: s)), h0)) = Q
    have fin : ∀ (σ : Slots) (b : Bool), σ 2 = .bool b → b = namedP (c :: s) → Q .ret σ h0 := by
      intro σ b s2 hb
      subst hQ
      subst hb
      simp [s2]
    have loop : lowC c = true → ∀ σ, σ 0 = .str (c :: s) → σ 3 = .int .i64 1 → Wp M (.loop L46_0) (blkQ 0 (thenQ (Wp M K46_0 Q) Q)) σ h0 := by
      intro hl σ s0 s3
      refine Wp.loop (InvRn (c :: s) h0) ?_ (n := s.length) ⟨1, by omega, by simp, by simp, by simp [namedP, hl], s0, s3, rfl⟩
      clear s0 s3 σ
      rintro k σ h ⟨i, hi1, hi, rfl, hn, s0, s3, rfl⟩
      generalize c :: s = t at *
      by_cases hlt : i < t.length
      · obtain ⟨d, ed⟩ : ∃ d, t[i]? = some d := ⟨_, List.getElem?_eq_getElem hlt⟩
        have hd := drop_at ed
        have e64 : IntKind.wrap .i64 ((i : Int) + 1) = ((i + 1 : Nat) : Int) := by rw [wrap64 (by omega) (by omega)]; rfl
        have e45 : ((d.toNat : Int) = 45) = (d = 45) := u8_eq d 45 (by omega)
        rw [hd] at hn
        have next : ∀ (σ' : Slots) (g : Heap), nmC d = true → σ' 0 = σ 0 → σ' 3 = .int .i64 ((i + 1 : Nat) : Int) → g = h → ∃ m, m < t.length - i ∧ InvRn t h m σ' g := fun σ' g q1 q2 q3 q4 => ⟨t.length - (i + 1), by omega, i + 1, by omega, by omega, rfl, by rw [hn]; simp [q1], by rw [q2, s0], q3, q4⟩
        have bad : nmC d = false → namedP t = false := fun q => by rw [hn]; simp [q]
        have other : lowC d = false → ∀ (c1 c2 : Prop), (c1 = (d.toNat < 97)) → (c2 = (122 < d.toNat)) → (d.toNat < 97 ∨ 122 < d.toNat) → Wp M L46_0 (thenQ (fun σ' h' => ∃ m, m < t.length - i ∧ InvRn t h m σ' h') (blkQ 0 (thenQ (Wp M K46_0 Q) Q))) σ h := by
          intro hlo _ _ _ _ hor
          by_cases b1 : d.toNat < 97
          · cases hg : digC d with
            | true =>
              simp [-getElem?_pos, -Int.natCast_add, wL46_0, s0, s3, hlt, ed, lit_lt, lt_lit, b1, rdigit_ok, hg, e64]
              refine next _ _ (by simp [nmC, hg]) ?_ ?_ rfl <;> simp
            | false =>
              by_cases h45 : d = 45
              · have e45' := e45.trans (eq_true h45)
                simp [-getElem?_pos, -Int.natCast_add, wL46_0, s0, s3, hlt, ed, lit_lt, lt_lit, b1, rdigit_ok, hg, e64, e45']
                refine next _ _ (by simp [nmC, h45]) ?_ ?_ rfl <;> simp
              · have e45' := e45.trans (eq_false h45)
                have hb := bad (by simp [nmC, hlo, hg, h45])
                simp [-getElem?_pos, -Int.natCast_add, wL46_0, s0, s3, hlt, ed, lit_lt, lt_lit, b1, rdigit_ok, hg, e64, e45']
                exact fin _ false (by simp) hb.symm
          · have b2 : 122 < d.toNat := by omega
            cases hg : digC d with
            | true =>
              simp [-getElem?_pos, -Int.natCast_add, wL46_0, s0, s3, hlt, ed, lit_lt, lt_lit, b1, b2, rdigit_ok, hg, e64]
              refine next _ _ (by simp [nmC, hg]) ?_ ?_ rfl <;> simp
            | false =>
              by_cases h45 : d = 45
              · subst h45; simp at b2
              · have e45' := e45.trans (eq_false h45)
                have hb := bad (by simp [nmC, hlo, hg, h45])
                simp [-getElem?_pos, -Int.natCast_add, wL46_0, s0, s3, hlt, ed, lit_lt, lt_lit, b1, b2, rdigit_ok, hg, e64, e45']
                exact fin _ false (by simp) hb.symm
        by_cases a1 : 97 ≤ d.toNat
        · by_cases a2 : d.toNat ≤ 122
          · have b1 : ¬ d.toNat < 97 := by omega
            have b2 : ¬ 122 < d.toNat := by omega
            simp [-getElem?_pos, -Int.natCast_add, wL46_0, s0, s3, hlt, ed, lit_lt, lt_lit, b1, b2, e64]
            refine next _ _ (by simp [nmC, lowC, a1, a2]) ?_ ?_ rfl <;> simp
          · exact other (by simp [lowC]; omega) _ _ rfl rfl (by omega)
        · exact other (by simp [lowC]; omega) _ _ rfl rfl (by omega)
      · have : namedP t = true := by rw [hn, List.drop_eq_nil_of_le (by omega)]; rfl
        simp [wL46_0, wK46_0, s0, s3, hlt]
        exact fin _ true (by simp) this.symm
    by_cases a1 : 97 ≤ c.toNat
    · by_cases a2 : c.toNat ≤ 122
      · have b1 : ¬ c.toNat < 97 := by omega
        have b2 : ¬ 122 < c.toNat := by omega
        simp [wB46, hne, lit_lt, lt_lit, b1, b2]
        refine loop (by simp [lowC, a1, a2]) _ ?_ ?_ <;> simp
      · have b1 : ¬ c.toNat < 97 := by omega
        have b2 : 122 < c.toNat := by omega
        simp [wB46, hne, lit_lt, lt_lit, b1, b2]
        exact fin _ false (by simp) (by simp [namedP, lowC, a2])
    · have b1 : c.toNat < 97 := by omega
      simp [wB46, hne, lit_lt, lt_lit, b1]
      exact fin _ false (by simp) (by simp [namedP, lowC, a1])
end Go.Proofs.YtmmapbhhkmchcaaGreatDoor
