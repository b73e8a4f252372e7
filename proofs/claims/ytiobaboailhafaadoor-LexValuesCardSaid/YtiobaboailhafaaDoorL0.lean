/-
  frankinglaw01: rows of tokens are compared; the chapter's examples.
-/
import Derived.Test.YtiobaboailhafaaDoorS8
set_option linter.unusedVariables false
set_option linter.unusedSimpArgs false
namespace Go.Proofs.YtiobaboailhafaaDoor
open Go Go.Am

theorem tok_ext {x y : Tok} (h1 : (x.kind.toNat : Int) = y.kind.toNat) (h2 : x.pos = y.pos) (h3 : x.text = y.text) (h4 : x.mn = y.mn) (h5 : x.mx = y.mx) (h6 : (x.lo.toNat : Int) = y.lo.toNat) (h7 : (x.hi.toNat : Int) = y.hi.toNat) : x = y := by
  cases x; cases y
  simp only at h1 h2 h3 h4 h5 h6 h7
  have k1 := UInt8.toNat_inj.1 (Int.ofNat_inj.1 h1)
  have k6 := UInt8.toNat_inj.1 (Int.ofNat_inj.1 h6)
  have k7 := UInt8.toNat_inj.1 (Int.ofNat_inj.1 h7)
  subst k1; subst k6; subst k7; subst h2; subst h3; subst h4; subst h5
  rfl

def InvTk (a b : List Tok) (r1 r2 : Rt) (h : Heap) (n : Nat) (σ : Slots) (h' : Heap) : Prop := ∃ i, i ≤ b.length ∧ n = b.length - i ∧ σ 0 = .list 7 (a.map tokA) r1 ∧ σ 1 = .list 7 (b.map tokA) r2 ∧ σ 12 = .int .i64 b.length ∧ σ 13 = .int .i64 i ∧ a.take i = b.take i ∧ h' = h
theorem toks_ok (a b : List Tok) (r1 r2 : Rt) (ha : a.length ≤ 1000000000) (h : Heap) : M.call 9 [.list 7 (a.map tokA) r1, .list 7 (b.map tokA) r2] h = some (.bool (decide (a = b)), h) := by
  refine call_of tab9 rfl (callF_wp ?_)
  by_cases hl : a.length = b.length
  · simp [wB9, hl]
    refine Wp.loop (InvTk a b r1 r2 h) ?_ (n := b.length) ⟨0, by omega, by omega, by simp, by simp, by simp, by simp, by simp, rfl⟩
    rintro n σ h' ⟨i, hi, rfl, s0, s1, s12, s13, ht, rfl⟩
    have e64 : IntKind.wrap .i64 ((i : Int) + 1) = ((i + 1 : Nat) : Int) := by rw [wrap64 (by omega) (by omega)]; rfl
    by_cases hlt : i < b.length
    · have hla : i < a.length := by omega
      obtain ⟨x, ex⟩ : ∃ x, a[i]? = some x := ⟨_, List.getElem?_eq_getElem hla⟩
      obtain ⟨y, ey⟩ : ∃ y, b[i]? = some y := ⟨_, List.getElem?_eq_getElem hlt⟩
      by_cases hxy : x = y
      · subst hxy
        simp [-getElem?_pos, -Int.natCast_add, wL9_0, s0, s1, s12, s13, hlt, hla, ex, ey, tokA, tokL, e64]
        refine ⟨b.length - (i + 1), by omega, i + 1, by omega, rfl, by simp [s0], by simp [s1], by simp [s12], by simp, ?_, rfl⟩
        rw [List.take_add_one, List.take_add_one, ht, ex, ey]
      · have hab : ¬ a = b := fun e => by subst e; rw [ex] at ey; injection ey with ey; exact hxy ey
        simp [-getElem?_pos, -Int.natCast_add, wL9_0, s0, s1, s12, s13, hlt, hla, ex, ey, tokA, tokL, e64]
        split
        · simp [hab]
        · rename_i heq
          exfalso
          apply hxy
          simp only [not_or, Decidable.not_not] at heq
          exact tok_ext (by omega) heq.2.1 heq.2.2.1 heq.2.2.2.1 heq.2.2.2.2.1 (by omega) (by omega)
    · simp [wL9_0, wK9_0, s0, s1, s12, s13, hlt]
      rw [List.take_of_length_le (by omega), List.take_of_length_le (by omega)] at ht
      exact ht
  · have hab : ¬ a = b := fun e => hl (by rw [e])
    simp [wB9, hl, hab]
    try omega

def akT (t : Tok) : Tok := { t with pos := 0 }
theorem ak_ext {x y : Tok} (h1 : (x.kind.toNat : Int) = y.kind.toNat) (h3 : x.text = y.text) (h4 : x.mn = y.mn) (h5 : x.mx = y.mx) (h6 : (x.lo.toNat : Int) = y.lo.toNat) (h7 : (x.hi.toNat : Int) = y.hi.toNat) : akT x = akT y := tok_ext h1 rfl h3 h4 h5 h6 h7
def InvAk (a b : List Tok) (r1 r2 : Rt) (h : Heap) (n : Nat) (σ : Slots) (h' : Heap) : Prop := ∃ i, i ≤ b.length ∧ n = b.length - i ∧ σ 0 = .list 7 (a.map tokA) r1 ∧ σ 1 = .list 7 (b.map tokA) r2 ∧ σ 14 = .int .i64 b.length ∧ σ 15 = .int .i64 i ∧ (a.map akT).take i = (b.map akT).take i ∧ h'.take h.length = h
theorem alike_ok (a b : List Tok) (r1 r2 : Rt) (ha : a.length ≤ 1000000000) (h : Heap) : M.call 10 [.list 7 (a.map tokA) r1, .list 7 (b.map tokA) r2] h = some (.bool (decide (a.map akT = b.map akT)), h) := by
  refine call_of tab10 rfl (callF_wp ?_)
  by_cases hl : a.length = b.length
  · simp [wB10, hl]
    refine Wp.loop (InvAk a b r1 r2 h) ?_ (n := b.length) ⟨0, by omega, by omega, by simp, by simp, by simp, by simp, by simp, by simp⟩
    rintro n σ h' ⟨i, hi, rfl, s0, s1, s12, s13, ht, hh⟩
    have hle : h.length ≤ h'.length := by have := congrArg List.length hh; simp at this; omega
    have e64 : IntKind.wrap .i64 ((i : Int) + 1) = ((i + 1 : Nat) : Int) := by rw [wrap64 (by omega) (by omega)]; rfl
    by_cases hlt : i < b.length
    · have hla : i < a.length := by omega
      obtain ⟨x, ex⟩ : ∃ x, a[i]? = some x := ⟨_, List.getElem?_eq_getElem hla⟩
      obtain ⟨y, ey⟩ : ∃ y, b[i]? = some y := ⟨_, List.getElem?_eq_getElem hlt⟩
      simp [-getElem?_pos, -Int.natCast_add, wL10_0, s0, s1, s12, s13, hlt, hla, ex, ey, tokA, tokL, e64, Nat.add_assoc]
      split
      · rename_i hne
        have hab : ¬ a.map akT = b.map akT := fun e => by
          have e2 := congrArg (fun l => l[i]?) e
          simp only [List.getElem?_map, ex, ey, Option.map_some, Option.some.injEq, akT, Tok.mk.injEq, true_and] at e2
          obtain ⟨g1, g3, g4, g5, g6, g7⟩ := e2
          simp [g1, g3, g4, g5, g6, g7] at hne
        rw [finish_of_take (by rw [take_app hle, hh])]
        simp [hab]
      · rename_i heq
        simp only [not_or, Decidable.not_not] at heq
        have hk := ak_ext heq.1 heq.2.1 heq.2.2.1 heq.2.2.2.1 heq.2.2.2.2.1 heq.2.2.2.2.2
        refine ⟨b.length - (i + 1), by omega, i + 1, by omega, rfl, by simp [s0], by simp [s1], by simp [s12], by simp, ?_, by rw [take_app hle, hh]⟩
        rw [List.take_add_one, List.take_add_one, ht, List.getElem?_map, List.getElem?_map, ex, ey, Option.map_some, Option.map_some, hk]
    · simp [wL10_0, wK10_0, s0, s1, s12, s13, hlt, finish_of_take hh]
      rw [List.take_of_length_le (by simp; omega), List.take_of_length_le (by simp; omega)] at ht
      exact ht
  · have hab : ¬ a.map akT = b.map akT := fun e => hl (by simpa using congrArg List.length e)
    simp [wB10, hl, hab]
    try omega
end Go.Proofs.YtiobaboailhafaaDoor
