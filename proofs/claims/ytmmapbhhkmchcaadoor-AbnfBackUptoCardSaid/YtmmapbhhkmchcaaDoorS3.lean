/-
  lex: quoted texts, values.
-/
import Derived.Test.YtmmapbhhkmchcaaDoorS2
set_option linter.unusedVariables false
set_option linter.unusedSimpArgs false
namespace Go.Proofs.YtmmapbhhkmchcaaDoor
open Go Go.Am

theorem get_bang (l : List UInt8) (i : Nat) (c : UInt8) (h : l[i]? = some c) : (⟨⟨l⟩⟩ : ByteArray).get! i = c := by
  have h1 : (⟨⟨l⟩⟩ : ByteArray).get! i = (⟨l⟩ : Array UInt8)[i]! := rfl
  rw [h1]
  obtain ⟨hi, he⟩ := List.getElem?_eq_some_iff.1 h
  rw [getElem!_pos (⟨l⟩ : Array UInt8) i (by simpa using hi)]
  simpa using he
theorem decode_low (l : List UInt8) (i : Nat) (c : UInt8) (h : l[i]? = some c) (hc : c.toNat < 128) : Utf8.decode ⟨⟨l⟩⟩ i = (c.toNat, 1) := by
  unfold Utf8.decode
  simp only [Nat.add_zero, get_bang l i c h]
  rw [if_pos hc]
theorem decode_high (l : List UInt8) (i : Nat) (c : UInt8) (h : l[i]? = some c) (hc : ¬ c.toNat < 128) : 128 ≤ (Utf8.decode ⟨⟨l⟩⟩ i).1 ∧ 1 ≤ (Utf8.decode ⟨⟨l⟩⟩ i).2 := by
  unfold Utf8.decode
  simp only [Nat.add_zero, get_bang l i c h]
  rw [if_neg hc]
  have hr : Utf8.runeError = 65533 := rfl
  split
  · split
    · rename_i h1; simp only at h1 ⊢; omega
    · rw [hr]; simp
  · split
    · split
      · rename_i h1; simp only [Bool.and_eq_true, decide_eq_true_eq] at h1 ⊢; omega
      · rw [hr]; simp
    · split
      · split
        · rename_i h1; simp only [Bool.and_eq_true, decide_eq_true_eq] at h1 ⊢; omega
        · rw [hr]; simp
      · rw [hr]; simp

def InvC (t : List UInt8) (b0 : Bool) (h0 : Heap) (k : Nat) (σ : Slots) (h : Heap) : Prop := ∃ p v, k = t.length - p ∧ (v && (t.drop p).all okC) = (b0 && t.all okC) ∧ σ 2 = .ptr h0.length 0 ∧ σ 3 = .str t ∧ σ 16 = .it (h0.length + 1) ∧ σ 5 = .bool v ∧
  h = h0 ++ [.cells [.int .u8 0, .int .i64 0, .str [], .int .i64 0, .int .i64 0, .int .u8 0, .int .u8 0, .int .i64 0, .int .i64 0], .siter t p]

theorem chars_ok (s : List UInt8) (h1 : 1 ≤ s.length) (hs : s.length ≤ 1000000000) (h0 : Heap) : M.call 50 [.str s] h0 = some (fdA (charsP s), h0) := by
  refine call_of tab50 rfl (callF_wp ?_)
  have hc := fun h => cut_ok s.tail 34 (by simp; omega) h
  have hcl : (cutB s.tail 34).length ≤ s.length := by
    have := (List.takeWhile_prefix (l := s.tail) (· != 34)).length_le
    unfold cutB
    simp at this ⊢
    omega
  unfold charsP
  simp only
  generalize cutB s.tail 34 = t at *
  generalize (if 34 ∈ s.tail then s.tail.drop (t.length + 1) else []) = tl at *
  generalize hres : fdA (if 34 ∈ s.tail ∧ t.all okC = true then ({ tok := { kind := 10, text := t }, n := t.length + 2 } : Fd) else { err := 14 }) = res
  have h1' : (1 : Int) ≤ s.length := by omega
  simp [wB50, hc, h1', h1, Nat.add_assoc]
  refine Wp.loop (InvC t (decide (34 ∈ s.tail)) h0) ?_ (n := t.length) ⟨0, decide (34 ∈ s.tail), by omega, by simp, by simp, by simp, by simp, by simp, rfl⟩
  rintro k σ h ⟨p, v, rfl, hv, s2, s3, s16, s5, rfl⟩
  by_cases hlt : p < t.length
  · obtain ⟨c, ec⟩ : ∃ c, t[p]? = some c := ⟨_, List.getElem?_eq_getElem hlt⟩
    have hd : t.drop p = c :: t.drop (p + 1) := by
      obtain ⟨_, he⟩ := List.getElem?_eq_some_iff.1 ec
      rw [← he]; exact List.drop_eq_getElem_cons hlt
    have next : ∀ (σ' : Slots) (g : Heap) (w : Nat) (v' : Bool), 1 ≤ w → (v' && (t.drop (p + w)).all okC) = (v && (t.drop p).all okC) → σ' 2 = σ 2 → σ' 3 = σ 3 → σ' 16 = σ 16 → σ' 5 = .bool v' →
        g = h0 ++ [.cells [.int .u8 0, .int .i64 0, .str [], .int .i64 0, .int .i64 0, .int .u8 0, .int .u8 0, .int .i64 0, .int .i64 0], .siter t (p + w)] → ∃ m, m < t.length - p ∧ InvC t (decide (34 ∈ s.tail)) h0 m σ' g :=
      fun σ' g w v' a0 a1 a2 a3 a4 a5 a6 => ⟨t.length - (p + w), by omega, p + w, v', rfl, by rw [a1, hv], by rw [a2, s2], by rw [a3, s3], by rw [a4, s16], a5, a6⟩
    by_cases h128 : c.toNat < 128
    · have hdec := decode_low t p c ec h128
      cases v with
      | false =>
        simp [wL50_0, s2, s3, s16, s5, hlt, hdec]
        exact next _ _ 1 false (by omega) (by simp) (by simp) (by simp) (by simp) (by simp) rfl
      | true =>
        by_cases k1 : 32 ≤ c.toNat
        · have k1' : 32 ≤ (c.toNat : Int) := by omega
          by_cases k2 : c.toNat ≤ 126
          · have k2' : (c.toNat : Int) ≤ 126 := by omega
            simp [wL50_0, s2, s3, s16, s5, hlt, hdec, k1', k2']
            exact next _ _ 1 true (by omega) (by simp [hd, okC, k1, k2]) (by simp) (by simp) (by simp) (by simp) rfl
          · have k2' : ¬ (c.toNat : Int) ≤ 126 := by omega
            simp [wL50_0, s2, s3, s16, s5, hlt, hdec, k1', k2']
            exact next _ _ 1 false (by omega) (by simp [hd, okC, k1, k2]) (by simp) (by simp) (by simp) (by simp) rfl
        · have k1' : ¬ 32 ≤ (c.toNat : Int) := by omega
          simp [wL50_0, s2, s3, s16, s5, hlt, hdec, k1']
          exact next _ _ 1 false (by omega) (by simp [hd, okC, k1]) (by simp) (by simp) (by simp) (by simp) rfl
    · have hdec := decode_high t p c ec h128
      generalize hde : Utf8.decode ⟨⟨t⟩⟩ p = de at *
      obtain ⟨r, w⟩ := de
      simp only at hdec
      have k1' : 32 ≤ (r : Int) := by omega
      have k2' : ¬ (r : Int) ≤ 126 := by omega
      have hno : okC c = false := by unfold okC; apply decide_eq_false; omega
      cases v with
      | false =>
        simp [wL50_0, s2, s3, s16, s5, hlt, hde]
        exact next _ _ w false hdec.2 (by simp) (by simp) (by simp) (by simp) (by simp) rfl
      | true =>
        simp [wL50_0, s2, s3, s16, s5, hlt, hde, k1', k2']
        exact next _ _ w false hdec.2 (by simp [hd, hno]) (by simp) (by simp) (by simp) (by simp) rfl
  · have hdr : t.drop p = [] := List.drop_of_length_le (by omega)
    rw [hdr] at hv
    simp at hv
    have w1 : IntKind.wrap .i64 ((t.length : Int) + 2) = (t.length : Int) + 2 := wrap64 (by omega) (by omega)
    cases v with
    | false =>
      have hf : ¬ (34 ∈ s.tail ∧ t.all okC = true) := by
        rintro ⟨a, b⟩
        simp [a] at hv
        rw [List.all_eq_true] at b
        obtain ⟨x, hx, hx2⟩ := hv
        rw [b x hx] at hx2
        cases hx2
      rw [if_neg hf] at hres
      subst hres
      simp [wL50_0, wK50_0, s2, s3, s16, s5, hlt, fdA, tokL]
    | true =>
      rw [if_pos (by simpa using hv)] at hres
      subst hres
      simp [wL50_0, wK50_0, s2, s3, s16, s5, hlt, fdA, tokL, w1]
end Go.Proofs.YtmmapbhhkmchcaaDoor
