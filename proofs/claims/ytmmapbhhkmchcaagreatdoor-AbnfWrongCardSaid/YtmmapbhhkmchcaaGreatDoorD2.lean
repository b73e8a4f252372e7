/-
  abnf: how often, and digits.
-/
import Derived.Test.YtmmapbhhkmchcaaGreatDoorD1
set_option linter.unusedVariables false
set_option linter.unusedSimpArgs false
namespace Go.Proofs.YtmmapbhhkmchcaaGreatDoor
open Go Go.Am

theorem dec_len : ∀ (k n : Nat), n < 10 ^ k → 1 ≤ k → (Lib.decDigits n).length ≤ k
  | 0, n, h, h1 => by omega
  | 1, n, h, h1 => by rw [Lib.decDigits, dif_pos (by omega)]; simp
  | k + 2, n, h, h1 => by
    rw [Lib.decDigits]
    split
    · simp
    · have := dec_len (k + 1) (n / 10) (by rw [Nat.div_lt_iff_lt_mul (by omega)]; rw [Nat.pow_succ] at h; exact h) (by omega)
      simp
      omega
theorem dec_len4 {n : Nat} (h : n ≤ 9999) : (Lib.decDigits n).length ≤ 4 := dec_len 4 n (by omega) (by omega)
def manyP (mn mx : Int) : List UInt8 := if mn = mx then Lib.itoa mn else (if 0 < mn then Lib.itoa mn else []) ++ 42 :: (if 0 ≤ mx then Lib.itoa mx else [])
theorem itoa_len4 {n : Int} (h0 : 0 ≤ n) (h : n ≤ 9999) : (Lib.itoa n).length ≤ 4 := by
  unfold Lib.itoa
  rw [if_neg (by omega)]
  exact dec_len4 (by omega)
theorem many_len {mn mx : Int} (h1 : 0 ≤ mn) (h2 : mn ≤ 9999) (h4 : mx ≤ 9999) : (manyP mn mx).length ≤ 9 := by
  have a1 := itoa_len4 h1 h2
  unfold manyP
  split
  · omega
  · split <;> split
    · rename_i q
      have := itoa_len4 q h4
      simp; omega
    · simp; omega
    · rename_i q
      have := itoa_len4 q h4
      simp; omega
    · simp
theorem many_ok (mn mx : Int) (h1 : 0 ≤ mn) (h2 : mn ≤ 9999) (h3 : -1 ≤ mx) (h4 : mx ≤ 9999) (h : Heap) : M.call 87 [.int .i64 mn, .int .i64 mx] h = some (.str (manyP mn mx), h) := by
  refine call_of tab87 rfl (callF_wp ?_)
  have i1 := fun h => itoa_ok mn (by omega) (by omega) h
  have i2 := fun h => itoa_ok mx (by omega) (by omega) h
  have a1 := itoa_len4 h1 h2
  have b1 : (Lib.itoa mn).length + 1 ≤ 140737488355328 := by omega
  unfold manyP
  by_cases c1 : 0 < mn
  · by_cases c2 : mn = mx
    · rw [← c2]
      simp [wB87, wJ87_0, wJ87_1, i1, c1, b1]
    · by_cases c3 : 0 ≤ mx
      · have a2 := itoa_len4 c3 h4
        have b2 : (Lib.itoa mn).length + (1 + (Lib.itoa mx).length) ≤ 140737488355328 := by omega
        simp [wB87, wJ87_0, wJ87_1, i1, i2, c1, c2, c3, b1, b2, Nat.add_assoc]
      · simp [wB87, wJ87_0, wJ87_1, i1, i2, c1, c2, c3, b1]
  · by_cases c2 : mn = mx
    · rw [← c2]
      simp [wB87, wJ87_0, wJ87_1, i1, c1, b1]
    · by_cases c3 : 0 ≤ mx
      · have a2 := itoa_len4 c3 h4
        have b2 : 1 + (Lib.itoa mx).length ≤ 140737488355328 := by omega
        simp [wB87, wJ87_0, wJ87_1, i1, i2, c1, c2, c3, b2]
      · simp [wB87, wJ87_0, wJ87_1, i1, i2, c1, c2, c3]

def InvDg (n : Nat) (h0 : Heap) (k : Nat) (σ : Slots) (h : Heap) : Prop := ∃ (m : Nat) (s : List UInt8), m = k ∧ m ≤ 9999 ∧ Lib.decDigits n = Lib.decDigits m ++ s ∧ σ 0 = .int .i64 (m : Nat) ∧ σ 3 = .str s ∧ h = h0
def dgB (m : Nat) : UInt8 := UInt8.ofNat (48 + m)
theorem dgt_eq {m : Nat} (h : m ≤ 9) : IntKind.wrap .u8 (48 + (m : Int)) = ((dgB m).toNat : Int) := by
  unfold dgB
  rw [UInt8.toNat_ofNat', Nat.mod_eq_of_lt (by omega), wrap8 (by omega) (by omega)]
  omega
theorem digits_ok (n : Nat) (hn : n ≤ 9999) (h0 : Heap) : M.call 91 [.int .i64 n] h0 = some (.str (Lib.decDigits n), h0) := by
  refine call_of tab91 rfl (callF_wp ?_)
  have hl := dec_len4 hn
  simp [wB91]
  refine Wp.loop (InvDg n h0) ?_ (n := n) ⟨n, [], rfl, hn, by simp, by simp, by simp, rfl⟩
  rintro k σ h ⟨m, s, hkm, hm, he, s0, s3, rfl⟩
  subst hkm
  have hsl : s.length ≤ 4 := by
    have := congrArg List.length he
    simp at this
    omega
  have b1 : 1 + s.length ≤ 140737488355328 := by omega
  by_cases hc : 9 < m
  · have tm : (m : Int).tmod 10 = ((m % 10 : Nat) : Int) := rfl
    have tq : (m : Int).tdiv 10 = ((m / 10 : Nat) : Int) := rfl
    have hc' : (9 : Int) < m := by omega
    have w1 : IntKind.wrap .i64 (48 + ((m % 10 : Nat) : Int)) = 48 + ((m % 10 : Nat) : Int) := wrap64 (by omega) (by omega)
    have w2 := dgt_eq (m := m % 10) (by omega)
    have w3 : IntKind.wrap .i64 ((m / 10 : Nat) : Int) = ((m / 10 : Nat) : Int) := wrap64 (by omega) (by omega)
    have hd : Lib.decDigits m = Lib.decDigits (m / 10) ++ [dgB (m % 10)] := by rw [Lib.decDigits, dif_neg (by omega)]; rfl
    rw [hd, List.append_assoc, List.singleton_append] at he
    have ab : asBytes [AV.int .u8 (dgB (m % 10)).toNat] = some [dgB (m % 10)] := asBytes_ofBytes [dgB (m % 10)]
    simp [-Int.natCast_add, -Int.natCast_emod, -Int.natCast_ediv, -UInt8.toNat_ofNat', wL91_0, s0, s3, hc, hc', tm, tq, w1, w2, w3, ab, b1]
    exact ⟨m / 10, by omega, m / 10, _, rfl, by omega, he, by simp, by simp, rfl⟩
  · have hc' : ¬ (9 : Int) < m := by omega
    have w1 : IntKind.wrap .i64 (48 + (m : Int)) = 48 + (m : Int) := wrap64 (by omega) (by omega)
    have w2 := dgt_eq (m := m) (by omega)
    have hd : Lib.decDigits m = [dgB m] := by rw [Lib.decDigits, dif_pos (by omega)]; rfl
    rw [hd, List.singleton_append] at he
    have ab : asBytes [AV.int .u8 (dgB m).toNat] = some [dgB m] := asBytes_ofBytes [dgB m]
    simp [-Int.natCast_add, -UInt8.toNat_ofNat', wL91_0, wK91_0, s0, s3, hc, hc', w1, w2, ab, b1, he]
end Go.Proofs.YtmmapbhhkmchcaaGreatDoor
