/-
  internal/strconv.formatBits, of bytes.
-/
import Derived.Test.YtiobaboailhafaaDoorF0
set_option linter.unusedVariables false
set_option linter.unusedSimpArgs false
set_option maxRecDepth 20000
namespace Go.Proofs.YtiobaboailhafaaDoor
open Go Go.Am

def digits36 : List UInt8 := [48, 49, 50, 51, 52, 53, 54, 55, 56, 57, 97, 98, 99, 100, 101, 102, 103, 104, 105, 106, 107, 108, 109, 110, 111, 112, 113, 114, 115, 116, 117, 118, 119, 120, 121, 122]
theorem digits36_all : ((List.range 36).all fun n => digits36[n]? == some (dg n)) = true := by decide +kernel
theorem digits36_at (n : Nat) (h : n < 36) : digits36[n]? = some (dg n) := by
  have := List.all_eq_true.1 digits36_all n (List.mem_range.2 h)
  simpa using this
/-- What is left to write, and what is written. -/
def InvB (base u0 : Nat) (sh mk : Nat) (h0 : Heap) (k : Nat) (σ : Slots) (h : Heap) : Prop := ∃ i u cs, k = u ∧ 57 ≤ i ∧ i ≤ 65 ∧ u * 2 ^ (65 - i) < 256 ∧ σ 1 = .int .u64 (u : Nat) ∧ σ 13 = .int .i64 (i : Nat) ∧ σ 3 = .bool false ∧ σ 4 = .bool false ∧ σ 10 = .list 1 [] .full ∧ σ 12 = .ptr h0.length 0 ∧ σ 14 = .int .u64 (sh : Nat) ∧ σ 15 = .int .u64 (base : Nat) ∧ σ 16 = .int .u64 (mk : Nat) ∧
  h = h0 ++ [.cells cs] ∧ cs.length = 65 ∧ ∃ suf : List UInt8, cs.drop i = ofBytes suf ∧ fmtF (i - 56) base u ++ suf = fmtP base u0
theorem bits_ok (base : Nat) (sh mk : Nat) (u0 : Nat) (hu : u0 < 256) (hbase : 2 ≤ base ∧ base ≤ 36) (h10 : base ≠ 10) (hp : ∀ h, M.call 55 [.int .i64 base] h = some (.bool true, h)) (ht : ∀ h, M.call 56 [.int .u64 base] h = some (.int .i64 sh, h))
    (hw : IntKind.wrap .u64 (base : Int) = base) (hw2 : IntKind.wrap .u64 (sh : Int) = sh) (hmk : IntKind.wrap .u64 ((base : Int) - 1) = mk) (hand : ∀ u : Nat, u < 256 → bitsOp .and .u64 (u : Int) (mk : Int) = ((u % base : Nat) : Int)) (hshr : ∀ u : Nat, u < 256 → abin .shr (.int .u64 (u : Int)) (.int .u64 (sh : Int)) = some (.int .u64 ((u / base : Nat) : Int))) (h0 : Heap) :
    M.call 29 [.list 1 [] .full, .int .u64 u0, .int .i64 base, .bool false, .bool false] h0 = some (.tup [.list 1 [] .full, .str (fmtP base u0)], h0) := by
  refine call_of tab29 rfl (callF_wp ?_)
  have b1 : ¬ (base : Int) < 2 := by omega
  have b2 : ¬ (base : Int) = 10 := by omega
  have b3 : ¬ (36 : Int) < base := by omega
  simp [wB29, b1, b2, b3, hp, ht, hw, hw2, hmk]
  refine Wp.loop (InvB base u0 sh mk h0) ?_ (n := u0) ⟨65, u0, List.replicate 65 (.int .u8 0), rfl, by omega, by omega, by simpa using hu, by simp, by simp, by simp, by simp, by simp, by simp, by simp, by simp, by simp, by simp [List.replicate], by simp, [], by simp, by simp [fmtP]⟩
  rintro k σ h ⟨i, u, cs, rfl, hi1, hi2, hub, s1, s13, s3, s4, s10, s12, s14, s15, s16, rfl, hcs, suf, hd, hf⟩
  obtain ⟨i, rfl⟩ : ∃ i', i = i' + 1 := ⟨i - 1, by omega⟩
  have hp2 : 1 ≤ 2 ^ (65 - (i + 1)) := Nat.one_le_two_pow
  have hu2 : k < 256 := by
    have := Nat.le_mul_of_pos_right k hp2
    omega
  have w1 : IntKind.wrap .i64 (((i + 1 : Nat) : Int) - 1) = (i : Int) := by rw [wrap64 (by omega) (by omega)]; omega
  have w1' : IntKind.wrap .i64 ((i : Int) + 1 - 1) = (i : Int) := w1
  have w2 : IntKind.wrap .i64 (i : Int) = (i : Int) := wrap64 (by omega) (by omega)
  have hlt : i < 65 := by omega
  have hne : ¬ 65 = i := by omega
  have hle : i ≤ 65 := by omega
  have hcs2 : (cs.take i ++ AV.int .u8 0 :: cs.drop (i + 1)).length = 65 := by simp; omega
  by_cases hge : base ≤ k
  · have hge' : (base : Int) ≤ k := by omega
    have hmod : k % base < 36 := Nat.lt_of_lt_of_le (Nat.mod_lt _ (by omega)) hbase.2
    have hdg := digits36_at _ hmod
    unfold digits36 at hdg
    have ha := hand k hu2
    have hs := hshr k hu2
    have hi57 : 57 ≤ i := by
      rcases Nat.lt_or_ge i 57 with hc | hc
      · have : i = 56 := by omega
        subst this
        have : (2 : Nat) ^ (65 - (56 + 1)) = 256 := by decide
        rw [this] at hub
        omega
      · exact hc
    obtain ⟨d, hdd⟩ : ∃ d, d = k % base := ⟨_, rfl⟩
    obtain ⟨q, hq⟩ : ∃ q, q = k / base := ⟨_, rfl⟩
    rw [← hdd] at hmod hdg ha
    rw [← hq] at hs
    have hfs : fmtF (i + 1 - 56) base k = fmtF (i - 56) base q ++ [dg d] := by
      obtain ⟨f, hf⟩ : ∃ f, i + 1 - 56 = f + 1 := ⟨i - 56, by omega⟩
      have : i - 56 = f := by omega
      rw [hf, this, fmtF, if_neg (by omega), hq, hdd]
    have hqk : q * 2 ≤ k := by
      rw [hq]
      exact Nat.le_trans (Nat.mul_le_mul_left _ hbase.1) (Nat.div_mul_le_self k base)
    have hpw : 2 ^ (65 - i) = 2 * 2 ^ (65 - (i + 1)) := by
      rw [show 65 - i = (65 - (i + 1)) + 1 by omega, Nat.pow_succ, Nat.mul_comm]
    have hub2 : q * 2 ^ (65 - i) < 256 := by
      rw [hpw, ← Nat.mul_assoc]
      exact Nat.lt_of_le_of_lt (Nat.mul_le_mul_right _ hqk) hub
    have hcl : i ≤ cs.length := by omega
    simp [-getElem?_pos, wL29_0, s1, s13, s3, s4, s12, s14, s15, s16, hge', w1, w1', w2, ha, hs, hdg, hcs, hlt]
    have hdr : (cs.take i ++ AV.int .u8 ((dg d).toNat : Int) :: cs.drop (i + 1)).drop i = AV.int .u8 ((dg d).toNat : Int) :: cs.drop (i + 1) := by
      have : (cs.take i).length = i := by simp; omega
      conv => lhs; rw [← this]
      rw [this, List.drop_append, this]
      simp [List.drop_eq_nil_of_le, this]
    refine ⟨by omega, by omega, q, by omega, i, q, _, rfl, hi57, by omega, hub2, by simp, by simp, by simp [s3], by simp [s4], by simp [s10], by simp [s12], by simp [s14], by simp [s15], by simp [s16], rfl, by simp; omega, dg d :: suf, ?_, ?_⟩
    · rw [hdr, hd]
      simp [ofBytes]
    · rw [← hf, hfs]
      simp
  · have hlt' : ¬ (base : Int) ≤ k := by omega
    have hk36 : k < 36 := by omega
    have hdg := digits36_at _ hk36
    unfold digits36 at hdg
    have hi57 : 57 ≤ i + 1 := hi1
    simp [-getElem?_pos, wL29_0, wK29_0, wK29_2, s1, s13, s3, s4, s10, s12, s14, s15, s16, hlt', w1, w1', w2, hdg, hcs, hlt, hne, hle]
    have hfin : fmtP base u0 = dg k :: suf := by
      obtain ⟨f, hf1⟩ : ∃ f, i + 1 - 56 = f + 1 := ⟨i - 56, by omega⟩
      rw [← hf, hf1, fmtF, if_pos (by omega)]
      rfl
    have htk : List.take (65 - i) (AV.int .u8 ((dg k).toNat : Int) :: cs.drop (i + 1)) = ofBytes (dg k :: suf) := by
      rw [List.take_of_length_le (by simp; omega), hd]
      simp [ofBytes]
    rw [htk, hfin]
    refine ⟨by omega, by omega, by omega, ?_⟩
    simp
end Go.Proofs.YtiobaboailhafaaDoor
