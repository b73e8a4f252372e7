/-
  lex: bytes, runs of bytes, numbers.
-/
import Derived.Test.YtmmapbhhkmchcaaDoorS0
set_option linter.unusedVariables false
set_option linter.unusedSimpArgs false
namespace Go.Proofs.YtmmapbhhkmchcaaDoor
open Go Go.Am

def letC (c : UInt8) : Bool := decide (97 ≤ c.toNat ∧ c.toNat ≤ 122 ∨ 65 ≤ c.toNat ∧ c.toNat ≤ 90)
def digC (c : UInt8) : Bool := decide (48 ≤ c.toNat ∧ c.toNat ≤ 57)
def blkC (c : UInt8) : Bool := c == 32 || c == 9
def namC (c : UInt8) : Bool := letC c || digC c || c == 45
/-- A digit's value; 16: it is none. -/
def nib (c : UInt8) : Nat := if digC c then c.toNat - 48 else if 97 ≤ c.toNat ∧ c.toNat ≤ 102 then c.toNat - 87 else if 65 ≤ c.toNat ∧ c.toNat ≤ 70 then c.toNat - 55 else 16
/-- c | 32. -/
def low (c : UInt8) : Nat := (c ||| 32).toNat

theorem or32 (c : UInt8) : bitsOp .or .u8 (c.toNat : Int) 32 = (low c : Int) := by
  revert c
  apply forall_u8
  decide +kernel
theorem low_let (c : UInt8) : (97 ≤ low c ∧ low c ≤ 122) = (letC c = true) := by
  apply propext
  revert c
  apply forall_u8
  decide +kernel
theorem low_hex (c : UInt8) : (97 ≤ low c ∧ low c ≤ 102) = (97 ≤ c.toNat ∧ c.toNat ≤ 102 ∨ 65 ≤ c.toNat ∧ c.toNat ≤ 70) := by
  apply propext
  revert c
  apply forall_u8
  decide +kernel
theorem low_val (c : UInt8) (h : 97 ≤ low c ∧ low c ≤ 102) : digC c = false ∧ low c - 87 = nib c := by
  revert c
  apply forall_u8
  decide +kernel
theorem nib_le (c : UInt8) : nib c ≤ 16 := by
  revert c
  apply forall_u8
  decide +kernel

theorem blank_ok (c : UInt8) (h : Heap) : M.call 29 [.int .u8 c.toNat] h = some (.bool (blkC c), h) := by
  refine call_of tab29 rfl (callF_wp ?_)
  have e1 := u8_eq c 32 (by omega)
  have e2 := u8_eq c 9 (by omega)
  simp at e1 e2
  by_cases h1 : c = 32 <;> by_cases h2 : c = 9 <;> simp [wB29, e1, e2, h1, h2, blkC]
theorem letter_ok (c : UInt8) (h : Heap) : M.call 30 [.int .u8 c.toNat] h = some (.bool (letC c), h) := by
  refine call_of tab30 rfl (callF_wp ?_)
  have e := low_let c
  by_cases h1 : 97 ≤ low c
  · have h1' : 97 ≤ (low c : Int) := by omega
    by_cases h2 : low c ≤ 122
    · have h2' : (low c : Int) ≤ 122 := by omega
      have e' : letC c = true := e ▸ ⟨h1, h2⟩
      simp [wB30, or32, h1', h2', e']
    · have h2' : ¬ (low c : Int) ≤ 122 := by omega
      have e' : letC c = false := by
        cases hl : letC c with
        | false => rfl
        | true => rw [hl] at e; exact absurd (e ▸ rfl : 97 ≤ low c ∧ low c ≤ 122).2 h2
      simp [wB30, or32, h1', h2', e']
  · have h1' : ¬ 97 ≤ (low c : Int) := by omega
    have e' : letC c = false := by
      cases hl : letC c with
      | false => rfl
      | true => rw [hl] at e; exact absurd (e ▸ rfl : 97 ≤ low c ∧ low c ≤ 122).1 h1
    simp [wB30, or32, h1', e']
theorem digit_ok (c : UInt8) (h : Heap) : M.call 48 [.int .u8 c.toNat] h = some (.bool (digC c), h) := by
  refine call_of tab48 rfl (callF_wp ?_)
  unfold digC
  by_cases h1 : 48 ≤ c.toNat
  · have h1' : 48 ≤ (c.toNat : Int) := by omega
    by_cases h2 : c.toNat ≤ 57
    · have h2' : (c.toNat : Int) ≤ 57 := by omega
      simp [wB48, h1, h2, h1', h2']
    · have h2' : ¬ (c.toNat : Int) ≤ 57 := by omega
      simp [wB48, h1, h2, h1', h2']
  · have h1' : ¬ 48 ≤ (c.toNat : Int) := by omega
    simp [wB48, h1, h1']
theorem nibble_ok (c : UInt8) (h : Heap) : M.call 72 [.int .u8 c.toNat] h = some (.int .i64 (nib c), h) := by
  refine call_of tab72 rfl (callF_wp ?_)
  have hc := c.toNat_lt
  cases hd : digC c with
  | true =>
    have h1 : 48 ≤ c.toNat ∧ c.toNat ≤ 57 := by simpa [digC] using hd
    have w1 : IntKind.wrap .u8 ((c.toNat : Int) - 48) = ((c.toNat - 48 : Nat) : Int) := by rw [wrap8 (by omega) (by omega)]; omega
    have w2 : IntKind.wrap .i64 ((c.toNat - 48 : Nat) : Int) = ((c.toNat - 48 : Nat) : Int) := wrap64 (by omega) (by omega)
    simp [wB72, digit_ok, hd, w1, w2, nib]
  | false =>
    have hl := low_val c
    have hh := low_hex c
    by_cases h1 : 97 ≤ low c
    · have h1' : 97 ≤ (low c : Int) := by omega
      by_cases h2 : low c ≤ 102
      · have h2' : (low c : Int) ≤ 102 := by omega
        have w1 : IntKind.wrap .u8 ((low c : Int) - 97) = ((low c - 97 : Nat) : Int) := by rw [wrap8 (by omega) (by omega)]; omega
        have w2 : IntKind.wrap .i64 ((low c - 97 : Nat) : Int) = ((low c - 97 : Nat) : Int) := wrap64 (by omega) (by omega)
        have w3 : IntKind.wrap .i64 (((low c - 97 : Nat) : Int) + 10) = (nib c : Int) := by 
          have := (hl ⟨h1, h2⟩).2
          rw [wrap64 (by omega) (by omega)]; omega
        simp [wB72, digit_ok, hd, or32, h1', h2', w1, w2, w3]
      · have h2' : ¬ (low c : Int) ≤ 102 := by omega
        have hn : nib c = 16 := by
          have : ¬ (97 ≤ c.toNat ∧ c.toNat ≤ 102 ∨ 65 ≤ c.toNat ∧ c.toNat ≤ 70) := by rw [← hh]; omega
          unfold nib; rw [hd]
          rw [if_neg (by simp), if_neg (by omega), if_neg (by omega)]
        simp [wB72, digit_ok, hd, or32, h1', h2', hn]
    · have h1' : ¬ 97 ≤ (low c : Int) := by omega
      have hn : nib c = 16 := by
        have : ¬ (97 ≤ c.toNat ∧ c.toNat ≤ 102 ∨ 65 ≤ c.toNat ∧ c.toNat ≤ 70) := by rw [← hh]; omega
        unfold nib; rw [hd]
        rw [if_neg (by simp), if_neg (by omega), if_neg (by omega)]
      simp [wB72, digit_ok, hd, or32, h1', hn]

def runN (p : UInt8 → Bool) (s : List UInt8) : Nat := (s.takeWhile p).length
theorem runN_le (p : UInt8 → Bool) (s : List UInt8) : runN p s ≤ s.length := by unfold runN; exact (List.takeWhile_prefix p).length_le
theorem runN_get {p : UInt8 → Bool} : ∀ {s : List UInt8} {i : Nat} {c : UInt8}, i < runN p s → s[i]? = some c → p c = true
  | [], i, c, h, hc => by simp at hc
  | x :: s, i, c, h, hc => by
    unfold runN at h
    by_cases hx : p x = true
    · match i with
      | 0 => simp at hc; subst hc; exact hx
      | i + 1 =>
        simp [hx] at h
        exact runN_get (s := s) (i := i) h (by simpa using hc)
    · simp [hx] at h
theorem runN_end {p : UInt8 → Bool} : ∀ {s : List UInt8} {c : UInt8}, s[runN p s]? = some c → p c = false
  | [], c, hc => by simp at hc
  | x :: s, c, hc => by
    unfold runN at hc
    by_cases hx : p x = true
    · simp [hx] at hc
      exact runN_end (s := s) hc
    · simp [hx] at hc
      subst hc
      simpa using hx

def InvR (s : List UInt8) (g : FuncId) (caps : List AV) (p : UInt8 → Bool) (h0 : Heap) (k : Nat) (σ : Slots) (h : Heap) : Prop := ∃ i, i ≤ runN p s ∧ k = runN p s - i ∧ σ 0 = .str s ∧ σ 1 = .fn g caps ∧ σ 5 = .int .i64 i ∧ h = h0

theorem run_ok (s : List UInt8) (g : FuncId) (caps : List AV) (p : UInt8 → Bool) (h0 : Heap) (hs : s.length ≤ 1000000000) (hp : ∀ c ∈ s, M.call g (.int .u8 c.toNat :: caps) h0 = some (.bool (p c), h0)) :
    M.call 28 [.str s, .fn g caps] h0 = some (.int .i64 (runN p s), h0) := by
  refine call_of tab28 rfl (callF_wp ?_)
  simp [wB28]
  refine Wp.loop (InvR s g caps p h0) ?_ (n := runN p s) ⟨0, by omega, by omega, by simp, by simp, by simp, rfl⟩
  rintro k σ h ⟨i, hi, rfl, s0, s1, s5, rfl⟩
  have hle := runN_le p s
  by_cases hlt : i < s.length
  · obtain ⟨c, ec⟩ : ∃ c, s[i]? = some c := ⟨_, List.getElem?_eq_getElem hlt⟩
    have hcall := hp c (List.mem_of_getElem? ec)
    have e64 : IntKind.wrap .i64 ((i : Int) + 1) = ((i + 1 : Nat) : Int) := by rw [wrap64 (by omega) (by omega)]; rfl
    by_cases hr : i < runN p s
    · rw [runN_get hr ec] at hcall
      simp [-getElem?_pos, wL28_0, s0, s1, s5, hlt, ec, hcall, e64]
      exact ⟨runN p s - (i + 1), by omega, i + 1, by omega, rfl, by simp [s0], by simp [s1], by simp, rfl⟩
    · have hir : i = runN p s := by omega
      subst hir
      rw [runN_end ec] at hcall
      simp [-getElem?_pos, wL28_0, wK28_0, s0, s1, s5, hlt, ec, hcall]
  · have hir : i = runN p s := by omega
    simp [wL28_0, wK28_0, s0, s1, s5, hlt, hir]
    have : ¬ runN p s < s.length := by omega
    simp [this, hir, wK28_0, s5]

/-- What digits say. -/
def numN (base : Nat) (s : List UInt8) : Nat := s.foldl (fun n c => n * base + nib c) 0
theorem numN_le (base : Nat) (hb : base ≤ 16) (s : List UInt8) : numN base s + 2 ≤ 18 ^ (s.length + 1) := by
  have : ∀ (s : List UInt8) (n k : Nat), n + 2 ≤ 18 ^ (k + 1) → s.foldl (fun n c => n * base + nib c) n + 2 ≤ 18 ^ (k + s.length + 1) := by
    intro s
    induction s with
    | nil => intro n k h; simpa using h
    | cons c s ih =>
      intro n k h
      have hn := nib_le c
      have h1 : n * base ≤ n * 16 := Nat.mul_le_mul_left n hb
      have h2 : n * base + nib c + 2 ≤ 18 ^ (k + 1 + 1) := by rw [Nat.pow_succ 18 (k + 1)]; have : 18 ≤ 18 ^ (k + 1) := by rw [Nat.pow_succ]; exact Nat.le_mul_of_pos_left 18 (Nat.pow_pos (by omega))
                                                              omega
      have := ih _ (k + 1) h2
      simp only [List.foldl_cons, List.length_cons]
      rw [show k + (s.length + 1) + 1 = k + 1 + s.length + 1 by omega]
      exact this
  simpa [numN] using this s 0 0 (by omega)

def InvN (s : List UInt8) (base : Nat) (h0 : Heap) (k : Nat) (σ : Slots) (h : Heap) : Prop := ∃ i, i ≤ s.length ∧ k = s.length - i ∧ σ 0 = .str s ∧ σ 1 = .int .i64 base ∧ σ 8 = .int .i64 s.length ∧ σ 5 = .int .i64 (numN base (s.take i)) ∧ σ 9 = .int .i64 i ∧ h = h0

theorem number_ok (s : List UInt8) (base : Nat) (h0 : Heap) (hs : s.length ≤ 8) (hb : base ≤ 16) : M.call 68 [.str s, .int .i64 base] h0 = some (.int .i64 (numN base s), h0) := by
  refine call_of tab68 rfl (callF_wp ?_)
  simp [wB68]
  refine Wp.loop (InvN s base h0) ?_ (n := s.length) ⟨0, by omega, by omega, by simp, by simp, by simp, by simp [numN], by simp, rfl⟩
  rintro k σ h ⟨i, hi, rfl, s0, s1, s8, s5, s9, rfl⟩
  by_cases hlt : i < s.length
  · obtain ⟨c, ec⟩ : ∃ c, s[i]? = some c := ⟨_, List.getElem?_eq_getElem hlt⟩
    have e64 : IntKind.wrap .i64 ((i : Int) + 1) = ((i + 1 : Nat) : Int) := by rw [wrap64 (by omega) (by omega)]; rfl
    have hn := numN_le base hb (s.take i)
    have hp : 18 ^ ((s.take i).length + 1) ≤ 18 ^ 9 := Nat.pow_le_pow_right (by omega) (by simp; omega)
    have hm : numN base (s.take i) * base ≤ numN base (s.take i) * 16 := Nat.mul_le_mul_left _ hb
    have hnb := nib_le c
    have hst : numN base (s.take (i + 1)) = numN base (s.take i) * base + nib c := by simp [numN, List.take_add_one, ec]
    generalize numN base (s.take i) = n at *
    have w1 : IntKind.wrap .i64 ((n : Int) * base) = ((n * base : Nat) : Int) := by rw [wrap64 (by omega) (by omega)]; simp
    have w2 : IntKind.wrap .i64 (((n * base : Nat) : Int) + (nib c : Int)) = ((n * base + nib c : Nat) : Int) := by rw [wrap64 (by omega) (by omega)]; simp
    simp [-getElem?_pos, -Int.natCast_mul, wL68_0, s0, s1, s8, s5, s9, hlt, ec, nibble_ok, e64, w1, w2]
    exact ⟨s.length - (i + 1), by omega, i + 1, by omega, rfl, by simp [s0], by simp [s1], by simp [s8], by rw [hst]; simp, by simp, rfl⟩
  · have : s.take i = s := List.take_of_length_le (by omega)
    rw [this] at s5
    simp [wL68_0, wK68_0, s8, s5, s9, hlt]
end Go.Proofs.YtmmapbhhkmchcaaDoor
