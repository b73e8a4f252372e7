/-
  internal/strconv.FormatUint, of bytes.
-/
import Derived.Test.YtiobaboailhafaaDoorF2
set_option linter.unusedVariables false
set_option linter.unusedSimpArgs false
set_option maxRecDepth 20000
namespace Go.Proofs.YtiobaboailhafaaDoor
open Go Go.Am

def len8 : List UInt8 := 0 :: 1 :: List.replicate 2 2 ++ List.replicate 4 3 ++ List.replicate 8 4 ++ List.replicate 16 5 ++ List.replicate 32 6 ++ List.replicate 64 7 ++ List.replicate 128 8
theorem len8_at (u : Nat) (h1 : 100 ≤ u) (h2 : u < 256) : len8[u]? = some (if u < 128 then 7 else 8) := by
  have : ((List.range 256).all fun u => u < 100 || (len8[u]? == some (if u < 128 then 7 else 8))) = true := by decide +kernel
  have := List.all_eq_true.1 this u (List.mem_range.2 h2)
  rw [decide_eq_false (by omega), Bool.false_or, beq_iff_eq] at this
  exact this
theorem len64_ok (u : Nat) (h1 : 100 ≤ u) (h2 : u < 256) (h0 : Heap) : M.call 53 [.int .u64 u] h0 = some (.int .i64 (if u < 128 then 7 else 8), h0) := by
  refine call_of tab53 rfl (callF_wp ?_)
  have a1 : ¬ (4294967296 : Int) ≤ u := by omega
  have a2 : ¬ (65536 : Int) ≤ u := by omega
  have a3 : ¬ (256 : Int) ≤ u := by omega
  have w1 : IntKind.wrap .u8 (u : Int) = u := by simp [IntKind.wrap, IntKind.bits, IntKind.signed]; omega
  have hl := len8_at u h1 h2
  simp [len8, List.replicate, -List.getElem?_cons_succ] at hl
  have w7 : IntKind.wrap .i64 7 = 7 := by decide
  have w8 : IntKind.wrap .i64 8 = 8 := by decide
  by_cases h : u < 128
  · rw [if_pos h] at hl
    simp [-getElem?_pos, -List.getElem?_cons_succ, wB53, a1, a2, a3, w1, hl, h, w7]
  · rw [if_neg h] at hl
    simp [-getElem?_pos, -List.getElem?_cons_succ, wB53, a1, a2, a3, w1, hl, h, w8]
theorem log_ok (n : Int) (h : n = 7 ∨ n = 8) (h0 : Heap) : M.call 52 [.int .i64 n] h0 = some (.int .i64 2, h0) := by
  refine call_of tab52 rfl (callF_wp ?_)
  have a7 : IntKind.wrap .i64 552391 = 552391 := by decide
  have a8 : IntKind.wrap .i64 631304 = 631304 := by decide
  have b7 : abin .shr (.int .i64 552391) (.int .u64 18) = some (.int .i64 2) := by rfl
  have b8 : abin .shr (.int .i64 631304) (.int .u64 18) = some (.int .i64 2) := by rfl
  rcases h with rfl | rfl
  · simp [wB52, a7, b7]
  · simp [wB52, a8, b8]
theorem bool2_ok (h0 : Heap) : M.call 54 [.bool true] h0 = some (.int .i64 1, h0) := by
  refine call_of tab54 rfl (callF_wp ?_)
  simp [wB54]
theorem nd_ok (u : Nat) (h1 : 100 ≤ u) (h2 : u < 256) (h0 : Heap) : M.call 27 [.int .u64 u] h0 = some (.int .i64 3, h0) := by
  refine call_of tab27 rfl (callF_wp ?_)
  have e1 := fun h => len64_ok u h1 h2 h
  have e2 := fun h => log_ok (if u < 128 then 7 else 8) (by split <;> simp) h
  have a1 : (100 : Int) ≤ u := by omega
  have w3 : IntKind.wrap .i64 3 = 3 := by decide
  simp [wB27, e1, e2, a1, bool2_ok, w3]
theorem smalls_at (r : Nat) (h : r < 100) : smalls[r * 2]? = some (dg (r / 10)) ∧ smalls[r * 2 + 1]? = some (dg (r % 10)) := by
  have : ((List.range 100).all fun r => smalls[r * 2]? == some (dg (r / 10)) && smalls[r * 2 + 1]? == some (dg (r % 10))) = true := by decide +kernel
  have := List.all_eq_true.1 this r (List.mem_range.2 h)
  simpa using this
theorem three (u : Nat) (h1 : 100 ≤ u) (h2 : u < 256) : fmtP 10 u = [UInt8.ofNat (48 + u / 100), dg (u % 100 / 10), dg (u % 100 % 10)] := by
  have : ((List.range 256).all fun u => u < 100 || (fmtP 10 u == [UInt8.ofNat (48 + u / 100), dg (u % 100 / 10), dg (u % 100 % 10)])) = true := by decide +kernel
  have := List.all_eq_true.1 this u (List.mem_range.2 h2)
  rw [decide_eq_false (by omega), Bool.false_or, beq_iff_eq] at this
  exact this
/-- Three digits, written. -/
theorem ten_ok (u : Nat) (h1 : 100 ≤ u) (h2 : u < 256) (k : Nat) (h : Heap) (hk : h[k]? = some (.cells (List.replicate 24 (.int .u8 0)))) :
    M.call 28 [.sl 1 k 0 3 24, .int .u64 u] h = some (.tup [], h.set k (.cells (ofBytes (fmtP 10 u) ++ List.replicate 21 (.int .u8 0)))) := by
  refine call_of tab28 rfl (callF_wpK ?_)
  have w1 : IntKind.wrap .u32 (u : Int) = u := by simp [IntKind.wrap, IntKind.bits, IntKind.signed]; omega
  simp [-getElem?_pos, wB28]
  refine Wp.loop (fun n σ h' => n = 0 ∧ σ 0 = .sl 1 k 0 3 24 ∧ σ 1 = .int .u64 (u : Nat) ∧ σ 4 = .int .i64 3 ∧ h' = h) ?_ (n := 0) ⟨rfl, by simp, by simp, by simp, rfl⟩
  rintro n σ h' ⟨rfl, s0, s1, s4, rfl⟩
  obtain ⟨hs1, hs2⟩ := smalls_at (u % 100) (Nat.mod_lt _ (by omega))
  have ht := three u h1 h2
  have hr : (u : Int).tmod 100 = ((u % 100 : Nat) : Int) := rfl
  have hq : (u : Int).tdiv 100 = ((u / 100 : Nat) : Int) := rfl
  have hrl : u % 100 < 100 := Nat.mod_lt _ (by omega)
  have hql : u / 100 < 3 := by omega
  generalize u % 100 = r at *
  generalize u / 100 = q at *
  have w2 : IntKind.wrap .u32 ((r : Int) * 2) = (r : Int) * 2 := by simp [IntKind.wrap, IntKind.bits, IntKind.signed]; omega
  have w3 : IntKind.wrap .u32 ((r : Int) * 2 + 1) = (r : Int) * 2 + 1 := by simp [IntKind.wrap, IntKind.bits, IntKind.signed]; omega
  have w4 : IntKind.wrap .u32 (q : Int) = q := by simp [IntKind.wrap, IntKind.bits, IntKind.signed]; omega
  have w5 : IntKind.wrap .u32 (48 + (q : Int)) = 48 + (q : Int) := by simp [IntKind.wrap, IntKind.bits, IntKind.signed]; omega
  have w6 : IntKind.wrap .u8 (48 + (q : Int)) = 48 + (q : Int) := by simp [IntKind.wrap, IntKind.bits, IntKind.signed]; omega
  have c5 : ((r : Int) * 2).toNat = r * 2 := by omega
  have c6 : ((r : Int) * 2 + 1).toNat = r * 2 + 1 := by omega
  have c7 : (0 : Int) ≤ (r : Int) * 2 := by omega
  have c8 : (0 : Int) ≤ (r : Int) * 2 + 1 := by omega
  have i2 : IntKind.wrap .i64 2 = 2 := by decide
  have i1 : IntKind.wrap .i64 1 = 1 := by decide
  rw [ht]
  simp [-getElem?_pos, -List.getElem?_cons_succ, wL28_0, wK28_0, s0, s1, s4, hk, w1, w2, w3, w4, w5, w6, c5, c6, c7, c8, hr, hq, hs1, hs2, i1, i2, get_set_eq (lt_of_get hk)]
  have e : ((48 + UInt8.ofNat q).toNat : Int) = 48 + (q : Int) := by
    match q, hql with
    | 0, _ => rfl
    | 1, _ => rfl
    | 2, _ => rfl
  have e0 : ofBytes [48 + UInt8.ofNat q, dg (r / 10), dg (r % 10)] = [.int .u8 (48 + (q : Int)), .int .u8 ((dg (r / 10)).toNat : Int), .int .u8 ((dg (r % 10)).toNat : Int)] := by
    unfold ofBytes
    simp only [List.map_cons, List.map_nil, e]
  rw [e0]
  rfl
theorem tz16 (h : Heap) : M.call 56 [.int .u64 16] h = some (.int .i64 4, h) := by
  refine call_of tab56 rfl (callF_wp ?_)
  have := fun h => (tz_ok h).1
  simp [wB56, this]
theorem tz2 (h : Heap) : M.call 56 [.int .u64 2] h = some (.int .i64 1, h) := by
  refine call_of tab56 rfl (callF_wp ?_)
  have := fun h => (tz_ok h).2
  simp [wB56, this]
theorem all256 {p : Nat → Bool} (h : ((List.range 256).all p) = true) (u : Nat) (hu : u < 256) : p u = true := List.all_eq_true.1 h u (List.mem_range.2 hu)
theorem and16 (u : Nat) (hu : u < 256) : bitsOp .and .u64 (u : Int) 15 = ((u % 16 : Nat) : Int) := by
  have := all256 (p := fun u => bitsOp .and .u64 (u : Int) 15 == ((u % 16 : Nat) : Int)) (by decide +kernel) u hu
  simpa using this
theorem and2 (u : Nat) (hu : u < 256) : bitsOp .and .u64 (u : Int) 1 = ((u % 2 : Nat) : Int) := by
  have := all256 (p := fun u => bitsOp .and .u64 (u : Int) 1 == ((u % 2 : Nat) : Int)) (by decide +kernel) u hu
  simpa using this
theorem shr16 (u : Nat) (hu : u < 256) : abin .shr (.int .u64 (u : Int)) (.int .u64 4) = some (.int .u64 ((u / 16 : Nat) : Int)) := by
  have e : (u : Int).fdiv 16 = ((u / 16 : Nat) : Int) := by rw [Int.fdiv_eq_ediv_of_nonneg _ (by omega)]; rfl
  simp [abin, ibin, IntKind.bits]
  exact e
theorem shr2 (u : Nat) (hu : u < 256) : abin .shr (.int .u64 (u : Int)) (.int .u64 1) = some (.int .u64 ((u / 2 : Nat) : Int)) := by
  have e : (u : Int).fdiv 2 = ((u / 2 : Nat) : Int) := by rw [Int.fdiv_eq_ediv_of_nonneg _ (by omega)]; rfl
  simp [abin, ibin, IntKind.bits]
  exact e
/-- A byte, written by sixteens, tens or twos. -/
theorem format_ok (base u : Nat) (hb : base = 16 ∨ base = 10 ∨ base = 2) (hu : u < 256) (h0 : Heap) : M.call 12 [.int .u64 u, .int .i64 base] h0 = some (.str (fmtP base u), h0) := by
  refine call_of tab12 rfl (callF_wp ?_)
  rcases hb with rfl | rfl | rfl
  · have := fun h => bits_ok 16 4 15 u hu (by omega) (by omega) (fun h => pow2_ok 16 15 (by decide) (by decide +kernel) h) tz16 (by decide) (by decide) (by decide) and16 shr16 h
    simp at this
    simp [wB12, this]
  · by_cases h : u < 100
    · have h' : (u : Int) < 100 := by omega
      have w1 : IntKind.wrap .i64 (u : Int) = u := wrap64 (by omega) (by omega)
      simp [wB12, h', w1, small_ok u h]
    · have h' : ¬ (u : Int) < 100 := by omega
      have e1 := fun h => nd_ok u (by omega) hu h
      have e2 := ten_ok u (by omega) hu h0.length (h0 ++ [.cells (List.replicate 24 (.int .u8 0))]) (by simp)
      simp [List.replicate] at e2
      have e3 := three u (by omega) hu
      simp [wB12, h', e1, e2]
      have htk : ∀ L, List.take 3 (ofBytes (fmtP 10 u) ++ L) = ofBytes (fmtP 10 u) := fun L => by rw [e3]; rfl
      rw [htk]
      simp
  · have := fun h => bits_ok 2 1 1 u hu (by omega) (by omega) (fun h => pow2_ok 2 1 (by decide) (by decide +kernel) h) tz2 (by decide) (by decide) (by decide) and2 shr2 h
    simp at this
    simp [wB12, this]
theorem fmt_ok (base u : Nat) (hb : base = 16 ∨ base = 10 ∨ base = 2) (hu : u < 256) (h0 : Heap) : M.call 6 [.int .u64 u, .int .i64 base] h0 = some (.str (fmtP base u), h0) := by
  refine call_of tab6 rfl (callF_wp ?_)
  simp [wB6, format_ok base u hb hu]
end Go.Proofs.YtiobaboailhafaaDoor
