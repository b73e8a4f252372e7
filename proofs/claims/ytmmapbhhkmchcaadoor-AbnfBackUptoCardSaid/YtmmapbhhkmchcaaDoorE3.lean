/-
  The law's own functions: fails, prints, awake.
-/
import Derived.Test.YtmmapbhhkmchcaaDoorE2
set_option linter.unusedVariables false
set_option linter.unusedSimpArgs false
namespace Go.Proofs.YtmmapbhhkmchcaaDoor
open Go Go.Am

theorem of_all (s : List UInt8) (hs : s.length ≤ 900000000) : ∃ bf : Heap → Bool, ∀ h, M.call 9 [.str s] h = some (.tup [.list 10 ((ofP s).1.map ruA) (rtB (bf h)), .int .i64 (ofP s).2.1, .int .i64 (ofP s).2.2], h) := by
  have : ∀ h, ∃ b, M.call 9 [.str s] h = some (.tup [.list 10 ((ofP s).1.map ruA) (rtB b), .int .i64 (ofP s).2.1, .int .i64 (ofP s).2.2], h) := fun h => by
    obtain ⟨x, hx, b, rfl⟩ := of_ok s hs h
    exact ⟨b, hx⟩
  obtain ⟨bf, hbf⟩ := Classical.axiomOfChoice this
  exact ⟨bf, hbf⟩
theorem fails_ok (s : List UInt8) (a w : Int) (hs : s.length ≤ 900000000) (h : Heap) : M.call 14 [.str s, .int .i64 a, .int .i64 w] h = some (.bool (decide ((ofP s).2.2 = w ∧ (ofP s).2.1 = a ∧ (ofP s).1 = [])), h) := by
  refine call_of tab14 rfl (callF_wp ?_)
  obtain ⟨bf, hx⟩ := of_all s hs
  generalize ofP s = res at *
  obtain ⟨l, p, e⟩ := res
  simp only at hx
  by_cases h1 : e = w
  · by_cases h2 : p = a
    · simp [wB14, hx, h1, h2]
    · simp [wB14, hx, h1, h2]
  · simp [wB14, hx, h1]
theorem prints_ok (s w : List UInt8) (x : Ru) (p : Int) (hs : s.length ≤ 900000000) (ho : ofP s = ([x], p, 0)) (hn : x.name.length ≤ 1000000000) (hw : x.tree.wt ≤ 1000000000) (hT : TOk x.tree) (h : Heap) :
    M.call 13 [.str s, .str w] h = some (.bool (decide ((printP x).2 = 0 ∧ (printP x).1 = w)), h) := by
  refine call_of tab13 rfl (callF_wp ?_)
  obtain ⟨bf, hx⟩ := of_all s hs
  have pr := print_ok x hn hw hT
  rw [ho] at hx
  simp only at hx
  generalize printP x = q at *
  obtain ⟨t, e⟩ := q
  simp only at pr
  by_cases h1 : e = 0
  · simp [wB13, hx, ruA_cells, ruL_take, ruL_agg, pr, h1]
  · simp [wB13, hx, ruA_cells, ruL_take, ruL_agg, pr, h1]

def nmT (s : List UInt8) : Tr := .mk 1 s 0 0 0 0 true []
def pt0 : Tr := rowT 6 [timesT 1 3 (nmT [98]), mayT (rowT 5 [.mk 2 [120] 0 0 0 0 true [], .mk 3 [65] 0 0 0 0 true []])]
def pt2 : Tr := rowT 5 [rowT 6 [nmT [98], nmT [99]], nmT [100]]
def ptx : List UInt8 := [97, 32, 61, 32, 49, 42, 51, 98, 32, 47, 32, 91, 34, 120, 34, 32, 37, 120, 52, 49, 93, 10, 97, 32, 61, 32, 40, 98, 41, 10, 65, 32, 61, 32, 40, 40, 66, 32, 47, 32, 99, 41, 32, 100, 41, 10]
theorem ev0 : ofP ptx = ([⟨[97], 0, false, pt0⟩, ⟨[97], 22, false, nmT [98]⟩, ⟨[97], 30, false, pt2⟩], 0, 0) := by kernel_rfl
theorem ev1 : ofP [97, 32, 61, 32, 49, 42, 51, 98, 32, 47, 32, 91, 34, 120, 34, 32, 37, 120, 52, 49, 93] = ([⟨[97], 0, false, pt0⟩], 0, 0) := by kernel_rfl
theorem ev2 : ofP [97, 32, 61, 32, 40, 40, 98, 32, 47, 32, 99, 41, 32, 100, 41] = ([⟨[97], 0, false, pt2⟩], 0, 0) := by kernel_rfl
theorem ev3 : ofP [65, 32, 61, 32, 66] = ([⟨[97], 0, false, nmT [98]⟩], 0, 0) := by kernel_rfl
theorem ev4 : ofP [97, 32, 61, 32] = ([], 4, 20) := by kernel_rfl
theorem ev5 : ofP [97, 32, 61, 32, 40, 98] = ([], 6, 20) := by kernel_rfl
theorem ev6 : ofP [97, 32, 98] = ([], 2, 20) := by kernel_rfl
def pr0 : List Ru := [⟨[97], 0, false, pt0⟩, ⟨[97], 22, false, nmT [98]⟩, ⟨[97], 30, false, pt2⟩]
def qt0 : Tr := .mk 6 [] 0 0 0 0 true [.mk 7 [] 0 0 1 3 true [nmT [98]], .mk 7 [] 0 0 0 1 true [.mk 5 [] 0 0 0 0 true [.mk 2 [120] 0 0 0 0 true [], .mk 3 [65] 0 0 0 0 true []]]]
def qt2 : Tr := .mk 5 [] 0 0 0 0 true [.mk 6 [] 0 0 0 0 true [nmT [98], nmT [99]], nmT [100]]
def qr0 : List Ru := [⟨[97], 0, false, qt0⟩, ⟨[97], 0, false, nmT [98]⟩, ⟨[97], 0, false, qt2⟩]
theorem eqr0 : eqRs false pr0 qr0 = true := by kernel_rfl
theorem wts_len : ∀ l : List Tr, 16 * l.length ≤ wts l
  | [] => by simp [wts]
  | t :: l => by
    have := wts_len l
    have := wt_eq t
    simp only [wts, List.length_cons]
    omega
theorem TOk_wtN : ∀ (n : Nat) (t : Tr), t.size ≤ n → t.wt ≤ 1000000000 → TOk t
  | 0, t, h, _ => by cases t; simp [Tr.size] at h
  | n + 1, t, h, hw => by
    have h1 := wt_eq t
    have h2 := wts_len t.kids
    refine TOk.mk (by omega) (by omega) fun k hk => ?_
    have := Tr.size_kid hk
    have := wt_kid hk
    exact TOk_wtN n k (by omega) (by omega)
theorem TOk_wt {t : Tr} (hw : t.wt ≤ 1000000000) : TOk t := TOk_wtN t.size t (Nat.le_refl _) hw
theorem many13 : manyP 1 3 = [49, 42, 51] := by
  simp [manyP, Lib.itoa, Lib.decDigits]
theorem many01 : manyP 0 1 = [42, 49] := by
  simp [manyP, Lib.itoa, Lib.decDigits]
theorem print0 : printP ⟨[97], 0, false, pt0⟩ = ([97, 32, 61, 32, 49, 42, 51, 98, 32, 47, 32, 42, 49, 40, 34, 120, 34, 32, 37, 120, 52, 49, 41], 0) := by
  unfold printP
  rw [if_pos (by kernel_rfl)]
  simp [pt0, rowT, timesT, mayT, nmT, textP, brks, needs, Tr.k, many13, many01, hexP, hexD, Lib.join, List.intercalate]
theorem print2 : printP ⟨[97], 0, false, pt2⟩ = ([97, 32, 61, 32, 40, 98, 32, 47, 32, 99, 41, 32, 100], 0) := by
  unfold printP
  rw [if_pos (by kernel_rfl)]
  simp [pt2, rowT, timesT, mayT, nmT, textP, brks, needs, Tr.k, Lib.join, List.intercalate]
theorem print3 : printP ⟨[97], 0, false, nmT [98]⟩ = ([97, 32, 61, 32, 98], 0) := by
  unfold printP
  rw [if_pos (by kernel_rfl)]
  simp [nmT, textP]
set_option maxRecDepth 20000 in
theorem awake_ok (h0 : Heap) : M.call 5 [] h0 = some (.bool true, h0) := by
  refine call_of tab5 rfl (callF_wp ?_)
  obtain ⟨bf, hx⟩ := of_all ptx (by decide)
  have w0 : pt0.wt ≤ 1000 := by decide +kernel
  have w2 : pt2.wt ≤ 1000 := by decide +kernel
  have w3 : (nmT [98]).wt ≤ 1000 := by decide +kernel
  have v0 : qt0.wt ≤ 1000 := by decide +kernel
  have v2 : qt2.wt ≤ 1000 := by decide +kernel
  have rl := fun ra rb h => rules_ok false pr0 qr0 ra rb (by decide) (by decide) (fun x hx => by
    simp only [pr0, List.mem_cons, List.not_mem_nil, or_false] at hx
    rcases hx with rfl | rfl | rfl <;> exact TOk_wt (by simp only; omega)) (fun x hx => by
    simp only [qr0, List.mem_cons, List.not_mem_nil, or_false] at hx
    rcases hx with rfl | rfl | rfl <;> exact TOk_wt (by simp only; omega)) h
  rw [eqr0] at rl
  have p1 := fun h => prints_ok [97, 32, 61, 32, 49, 42, 51, 98, 32, 47, 32, 91, 34, 120, 34, 32, 37, 120, 52, 49, 93] [97, 32, 61, 32, 49, 42, 51, 98, 32, 47, 32, 42, 49, 40, 34, 120, 34, 32, 37, 120, 52, 49, 41] _ 0 (by decide) ev1 (by decide) (by simp only; omega) (TOk_wt (by simp only; omega)) h
  have p2 := fun h => prints_ok [97, 32, 61, 32, 40, 40, 98, 32, 47, 32, 99, 41, 32, 100, 41] [97, 32, 61, 32, 40, 98, 32, 47, 32, 99, 41, 32, 100] _ 0 (by decide) ev2 (by decide) (by simp only; omega) (TOk_wt (by simp only; omega)) h
  have p3 := fun h => prints_ok [65, 32, 61, 32, 66] [97, 32, 61, 32, 98] _ 0 (by decide) ev3 (by decide) (by simp only; omega) (TOk_wt (by simp only; omega)) h
  have f4 := fun h => fails_ok [97, 32, 61, 32] 4 20 (by decide) h
  have f5 := fun h => fails_ok [97, 32, 61, 32, 40, 98] 6 20 (by decide) h
  have f6 := fun h => fails_ok [97, 32, 98] 2 20 (by decide) h
  rw [ev4] at f4
  rw [ev5] at f5
  rw [ev6] at f6
  rw [print0] at p1
  rw [print2] at p2
  rw [print3] at p3
  rw [ev0] at hx
  simp at f4 f5 f6 p1 p2 p3
  simp [ptx] at hx
  simp only [qr0, List.map_cons, List.map_nil, ruA, Tr.encL_eq, qt0, qt2, nmT, Tr.k, Tr.s, Tr.lo, Tr.hi, Tr.mn, Tr.mx, Tr.full, Tr.kids, Tr.enc_mk] at rl
  simp [pr0] at rl
  simp [wB5, hx, rl, p1, p2, p3, f4, f5, f6, Nat.add_assoc]
end Go.Proofs.YtmmapbhhkmchcaaDoor
