/-
  AbnfWrong, in the machine.
-/
import Derived.Test.YtmmapbhhkmchcaaGreatDoorL3
import Derived.Test.YtmmapbhhkmchcaaGreatDoorG3
set_option linter.unusedVariables false
set_option linter.unusedSimpArgs false
namespace Go.Proofs.YtmmapbhhkmchcaaGreatDoor
open Go Go.Am

theorem rep_len (s : List UInt8) (n : Nat) : (repL s n).length = s.length * n := by
  induction n with
  | zero => simp [repL]
  | succ n ih => rw [repL_succ', List.length_append, ih, Nat.mul_succ]; omega
set_option maxRecDepth 100000 in
theorem arg_nums {n : Nat} {x : AV} (h : HasE Tryz.prog (Has Tryz.prog n) 43 x) : ∃ U : List Nat, x = .list 1 (U.map fun j => .int .u16 (j : Nat)) .no ∧ (∀ j ∈ U, j ≤ 65535) ∧ U.length ≤ maxLen := by
  obtain ⟨xs, m, rfl, h1, h2⟩ := has_slice Tryz.underlying43 h
  obtain ⟨U, rfl, hU⟩ := choose_list' (p := fun j : Nat => AV.int .u16 (j : Nat)) (q := fun j : Nat => j ≤ 65535) fun x hx => has_u16 Tryz.underlying146 (h2 x hx)
  have hc : Tryz.prog.cellsOf 146 = 1 := by kernel_rfl
  rw [hc]
  exact ⟨U, rfl, hU, by simpa using h1⟩
def rowN (u : List Nat) : AV := .list 1 (u.map fun j => .int .u16 (j : Nat)) .no
def FineL (ls : List (List UInt8)) : Prop := ∀ p ∈ ls, (∃ nm t, RuleLn p nm t ∧ fitsP 100 t = true) ∧ p.length ≤ 5000
theorem joinL_snoc (ls : List (List UInt8)) (p : List UInt8) : joinL (ls ++ [p]) = joinL ls ++ (p ++ [10]) := by simp [joinL]
theorem joinL_len {ls : List (List UInt8)} (h : FineL ls) : (joinL ls).length ≤ 5001 * ls.length := by
  induction ls with
  | nil => simp [joinL]
  | cons p ls ih =>
    rw [joinL_cons]
    have h1 := (h p List.mem_cons_self).2
    have h2 := ih fun q hq => h q (List.mem_cons_of_mem _ hq)
    simp only [List.length_append, List.length_cons]
    omega
def InvWi (A : List (List Nat)) (i : Nat) (t : List UInt8) (v0 v1 v2 v31 : AV) (r : Rt) (h0 : Heap) (k : Nat) (σ : Slots) (h : Heap) : Prop := ∃ j ls, j ≤ A.length ∧ k = A.length - j ∧ ls.length = j ∧ FineL ls ∧
  σ 0 = v0 ∧ σ 1 = v1 ∧ σ 2 = v2 ∧ σ 9 = .int .i64 i ∧ σ 31 = v31 ∧ σ 32 = .int .i64 2 ∧ σ 33 = .int .i64 i ∧ σ 38 = .list 1 (A.map rowN) r ∧ σ 39 = .int .i64 A.length ∧ σ 40 = .int .i64 j ∧ σ 7 = .str (if i = 0 then joinL ls else t) ∧ σ 8 = .str (if i = 0 then t else joinL ls) ∧ h = h0
theorem wrong_inner (A : List (List Nat)) (hA : ∀ u ∈ A, ∀ j ∈ u, j ≤ 65535) (hn : A.length ≤ 6) (i : Nat) (t : List UInt8) (v0 v1 v2 v31 : AV) (r : Rt) (h0 : Heap) (Q : Ex → Slots → Heap → Prop)
    (hret : ∀ σ, σ 6 = .bool true → Q .ret σ h0)
    (hexit : ∀ σ ls, ls.length = A.length → FineL ls → σ 0 = v0 → σ 1 = v1 → σ 2 = v2 → σ 31 = v31 → σ 32 = .int .i64 2 → σ 33 = .int .i64 i → σ 7 = .str (if i = 0 then joinL ls else t) → σ 8 = .str (if i = 0 then t else joinL ls) → Q (.exit 2) σ h0)
    (n : Nat) (σ : Slots) (h : Heap) (hI : InvWi A i t v0 v1 v2 v31 r h0 n σ h) : Wp M (.loop L5_0) Q σ h := by
  refine Wp.loop (InvWi A i t v0 v1 v2 v31 r h0) ?_ hI
  clear hI
  rintro k σ h ⟨j, ls, hj, rfl, hl, hf, s0, s1, s2, s9, s31, s32, s33, s38, s39, s40, s7, s8, rfl⟩
  have hLt : ((j : Int) < (A.length : Int)) = (j < A.length) := by simp
  by_cases hlt : j < A.length
  · obtain ⟨u, hu⟩ : ∃ u, A[j]? = some u := ⟨_, List.getElem?_eq_getElem hlt⟩
    have hum := List.mem_of_getElem? hu
    have e64 : IntKind.wrap .i64 ((j : Int) + 1) = ((j + 1 : Nat) : Int) := by rw [wrap64 (by omega) (by omega)]; rfl
    by_cases c1 : 60 < u.length
    · have c1' : (60 : Int) < u.length := by omega
      simp [-getElem?_pos, -Int.natCast_add, wL5_0, s0, s1, s2, s9, s31, s32, s33, s38, s39, s40, s7, s8, hLt, hlt, hu, rowN, c1', awake_ok]
      exact hret _ (by simp)
    · have c1' : ¬ (60 : Int) < u.length := by omega
      obtain ⟨a, ga, fa, wa⟩ := grown_ok u (by omega) (hA u hum) .no h (fun t h => by cases h)
      have la := text_len fa
      have fa100 := fits_mono 7 100 a (by omega) fa
      have Ta : TOk a := TOk_wt (by omega)
      have pa := fun h => print_ok ⟨[120], 0, false, a⟩ (by simp) (by simp only; omega) Ta h
      have ea : printP ⟨[120], 0, false, a⟩ = ([120, 32, 61, 32] ++ textP a, 0) := by
        unfold printP
        rw [if_pos (by simp [fa100]; decide)]
        rfl
      rw [ea] at pa
      simp [ruA, -Int.natCast_add] at pa
      have hjl := joinL_len hf
      have hp : FineL (ls ++ [[120, 32, 61, 32] ++ textP a]) := fun p hp => by
        rcases List.mem_append.1 hp with hp | hp
        · exact hf p hp
        · simp only [List.mem_singleton] at hp
          subst hp
          exact ⟨⟨_, _, fine_ln fa, fine_fits fa⟩, by simp; omega⟩
      by_cases hi : i = 0
      · subst hi
        simp only [if_true] at s7 s8
        simp [-getElem?_pos, -Int.natCast_add, wL5_0, s0, s1, s2, s9, s31, s32, s33, s38, s39, s40, s7, s8, hLt, hlt, hu, rowN, c1', ga, pa, e64]
        refine ⟨by omega, by omega, ?_⟩
        exact ⟨A.length - (j + 1), by omega, j + 1, ls ++ [[120, 32, 61, 32] ++ textP a], by omega, rfl, by simp [hl], hp, by simp [s0], by simp [s1], by simp [s2], by simpa using s9, by simp [s31], by simp [s32], by simpa using s33, by simp [s38, rowN], by simp [s39], by simp, by simp [joinL_snoc], by simp [s8], rfl⟩
      · have hi' : ¬ (i : Int) = 0 := by omega
        simp only [if_neg hi] at s7 s8
        simp [-getElem?_pos, -Int.natCast_add, wL5_0, s0, s1, s2, s9, s31, s32, s33, s38, s39, s40, s7, s8, hLt, hlt, hu, rowN, c1', ga, pa, e64, hi, hi']
        refine ⟨by omega, by omega, ?_⟩
        exact ⟨A.length - (j + 1), by omega, j + 1, ls ++ [[120, 32, 61, 32] ++ textP a], by omega, rfl, by simp [hl], hp, by simp [s0], by simp [s1], by simp [s2], by simpa using s9, by simp [s31], by simp [s32], by simpa using s33, by simp [s38, rowN], by simp [s39], by simp, by simp [s7, hi], by simp [joinL_snoc, hi], rfl⟩
  · simp [-getElem?_pos, -Int.natCast_add, wL5_0, s39, s40, hLt, hlt]
    exact hexit _ ls (by omega) hf (by simp [s0]) (by simp [s1]) (by simp [s2]) (by simp [s31]) (by simp [s32]) (by simp [s33]) (by simp [s7]) (by simp [s8])
def bads : List (List UInt8 × Nat × Int) := [([114, 32, 97], 2, 20), ([114], 2, 20), ([114, 32, 61, 32, 61, 32, 97], 4, 20), ([114, 32, 61, 32, 47, 32, 97], 4, 20), ([114, 32, 61, 32, 97, 32, 47, 32, 47, 32, 98], 8, 20), ([114, 32, 61, 32, 97, 32, 41], 6, 20), ([114, 32, 61, 32, 40, 97, 93, 32, 98], 6, 20), ([114, 32, 61, 32, 91, 97, 41, 32, 98], 6, 20), ([114, 32, 61, 32, 40, 41], 5, 20), ([114, 32, 61, 32, 50, 32, 51, 97], 6, 20), ([114, 32, 61, 32, 97, 32, 50], 8, 20), ([114, 32, 61, 32, 97, 32, 61, 47, 32, 98], 6, 20), ([114, 32, 61, 32], 5, 20), ([114, 32, 61, 32, 91, 97], 7, 20), (deepC, 0, 21)]
theorem bads_ok : ∀ b ∈ bads, BadLn b.1 b.2.1 b.2.2 ∧ b.1.length ≤ 400 ∧ b.2.1 ≤ 10 := by
  intro b hb
  have hc : deepC.length ≤ 400 := by
    have e : deepC.length = 304 := by kernel_rfl
    omega
  simp only [bads, List.mem_cons, List.not_mem_nil, or_false] at hb
  rcases hb with rfl | rfl | rfl | rfl | rfl | rfl | rfl | rfl | rfl | rfl | rfl | rfl | rfl | rfl | rfl
  · exact ⟨bad0, by decide, by decide⟩
  · exact ⟨bad1, by decide, by decide⟩
  · exact ⟨bad2, by decide, by decide⟩
  · exact ⟨bad3, by decide, by decide⟩
  · exact ⟨bad4, by decide, by decide⟩
  · exact ⟨bad5, by decide, by decide⟩
  · exact ⟨bad6, by decide, by decide⟩
  · exact ⟨bad7, by decide, by decide⟩
  · exact ⟨bad8, by decide, by decide⟩
  · exact ⟨bad9, by decide, by decide⟩
  · exact ⟨bad10, by decide, by decide⟩
  · exact ⟨bad11, by decide, by decide⟩
  · exact ⟨bad12, by decide, by decide⟩
  · exact ⟨bad13, by decide, by decide⟩
  · exact ⟨bad14, hc, by decide⟩
def badA (b : List UInt8 × Nat × Int) : AV := .agg [.str b.1, .int .i64 b.2.1, .int .i64 b.2.2]
theorem deepB_eq (s : List UInt8) : deepB ++ s = 114 :: 32 :: 61 :: 32 :: (repL [49, 40] 98 ++ 97 :: 32 :: 98 :: (repL [41] 98 ++ s)) := by simp [deepB]
theorem deepB_eq0 : deepB = 114 :: 32 :: 61 :: 32 :: (repL [49, 40] 98 ++ 97 :: 32 :: 98 :: repL [41] 98) := by simp [deepB]
theorem deepB_len : deepB.length = 301 := by kernel_rfl
theorem joinL_app (ps qs : List (List UInt8)) : joinL (ps ++ qs) = joinL ps ++ joinL qs := by simp [joinL]
theorem replace_deep (h : Heap) : M.call 22 [.str (114 :: 32 :: 61 :: 32 :: (repL [49, 40] 98 ++ 97 :: 32 :: 98 :: repL [41] 98)), .str [97, 32, 98], .str [49, 40, 97, 32, 98, 41], .int .i64 1] h = some (.str deepC, h) := by
  rw [← deepB_eq0]
  refine lim_ext ?_
  have : XS 22 [.str deepB, .str [97, 32, 98], .str [49, 40, 97, 32, 98, 41], .int .i64 1] h = (rlPat [.str deepB, .str [97, 32, 98], .str [49, 40, 97, 32, 98, 41], .int .i64 1]).map fun r => (r, h) := by
    cases e : rlPat [.str deepB, .str [97, 32, 98], .str [49, 40, 97, 32, 98, 41], .int .i64 1] <;> simp [XS, orX, fX, ibsX, e]
  rw [this]
  unfold rlPat
  simp only
  rw [if_pos ⟨by rw [deepB_len]; omega, by decide, by rw [deepB_len, deep_cnt]; decide⟩, deep_rep]
  rfl
set_option maxRecDepth 20000 in
set_option maxHeartbeats 2000000 in
theorem wrong_end (U V : List (List Nat)) (c : UInt8) (hU : U.length ≤ 9223372036854775807) (hV : V.length ≤ 9223372036854775807) (ls1 ls2 : List (List UInt8)) (l1 : ls1.length = min U.length 6) (l2 : ls2.length = min V.length 6) (f1 : FineL ls1) (f2 : FineL ls2) (σ : Slots)
    (s0 : σ 0 = .list 1 (U.map rowN) .no) (s1 : σ 1 = .int .u8 c.toNat) (s2 : σ 2 = .list 1 (V.map rowN) .no) (s7 : σ 7 = .str (joinL ls1)) (s8 : σ 8 = .str (joinL ls2)) (Q : Ex → Slots → Heap → Prop) (hret : ∀ σ h, σ 6 = .bool true → Q .ret σ h) : Wp M K5_1 Q σ [] := by
  have n1 := joinL_len f1
  have n2 := joinL_len f2
  have n1' : (joinL ls1).length ≤ 30006 := by omega
  have n2' : (joinL ls2).length ≤ 30006 := by omega
  obtain ⟨W, wx, wx2⟩ : ∃ W : Int, IntKind.wrap .i64 (((joinL ls1).length : Int) + (joinL ls2).length) = W ∧ W = (joinL ls1).length + (joinL ls2).length := ⟨_, rfl, by rw [wrap64 (by omega) (by omega)]⟩
  by_cases c1 : 40000 < W
  · simp [-Int.natCast_add, wK5_1, s0, s1, s2, s7, s8, wx, c1, awake_ok]
    exact hret _ _ (by simp)
  obtain ⟨n, hn⟩ : ∃ n, c.toNat % 15 = n := ⟨_, rfl⟩
  have hn15 : n < 15 := by omega
  have tm : (IntKind.wrap .i64 (c.toNat : Int)).tmod 15 = (n : Int) := by
    have := c.toNat_lt
    rw [wrap64 (by omega) (by omega), ← hn]
    rfl
  obtain ⟨⟨txt, k, w⟩, hb⟩ : ∃ b, bads[n]? = some b := ⟨_, List.getElem?_eq_getElem (by exact hn15)⟩
  obtain ⟨hbl, hbt, hbk⟩ := bads_ok _ (List.mem_of_getElem? hb)
  simp only at hbl hbt hbk
  have hbB : bads.map badA = [AV.agg [AV.str [114, 32, 97], AV.int IntKind.i64 2, AV.int IntKind.i64 20], AV.agg [AV.str [114], AV.int IntKind.i64 2, AV.int IntKind.i64 20], AV.agg [AV.str [114, 32, 61, 32, 61, 32, 97], AV.int IntKind.i64 4, AV.int IntKind.i64 20], AV.agg [AV.str [114, 32, 61, 32, 47, 32, 97], AV.int IntKind.i64 4, AV.int IntKind.i64 20], AV.agg [AV.str [114, 32, 61, 32, 97, 32, 47, 32, 47, 32, 98], AV.int IntKind.i64 8, AV.int IntKind.i64 20], AV.agg [AV.str [114, 32, 61, 32, 97, 32, 41], AV.int IntKind.i64 6, AV.int IntKind.i64 20], AV.agg [AV.str [114, 32, 61, 32, 40, 97, 93, 32, 98], AV.int IntKind.i64 6, AV.int IntKind.i64 20], AV.agg [AV.str [114, 32, 61, 32, 91, 97, 41, 32, 98], AV.int IntKind.i64 6, AV.int IntKind.i64 20], AV.agg [AV.str [114, 32, 61, 32, 40, 41], AV.int IntKind.i64 5, AV.int IntKind.i64 20], AV.agg [AV.str [114, 32, 61, 32, 50, 32, 51, 97], AV.int IntKind.i64 6, AV.int IntKind.i64 20], AV.agg [AV.str [114, 32, 61, 32, 97, 32, 50], AV.int IntKind.i64 8, AV.int IntKind.i64 20], AV.agg [AV.str [114, 32, 61, 32, 97, 32, 61, 47, 32, 98], AV.int IntKind.i64 6, AV.int IntKind.i64 20], AV.agg [AV.str [114, 32, 61, 32], AV.int IntKind.i64 5, AV.int IntKind.i64 20], AV.agg [AV.str [114, 32, 61, 32, 91, 97], AV.int IntKind.i64 7, AV.int IntKind.i64 20], AV.agg [AV.str deepC, AV.int IntKind.i64 0, AV.int IntKind.i64 21]] := by kernel_rfl
  have hbA : (bads.map badA)[n]? = some (.agg [.str txt, .int .i64 k, .int .i64 w]) := by rw [List.getElem?_map, hb]; rfl
  have r1 : ∀ h, M.call 20 [.str [49, 40], .int .i64 98] h = some (.str (repL [49, 40] 98), h) := fun h => repeat_ok [49, 40] 98 (by omega) (by simp) h
  have r2 : ∀ h, M.call 20 [.str [41], .int .i64 98] h = some (.str (repL [41] 98), h) := fun h => repeat_ok [41] 98 (by omega) (by simp) h
  have q1 := rep_len [49, 40] 98
  have q2 := rep_len [41] 98
  have hp : ∀ p ∈ ls1 ++ deepB :: ls2, ∃ nm t, RuleLn p nm t ∧ fitsP 100 t = true := fun p hp => by
    rcases List.mem_append.1 hp with h | h
    · exact (f1 p h).1
    · rcases List.mem_cons.1 h with rfl | h
      · exact ⟨_, _, deep_ln, deep_fits⟩
      · exact (f2 p h).1
  have e1 : joinL (ls1 ++ deepB :: ls2) = joinL ls1 ++ 114 :: 32 :: 61 :: 32 :: (repL [49, 40] 98 ++ 97 :: 32 :: 98 :: (repL [41] 98 ++ 10 :: joinL ls2)) := by
    rw [joinL_app, joinL_cons, deepB_eq]
  have e2 : joinL (ls1 ++ txt :: ls2) = joinL ls1 ++ (txt ++ 10 :: joinL ls2) := by rw [joinL_app, joinL_cons]
  have ln1 : (joinL (ls1 ++ deepB :: ls2)).length ≤ 65536 := by
    rw [joinL_app, joinL_cons]
    simp [deepB_len]
    omega
  have ln2 : (joinL (ls1 ++ txt :: ls2)).length ≤ 65536 := by
    rw [joinL_app, joinL_cons]
    simp
    omega
  obtain ⟨rs, g1, g2⟩ := fine_of hp (by simp) ln1
  have g3 := bad_of (fun p h => (f1 p h).1) (fun p h => (let ⟨nm, t, hr, _⟩ := (f2 p h).1; hr.ok)) hbl ln2
  obtain ⟨bf, g4⟩ := of_all (joinL (ls1 ++ deepB :: ls2)) (by omega)
  have g5 : ∀ h, M.call 23 [.str (joinL ls1 ++ (txt ++ 10 :: joinL ls2)), .int .i64 (((joinL ls1).length + k : Nat) : Int), .int .i64 w] h = some (.bool true, h) := fun h => by
    have := fails_ok (joinL (ls1 ++ txt :: ls2)) (((joinL ls1).length + k : Nat) : Int) w (by omega) h
    rw [g3, e2] at this
    simpa using this
  rw [g2, e1] at g4
  simp [-Int.natCast_add] at g4
  simp [-Int.natCast_add, wK5_1, s0, s1, s2, s7, s8, wx, c1, r1, r2, q1, q2, replace_deep, tm]
  rw [← hbB]
  generalize bads.map badA = LL at hbA ⊢
  simp [-Int.natCast_add, hbA]
  simp [-Int.natCast_add, s7, s8, q1, q2]
  refine ⟨by omega, by omega, by omega, ?_⟩
  obtain ⟨m1, em1⟩ : ∃ m1, min U.length 6 = m1 := ⟨_, rfl⟩
  obtain ⟨m2, em2⟩ : ∃ m2, min V.length 6 = m2 := ⟨_, rfl⟩
  have i1 : (if (6 : Int) < (U.length : Int) then (6 : Int) else (U.length : Int)) = (m1 : Int) := by split <;> omega
  have i2 : (if (6 : Int) < (V.length : Int) then (6 : Int) else (V.length : Int)) = (m2 : Int) := by split <;> omega
  have g1' : rs.length = m1 + m2 + 1 := by rw [g1]; simp; omega
  have w1 : IntKind.wrap .i64 ((m1 : Int) + (m2 : Int)) = ((m1 + m2 : Nat) : Int) := by rw [wrap64 (by omega) (by omega)]; rfl
  have w2 : IntKind.wrap .i64 (((m1 + m2 : Nat) : Int) + 1) = ((m1 + m2 + 1 : Nat) : Int) := by rw [wrap64 (by omega) (by omega)]; rfl
  simp [-Int.natCast_add, g4, s0, s2, s7, s8, i1, i2, w1, w2, g1']
  have w3 : IntKind.wrap .i64 (((joinL ls1).length : Int) + (k : Int)) = (((joinL ls1).length + k : Nat) : Int) := by rw [wrap64 (by omega) (by omega)]; rfl
  refine ⟨by omega, by omega, by omega, ?_⟩
  rw [w3, g5]
  simp [awake_ok]
  exact hret _ _ (by simp)
theorem fineL_nil : FineL [] := fun p h => by cases h
theorem rows_take (U : List (List Nat)) (n : Nat) : (U.map rowN).take n = (U.take n).map rowN := by rw [List.map_take]
def InvWo (U V : List (List Nat)) (m1 m2 : Nat) (c : UInt8) (k : Nat) (σ : Slots) (h : Heap) : Prop := ∃ (i : Nat) (ls1 ls2 : List (List UInt8)), i ≤ 2 ∧ k = 2 - i ∧ ls1.length = (if i = 0 then 0 else m1) ∧ ls2.length = (if i = 2 then m2 else 0) ∧ FineL ls1 ∧ FineL ls2 ∧
  σ 0 = .list 1 (U.map rowN) .no ∧ σ 1 = .int .u8 c.toNat ∧ σ 2 = .list 1 (V.map rowN) .no ∧ σ 31 = .list 1 [.list 1 ((U.take m1).map rowN) .no, .list 1 ((V.take m2).map rowN) .no] .full ∧ σ 32 = .int .i64 2 ∧ σ 33 = .int .i64 i ∧ σ 7 = .str (joinL ls1) ∧ σ 8 = .str (joinL ls2) ∧ h = []
set_option maxRecDepth 20000 in
set_option maxHeartbeats 1000000 in
theorem wrong_true (U V : List (List Nat)) (c : UInt8) (hU : ∀ u ∈ U, ∀ j ∈ u, j ≤ 65535) (hV : ∀ u ∈ V, ∀ j ∈ u, j ≤ 65535) (lU : U.length ≤ 9223372036854775807) (lV : V.length ≤ 9223372036854775807) :
    M.call 5 [.list 1 (U.map rowN) .no, .int .u8 c.toNat, .list 1 (V.map rowN) .no] [] = some (.bool true, []) := by
  refine call_of tab5 rfl (callF_wp ?_)
  have i1 : (if (6 : Int) < (U.length : Int) then (6 : Int) else (U.length : Int)) = ((min U.length 6 : Nat) : Int) := by split <;> omega
  have i2 : (if (6 : Int) < (V.length : Int) then (6 : Int) else (V.length : Int)) = ((min V.length 6 : Nat) : Int) := by split <;> omega
  obtain ⟨m1, em1⟩ : ∃ m1, min U.length 6 = m1 := ⟨_, rfl⟩
  obtain ⟨m2, em2⟩ : ∃ m2, min V.length 6 = m2 := ⟨_, rfl⟩
  rw [em1] at i1
  rw [em2] at i2
  have b1 : m1 ≤ U.length := by omega
  have b2 : m2 ≤ V.length := by omega
  simp [-Int.natCast_add, wB5, i1, i2, b1, b2]
  have wrap1 : IntKind.wrap .i64 (1 : Int) = 1 := by rw [wrap64 (by omega) (by omega)]
  have wrap2 : IntKind.wrap .i64 (2 : Int) = 2 := by rw [wrap64 (by omega) (by omega)]
  refine Wp.loop (InvWo U V m1 m2 c) ?_ (n := 2) ⟨0, [], [], by omega, rfl, by simp, by simp, fineL_nil, fineL_nil, by simp, by simp, by simp, by simp, by simp, by simp, by simp [joinL], by simp [joinL], rfl⟩
  rintro k σ h ⟨i, ls1, ls2, hi, rfl, l1, l2, f1, f2, s0, s1, s2, s31, s32, s33, s7, s8, rfl⟩
  have fin : ∀ (σ : Slots) (h : Heap), σ 6 = .bool true → finish [] h (σ 6) = some (.bool true, []) := fun σ h e => by rw [e, fin_nil]
  rcases (show i = 0 ∨ i = 1 ∨ i = 2 by omega) with rfl | rfl | rfl
  · simp at l1 l2
    subst l1 l2
    simp [-Int.natCast_add, wL5_1, s0, s1, s2, s31, s32, s33, s7, s8]
    refine wrong_inner (U.take m1) (fun u hu => hU u (List.mem_of_mem_take hu)) (by simp; omega) 0 (joinL []) _ _ _ _ _ [] _ ?_ ?_ (U.take m1).length _ _ ⟨0, [], by omega, by simp, rfl, fineL_nil, by simp [s0]; rfl, by simp [s1]; rfl, by simp [s2]; rfl, by simp, by simp [s31]; rfl, by simp [s32], by simp [s33], by simp; rfl, by simp [b1], by simp, by simp [s7, joinL], by simp [s8], rfl⟩
    · intro σ e
      simp [e]
    · intro σ ls e1 e2 t0 t1 t2 t31 t32 t33 t7 t8
      simp at t7 t8
      simp [-Int.natCast_add, wK5_0, t33, wrap1, wrap2]
      exact ⟨1, by omega, 1, ls, [], by omega, rfl, by simp [e1]; omega, by simp, e2, fineL_nil, by simp [t0], by simp [t1], by simp [t2], by simp [t31], by simp [t32], by simp, by simp [t7], by simp [t8], rfl⟩
  · simp at l1 l2
    subst l2
    simp [-Int.natCast_add, wL5_1, s0, s1, s2, s31, s32, s33, s7, s8]
    refine wrong_inner (V.take m2) (fun u hu => hV u (List.mem_of_mem_take hu)) (by simp; omega) 1 (joinL ls1) _ _ _ _ _ [] _ ?_ ?_ (V.take m2).length _ _ ⟨0, [], by omega, by simp, rfl, fineL_nil, by simp [s0]; rfl, by simp [s1]; rfl, by simp [s2]; rfl, by simp, by simp [s31]; rfl, by simp [s32], by simp [s33], by simp; rfl, by simp [b2], by simp, by simp [s7, joinL], by simp [s8], rfl⟩
    · intro σ e
      simp [e]
    · intro σ ls e1 e2 t0 t1 t2 t31 t32 t33 t7 t8
      simp at t7 t8
      simp [-Int.natCast_add, wK5_0, t33, wrap1, wrap2]
      exact ⟨2, ls1, ls, by omega, rfl, by simp [l1], by simp [e1]; omega, f1, e2, by simp [t0], by simp [t1], by simp [t2], by simp [t31], by simp [t32], by simp, by simp [t7], by simp [t8], rfl⟩
  · simp at l1 l2
    simp [-Int.natCast_add, wL5_1, s32, s33]
    refine wrong_end U V c lU lV ls1 ls2 (by omega) (by omega) f1 f2 _ (by simp [s0]) (by simp [s1]) (by simp [s2]) (by simp [s7]) (by simp [s8]) _ ?_
    intro σ h e
    exact ⟨by simp, fin σ h e⟩
set_option maxRecDepth 100000 in
theorem arg_rows {n : Nat} {x : AV} (h : HasE Tryz.prog (Has Tryz.prog n) 49 x) : ∃ U : List (List Nat), x = .list 1 (U.map rowN) .no ∧ (∀ u ∈ U, ∀ j ∈ u, j ≤ 65535) ∧ U.length ≤ maxLen := by
  obtain ⟨xs, m, rfl, h1, h2⟩ := has_slice Tryz.underlying49 h
  obtain ⟨U, rfl, hU⟩ := choose_list' (p := rowN) (q := fun u : List Nat => ∀ j ∈ u, j ≤ 65535) fun x hx => by
    obtain ⟨u, e, hu, _⟩ := arg_nums (h2 x hx)
    exact ⟨u, e, hu⟩
  have hc : Tryz.prog.cellsOf 43 = 1 := by kernel_rfl
  rw [hc]
  exact ⟨U, rfl, hU, by simpa using h1⟩
set_option maxRecDepth 100000 in
theorem AbnfWrong_law (xs : List AV) (h : HasArgs Tryz.prog [49, 5, 49] xs) : (lim XS T).call 5 xs [] = some (.bool true, []) := by
  obtain ⟨a0, r0, n0, rfl, h0, h⟩ := h
  obtain ⟨a1, r1, n1, rfl, h1, h⟩ := h
  obtain ⟨a2, r2, n2, rfl, h2, h⟩ := h
  obtain rfl := args_nil h
  obtain ⟨U, rfl, hU, lU⟩ := arg_rows h0
  obtain ⟨c, rfl⟩ := has_u8 Tryz.underlying5 h1
  obtain ⟨V, rfl, hV, lV⟩ := arg_rows h2
  exact wrong_true U V c hU hV (by unfold maxLen at lU; omega) (by unfold maxLen at lV; omega)
end Go.Proofs.YtmmapbhhkmchcaaGreatDoor
