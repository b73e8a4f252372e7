/-
  AbnfBrackets, in the machine.
-/
import Derived.Test.YtmmapbhhkmchcaaGreatDoorK0
import Derived.Test.YtmmapbhhkmchcaaGreatDoorG3
set_option linter.unusedVariables false
set_option linter.unusedSimpArgs false
namespace Go.Proofs.YtmmapbhhkmchcaaGreatDoor
open Go Go.Am

theorem trimPrefix_ok (p s : List UInt8) (hp : p.length ≤ 1000) (hs : s.length ≤ 1000000000) (h : Heap) : M.call 19 [.str (p ++ s), .str p] h = some (.str s, h) := by
  have h2 : M.call 49 [.str (p ++ s), .str p] h = some (.str s, h) := by
    refine call_of tab49 rfl (callF_wp ?_)
    have hh := fun h => hasPrefix2_ok (p ++ s) p h
    rw [List.take_left' rfl] at hh
    simp at hh
    simp [wB49, hh]
  refine call_of tab19 rfl (callF_wp ?_)
  simp [wB19, h2]
theorem of_TOk {s : List UInt8} (hs : s.length ≤ 900000000) : ∀ x ∈ (ofP s).1, TOk x.tree := by
  unfold ofP
  split
  · intro x hx; cases hx
  · have hc := lexP_cnt s
    have ht := lexP_t s
    exact fun x hx => ((parseP_ok (l := (lexP s).1) (by omega) (fun t h => by have := ht t h; omega)).1 x hx).1
theorem rep_len (s : List UInt8) (n : Nat) : (repL s n).length = s.length * n := by
  induction n with
  | zero => simp [repL]
  | succ n ih => rw [repL_succ', List.length_append, ih, Nat.mul_succ]; omega
set_option maxRecDepth 20000 in
set_option maxHeartbeats 1000000 in
theorem brackets_true (U V : List Nat) (many : UInt8) (hU : ∀ j ∈ U, j ≤ 65535) (hV : ∀ j ∈ V, j ≤ 65535) :
    M.call 4 [.list 1 (U.map fun j => .int .u16 (j : Nat)) .no, .list 1 (V.map fun j => .int .u16 (j : Nat)) .no, .int .u8 many.toNat] [] = some (.bool true, []) := by
  refine call_of tab4 rfl (callF_wp ?_)
  by_cases c1 : 200 < U.length
  · have c1' : (200 : Int) < U.length := by omega
    simp [wB4, c1', awake_ok, fin_nil]
  have c1' : ¬ (200 : Int) < U.length := by omega
  by_cases c2 : 200 < V.length
  · have c2' : (200 : Int) < V.length := by omega
    simp [wB4, c1', c2', awake_ok, fin_nil]
  have c2' : ¬ (200 : Int) < V.length := by omega
  obtain ⟨a, ga, fa, wa⟩ := grown_ok U (by omega) hU .no [AE.dead, AE.dead] (fun t h => by cases h)
  obtain ⟨b, gb, fb, wb⟩ := grown_ok V (by omega) hV .no [AE.dead, AE.dead] (fun t h => by cases h)
  have la := text_len fa
  have lb := text_len fb
  have fa100 := fits_mono 7 100 a (by omega) fa
  have fb100 := fits_mono 7 100 b (by omega) fb
  have Ta : TOk a := TOk_wt (by omega)
  have Tb : TOk b := TOk_wt (by omega)
  have pa := fun h => print_ok ⟨[120], 0, false, a⟩ (by simp) (by simp only; omega) Ta h
  have pb := fun h => print_ok ⟨[120], 0, false, b⟩ (by simp) (by simp only; omega) Tb h
  have ea : printP ⟨[120], 0, false, a⟩ = ([120, 32, 61, 32] ++ textP a, 0) := by
    unfold printP
    rw [if_pos (by simp [fa100]; decide)]
    rfl
  have eb : printP ⟨[120], 0, false, b⟩ = ([120, 32, 61, 32] ++ textP b, 0) := by
    unfold printP
    rw [if_pos (by simp [fb100]; decide)]
    rfl
  rw [ea] at pa
  rw [eb] at pb
  have ta := fun h => trimPrefix_ok [120, 32, 61, 32] (textP a) (by simp) (by omega) h
  have tb := fun h => trimPrefix_ok [120, 32, 61, 32] (textP b) (by simp) (by omega) h
  obtain ⟨n, hn⟩ : ∃ n, many.toNat % 41 = n := ⟨_, rfl⟩
  have hn41 : n < 41 := by omega
  have tm : (many.toNat : Int).tmod 41 = (n : Int) := by rw [← hn]; rfl
  have r1 := fun h => repeat_ok [40] n (by omega) (by simp; omega) h
  have r2 := fun h => repeat_ok [32, 41] n (by omega) (by simp; omega) h
  obtain ⟨p1, o1⟩ := brackets_one fa n (by omega)
  obtain ⟨p2, o2⟩ := brackets_two fa fb n (by omega)
  have l1 := rep_len [40] n
  have l2 := rep_len [32, 41] n
  simp only [List.length_cons, List.length_nil] at l1 l2
  obtain ⟨bf1, q1⟩ := of_all ([82, 117, 108, 101, 32, 61, 32] ++ (repL [40] n ++ (textP a ++ repL [32, 41] n))) (by simp; omega)
  obtain ⟨bf2, q2⟩ := of_all ([114, 85, 108, 101, 32, 61, 32] ++ ([40] ++ ((repL [40] n ++ (textP a ++ repL [32, 41] n)) ++ ([41, 32, 47, 32, 40] ++ (textP b ++ ([41, 32, 40] ++ (textP a ++ [41]))))))) (by simp; omega)
  have T1 := of_TOk (s := [82, 117, 108, 101, 32, 61, 32] ++ (repL [40] n ++ (textP a ++ repL [32, 41] n))) (by simp; omega)
  have T2 := of_TOk (s := [114, 85, 108, 101, 32, 61, 32] ++ ([40] ++ ((repL [40] n ++ (textP a ++ repL [32, 41] n)) ++ ([41, 32, 47, 32, 40] ++ (textP b ++ ([41, 32, 40] ++ (textP a ++ [41]))))))) (by simp; omega)
  rw [o1] at q1 T1
  rw [o2] at q2 T2
  have ea1 := (reads_tree a.size 7 a (Nat.le_refl _) fa).2.2.2
  have eb1 := (reads_tree b.size 7 b (Nat.le_refl _) fb).2.2.2
  have Tab : TOk (.mk 6 [] 0 0 0 0 true [a, .mk 5 [] 0 0 0 0 true [b, a]]) := TOk_wt (by simp only [Tr.wt, wts, List.length_nil]; omega)
  have R1 : ∀ ra h, M.call 13 [.list 10 [ruA ⟨[114, 117, 108, 101], p1, false, normT a⟩] ra, .list 10 [.agg (.str [114, 117, 108, 101] :: .int .i64 0 :: .bool false :: a.encL)] .full, .bool false] h = some (.bool true, h) := fun ra h => by
    have := rules_ok false [⟨[114, 117, 108, 101], p1, false, normT a⟩] [⟨[114, 117, 108, 101], 0, false, a⟩] ra .full (by simp) (by simp) (fun x hx => T1 x hx) (fun x hx => by simp only [List.mem_singleton] at hx; subst hx; exact Ta) h
    rw [show eqRs false [⟨[114, 117, 108, 101], p1, false, normT a⟩] [⟨[114, 117, 108, 101], 0, false, a⟩] = true by simp [eqRs, eqR, ea1]] at this
    exact this
  have R2 : ∀ ra h, M.call 13 [.list 10 [ruA ⟨[114, 117, 108, 101], p2, false, rowT 6 [normT a, rowT 5 [normT b, normT a]]⟩] ra, .list 10 [.agg [.str [114, 117, 108, 101], .int .i64 0, .bool false, .int .u8 6, .str [], .int .u8 0, .int .u8 0, .int .i64 0, .int .i64 0, .list 7 [a.enc, .agg [.int .u8 5, .str [], .int .u8 0, .int .u8 0, .int .i64 0, .int .i64 0, .list 7 [b.enc, a.enc] .full]] .full]] .full, .bool false] h = some (.bool true, h) := fun ra h => by
    have := rules_ok false [⟨[114, 117, 108, 101], p2, false, rowT 6 [normT a, rowT 5 [normT b, normT a]]⟩] [⟨[114, 117, 108, 101], 0, false, .mk 6 [] 0 0 0 0 true [a, .mk 5 [] 0 0 0 0 true [b, a]]⟩] ra .full (by simp) (by simp) (fun x hx => T2 x hx) (fun x hx => by simp only [List.mem_singleton] at hx; subst hx; exact Tab) h
    rw [show eqRs false [⟨[114, 117, 108, 101], p2, false, rowT 6 [normT a, rowT 5 [normT b, normT a]]⟩] [⟨[114, 117, 108, 101], 0, false, .mk 6 [] 0 0 0 0 true [a, .mk 5 [] 0 0 0 0 true [b, a]]⟩] = true by simp [eqRs, eqR, rowT, eqT, eqTs, ea1, eb1]] at this
    exact this
  have w64 : IntKind.wrap .i64 (n : Int) = (n : Int) := wrap64 (by omega) (by omega)
  obtain ⟨W, wx, wx2⟩ : ∃ W : Int, IntKind.wrap .i64 ((((textP a).length + 4 : Nat) : Int) + (((textP b).length + 4 : Nat) : Int)) = W ∧ ¬ 60000 < W := ⟨_, rfl, by rw [wrap64 (by omega) (by omega)]; omega⟩
  simp [-Int.natCast_add] at ga gb ta tb q1 q2
  simp [ruA, -Int.natCast_add] at pa pb
  simp [-Int.natCast_add, wB4, c1', c2', tm, w64, ga, gb, pa, pb, ta, tb, r1, r2, wx, wx2, q1, q2, l1, l2, R1, R2, awake_ok, fin_nil, Nat.add_assoc]
  omega
set_option maxRecDepth 100000 in
theorem arg_nums {n : Nat} {x : AV} (h : HasE Tryz.prog (Has Tryz.prog n) 43 x) : ∃ U : List Nat, x = .list 1 (U.map fun j => .int .u16 (j : Nat)) .no ∧ (∀ j ∈ U, j ≤ 65535) ∧ U.length ≤ maxLen := by
  obtain ⟨xs, m, rfl, h1, h2⟩ := has_slice Tryz.underlying43 h
  obtain ⟨U, rfl, hU⟩ := choose_list' (p := fun j : Nat => AV.int .u16 (j : Nat)) (q := fun j : Nat => j ≤ 65535) fun x hx => has_u16 Tryz.underlying146 (h2 x hx)
  have hc : Tryz.prog.cellsOf 146 = 1 := by kernel_rfl
  rw [hc]
  exact ⟨U, rfl, hU, by simpa using h1⟩
set_option maxRecDepth 100000 in
theorem AbnfBrackets_law (xs : List AV) (h : HasArgs Tryz.prog [43, 43, 5] xs) : (lim XS T).call 4 xs [] = some (.bool true, []) := by
  obtain ⟨a0, r0, n0, rfl, h0, h⟩ := h
  obtain ⟨a1, r1, n1, rfl, h1, h⟩ := h
  obtain ⟨a2, r2, n2, rfl, h2, h⟩ := h
  obtain rfl := args_nil h
  obtain ⟨U, rfl, hU, lU⟩ := arg_nums h0
  obtain ⟨V, rfl, hV, lV⟩ := arg_nums h1
  obtain ⟨c, rfl⟩ := has_u8 Tryz.underlying5 h2
  exact brackets_true U V c hU hV
end Go.Proofs.YtmmapbhhkmchcaaGreatDoor
