/-
  AbnfTells, in the machine.
-/
import Derived.Test.YtmmapbhhkmchcaaGreatDoorE3
set_option linter.unusedVariables false
set_option linter.unusedSimpArgs false
namespace Go.Proofs.YtmmapbhhkmchcaaGreatDoor
open Go Go.Am

theorem small_ok' (l : List Tok) (rt : Rt) (h : Heap) : M.call 7 [.list 7 (l.map tokA) rt] h = some (.bool (decide (l.length ≤ 300)), h) := by
  refine call_of tab7 rfl (callF_wp ?_)
  simp [wB7, le_lit]
theorem fin_nil (l : Heap) (b : Bool) : finish [] l (.bool b) = some (.bool b, []) := by
  have := finish_app [] l (.bool b)
  simpa using this
def InvTl (l1 l2 : List Tok) (r1 r2 : Rt) (x : Ru) (k : Nat) (σ : Slots) (h : Heap) : Prop := ∃ i, i ≤ 2 ∧ k = 2 - i ∧ σ 4 = .ptr 0 0 ∧ σ 45 = .list 1 [.list 7 (l1.map tokA) r1, .list 7 (l2.map tokA) r2] .full ∧ σ 46 = .int .i64 2 ∧ σ 47 = .int .i64 (i : Nat) ∧ h = [.cells (ruL x)]
set_option maxRecDepth 20000 in
theorem tells_true (l : List Tok) (x : Ru) (s : List UInt8) (rt : Rt) (hrt : ∀ t, rt ≠ .tok t) (hl : l.length ≤ 1000000000) (ht : ∀ t ∈ l, t.text.length ≤ 1000000000) (hn : x.name.length ≤ 1000000000) (hw : x.tree.wt ≤ 1000000000) :
    M.call 3 [.list 7 (l.map tokA) rt, ruA x, .str s] [] = some (.bool true, []) := by
  have hT := TOk_wt hw
  have nd := nodes300_ok x.tree hT
  have sm := small_ok' l rt
  refine call_of tab3 rfl (callF_wp ?_)
  by_cases c1 : l.length ≤ 300
  · by_cases c2 : 300 < ndT x.tree 300 0
    · simp [-getElem?_pos, wB3, sm, c1, ruA_cells, ruL_tree, ruL_take, nd, c2, awake_ok, fin_nil]
    · by_cases c3 : 2000 < s.length
      · have c3' : (2000 : Int) < s.length := by omega
        simp [-getElem?_pos, wB3, sm, c1, ruA_cells, ruL_tree, ruL_take, nd, c2, c3', awake_ok, fin_nil]
      · have c3' : ¬ (2000 : Int) < s.length := by omega
        obtain ⟨y, hy, r, rfl, hr⟩ := lex_ok' s (by omega) [.cells (ruL x)]
        have hc := lexP_cnt s
        have htx := lexP_t s
        have pr := print_ok x hn hw hT
        have rp := rprint_ok x hn hw hT
        have rg := right_ok x.tree hT
        have rr := rright_ok x.tree hT
        have step : ∀ (l1 : List Tok) (r1 : Rt), l1.length ≤ 1000000000 → (∀ t ∈ l1, t.text.length ≤ 1000000000) → (∀ t, r1 = .tok t → t < 1) → ∃ b1 b2 : Bool, M.call 11 [.list 7 (l1.map tokA) r1] [.cells (ruL x)] = some (.tup [.list 10 ((parseP l1).1.map ruA) (rtB b1), .int .i64 (parseP l1).2.1, .int .i64 (parseP l1).2.2], [.cells (ruL x)]) ∧
            M.call 12 [.list 7 (l1.map tokA) r1] [.cells (ruL x)] = some (.tup [.list 10 ((parseP l1).1.map ruA) (rtB b2), .int .i64 (parseP l1).2.1, .int .i64 (parseP l1).2.2], [.cells (ruL x)]) ∧
            ∀ h, M.call 13 [.list 10 ((parseP l1).1.map ruA) (rtB b1), .list 10 ((parseP l1).1.map ruA) (rtB b2), .bool true] h = some (.bool true, h) := by
          intro l1 r1 h1 h2 h3
          obtain ⟨z, hz, b1, rfl⟩ := parse_ok l1 r1 h1 h2 [.cells (ruL x)] (by simpa using h3)
          obtain ⟨w, hw', b2, rfl⟩ := rparse_ok l1 r1 h1 h2 [.cells (ruL x)]
          obtain ⟨k1, k2⟩ := parseP_ok h1 h2
          refine ⟨b1, b2, hz, hw', fun h => ?_⟩
          rw [rules_ok true _ _ _ _ k2 k2 (fun x hx => (k1 x hx).1) (fun x hx => (k1 x hx).1), eqRs_refl]
        obtain ⟨b1, b2, q1, q2, q3⟩ := step l rt hl ht (fun t h => absurd h (hrt t))
        obtain ⟨b3, b4, q4, q5, q6⟩ := step (lexP s).1 r (by omega) (fun t h => by have := htx t h; omega) (by simpa using hr)
        have L : ∀ σ : Slots, σ 4 = .ptr 0 0 → σ 45 = .list 1 [.list 7 (l.map tokA) rt, .list 7 ((lexP s).1.map tokA) r] .full → σ 46 = .int .i64 2 → σ 47 = .int .i64 0 →
            Wp M (.loop L3_0) (blkQ 0 (thenQ (Wp M K3_0 (fun e σ h => isEnd e ∧ ∃ vs, resVals σ h [ARes.tmp 6] = some vs ∧ finish [] h (oneOf vs) = some (.bool true, []))) (fun e σ h => isEnd e ∧ ∃ vs, resVals σ h [ARes.tmp 6] = some vs ∧ finish [] h (oneOf vs) = some (.bool true, [])))) σ [.cells (ruL x)] := by
          intro σ s4 s45 s46 s47
          refine Wp.loop (InvTl l (lexP s).1 rt r x) ?_ (n := 2) ⟨0, by omega, rfl, s4, s45, s46, s47, rfl⟩
          clear s4 s45 s46 s47 σ
          rintro k σ h ⟨i, hi, rfl, s4, s45, s46, s47, rfl⟩
          match i, hi with
          | 0, _ =>
            simp [-getElem?_pos, wL3_0, s4, s45, s46, s47, q1, q2, q3]
            exact ⟨1, by omega, 1, by omega, rfl, by simp [s4], by simp [s45], by simp [s46], by simp; decide, rfl⟩
          | 1, _ =>
            simp [-getElem?_pos, wL3_0, s4, s45, s46, s47, q4, q5, q6]
            exact ⟨2, by omega, rfl, by simp [s4], by simp [s45], by simp [s46], by simp; decide, rfl⟩
          | 2, _ =>
            simp [-getElem?_pos, wL3_0, wK3_0, s4, s45, s46, s47, ruA_cells, ruL_tree, ruL_take, ruL_agg, rg, rr, pr, rp, awake_ok, fin_nil]
        simp [-getElem?_pos, wB3, sm, c1, ruA_cells, ruL_tree, ruL_take, nd, c2, c3', hy]
        simp at L
        refine L _ ?_ ?_ ?_ ?_ <;> simp
  · simp [-getElem?_pos, wB3, sm, c1, ruA_cells, ruL_take, awake_ok, fin_nil]
end Go.Proofs.YtmmapbhhkmchcaaGreatDoor
