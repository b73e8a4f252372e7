/-
  DotsLines: the walk.
-/
import Derived.Test.YtbhdfmkcoolghaaV2
import Derived.Test.YtbhdfmkcoolghaaW1
set_option linter.unusedVariables false
set_option linter.unusedSimpArgs false
namespace Go.Proofs.Ytbhdfmkcoolghaa
open Go Go.Am Go.RowKit

theorem decA_cases (s : List UInt8) : ∃ (gb : List UInt8) (n : Nat) (ok : Bool), decA s = .tup [.list 1 (ofBytes gb) .no, .int .i64 (n : Nat), .bool ok] ∧ decP s = (if ok then some (gb, n) else none) ∧ (ok = false → gb = [] ∧ n = 0) := by
  unfold decA
  cases h : decP s with
  | none => exact ⟨[], 0, false, rfl, rfl, fun _ => ⟨rfl, rfl⟩⟩
  | some x => exact ⟨x.1, x.2, true, rfl, rfl, fun h => (by cases h)⟩
def lnI (x : Item) : AV := .agg [.str x.1, .bool false]
def InvD (L : List Item) (gb : List UInt8) (n : Nat) (ok : Bool) (r : Rt) (h0 : Heap) (k : Nat) (σ : Slots) (h : Heap) : Prop := ∃ i, i ≤ L.length ∧ k = L.length - i ∧ goOn (L.take i) ∧
  σ 7 = .list 1 (ofBytes gb) .no ∧ σ 8 = .int .i64 (n : Nat) ∧ σ 9 = .bool ok ∧ σ 38 = .list 2 (L.map lnI) r ∧ σ 39 = .int .i64 (L.length : Nat) ∧ σ 40 = .int .i64 (i : Nat) ∧ σ 10 = .str (bodyL (L.take i)) ∧ σ 11 = .int .i64 (lenL (L.take i) : Nat) ∧ h.take h0.length = h0
theorem ended_len (s : List UInt8) : lenL (endedL (linesP s)) ≤ s.length := by
  refine lines_ind (p := fun s => lenL (endedL (linesP s)) ≤ s.length) ?_ ?_ ?_ s
  · simp [lines_nil, endedL, lenL]
  · intro s h1 h2
    rw [lines_last h2 h1]
    simp [endedL, lenL]
  · intro l r h1 ih
    rw [lines_cons h1]
    have : endedL ((l, true) :: linesP r) = (l, true) :: endedL (linesP r) := rfl
    rw [this]
    simp [lenL]
    omega
theorem lenL_ge : ∀ xs : List Item, 2 * xs.length ≤ lenL xs
  | [] => by simp [lenL]
  | x :: r => by
    have := lenL_ge r
    simp only [lenL, List.length_cons]
    omega
theorem dotsLines_ok (s : List UInt8) (rs : Rt) (hs : s.length ≤ 9223372036854775807) (h0 : Heap) : ML.call 4 [.list 1 (ofBytes s) rs] h0 = some (.bool true, h0) := by
  refine lim_call_of tab4 (XL_none (by decide) (by decide) (by decide) _ _) (callF_wp ?_)
  have aw := fun h => awake_ok h
  by_cases h1 : s.length ≤ 1500
  · have n1 : ¬ (1500 < (s.length : Int)) := by omega
    have hd := fun h => decM s rs (by omega) h
    obtain ⟨gb, n, ok, e, hdp, hz⟩ := decA_cases s
    rw [e] at hd
    have hnew := fun h => new_ok XL (fun a h => XL_none (by decide) (by decide) (by decide) a h) 2000 h (by decide) (by decide)
    obtain ⟨x, hx, ⟨r, hr, rfl⟩⟩ := push_ok XL (fun a h => XL_none (by decide) (by decide) (by decide) a h) (fun a h => XL_none (by decide) (by decide) (by decide) a h) 2000 [] false false s rs (by simp) (by omega) (h0 ++ [.cells [.int .i64 2000, .str [], .bool false, .bool false], .dead])
    have hout := frame_lines 2000 s [] (by omega)
    rw [List.nil_append] at hout
    generalize pushB 2000 ⟨[], false, false, []⟩ s = P at *
    rw [hout, List.map_map, show (lnA ∘ fun x : Item => (x.1, false)) = lnI from rfl] at hx
    have hL := ended_len s
    have hL2 := lenL_ge (endedL (linesP s))
    have hat := fun pre post x => dec_at (s := s) (pre := pre) (post := post) (x := x)
    have hnev := dec_never (s := s)
    have hen : ∀ y ∈ endedL (linesP s), y.2 = true := fun y hy => ended_mem hy
    generalize endedL (linesP s) = L at *
    simp only [frA] at hnew hx
    simp [wB4, n1, hd, hnew, hx]
    refine Wp.loop (InvD L gb n ok r h0) ?_ (n := L.length) ⟨0, by omega, by omega, by simp [goOn], by simp, by simp, by simp, by simp, by simp, by simp, by simp [bodyL], by simp [lenL], by simp⟩
    rintro k σ h ⟨i, hi, rfl, hg, s7, s8, s9, s38, s39, s40, s10, s11, ht⟩
    have hle : h0.length ≤ h.length := by have := congrArg List.length ht; simp at this; omega
    have ht' : ∀ l, (h ++ l).take h0.length = h0 := fun l => by rw [take_app hle, ht]
    by_cases hlt : i < L.length
    · obtain ⟨x, ec⟩ : ∃ x, L[i]? = some x := ⟨_, List.getElem?_eq_getElem hlt⟩
      have e64 : IntKind.wrap .i64 ((i : Int) + 1) = ((i + 1 : Nat) : Int) := by rw [wrap64 (by omega) (by omega)]; rfl
      have htk : L.take (i + 1) = L.take i ++ [x] := by rw [List.take_add_one, ec]; rfl
      have hsp : L = L.take i ++ x :: L.drop (i + 1) := by
        rw [← List.singleton_append, ← List.append_assoc, ← htk, List.take_append_drop]
      have hlen : lenL (L.take i) + (x.1.length + 2) ≤ s.length := by
        have := congrArg lenL hsp
        rw [lenL_app] at this
        simp only [lenL] at this
        omega
      have hbl := bodyL_len (L.take i)
      have hu := fun h => unstuff_ok noxL x.1 h
      have hst := fun h => stuff_ok noxL (unP x.1) (by have := unP_len x.1; omega) h
      have ec' : (L.map lnI)[i]? = some (lnI x) := by rw [List.getElem?_map, ec]; rfl
      have w1 : IntKind.wrap .i64 ((x.1.length : Int) + 2) = (x.1.length : Int) + 2 := wrap64 (by omega) (by omega)
      generalize hpl : lenL (L.take i) = pl at *
      have w2 : IntKind.wrap .i64 ((pl : Int) + ((x.1.length : Int) + 2)) = (pl : Int) + ((x.1.length : Int) + 2) := wrap64 (by omega) (by omega)
      generalize hpb : bodyL (L.take i) = pb at *
      by_cases hx1 : x.1 = [46]
      · have hdp2 := hat (L.take i) (L.drop (i + 1)) x hsp hg hx1
        rw [hdp, hpl, hpb] at hdp2
        cases ok with
        | false => simp at hdp2
        | true =>
          simp at hdp2
          obtain ⟨rfl, rfl⟩ := hdp2
          rw [hx1] at hu w2
          have w0 : IntKind.wrap .i64 3 = 3 := by decide
          have w2' : IntKind.wrap .i64 ((pl : Int) + 3) = (pl : Int) + 3 := w2
          simp [-getElem?_pos, wL4_0, s7, s8, s9, s38, s39, s40, s10, s11, hlt, ec, lnI, hx1, hu, w0, w2', aw, finish_of_take (ht' _)]
      · have hx2 : ¬ x.1 = [46] := hx1
        have hul := unP_len x.1
        have hc1 : (unP x.1).length + 2 ≤ 140737488355328 := by omega
        have hc2 : pb.length + ((unP x.1).length + 2) ≤ 140737488355328 := by omega
        have hc3 : 1 + (unP x.1).length ≤ 140737488355328 := by omega
        have next : ∀ (σ' : Slots) (g : Heap), σ' 7 = σ 7 → σ' 8 = σ 8 → σ' 9 = σ 9 → σ' 38 = σ 38 → σ' 39 = σ 39 → σ' 40 = .int .i64 ((i + 1 : Nat) : Int) → σ' 10 = .str (pb ++ (unP x.1 ++ [13, 10])) → σ' 11 = .int .i64 ((pl : Int) + ((x.1.length : Int) + 2)) → g.take h0.length = h0 → ∃ m, m < L.length - i ∧ InvD L gb n ok r h0 m σ' g :=
          fun σ' g a1 a2 a3 a4 a5 a6 a7 a8 a9 => ⟨L.length - (i + 1), by omega, i + 1, by omega, rfl, by
            rw [htk]
            intro y hy
            rw [List.mem_append, List.mem_singleton] at hy
            rcases hy with hy | rfl
            · exact hg y hy
            · exact ⟨hen _ (List.mem_of_getElem? ec), hx2⟩, by rw [a1, s7], by rw [a2, s8], by rw [a3, s9], by rw [a4, s38], by rw [a5, s39], a6, by rw [a7, htk, bodyL_add, hpb]; simp, by rw [a8, htk, lenL_add, hpl]; congr 1, a9⟩
        by_cases hse : stuffP (unP x.1) = x.1
        · simp [-getElem?_pos, wL4_0, s7, s8, s9, s38, s39, s40, s10, s11, hlt, ec, lnI, hx1, hu, hst, w1, w2, hse, hc1, hc2, e64]
          exact next _ _ (by simp) (by simp) (by simp) (by simp) (by simp) (by simp) (by simp) (by simp) (ht' _)
        · have hsf : x.1 = 46 :: unP x.1 := (stuff_un x.1).resolve_left hse
          simp [-getElem?_pos, wL4_0, s7, s8, s9, s38, s39, s40, s10, s11, hlt, ec, lnI, hx1, hu, hst, w1, w2, hse, ← hsf, hc1, hc2, hc3, e64]
          exact next _ _ (by simp) (by simp) (by simp) (by simp) (by simp) (by simp) (by simp) (by simp) (ht' _)
    · have hi' : i = L.length := by omega
      subst hi'
      rw [List.take_length] at hg
      have hdp2 := hnev hg
      rw [hdp] at hdp2
      cases ok with
      | true => simp at hdp2
      | false =>
        obtain ⟨rfl, rfl⟩ := hz rfl
        simp [-getElem?_pos, wL4_0, wK4_0, s7, s8, s9, s39, s40, aw, finish_of_take ht]
  · have n1 : (1500 < (s.length : Int)) := by omega
    simp [wB4, n1, aw]
theorem DotsLines_law (xs : List AV) (h : HasArgs Try.prog [22] xs) : (lim XL T).call 4 xs [] = some (.bool true, []) := by
  obtain ⟨a0, r0, n0, rfl, h0, h⟩ := h
  obtain rfl := args_nil h
  obtain ⟨s, rfl, hs⟩ := has_bytes Try.underlying22 Try.underlying5 (by kernel_rfl) h0
  exact dotsLines_ok s _ hs []
end Go.Proofs.Ytbhdfmkcoolghaa
