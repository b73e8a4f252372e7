/-
  reply: Say; what is refused, of a row that is written.
-/
import Derived.Test.YtjdpneceeinhhaaDoorQ1
set_option linter.unusedVariables false
set_option linter.unusedSimpArgs false
namespace Go.Proofs.YtjdpneceeinhhaaDoor
open Go Go.Am

theorem rowOf_app {h : Heap} {v : AV} {xs : List AV} (hr : rowOf h v = some xs) (l' : Heap) : rowOf (h ++ l') v = some xs := by
  have key : ∀ b e, h[b]? = some e → (h ++ l')[b]? = some e := fun b e hb => by rw [List.getElem?_append_left (List.getElem?_eq_some_iff.1 hb).1]; exact hb
  unfold rowOf at hr
  split at hr
  · exact hr
  · rename_i b o n c
    split at hr
    · rename_i cs hb
      simp only [rowOf]
      rw [key _ _ hb]
      exact hr
    · cases hr
  · rename_i b n
    split at hr
    · rename_i cs hb
      simp only [rowOf]
      rw [key _ _ hb]
      exact hr
    · cases hr
  · cases hr
theorem clone_ok (v : AV) (l : Txt) (h : Heap) (hv : rowOf h v = some (l.map AV.str)) (hl : l.length * 16 ≤ 140737488355328) : M.call 29 [v] h = some (.list 1 (l.map AV.str) .no, h) := by
  refine lim_ext ?_
  have e1 : fX 22 itPat 29 [v] h = none := rfl
  have e2 : fX 40 puPat 29 [v] h = none := rfl
  have e3 : fX 21 repPat 29 [v] h = none := rfl
  have e4 : clX 29 29 [v] h = some (.list 1 (l.map AV.str) .no, h) := by
    unfold clX
    rw [if_pos rfl, clPat_of hv hl]
    rfl
  unfold XS orX
  rw [e1]
  simp only
  rw [e2]
  simp only
  rw [e3]
  simp only
  rw [e4]
theorem say_ok (c : Int) (v : AV) (l : Txt) (h0 : Heap) (hv : rowOf h0 v = some (l.map AV.str)) (hl : l.length ≤ 1000000000) :
    M.call 20 [.int .i64 c, v] h0 = some (if rightP c l then .tup [.agg [.int .i64 c, .list 1 (l.map AV.str) .no], .int .i64 0] else .tup [.agg [.int .i64 0, .list 1 [] .full], .int .i64 180], h0) := by
  refine call_of tab20 rfl (callF_wp ?_)
  have hc := clone_ok v l _ (rowOf_app hv [AE.cells [.int .i64 0, .list 1 [] .full], .dead]) (by omega)
  have hr := fun h => right_ok c l (by unfold big; omega) .no h
  have hlow := txt_low h0.length l
  simp [repA, strL] at hr hc
  cases hR : rightP c l with
  | true =>
    rw [hR] at hr
    simp [wB20, hc, hr, hlow]
  | false =>
    rw [hR] at hr
    simp [wB20, hc, hr]
theorem refused_row_ok (want : Int) (l : Txt) (hl : l.length ≤ big) (b : Nat) (h : Heap) (hb : h[b]? = some (.cells (l.map AV.str))) : M.call 15 [.int .i64 want, .sl 1 b 0 l.length l.length] h = some (.bool (decide ((parseP l).2.2 = want ∧ (parseP l).2.1 = 0 ∧ (parseP l).1.1 = 0 ∧ (parseP l).1.2 = [])), h) := by
  refine call_of tab15 rfl (callF_wp ?_)
  obtain ⟨x, hx, f, hf⟩ := parse_row_ok l hl b (h ++ [AE.dead]) (by rw [List.getElem?_append_left (List.getElem?_eq_some_iff.1 hb).1]; exact hb)
  subst hf
  have hlen := parseP_len l
  generalize parseP l = res at *
  obtain ⟨⟨c, ls⟩, n, e⟩ := res
  simp only [repA, strL] at hx hlen
  by_cases h1 : e = want
  · by_cases h2 : n = 0
    · have hs := fun r1 h => same_ok c 0 ls [] r1 .full (by omega) h
      simp [repA, strL] at hs
      simp [wB15, strL, hx, h1, h2, hs]
    · simp [wB15, strL, hx, h1, h2]
  · simp [wB15, strL, hx, h1]
end Go.Proofs.YtjdpneceeinhhaaDoor
