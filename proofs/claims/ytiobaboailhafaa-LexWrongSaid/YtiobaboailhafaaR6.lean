/-
  The reference: the lines of a text.
-/
import Derived.Test.YtiobaboailhafaaR5
set_option linter.unusedVariables false
set_option linter.unusedSimpArgs false
namespace Go.Proofs.Ytiobaboailhafaa
open Go Go.Am

theorem drop_one {l : List UInt8} {k : Nat} {d : UInt8} (h : l[k]? = some d) (hk : l.length = k + 1) : l.drop k = [d] := by
  obtain ⟨h1, h2⟩ := List.getElem?_eq_some_iff.1 h
  rw [List.drop_eq_getElem_cons h1, List.drop_of_length_le (by omega), h2]
theorem cutB_all {l : List UInt8} {c : UInt8} (h : l.all (fun d => d != c) = true) : cutB l c = l := by
  induction l with
  | nil => rfl
  | cons x l ih =>
    simp only [List.all_cons, Bool.and_eq_true] at h
    unfold cutB at ih ⊢
    rw [List.takeWhile_cons, if_pos h.1, ih h.2]
def linesF (src : List UInt8) : Nat → Nat → List (Nat × Nat)
  | 0, _ => []
  | f + 1, a => if a < src.length then (a, a + (cutL (src.drop a)).length) :: linesF src f (a + (cutB (src.drop a) 10).length + 1) else []
def pairA (p : Nat × Nat) : AV := .agg [.int .i64 p.1, .int .i64 p.2]
theorem pair_low (n : Nat) (l : List (Nat × Nat)) : AV.lows n (l.map pairA) := lows_map _ _ fun t _ => by simp [pairA]
def linesR (res : List (Nat × Nat)) (h0 : Heap) (x : AV × Heap) : Prop := ∃ r, x = (.list 2 (res.map pairA) r, h0)
def InvLn (s : List UInt8) (res : List (Nat × Nat)) (h0 : Heap) (k : Nat) (σ : Slots) (h : Heap) : Prop := ∃ i a f out r, a ≤ i ∧ i ≤ s.length ∧ k = s.length - i ∧ ((s.drop a).take (i - a)).all (fun c => c != 10) = true ∧ s.length - a < f ∧ out ++ linesF s f a = res ∧ out.length ≤ i ∧
  σ 0 = .str s ∧ σ 3 = .list 2 (out.map pairA) r ∧ σ 4 = .int .i64 a ∧ σ 5 = .int .i64 i ∧ Ow h0.length h 2 53 r out.length ∧ h.take h0.length = h0

theorem lines_ok (s : List UInt8) (hs : s.length ≤ 1000000000) (h0 : Heap) : ∃ x, M.call 26 [.str s] h0 = some x ∧ linesR (linesF s (s.length + 1) 0) h0 x := by
  refine call_post tab26 rfl ?_
  generalize hres : linesF s (s.length + 1) 0 = res
  generalize hQ : (fun e σ h => isEnd e ∧ ∃ vs, resVals σ h [ARes.tmp 2] = some vs ∧ ∃ r, finish h0 h (oneOf vs) = some r ∧ linesR res h0 r) = Q
  have fin : ∀ (σ : Slots) (h : Heap) (xs : List (Nat × Nat)) (r : Rt), σ 2 = .list 2 (xs.map pairA) r → h.take h0.length = h0 → res = xs → Q .ret σ h := by
    intro σ h xs r s2 ht e
    subst hQ
    have k := pair_low h0.length xs
    subst e
    simp [s2, finish_of_take ht, linesR]
    rcases r with _ | _ | t <;> simp [k]
  simp [wB26]
  refine Wp.loop (InvLn s res h0) ?_ (n := s.length) ⟨0, 0, s.length + 1, [], .full, by omega, by omega, by omega, by simp, by omega, by simpa using hres, by simp, by simp, by simp, by simp, by simp, .full, by simp⟩
  rintro k σ h ⟨i, a, f, out, r, hai, hi, rfl, hall, hf, hd, hout, s0, s3, s4, s5, ow, ht⟩
  obtain ⟨f, rfl⟩ : ∃ g, f = g + 1 := ⟨f - 1, by omega⟩
  unfold linesF at hd
  have hle : h0.length ≤ h.length := by have := congrArg List.length ht; simp at this; omega
  have e64 : IntKind.wrap .i64 ((i : Int) + 1) = ((i + 1 : Nat) : Int) := by rw [wrap64 (by omega) (by omega)]; rfl
  by_cases hlt : i < s.length
  · obtain ⟨c, ec⟩ : ∃ c, s[i]? = some c := ⟨_, List.getElem?_eq_getElem hlt⟩
    have ec' : (s.drop a)[i - a]? = some c := by rw [List.getElem?_drop, ← ec]; congr 1; omega
    have e10 : ((c.toNat : Int) = 10) = (c = 10) := u8_eq c 10 (by omega)
    by_cases h10 : c = 10
    · subst h10
      obtain ⟨q1, q2⟩ := cutB_split ec' hall
      have hlen : ((s.drop a).take (i - a)).length = i - a := by simp; omega
      rw [if_pos (by omega), q1, hlen, show a + (i - a) + 1 = i + 1 by omega] at hd
      have hcut : cutL (s.drop a) = trimSuf ((s.drop a).take (i - a)) [13] := by unfold cutL; rw [if_pos q2, q1]
      -- the pair is put behind
      have put1 : ∀ (Q1 : Ex → Slots → Heap → Prop) (σ : Slots) (e : Nat), a + (cutL (s.drop a)).length = e → σ 0 = .str s → σ 3 = .list 2 (out.map pairA) r → σ 4 = .int .i64 a → σ 5 = .int .i64 i → σ 6 = .int .i64 e →
          (∀ σ g r', σ 0 = .str s → σ 3 = .list 2 ((out ++ [(a, e)]).map pairA) r' → σ 4 = .int .i64 ((i + 1 : Nat) : Int) → σ 5 = .int .i64 i → Ow h0.length g 2 53 r' (out.length + 1) → g.take h0.length = h0 → Q1 .normal σ g) → Wp M J26_0 Q1 σ h := by
        clear s0 s3 s4 s5
        intro Q1 σ e he s0 s3 s4 s5 s6 hQ1
        obtain ⟨r', g', p1, p2, p3⟩ := app_list (n0 := h0.length) (key := h.length) (sz := 2) (bytes := 16) (e := 53) (h := h ++ [AE.dead]) (xs := out.map pairA) (ys := [.agg [.int .i64 a, .int .i64 e]]) (r := r) (r2 := .full) (by simpa using ow.app _) (by omega) (by simp) (by simp; omega) (by simp; omega)
        simp [-Int.natCast_add, wJ26_0, s0, s3, s4, s5, s6]
        rw [p1]
        simp [-Int.natCast_add, s5, e64]
        refine hQ1 _ _ r' (by simp [s0]) (by simp [pairA]) (by simp) (by simp [s5]) (by simpa using p2) ?_
        rw [p3.takeLe (Nat.le_refl _), take_app hle, ht]
      have next : ∀ (σ : Slots) (g : Heap) (r' : Rt) (e : Nat), a + (cutL (s.drop a)).length = e → σ 0 = .str s → σ 3 = .list 2 ((out ++ [(a, e)]).map pairA) r' → σ 4 = .int .i64 ((i + 1 : Nat) : Int) → σ 5 = .int .i64 ((i + 1 : Nat) : Int) → Ow h0.length g 2 53 r' (out.length + 1) → g.take h0.length = h0 → ∃ m, m < s.length - i ∧ InvLn s res h0 m σ g := by
        intro σ g r' e he t0 t3 t4 t5 ow' ht'
        exact ⟨s.length - (i + 1), by omega, i + 1, i + 1, f, out ++ [(a, e)], r', by omega, by omega, rfl, by simp, by omega, by rw [← hd, ← he]; simp, by simp; omega, t0, t3, t4, t5, by simpa using ow', ht'⟩
      by_cases hai2 : a < i
      · have hai3 : (a : Int) < i := by omega
        have w1 : IntKind.wrap .i64 ((i : Int) - 1) = ((i - 1 : Nat) : Int) := by rw [wrap64 (by omega) (by omega)]; omega
        obtain ⟨d, ed⟩ : ∃ d, s[i - 1]? = some d := ⟨_, List.getElem?_eq_getElem (by omega)⟩
        have e13 : ((d.toNat : Int) = 13) = (d = 13) := u8_eq d 13 (by omega)
        have z1 : i - 1 < s.length := by omega
        have edr : ((s.drop a).take (i - a)).drop (i - a - 1) = [d] := by
          refine drop_one ?_ (by rw [hlen]; omega)
          rw [List.getElem?_take, if_pos (by omega), List.getElem?_drop, ← ed]; congr 1; omega
        by_cases h13 : d = 13
        · subst h13
          have hcl : a + (cutL (s.drop a)).length = i - 1 := by
            rw [hcut]
            unfold trimSuf
            rw [hlen, if_pos ⟨by simp; omega, edr⟩]
            simp
            omega
          simp [-getElem?_pos, -Int.natCast_add, wL26_0, s0, s3, s4, s5, hlt, ec, hai2, hai3, w1, ed, z1]
          refine put1 _ _ (i - 1) hcl (by simp [s0]) (by simp [s3]) (by simp [s4]) (by simp [s5]) (by simp) ?_
          intro σ g r' t0 t3 t4 t5 ow' ht'
          simp [-Int.natCast_add, wJ26_1, t5, e64]
          exact next _ g r' (i - 1) hcl (by simp [t0]) (by simp [t3]) (by simp [t4]) (by simp) ow' ht'
        · have hcl : a + (cutL (s.drop a)).length = i := by
            rw [hcut]
            unfold trimSuf
            rw [hlen, if_neg]
            · rw [hlen]; omega
            · rintro ⟨_, q⟩
              have q : ((s.drop a).take (i - a)).drop (i - a - 1) = [13] := q
              rw [edr] at q
              injection q with q
              exact h13 q
          simp [-getElem?_pos, -Int.natCast_add, wL26_0, s0, s3, s4, s5, hlt, ec, hai2, hai3, w1, ed, z1, e13, h13]
          refine put1 _ _ i hcl (by simp [s0]) (by simp [s3]) (by simp [s4]) (by simp [s5]) (by simp) ?_
          intro σ g r' t0 t3 t4 t5 ow' ht'
          simp [-Int.natCast_add, wJ26_1, t5, e64]
          exact next _ g r' i hcl (by simp [t0]) (by simp [t3]) (by simp [t4]) (by simp) ow' ht'
      · have hia : i = a := by omega
        have hcl : a + (cutL (s.drop a)).length = i := by
          rw [hcut]
          unfold trimSuf
          rw [hlen, if_neg (by simp; omega), hlen]
          omega
        have hai3 : ¬ (a : Int) < i := by omega
        simp [-getElem?_pos, -Int.natCast_add, wL26_0, s0, s3, s4, s5, hlt, ec, hai2, hai3]
        refine put1 _ _ i hcl (by simp [s0]) (by simp [s3]) (by simp [s4]) (by simp [s5]) (by simp) ?_
        intro σ g r' t0 t3 t4 t5 ow' ht'
        simp [-Int.natCast_add, wJ26_1, t5, e64]
        exact next _ g r' i hcl (by simp [t0]) (by simp [t3]) (by simp [t4]) (by simp) ow' ht'
    · have e10' := eq_false h10
      rw [← e10] at e10'
      simp [-getElem?_pos, -Int.natCast_add, wL26_0, wJ26_1, s0, s3, s4, s5, hlt, ec, e10', e64]
      refine ⟨s.length - (i + 1), by omega, i + 1, a, f + 1, out, r, by omega, by omega, rfl, ?_, by omega, by rw [← hd]; rfl, by omega, by simp [s0], by simp [s3], by simp [s4], by simp, ow, ht⟩
      rw [show i + 1 - a = (i - a) + 1 by omega, List.take_add_one, ec', List.all_append, hall]
      simp [h10]
  · have hie : i = s.length := by omega
    subst hie
    by_cases hfr : a < s.length
    · rw [if_pos hfr] at hd
      have hnot : ¬ (10 : UInt8) ∈ s.drop a := by
        intro hm
        rw [List.take_of_length_le (by simp), List.all_eq_true] at hall
        have := hall _ hm
        simp at this
      have hcb : cutB (s.drop a) 10 = s.drop a := by
        rw [List.take_of_length_le (by simp)] at hall
        exact cutB_all hall
      have hcl : a + (cutL (s.drop a)).length = s.length := by
        unfold cutL
        rw [if_neg hnot, hcb]
        simp
        omega
      have hlast : linesF s f (a + (cutB (s.drop a) 10).length + 1) = [] := by
        rw [hcb]
        cases f with
        | zero => rfl
        | succ f =>
          unfold linesF
          rw [if_neg (by simp; omega)]
      rw [hcl, hlast] at hd
      have hfr' : (a : Int) < s.length := by omega
      obtain ⟨r', g', p1, p2, p3⟩ := app_list (n0 := h0.length) (key := h.length) (sz := 2) (bytes := 16) (e := 53) (h := h ++ [AE.dead]) (xs := out.map pairA) (ys := [.agg [.int .i64 a, .int .i64 s.length]]) (r := r) (r2 := .full) (by simpa using ow.app _) (by omega) (by simp) (by simp; omega) (by simp; omega)
      simp [-getElem?_pos, -Int.natCast_add, wL26_0, wK26_0, s0, s3, s4, s5, hfr, hfr']
      rw [p1]
      simp [-Int.natCast_add, wJ26_2]
      exact fin _ _ (out ++ [(a, s.length)]) r' (by simp [pairA]) (by rw [p3.takeLe (Nat.le_refl _), take_app hle, ht]) hd.symm
    · rw [if_neg hfr] at hd
      have hfr' : ¬ (a : Int) < s.length := by omega
      simp [-getElem?_pos, -Int.natCast_add, wL26_0, wK26_0, wJ26_2, s0, s3, s4, s5, hfr, hfr']
      exact fin _ _ out r (by simp [s3]) ht (by rw [← hd]; simp)
end Go.Proofs.Ytiobaboailhafaa
