/-
  ReplyLimits.
-/
import Derived.Test.YtjdpneceeinhhaaDoorQ2
set_option linter.unusedVariables false
set_option linter.unusedSimpArgs false
namespace Go.Proofs.YtjdpneceeinhhaaDoor
open Go Go.Am

def longB (k : Nat) : List UInt8 := repL [120] (500 + k)
def dashB : List UInt8 := [53, 53, 48, 45]
def lastB : List UInt8 := [53, 53, 48, 32]
theorem rL : ∀ k, k < 3 → rightP 250 [longB k] = decide (k = 0)
  | 0, _ => by decide +kernel
  | 1, _ => by decide +kernel
  | 2, _ => by decide +kernel
theorem rM : ∀ k, k < 3 → rightP 550 (List.replicate (100 + k) []) = decide (k = 0)
  | 0, _ => by decide +kernel
  | 1, _ => by decide +kernel
  | 2, _ => by decide +kernel
theorem pL : ∀ k, k < 3 → (parseP [[50, 53, 48, 32] ++ longB k]).2.2 = if k = 0 then 0 else 180
  | 0, _ => by decide +kernel
  | 1, _ => by decide +kernel
  | 2, _ => by decide +kernel
theorem pA : ∀ k, k < 3 → parseP (List.replicate (100 + k) dashB) = ((0, []), 0, if k = 0 then 181 else 180)
  | 0, _ => by decide +kernel
  | 1, _ => by decide +kernel
  | 2, _ => by decide +kernel
theorem pB : ∀ k, k < 3 → (parseP (List.replicate (99 + k) dashB ++ [lastB])).2 = if k = 0 then (100, 0) else (0, 180)
  | 0, _ => by decide +kernel
  | 1, _ => by decide +kernel
  | 2, _ => by decide +kernel

def manyB (n i : Nat) : Txt := List.replicate i dashB ++ List.replicate (n - i) []
theorem many_len (n i : Nat) (h : i ≤ n) : (manyB n i).length = n := by simp [manyB]; omega
def InvLi (n : Nat) (k g : Int) (m : Nat) (σ : Slots) (h : Heap) : Prop := ∃ i, i ≤ n ∧ m = n - i ∧ σ 3 = .int .i64 k ∧ σ 5 = .sl 1 0 0 n n ∧ σ 12 = .int .i64 g ∧ σ 74 = .int .i64 n ∧ σ 75 = .int .i64 i ∧ h[0]? = some (.cells ((manyB n i).map AV.str))
theorem limits_ok (n : Nat) (hn : n ≤ 255) : M.call 7 [.int .u8 n] [] = some (.bool true, []) := by
  refine call_of tab7 rfl (callF_wp ?_)
  have tm : (n : Int).tmod 3 = ((n % 3 : Nat) : Int) := rfl
  have aw := fun h => awake_ok h
  have hk : n % 3 < 3 := Nat.mod_lt _ (by omega)
  generalize n % 3 = k at *
  have wk : IntKind.wrap .i64 (k : Int) = k := wrap64 (by omega) (by omega)
  have h1 := rL k hk
  have h2 := rM k hk
  have h3 := pL k hk
  have h4 := pA k hk
  have h5 := pB k hk
  have hll : (longB k).length = 500 + k := by
    have : ∀ m, (repL [120] m).length = m := fun m => by
      induction m with
      | zero => rfl
      | succ m ih => simp [repL, ih]
    exact this _
  have rp := fun h => repeat_ok [120] (500 + k) (by omega) (by simp; omega) h
  rw [show repL [120] (500 + k) = longB k from rfl] at rp
  have s1 := fun h => say_ok 250 (.list 1 [.str (longB k)] .full) [longB k] h rfl (by simp)
  have s2 := fun h (hh : rowOf h (.sl 1 0 0 (100 + k) (100 + k)) = some ((List.replicate (100 + k) ([] : List UInt8)).map AV.str)) => say_ok 550 (.sl 1 0 0 (100 + k) (100 + k)) (List.replicate (100 + k) []) h hh (by simp; omega)
  obtain ⟨f, hx⟩ := parse_eq [[50, 53, 48, 32] ++ longB k] (by simp [big]) .full
  rw [h1] at s1
  rw [h2] at s2
  have w5 : IntKind.wrap .i64 (500 + (k : Int)) = ((500 + k : Nat) : Int) := by rw [wrap64 (by omega) (by omega)]; omega
  have w1 : IntKind.wrap .i64 (100 + (k : Int)) = ((100 + k : Nat) : Int) := by rw [wrap64 (by omega) (by omega)]; omega
  generalize longB k = L at *
  generalize hK : 500 + k = K at *
  generalize hN : 100 + k = N at *
  generalize hJ : 99 + k = J at *
  have hJN : J + 1 = N := by omega
  have wJ : IntKind.wrap .i64 ((N : Int) - 1) = (J : Int) := by rw [wrap64 (by omega) (by omega)]; omega
  generalize parseP [[50, 53, 48, 32] ++ L] = pl at *
  obtain ⟨⟨c1, l1⟩, m1, g1⟩ := pl
  simp only at h3
  subst h3
  simp [repA, strL] at s1 s2 hx
  have s3 := fun l' => s2 (.cells (List.replicate N (.str [])) :: l') (by simp [rowOf])
  have n1 : (N : Int) * 16 ≤ 70368744177664 := by omega
  have n2 : (N : Int) ≤ 70368744177664 := by omega
  have n3 : 4 + L.length ≤ 140737488355328 := by omega
  have loop : ∀ (g : Int) (σ : Slots) (h : Heap) (Q : Ex → Slots → Heap → Prop), σ 3 = .int .i64 k → σ 5 = .sl 1 0 0 N N → σ 12 = .int .i64 g → σ 74 = .int .i64 N → σ 75 = .int .i64 0 → h[0]? = some (.cells ((List.replicate N ([] : List UInt8)).map AV.str)) →
      (∀ σ' h', σ' 3 = .int .i64 k → σ' 5 = .sl 1 0 0 N N → σ' 12 = .int .i64 g → h'[0]? = some (.cells ((List.replicate N dashB).map AV.str)) → Q (.exit 0) σ' h') → Wp M (.loop L7_0) Q σ h := by
    intro g σ h Q t3 t5 t12 t74 t75 hh hQ
    refine Wp.loop (InvLi N k g) ?_ (n := N) ⟨0, by omega, by omega, t3, t5, t12, t74, by simpa using t75, by simpa [manyB] using hh⟩
    rintro m σ h ⟨i, hi, rfl, t3, t5, t12, t74, t75, hh⟩
    by_cases hlt : i < N
    · have hltI : (i : Int) < N := by omega
      have e64 : IntKind.wrap .i64 ((i : Int) + 1) = ((i + 1 : Nat) : Int) := by rw [wrap64 (by omega) (by omega)]; rfl
      have hml := many_len N i hi
      have hset : ((manyB N i).map AV.str).take i = (List.replicate i dashB).map AV.str := by
        simp [manyB]
      have hdr : ((manyB N i).map AV.str).drop (i + 1) = (List.replicate (N - (i + 1)) ([] : List UInt8)).map AV.str := by
        apply List.ext_getElem?
        intro j
        simp only [List.getElem?_drop, List.getElem?_map, manyB, List.getElem?_append, List.length_replicate, List.getElem?_replicate]
        rw [if_neg (by omega)]
        have : (i + 1 + j - i < N - i) = (j < N - (i + 1)) := propext ⟨fun h => by omega, fun h => by omega⟩
        simp only [this]
      have hnew : (List.replicate i dashB).map AV.str ++ AV.str dashB :: (List.replicate (N - (i + 1)) ([] : List UInt8)).map AV.str = (manyB N (i + 1)).map AV.str := by
        simp [manyB, List.replicate_succ']
      have hmlen : ((manyB N i).map AV.str).length = N := by simpa using hml
      generalize (manyB N i).map AV.str = Z at *
      simp [-List.map_replicate, wL7_0, t3, t5, t12, t74, t75, hlt, hltI, hh, hmlen, e64, hset, hdr]
      refine ⟨by omega, N - (i + 1), by omega, i + 1, by omega, rfl, by simp [t3], by simp [t5], by simp [t12], by simp [t74], by simp, ?_⟩
      rw [get_set (List.getElem?_eq_some_iff.1 hh).1]
      rw [← hnew]
      rfl
    · obtain rfl : i = N := by omega
      simp [wL7_0, t3, t5, t12, t74, t75]
      exact hQ _ _ (by simp [t3]) (by simp [t5]) (by simp [t12]) (by simpa [manyB] using hh)
  have tail : ∀ h' : Heap, h'[0]? = some (.cells ((List.replicate N dashB).map AV.str)) → ∃ f, M.call 11 [.sl 1 0 0 N N] (h'.set 0 (.cells ((List.replicate J dashB).map AV.str ++ [AV.str lastB])) ++ [AE.dead]) = some (.tup [.agg [.int .i64 (parseP (List.replicate J dashB ++ [lastB])).1.1, .list 1 ((parseP (List.replicate J dashB ++ [lastB])).1.2.map AV.str) f], .int .i64 (parseP (List.replicate J dashB ++ [lastB])).2.1, .int .i64 (parseP (List.replicate J dashB ++ [lastB])).2.2], h'.set 0 (.cells ((List.replicate J dashB).map AV.str ++ [AV.str lastB])) ++ [AE.dead]) := by
    intro h' hh
    have hlt := (List.getElem?_eq_some_iff.1 hh).1
    have hlen : (List.replicate J dashB ++ [lastB]).length = N := by simp; omega
    obtain ⟨x, hx, f, hf⟩ := parse_row_ok (List.replicate J dashB ++ [lastB]) (by rw [hlen]; unfold big; omega) 0 (h'.set 0 (.cells ((List.replicate J dashB).map AV.str ++ [AV.str lastB])) ++ [AE.dead]) (by
      rw [List.getElem?_append_left (by simpa using hlt), get_set hlt]
      simp)
    subst hf
    rw [hlen] at hx
    exact ⟨f, hx⟩
  have hZt : ((List.replicate N dashB).map AV.str).take J = (List.replicate J dashB).map AV.str := by
    rw [← hJN]
    simp
  have hZd : ((List.replicate N dashB).map AV.str).drop (J + 1) = [] := by simp; omega
  have hZl : ((List.replicate N dashB).map AV.str).length = N := by simp
  have rf := fun (w : Int) h' hh => refused_row_ok w (List.replicate N dashB) (by simp [big]; omega) 0 h' hh
  simp only [List.length_replicate] at rf
  rw [h4] at rf
  generalize parseP (List.replicate J dashB ++ [lastB]) = pl at *
  obtain ⟨⟨c1, l1⟩, m1, g1⟩ := pl
  generalize (List.replicate N dashB).map AV.str = Z at *
  generalize (List.replicate J dashB).map AV.str = Y at *
  have hJl : (J : Int) < N := by omega
  have hJl2 : J + 1 ≤ N := by omega
  by_cases hk0 : k = 0
  · have hkT : (k = 0) = True := eq_true hk0
    have hkP : (0 < k) = False := eq_false (by omega)
    simp only [hkT, if_true, decide_true] at s1 s3 h4 h5
    simp [wB7, tm, wk, w5, w1, rp, s1, s3, n1, n2, n3, hx, hkT]
    refine ⟨by omega, loop 0 _ _ _ (by simp) (by simp) (by simp) (by simp) (by simp) (by simp) fun σ' h' t3 t5 t12 hh => ?_⟩
    obtain ⟨f', ht⟩ := tail h' hh
    unfold lastB at ht
    have rf1 := rf 181 h' hh
    simp only [hkT, if_true, Prod.mk.injEq] at h5 rf1
    obtain ⟨rfl, rfl⟩ := h5
    simp at rf1
    simp [wK7_0, t3, t5, t12, hkT, hkP, rf1, ht, aw, hh, wJ, hJl, hJl2, hZl, hZt, hZd]
    try fail "x"
  · have hkF : (k = 0) = False := eq_false hk0
    have hkP : (0 < k) = True := eq_true (by omega)
    simp only [hkF, if_false, decide_false] at s1 s3 h4 h5
    simp [wB7, tm, wk, w5, w1, rp, s1, s3, n1, n2, n3, hx, hkF]
    refine loop 180 _ _ _ (by simp) (by simp) (by simp) (by simp) (by simp) (by simp) fun σ' h' t3 t5 t12 hh => ?_
    obtain ⟨f', ht⟩ := tail h' hh
    unfold lastB at ht
    have rf1 := rf 180 h' hh
    simp only [hkF, if_false, Prod.mk.injEq] at h5 rf1
    obtain ⟨rfl, rfl⟩ := h5
    simp at rf1
    simp [wK7_0, t3, t5, t12, hkF, hkP, rf1, ht, aw, hh, wJ, hJl, hJl2, hZl, hZt, hZd]
    try fail "x"
set_option maxRecDepth 100000 in
theorem ReplyLimits_law (xs : List AV) (h : HasArgs Tryd.prog [5] xs) : (lim XS T).call 7 xs [] = some (.bool true, []) := by
  obtain ⟨a0, r0, n0, rfl, h0, h⟩ := h
  obtain rfl := args_nil h
  obtain ⟨c, rfl⟩ := has_u8 Tryd.underlying5 h0
  exact limits_ok c.toNat (by have := c.toNat_lt; omega)
end Go.Proofs.YtjdpneceeinhhaaDoor
