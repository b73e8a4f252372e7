/-
  The reference: a value.
-/
import Derived.Test.YtiobaboailhafaaR3
set_option linter.unusedVariables false
set_option linter.unusedSimpArgs false
namespace Go.Proofs.Ytiobaboailhafaa
open Go Go.Am

def z7 : List AV := tokL {}
def rvA (a : Nat) (f : Fd) : AV := if f.err = 0 then .tup [tokA f.tok, .int .i64 ((a + f.n : Nat) : Int), .bool true] else .tup [tokA {}, .int .i64 0, .bool false]
theorem one_none {base : Nat} {r : List UInt8} (h : oneC base r = none) : runN (hexC base) r = 0 ∨ (runN (hexC base) r ≠ 0 ∧ digV base (runN (hexC base) r) r = -1) := by
  unfold oneC at h
  simp only at h
  split at h
  · rename_i hc
    by_cases h0 : runN (hexC base) r = 0
    · exact .inl h0
    · exact .inr ⟨h0, by unfold digV; rw [if_pos (by omega)]⟩
  · cases h
theorem one_some {base : Nat} {r : List UInt8} {x n : Nat} (h : oneC base r = some (x, n)) : runN (hexC base) r = n ∧ n ≠ 0 ∧ digV base n r = x := by
  unfold oneC at h
  simp only at h
  split at h
  · cases h
  · rename_i hc
    injection h with h
    injection h with h1 h2
    rw [h2] at h1 hc
    refine ⟨h2, by omega, ?_⟩
    unfold digV
    rw [if_neg (by omega), h1]

def InvW (s : List UInt8) (a base : Nat) (res : Fd) (h0 : Heap) (k : Nat) (σ : Slots) (h : Heap) : Prop := ∃ i f t r, a + i ≤ s.length ∧ k = s.length - i ∧ s.length + 1 ≤ i + f + a ∧ t.length ≤ i ∧ dotsP base (s.drop a) f i t = res ∧
  σ 0 = .str s ∧ σ 1 = .int .i64 ((a + i : Nat) : Int) ∧ σ 4 = .ptr h0.length 0 ∧ σ 7 = .int .i64 base ∧ σ 12 = .list 1 (ofBytes t) r ∧ Ow (h0.length + 1) h 1 5 r t.length ∧ h.take h0.length = h0 ∧ h[h0.length]? = some (.cells z7)

theorem rvalue_loop (s : List UInt8) (hs : s.length ≤ 1000000000) (a base : Nat) (hb : base ≤ 16) (res : Fd) (h0 : Heap) (Q : Ex → Slots → Heap → Prop)
    (hQ : Q = fun e σ h => isEnd e ∧ ∃ vs, resVals σ h [ARes.cell 4 (some 7), ARes.tmp 5, ARes.tmp 6] = some vs ∧ finish h0 h (oneOf vs) = some (rvA a res, h0)) (n : Nat) (σ : Slots) (h : Heap) (hI : InvW s a base res h0 n σ h) :
    Wp M (.loop L56_0) (blkQ 1 (thenQ (Wp M K56_0 Q) Q)) σ h := by
  refine Wp.loop (InvW s a base res h0) ?_ hI
  clear hI
  rintro k σ h ⟨i, f, t, r, hi, rfl, hf, htl, hd, s0, s1, s4, s7, s12, ow, ht, g0⟩
  have l0 := lt_of_get g0
  have ft : ∀ e, (h.set h0.length e).take h0.length = h0 := fun e => by rw [take_set (by omega), ht]
  have gs : ∀ e, (h.set h0.length e)[h0.length]? = some e := fun e => get_set_eq (by omega)
  have hq : (s.drop a)[i]? = s[a + i]? := by rw [List.getElem?_drop]
  cases f with
  | zero => omega
  | succ f =>
    unfold dotsP at hd
    rw [hq] at hd
    by_cases h46 : s[a + i]? = some 46
    · rw [if_pos h46] at hd
      have hlt : a + i < s.length := (List.getElem?_eq_some_iff.1 h46).1
      have w1 : IntKind.wrap .i64 (((a + i : Nat) : Int) + 1) = ((a + i + 1 : Nat) : Int) := by rw [wrap64 (by omega) (by omega)]; rfl
      have hdg := fun h => rdigits_ok s (a + i + 1) base hs (by omega) hb h
      have hdd : (s.drop a).drop (i + 1) = s.drop (a + i + 1) := by rw [List.drop_drop, Nat.add_assoc]
      rw [hdd] at hd
      cases ho : oneC base (s.drop (a + i + 1)) with
      | none =>
        rw [ho] at hd
        simp only at hd
        subst hd
        rcases one_none ho with h1 | ⟨h1, h2⟩
        · rw [h1] at hdg
          simp [-getElem?_pos, -Int.natCast_add, wL56_0, s0, s1, s4, s7, s12, hlt, h46, w1, hdg, g0, z7, tokL]
          subst hQ
          simp [gs, finish_of_take (ft _), rvA, tokA, tokL, s4]
        · rw [h2] at hdg
          simp [-getElem?_pos, -Int.natCast_add, wL56_0, s0, s1, s4, s7, s12, hlt, h46, w1, hdg, h1, g0, z7, tokL]
          subst hQ
          simp [gs, finish_of_take (ft _), rvA, tokA, tokL, s4]
      | some q =>
        obtain ⟨x, m⟩ := q
        have hm := oneC_len ho
        simp at hm
        rw [ho] at hd
        simp only at hd
        obtain ⟨h1, h2, h3⟩ := one_some ho
        rw [h1, h3] at hdg
        have hx0 : ¬ (x : Int) < 0 := by omega
        by_cases hx : x ≤ 255
        · rw [if_pos hx] at hd
          have hx' : ¬ (255 : Int) < x := by omega
          have hxm : (x : Int) % 256 = x := by omega
          have hxu : (UInt8.ofNat x).toNat = x := by rw [UInt8.toNat_ofNat', Nat.mod_eq_of_lt (by omega)]
          have w2 : IntKind.wrap .i64 (1 + (m : Int)) = ((1 + m : Nat) : Int) := by rw [wrap64 (by omega) (by omega)]; simp
          have w3 : IntKind.wrap .i64 (((a + i : Nat) : Int) + ((1 + m : Nat) : Int)) = ((a + i + (1 + m) : Nat) : Int) := by rw [wrap64 (by omega) (by omega)]; simp
          obtain ⟨r', g, p1, p2, p3⟩ := app_list (n0 := h0.length + 1) (key := h.length) (sz := 1) (bytes := 1) (e := 5) (h := h ++ [AE.dead]) (xs := ofBytes t) (ys := [AV.int .u8 (x : Int)]) (r := r) (r2 := .full) (by simpa using ow.app _) (by omega) (by simp) (by simp; omega) (by simp; omega)
          simp [-getElem?_pos, -Int.natCast_add, wL56_0, s0, s1, s4, s7, s12, hlt, h46, w1, w2, w3, hdg, h2, hx', hx0, wrap_u8, hxm, g0, z7, tokL]
          rw [p1]
          simp [-Int.natCast_add, s1, w2, w3]
          refine ⟨s.length - (i + 1 + m), by omega, i + 1 + m, f, t ++ [UInt8.ofNat x], r', by omega, rfl, by omega, by simp; omega, hd, by simp [s0], by simp; omega, by simp [s4], by simp [s7], by simp [ofBytes, -UInt8.toNat_ofNat', hxu], by simpa using p2, ?_, ?_⟩
          · rw [p3.takeLe (by omega), take_app (by omega), ht]
          · exact p3.keep (ow.app _) (get_left g0 _) (by simp) (by omega)
        · rw [if_neg hx] at hd
          have hx' : (255 : Int) < x := by omega
          subst hd
          simp [-getElem?_pos, -Int.natCast_add, wL56_0, s0, s1, s4, s7, s12, hlt, h46, w1, hdg, h2, hx', hx0, g0, z7, tokL]
          subst hQ
          simp [gs, finish_of_take (ft _), rvA, tokA, tokL, s4]
    · rw [if_neg h46] at hd
      subst hd
      cases hsa : s[a + i]? with
      | none =>
        have hge : ¬ a + i < s.length := fun h => by rw [List.getElem?_eq_getElem h] at hsa; cases hsa
        simp [-getElem?_pos, -Int.natCast_add, wL56_0, wK56_0, s0, s1, s4, s7, s12, hge, g0, z7, tokL]
        subst hQ
        simp [gs, finish_of_take (ft _), rvA, tokA, tokL, s4]
      | some c =>
        have hlt : a + i < s.length := (List.getElem?_eq_some_iff.1 hsa).1
        have e46 : ((c.toNat : Int) = 46) = False := by
          show ((c.toNat : Int) = ((46 : Nat) : Int)) = False
          rw [u8_eq c 46 (by omega)]
          apply eq_false
          intro e
          rw [hsa, e] at h46
          exact h46 rfl
        simp [-getElem?_pos, -Int.natCast_add, wL56_0, wK56_0, s0, s1, s4, s7, s12, hlt, hsa, e46, g0, z7, tokL]
        subst hQ
        simp [gs, finish_of_take (ft _), rvA, tokA, tokL, s4]

theorem rvalue_ok (s : List UInt8) (hs : s.length ≤ 1000000000) (a : Nat) (ha : a < s.length) (h0 : Heap) : M.call 56 [.str s, .int .i64 ((a + 1 : Nat) : Int)] h0 = some (rvA a (valueP (s.drop a)), h0) := by
  refine call_of tab56 rfl (callF_wp ?_)
  generalize hres : valueP (s.drop a) = res
  unfold valueP at hres
  have et : (s.drop a).tail = s.drop (a + 1) := by rw [List.tail_drop]
  have ed : (s.drop a).drop 2 = s.drop (a + 2) := by rw [List.drop_drop]
  rw [et, ed] at hres
  have hb := baseL_le (s.drop (a + 1))
  have w0 : IntKind.wrap .i64 (((a + 1 : Nat) : Int) + 1) = ((a + 2 : Nat) : Int) := by rw [wrap64 (by omega) (by omega)]; simp; omega
  have e1 : (s.drop (a + 1))[0]? = s[a + 1]? := by rw [List.getElem?_drop, Nat.add_zero]
  generalize hbb : baseL (s.drop (a + 1)) = base at *
  have hdg := fun h => rdigits_ok s (a + 2) base hs (by omega) hb h
  -- behind the base
  generalize hQ : (fun (e : Ex) σ h => isEnd e ∧ ∃ vs, resVals σ h [ARes.cell 4 (some 7), ARes.tmp 5, ARes.tmp 6] = some vs ∧ finish h0 h (oneOf vs) = some (rvA a res, h0)) = Q
  have tail : ∀ (σ : Slots), σ 0 = .str s → σ 1 = .int .i64 ((a + 1 : Nat) : Int) → σ 4 = .ptr h0.length 0 → σ 7 = .int .i64 base → Wp M J56_3 Q σ (h0 ++ [.cells z7]) := by
    intro σ s0 s1 s4 s7
    have gs : ∀ e, ((h0 ++ [AE.cells z7]).set h0.length e)[h0.length]? = some e := fun e => get_set_eq (by simp)
    have ft : ∀ e, ((h0 ++ [AE.cells z7]).set h0.length e).take h0.length = h0 := fun e => by rw [take_set (by omega)]; simp
    simp only [z7, tokL] at gs ft
    by_cases hb0 : base = 0
    · subst hb0
      have ho : oneC 0 (s.drop (a + 2)) = none := by
        unfold oneC
        have : runN (hexC 0) (s.drop (a + 2)) = 0 := by
          cases s.drop (a + 2) with
          | nil => rfl
          | cons c t => simp [runN, hexC]
        rw [this]; simp
      rw [ho] at hres
      simp only at hres
      subst hres
      simp [-Int.natCast_add, wJ56_3, s0, s1, s4, s7, z7, tokL]
      subst hQ
      simp [s4, rvA, tokA, tokL]
    have hb0' : ¬ (base : Int) = 0 := by omega
    cases ho : oneC base (s.drop (a + 2)) with
    | none =>
      rw [ho] at hres
      simp only at hres
      subst hres
      rcases one_none ho with h1 | ⟨h1, h2⟩
      · rw [h1] at hdg
        simp [-getElem?_pos, -Int.natCast_add, wJ56_3, s0, s1, s4, s7, hb0, hb0', w0, hdg, z7, tokL]
        subst hQ
        simp [s4, rvA, tokA, tokL]
      · rw [h2] at hdg
        simp [-getElem?_pos, -Int.natCast_add, wJ56_3, s0, s1, s4, s7, hb0, hb0', w0, hdg, h1, z7, tokL]
        subst hQ
        simp [s4, rvA, tokA, tokL]
    | some q =>
      obtain ⟨lo, n⟩ := q
      have hm := oneC_len ho
      simp at hm
      rw [ho] at hres
      simp only at hres
      obtain ⟨h1, h2, h3⟩ := one_some ho
      rw [h1, h3] at hdg
      have hx0 : ¬ (lo : Int) < 0 := by omega
      have w3 : IntKind.wrap .i64 (((a + 2 : Nat) : Int) + n) = ((a + (2 + n) : Nat) : Int) := by rw [wrap64 (by omega) (by omega)]; simp; omega
      have eg : (s.drop a)[2 + n]? = s[a + (2 + n)]? := by rw [List.getElem?_drop]
      have eD : (s.drop a).drop (2 + n + 1) = s.drop (a + (2 + n) + 1) := by rw [List.drop_drop, Nat.add_assoc a]
      rw [eg, eD] at hres
      have ha2 : a + (2 + n) ≤ s.length := by omega
      have hn2 : 2 ≤ 2 + n := by omega
      generalize 2 + n = i at *
      by_cases hlo : lo ≤ 255
      · rw [if_pos hlo] at hres
        have hlo' : ¬ (255 : Int) < lo := by omega
        have hlom : (lo : Int) % 256 = lo := by omega
        have hlou : (UInt8.ofNat lo).toNat = lo := by rw [UInt8.toNat_ofNat', Nat.mod_eq_of_lt (by omega)]
        by_cases h45 : s[a + i]? = some 45
        · rw [if_pos h45] at hres
          have hlt : a + i < s.length := (List.getElem?_eq_some_iff.1 h45).1
          have w4 : IntKind.wrap .i64 (((a + i : Nat) : Int) + 1) = ((a + i + 1 : Nat) : Int) := by rw [wrap64 (by omega) (by omega)]; rfl
          have hdg2 := fun h => rdigits_ok s (a + i + 1) base hs (by omega) hb h
          cases ho2 : oneC base (s.drop (a + i + 1)) with
          | none =>
            rw [ho2] at hres
            simp only at hres
            subst hres
            rcases one_none ho2 with k1 | ⟨k1, k2⟩
            · rw [k1] at hdg2
              simp [-getElem?_pos, -Int.natCast_add, wJ56_3, s0, s1, s4, s7, hb0, hb0', w0, hdg, h2, hx0, hlo', w3, hlt, h45, w4, hdg2, z7, tokL]
              subst hQ
              simp [s4, rvA, tokA, tokL]
            · rw [k2] at hdg2
              have y0 : (-1 : Int) < lo := by omega
              simp [-getElem?_pos, -Int.natCast_add, wJ56_3, s0, s1, s4, s7, hb0, hb0', w0, hdg, h2, hx0, hlo', w3, hlt, h45, w4, hdg2, k1, y0, z7, tokL]
              subst hQ
              simp [s4, rvA, tokA, tokL]
          | some q =>
            obtain ⟨hi, m⟩ := q
            have hm2 := oneC_len ho2
            simp at hm2
            rw [ho2] at hres
            simp only at hres
            obtain ⟨k1, k2, k3⟩ := one_some ho2
            rw [k1, k3] at hdg2
            by_cases hle : hi < lo
            · rw [if_neg (by omega)] at hres
              have hle' : (hi : Int) < lo := by omega
              subst hres
              simp [-getElem?_pos, -Int.natCast_add, wJ56_3, s0, s1, s4, s7, hb0, hb0', w0, hdg, h2, hx0, hlo', w3, hlt, h45, w4, hdg2, k2, hle', hle, z7, tokL]
              subst hQ
              simp [s4, rvA, tokA, tokL]
            · have hle' : ¬ (hi : Int) < lo := by omega
              by_cases hhi : hi ≤ 255
              · rw [if_pos (by omega)] at hres
                have hhi' : ¬ (255 : Int) < hi := by omega
                have hhim : (hi : Int) % 256 = hi := by omega
                have hhiu : (UInt8.ofNat hi).toNat = hi := by rw [UInt8.toNat_ofNat', Nat.mod_eq_of_lt (by omega)]
                have w5 : IntKind.wrap .i64 (((a + i + 1 : Nat) : Int) + m) = ((a + i + 1 + m : Nat) : Int) := by rw [wrap64 (by omega) (by omega)]; simp
                subst hres
                simp [-getElem?_pos, -Int.natCast_add, wJ56_3, s0, s1, s4, s7, hb0, hb0', w0, hdg, h2, hx0, hlo', w3, hlt, h45, w4, w5, hdg2, k2, hle', hle, hhi', wrap_u8, hlom, hhim, z7, tokL]
                subst hQ
                simp [-Int.natCast_add, s4, rvA, tokA, tokL, -UInt8.toNat_ofNat', hlou, hhiu, Nat.add_assoc]
              · rw [if_neg (by omega)] at hres
                have hhi' : (255 : Int) < hi := by omega
                subst hres
                simp [-getElem?_pos, -Int.natCast_add, wJ56_3, s0, s1, s4, s7, hb0, hb0', w0, hdg, h2, hx0, hlo', w3, hlt, h45, w4, hdg2, k2, hle', hle, hhi', z7, tokL]
                subst hQ
                simp [s4, rvA, tokA, tokL]
        · rw [if_neg h45] at hres
          have fin := fun (σ : Slots) hI => rvalue_loop s hs a base hb res h0 Q hQ.symm (s.length - i) σ (h0 ++ [.cells z7]) hI
          have hI : ∀ (σ : Slots), σ 0 = .str s → σ 1 = .int .i64 ((a + i : Nat) : Int) → σ 4 = .ptr h0.length 0 → σ 7 = .int .i64 base → σ 12 = .list 1 [.int .u8 (lo : Int)] .full → InvW s a base res h0 (s.length - i) σ (h0 ++ [.cells z7]) := fun σ t0 t1 t4 t7 t12 =>
            ⟨i, (s.drop a).length + 1, [UInt8.ofNat lo], .full, ha2, rfl, by simp; omega, by simp; omega, hres, t0, t1, t4, t7, by rw [t12]; simp [ofBytes, -UInt8.toNat_ofNat', hlou], .full, by simp, by simp⟩
          simp only [z7, tokL] at hI fin
          cases hsa : s[a + i]? with
          | none =>
            have hge : ¬ a + i < s.length := fun h => by rw [List.getElem?_eq_getElem h] at hsa; cases hsa
            simp [-getElem?_pos, -Int.natCast_add, wJ56_3, s0, s1, s4, s7, hb0, hb0', w0, hdg, h2, hx0, hlo', w3, hge, wrap_u8, hlom, z7, tokL]
            exact fin _ (hI _ (by simp [s0]) (by simp) (by simp [s4]) (by simp [s7]) (by simp))
          | some c =>
            have hlt : a + i < s.length := (List.getElem?_eq_some_iff.1 hsa).1
            have e45 : ((c.toNat : Int) = 45) = False := by
              show ((c.toNat : Int) = ((45 : Nat) : Int)) = False
              rw [u8_eq c 45 (by omega)]
              apply eq_false
              intro e
              rw [hsa, e] at h45
              exact h45 rfl
            simp [-getElem?_pos, -Int.natCast_add, wJ56_3, s0, s1, s4, s7, hb0, hb0', w0, hdg, h2, hx0, hlo', w3, hlt, hsa, e45, wrap_u8, hlom, z7, tokL]
            exact fin _ (hI _ (by simp [s0]) (by simp) (by simp [s4]) (by simp [s7]) (by simp))
      · rw [if_neg hlo] at hres
        have hlo' : (255 : Int) < lo := by omega
        subst hres
        simp [-getElem?_pos, -Int.natCast_add, wJ56_3, s0, s1, s4, s7, hb0, hb0', w0, hdg, h2, hx0, hlo', z7, tokL]
        subst hQ
        simp [s4, rvA, tokA, tokL]
  simp [-Int.natCast_add, wB56]
  cases hc : s[a + 1]? with
  | none =>
    have hge : ¬ a + 1 < s.length := fun h => by rw [List.getElem?_eq_getElem h] at hc; cases hc
    have hb0 : base = 0 := by
      rw [← hbb, List.drop_of_length_le (by omega)]; rfl
    simp [-Int.natCast_add, hge]
    exact tail _ (by simp) (by simp) (by simp) (by simp [hb0])
  | some c =>
    have hlt : a + 1 < s.length := (List.getElem?_eq_some_iff.1 hc).1
    have hb1 : baseC c = base := by
      rw [← hbb]
      obtain ⟨_, he⟩ := List.getElem?_eq_some_iff.1 hc
      rw [List.drop_eq_getElem_cons hlt, he]; rfl
    have f1 : ((c.toNat : Int) = 120) = (c = 120) := u8_eq c 120 (by omega)
    have f2 : ((c.toNat : Int) = 88) = (c = 88) := u8_eq c 88 (by omega)
    have f3 : ((c.toNat : Int) = 100) = (c = 100) := u8_eq c 100 (by omega)
    have f4 : ((c.toNat : Int) = 68) = (c = 68) := u8_eq c 68 (by omega)
    have f5 : ((c.toNat : Int) = 98) = (c = 98) := u8_eq c 98 (by omega)
    have f6 : ((c.toNat : Int) = 66) = (c = 66) := u8_eq c 66 (by omega)
    unfold baseC at hb1
    by_cases q1 : c = 120
    · subst q1
      simp [-getElem?_pos, -Int.natCast_add, hlt, hc, wJ56_2]
      exact tail _ (by simp) (by simp) (by simp) (by simp [← hb1])
    by_cases q2 : c = 88
    · subst q2
      simp [-getElem?_pos, -Int.natCast_add, hlt, hc, wJ56_2]
      exact tail _ (by simp) (by simp) (by simp) (by simp [← hb1])
    by_cases q3 : c = 100
    · subst q3
      simp [-getElem?_pos, -Int.natCast_add, hlt, hc, wJ56_2, wJ56_1]
      exact tail _ (by simp) (by simp) (by simp) (by simp [← hb1])
    by_cases q4 : c = 68
    · subst q4
      simp [-getElem?_pos, -Int.natCast_add, hlt, hc, wJ56_2, wJ56_1]
      exact tail _ (by simp) (by simp) (by simp) (by simp [← hb1])
    by_cases q5 : c = 98
    · subst q5
      simp [-getElem?_pos, -Int.natCast_add, hlt, hc, wJ56_2, wJ56_1, wJ56_0]
      exact tail _ (by simp) (by simp) (by simp) (by simp [← hb1])
    by_cases q6 : c = 66
    · subst q6
      simp [-getElem?_pos, -Int.natCast_add, hlt, hc, wJ56_2, wJ56_1, wJ56_0]
      exact tail _ (by simp) (by simp) (by simp) (by simp [← hb1])
    simp [-getElem?_pos, -Int.natCast_add, hlt, hc, wJ56_2, wJ56_1, wJ56_0, f1, f2, f3, f4, f5, f6, q1, q2, q3, q4, q5, q6]
    have hb0 : base = 0 := by rw [← hb1]; simp [q1, q2, q3, q4, q5, q6]
    exact tail _ (by simp) (by simp) (by simp) (by simp [hb0])
end Go.Proofs.Ytiobaboailhafaa
