/-
  The reference: the tokens of a line.
-/
import Derived.Test.YtiobaboailhafaaR6
set_option linter.unusedVariables false
set_option linter.unusedSimpArgs false
namespace Go.Proofs.Ytiobaboailhafaa
open Go Go.Am

def InvT (src text : List UInt8) (a k8 : Nat) (ps : List (Nat × Nat)) (rp : Rt) (out1 : List Tok) (res : List Tok × Int × Int) (h0 : Heap) (k : Nat) (σ : Slots) (h : Heap) : Prop := ∃ i f o r, i ≤ text.length + 1 ∧ k = text.length + 1 - i ∧ text.length + 1 - i < f ∧ o.length ≤ i ∧ lineP text a f i o = res ∧
  σ 0 = .str src ∧ σ 5 = .list 7 ((out1 ++ o).map tokA) r ∧ σ 6 = .bool true ∧ σ 7 = .list 2 (ps.map pairA) rp ∧ σ 8 = .int .i64 k8 ∧ σ 10 = .int .i64 ((a + text.length : Nat) : Int) ∧ σ 11 = .int .i64 ((a + i : Nat) : Int) ∧ Ow h0.length h 7 30 r (out1.length + o.length) ∧ h.take h0.length = h0

theorem rline_loop (src text : List UInt8) (hs : src.length ≤ 65536) (a k8 : Nat) (htx : (src.drop a).take text.length = text) (hal : a + text.length ≤ src.length) (ps : List (Nat × Nat)) (rp : Rt) (out1 : List Tok) (hout1 : out1.length ≤ 1000000) (res : List Tok × Int × Int) (h0 : Heap) (Q : Ex → Slots → Heap → Prop)
    (hret : ∀ σ h p e, e ≠ 0 → res = ([], p, e) → σ 2 = .list 7 [] .full → σ 3 = .int .i64 p → σ 4 = .int .i64 e → h.take h0.length = h0 → Q .ret σ h)
    (hexit : ∀ σ h r o, res = (o, 0, 0) → σ 0 = .str src → σ 5 = .list 7 ((out1 ++ o).map tokA) r → σ 6 = .bool true → σ 7 = .list 2 (ps.map pairA) rp → σ 8 = .int .i64 k8 → Ow h0.length h 7 30 r (out1.length + o.length) → h.take h0.length = h0 → Q (.exit 2) σ h)
    (n : Nat) (σ : Slots) (h : Heap) (hI : InvT src text a k8 ps rp out1 res h0 n σ h) : Wp M (.loop L10_0) Q σ h := by
  refine Wp.loop (InvT src text a k8 ps rp out1 res h0) ?_ hI
  clear hI
  rintro k σ h ⟨i, f, o, r, hi, rfl, hf, ho, hd, s0, s5, s6, s7, s8, s10, s11, ow, ht⟩
  obtain ⟨f, rfl⟩ : ∃ g, f = g + 1 := ⟨f - 1, by omega⟩
  have hle : h0.length ≤ h.length := by have := congrArg List.length ht; simp at this; omega
  unfold lineP at hd
  have hti : ∀ j, j < text.length → text[j]? = src[a + j]? := fun j hj => by
    rw [← htx, List.getElem?_take, if_pos hj, List.getElem?_drop]
  cases hc : text[i]? with
  | none =>
    have hlt : ¬ i < text.length := fun h => by rw [List.getElem?_eq_getElem h] at hc; cases hc
    have hlt' : ¬ ((a + i : Nat) : Int) < ((a + text.length : Nat) : Int) := by omega
    have hlt2 : ¬ a + i < a + text.length := by omega
    rw [hc] at hd
    simp only at hd
    simp [-getElem?_pos, -Int.natCast_add, wL10_0, s0, s5, s6, s7, s8, s10, s11, hlt', hlt2, hlt]
    exact hexit _ _ r o hd.symm (by simp [s0]) (by simp [s5]) (by simp [s6]) (by simp [s7]) (by simp [s8]) ow ht
  | some c =>
    have hlt : i < text.length := (List.getElem?_eq_some_iff.1 hc).1
    have hlt' : ((a + i : Nat) : Int) < ((a + text.length : Nat) : Int) := by omega
    have hlt2 : a + i < a + text.length := by omega
    have hls : a + i < src.length := by omega
    have hcs : src[a + i]? = some c := by rw [← hti i hlt]; exact hc
    rw [hc] at hd
    simp only at hd
    have e59 : ((c.toNat : Int) = 59) = (c = 59) := u8_eq c 59 (by omega)
    by_cases h59 : c = 59
    · rw [if_pos h59] at hd
      subst h59
      simp [-getElem?_pos, -Int.natCast_add, wL10_0, s0, s5, s6, s7, s8, s10, s11, hlt', hlt2, hlt, hls, hcs]
      exact hexit _ _ r o hd.symm (by simp [s0]) (by simp [s5]) (by simp [s6]) (by simp [s7]) (by simp [s8]) ow ht
    · rw [if_neg h59] at hd
      have e59' := eq_false h59
      rw [← e59] at e59'
      have e64 : IntKind.wrap .i64 (((a + i : Nat) : Int) + 1) = ((a + (i + 1) : Nat) : Int) := by rw [wrap64 (by omega) (by omega)]; rfl
      cases hb : blkC c with
      | true =>
        rw [hb] at hd
        simp only [if_true] at hd
        simp [-getElem?_pos, -Int.natCast_add, wL10_0, s0, s5, s6, s7, s8, s10, s11, hlt', hlt2, hlt, hls, hcs, e59', rblank_ok, hb, e64]
        exact ⟨text.length + 1 - (i + 1), by omega, i + 1, f, o, r, by omega, rfl, by omega, by omega, hd, by simp [s0], by simp [s5], by simp [s6], by simp [s7], by simp [s8], by simp [s10], by simp, ow, ht⟩
      | false =>
        rw [hb] at hd
        simp only [Bool.false_eq_true, if_false] at hd
        have hg := readP_n c (text.drop (i + 1))
        have hdrop : text.drop i = c :: text.drop (i + 1) := by
          obtain ⟨_, he⟩ := List.getElem?_eq_some_iff.1 hc
          rw [← he]; exact List.drop_eq_getElem_cons hlt
        rw [← hdrop] at hg
        obtain ⟨hg1, hg2⟩ := hg
        simp at hg1
        have htk : (src.take (a + text.length)).drop (a + i) = text.drop i := by
          have : (src.take (a + text.length)).drop a = text := by rw [List.drop_take, Nat.add_sub_cancel_left]; exact htx
          rw [← List.drop_drop, this]
        have hn := fun h => rnext_ok (src.take (a + text.length)) (by simp; omega) (a + i) c (by rw [List.getElem?_take, if_pos hlt2]; exact hcs) h
        rw [htk] at hn
        generalize readP c (text.drop i) = fd at *
        obtain ⟨tok, n, err⟩ := fd
        simp only [atA, tokA, tokL] at hn hd hg1 hg2
        have z1 : ((a + text.length : Nat) : Int) ≤ src.length := by omega
        by_cases he : err = 0
        · subst he
          simp only [ne_eq, not_true, if_false] at hd
          have h1 := hg2 rfl
          obtain ⟨r', g', p1, p2, p3⟩ := app_list (n0 := h0.length) (key := h.length + 1) (sz := 7) (bytes := 56) (e := 30) (h := h ++ [AE.cells [AV.int IntKind.u8 tok.kind.toNat, AV.int IntKind.i64 ((a + i : Nat) : Int), AV.str tok.text, AV.int IntKind.i64 tok.mn, AV.int IntKind.i64 tok.mx, AV.int IntKind.u8 tok.lo.toNat, AV.int IntKind.u8 tok.hi.toNat], AE.dead])
            (xs := (out1 ++ o).map tokA) (ys := [AV.agg [AV.int IntKind.u8 tok.kind.toNat, AV.int IntKind.i64 ((a + i : Nat) : Int), AV.str tok.text, AV.int IntKind.i64 tok.mn, AV.int IntKind.i64 tok.mx, AV.int IntKind.u8 tok.lo.toNat, AV.int IntKind.u8 tok.hi.toNat]]) (r := r) (r2 := .full)
            (by simpa using ow.app _) (by omega) (by simp) (by simp; omega) (by simp; omega)
          simp [-getElem?_pos, -Int.natCast_add, wL10_0, s0, s5, s6, s7, s8, s10, s11, hlt', hlt2, hlt, hls, hcs, e59', rblank_ok, hb, hal, z1, hn, Nat.add_assoc]
          simp [-Int.natCast_add] at p1
          rw [p1]
          simp [-Int.natCast_add]
          refine ⟨text.length + 1 - (i + n), by omega, i + n, f, o ++ [{ tok with pos := ((a + i : Nat) : Int) }], r', by omega, rfl, by omega, by simp; omega, hd, by simp [s0], by simp [tokA, tokL], by simp [s6], by simp [s7], by simp [s8], by simp [s10], by simp [Nat.add_assoc], by simpa [Nat.add_assoc] using p2, ?_⟩
          rw [p3.takeLe (Nat.le_refl _), take_app hle, ht]
        · simp only [ne_eq, he, not_false_eq_true, if_true] at hd
          simp [-getElem?_pos, -Int.natCast_add, wL10_0, s0, s5, s6, s7, s8, s10, s11, hlt', hlt2, hlt, hls, hcs, e59', rblank_ok, hb, hal, z1, hn, he, Nat.add_assoc]
          exact hret _ _ _ _ he hd.symm (by simp) (by simp [Nat.add_assoc]) (by simp) (by rw [take_app hle, ht])
end Go.Proofs.Ytiobaboailhafaa
