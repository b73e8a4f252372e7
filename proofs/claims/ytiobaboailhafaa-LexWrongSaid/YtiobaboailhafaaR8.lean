/-
  The reference: Lex.
-/
import Derived.Test.YtiobaboailhafaaR7
set_option linter.unusedVariables false
set_option linter.unusedSimpArgs false
namespace Go.Proofs.Ytiobaboailhafaa
open Go Go.Am

theorem trimSuf_take (s p : List UInt8) : trimSuf s p = s.take (trimSuf s p).length := by
  unfold trimSuf
  split
  · simp
  · simp
theorem cutB_take (s : List UInt8) (c : UInt8) : cutB s c = s.take (cutB s c).length := (List.prefix_iff_eq_take.1 (List.takeWhile_prefix _))
theorem cutL_take (s : List UInt8) : s.take (cutL s).length = cutL s := by
  have hb := cutB_take s 10
  unfold cutL
  split
  · have h1 := trimSuf_take (cutB s 10) [13]
    have h2 := trimSuf_len (cutB s 10) [13]
    generalize trimSuf (cutB s 10) [13] = t at *
    rw [hb, List.take_take, Nat.min_eq_left h2] at h1
    exact h1.symm
  · exact hb.symm
theorem not_both (c : UInt8) : blkC c = true → letC c = false := by
  revert c
  apply forall_u8
  decide +kernel

def InvZ (src : List UInt8) (ps : List (Nat × Nat)) (rp : Rt) (res : List Tok × Int × Int) (h0 : Heap) (n : Nat) (σ : Slots) (h : Heap) : Prop := ∃ k a f f2 any out r, n = ps.length - k ∧ a ≤ src.length + 1 ∧ ps.drop k = linesF src f2 a ∧ src.length - a < f2 ∧ src.length - a < f ∧ out.length ≤ 3 * a ∧ k ≤ a ∧ lexF src f a any out = res ∧
  σ 0 = .str src ∧ σ 5 = .list 7 (out.map tokA) r ∧ σ 6 = .bool any ∧ σ 7 = .list 2 (ps.map pairA) rp ∧ σ 8 = .int .i64 k ∧ Ow h0.length h 7 30 r out.length ∧ h.take h0.length = h0

theorem rlex_ok (src : List UInt8) (hs : src.length ≤ 1000000000) (h0 : Heap) : ∃ x, M.call 10 [.str src] h0 = some x ∧ lexR (lexP src) h0 x := by
  refine call_post tab10 rfl ?_
  generalize hres : lexP src = res
  generalize hQ : (fun e σ h => isEnd e ∧ ∃ vs, resVals σ h [ARes.tmp 2, ARes.tmp 3, ARes.tmp 4] = some vs ∧ ∃ r, finish h0 h (oneOf vs) = some r ∧ lexR res h0 r) = Q
  have fin : ∀ (σ : Slots) (h : Heap) (xs : List Tok) (r : Rt) (a b : Int), σ 2 = .list 7 (xs.map tokA) r → σ 3 = .int .i64 a → σ 4 = .int .i64 b → h.take h0.length = h0 → res = (xs, a, b) → Q .ret σ h := by
    intro σ h xs r a b s6 s7 s8 ht e
    subst hQ
    have k := toks_low h0.length xs
    subst e
    simp [s6, s7, s8, finish_of_take ht, lexR]
    rcases r with _ | _ | t <;> simp [k]
  unfold lexP at hres
  by_cases hbig : src.length > 65536
  · rw [if_pos hbig] at hres
    have hbig' : (65536 : Int) < src.length := by omega
    simp [wB10, hbig']
    exact fin _ _ [] .full _ _ (by simp) (by simp) (by simp) (by simp) hres.symm
  rw [if_neg hbig] at hres
  have hbig' : ¬ (65536 : Int) < src.length := by omega
  obtain ⟨x, hx, rp, rfl⟩ := lines_ok src hs h0
  simp [wB10, hbig', hx]
  generalize hps : linesF src (src.length + 1) 0 = ps at *
  refine Wp.loop (InvZ src ps rp res h0) ?_ (n := ps.length) ⟨0, 0, src.length + 1, src.length + 1, false, [], .full, by omega, by omega, by rw [← hps]; rfl, by omega, by omega, by simp, by omega, hres, by simp, by simp, by simp, by simp, by simp, .full, by simp⟩
  rintro n σ h ⟨k, a, f, f2, any, out, r, rfl, ha, hdr, hf2, hf, hout, hka, hd, s0, s5, s6, s7, s8, ow, ht⟩
  obtain ⟨f, rfl⟩ : ∃ g, f = g + 1 := ⟨f - 1, by omega⟩
  obtain ⟨f2, rfl⟩ : ∃ g, f2 = g + 1 := ⟨f2 - 1, by omega⟩
  have hle : h0.length ≤ h.length := by have := congrArg List.length ht; simp at this; omega
  unfold lexF at hd
  unfold linesF at hdr
  by_cases hlt : a < src.length
  · rw [if_pos hlt] at hd hdr
    simp only at hd
    have hk : k < ps.length := by
      rcases Nat.lt_or_ge k ps.length with h | h
      · exact h
      · rw [List.drop_of_length_le h] at hdr; cases hdr
    have hpk : ps[k]? = some (a, a + (cutL (src.drop a)).length) := by
      have := congrArg (fun l => l[0]?) hdr
      simpa [List.getElem?_drop] using this
    have hdr' : ps.drop (k + 1) = linesF src f2 (a + (cutB (src.drop a) 10).length + 1) := by
      have := congrArg (fun l => l.drop 1) hdr
      simpa [List.drop_drop] using this
    have hcl := cutB_len (src.drop a) 10
    simp at hcl
    have hcl2 := cutL_len (src.drop a)
    have htx := cutL_take (src.drop a)
    generalize cutL (src.drop a) = text at *
    generalize (cutB (src.drop a) 10).length = tl at *
    have hal : a + text.length ≤ src.length := by omega
    have hti : ∀ j, j < text.length → text[j]? = src[a + j]? := fun j hj => by
      rw [← htx, List.getElem?_take, if_pos hj, List.getElem?_drop]
    have htk : (src.take (a + text.length)).drop a = text := by rw [List.drop_take, Nat.add_sub_cancel_left]; exact htx
    have hemp := fun h => rempty_ok text (by omega) h
    have e64 : IntKind.wrap .i64 ((k : Int) + 1) = ((k + 1 : Nat) : Int) := by rw [wrap64 (by omega) (by omega)]; rfl
    have z1 : (a : Int) ≤ ((a + text.length : Nat) : Int) := by omega
    have z2 : a ≤ a + text.length := by omega
    have hrl := runN_le blkC text
    unfold empL at hemp
    cases hc : text[runN blkC text]? with
    | none =>
      rw [hc] at hd hemp
      simp only at hd
      have hn : (runN blkC text == text.length) = true := by
        rcases Nat.lt_or_ge (runN blkC text) text.length with h | h
        · rw [List.getElem?_eq_getElem h] at hc; cases hc
        · simp; omega
      rw [hn] at hemp
      simp at hemp
      simp [-getElem?_pos, -Int.natCast_add, wL10_1, wK10_0, s0, s5, s6, s7, s8, hk, hpk, pairA, hal, z1, z2, htk, hemp, e64]
      exact ⟨ps.length - (k + 1), by omega, k + 1, a + tl + 1, f, f2, any, out, r, rfl, by omega, hdr', by omega, by omega, by omega, by omega, hd, by simp [s0], by simp [s5], by simp [s6], by simp [s7], by simp, ow, ht⟩
    | some c =>
      rw [hc] at hd hemp
      simp only at hd
      have hnl : runN blkC text < text.length := (List.getElem?_eq_some_iff.1 hc).1
      have hn : (runN blkC text == text.length) = false := by simp; omega
      rw [hn] at hemp
      by_cases h59 : c = 59
      · rw [if_pos h59] at hd
        subst h59
        simp at hemp
        simp [-getElem?_pos, -Int.natCast_add, wL10_1, wK10_0, s0, s5, s6, s7, s8, hk, hpk, pairA, hal, z1, z2, htk, hemp, e64]
        exact ⟨ps.length - (k + 1), by omega, k + 1, a + tl + 1, f, f2, any, out, r, rfl, by omega, hdr', by omega, by omega, by omega, by omega, hd, by simp [s0], by simp [s5], by simp [s6], by simp [s7], by simp, ow, ht⟩
      · rw [if_neg h59] at hd
        have hemp' : ∀ h, M.call 27 [.str text] h = some (.bool false, h) := fun h => by rw [hemp]; simp [h59]
        clear hemp
        obtain ⟨c0, hc0⟩ : ∃ c0, text[0]? = some c0 := ⟨_, List.getElem?_eq_getElem (by omega)⟩
        have hcs : src[a]? = some c0 := by rw [← hc0, hti 0 (by omega)]; rfl
        have tail : ∀ (Q1 : Ex → Slots → Heap → Prop) (σ : Slots) (h : Heap) (out1 : List Tok) (r1 : Rt), (∀ σ h xs r a b, σ 2 = .list 7 (xs.map tokA) r → σ 3 = .int .i64 a → σ 4 = .int .i64 b → h.take h0.length = h0 → res = (xs, a, b) → Q1 .ret σ h) →
            (∀ σ h r2 o, lexF src f (a + tl + 1) true (out1 ++ o) = res → o.length ≤ text.length + 2 → σ 0 = .str src → σ 5 = .list 7 ((out1 ++ o).map tokA) r2 → σ 6 = .bool true → σ 7 = .list 2 (ps.map pairA) rp → σ 8 = .int .i64 k → Ow h0.length h 7 30 r2 (out1.length + o.length) → h.take h0.length = h0 → Q1 .normal σ h) →
            σ 0 = .str src → σ 5 = .list 7 (out1.map tokA) r1 → σ 6 = .bool true → σ 7 = .list 2 (ps.map pairA) rp → σ 8 = .int .i64 k → σ 9 = .int .i64 a → σ 10 = .int .i64 ((a + text.length : Nat) : Int) → Ow h0.length h 7 30 r1 out1.length → h.take h0.length = h0 → out1.length ≤ 1000000 →
            (if (lineP text a (text.length + 2) 0 []).2.2 ≠ 0 then ([], (lineP text a (text.length + 2) 0 []).2.1, (lineP text a (text.length + 2) 0 []).2.2) else lexF src f (a + tl + 1) true (out1 ++ (lineP text a (text.length + 2) 0 []).1)) = res → Wp M J10_1 Q1 σ h := by
          clear s0 s5 s6 s7 s8 ow ht hle hd hout
          intro Q1 σ h out1 r1 q1 q2 s0 s5 s6 s7 s8 s9 s10 ow ht hout hd
          have hll := lineP_len text a (text.length + 2) 0 []
          simp at hll
          generalize hr1 : lineP text a (text.length + 2) 0 [] = res1 at *
          simp [-Int.natCast_add, wJ10_1, s9]
          refine rline_loop src text (by omega) a k htx hal ps rp out1 hout res1 h0 _ ?_ ?_ (text.length + 1) _ _ ⟨0, text.length + 2, [], r1, by omega, by omega, by omega, by simp, hr1, by simp [s0], by simp [s5], by simp [s6], by simp [s7], by simp [s8], by simp [s10], by simp, by simpa using ow, ht⟩
          · intro σ h p e he hr2 t2 t3 t4 ht'
            subst hr2
            simp only [ne_eq, he, not_false_eq_true, if_true] at hd
            simp
            exact q1 σ h [] .full _ _ (by simpa using t2) t3 t4 ht' hd.symm
          · intro σ h r2 o hr2 t0 t5 t6 t7 t8 ow' ht'
            subst hr2
            simp only [ne_eq, not_true, if_false] at hd
            simp
            exact q2 σ h r2 o hd (by simpa using hll) t0 t5 t6 t7 t8 ow' ht'
        have next : ∀ (σ : Slots) (h : Heap) (out1 : List Tok) (r2 : Rt) (o : List Tok), out1.length ≤ 3 * a + 1 → lexF src f (a + tl + 1) true (out1 ++ o) = res → o.length ≤ text.length + 2 → σ 0 = .str src → σ 5 = .list 7 ((out1 ++ o).map tokA) r2 → σ 6 = .bool true → σ 7 = .list 2 (ps.map pairA) rp → σ 8 = .int .i64 ((k + 1 : Nat) : Int) → Ow h0.length h 7 30 r2 (out1.length + o.length) → h.take h0.length = h0 → ∃ m, m < ps.length - k ∧ InvZ src ps rp res h0 m σ h := by
          intro σ h out1 r2 o l1 hd' l2 t0 t5 t6 t7 t8 ow' ht'
          exact ⟨ps.length - (k + 1), by omega, k + 1, a + tl + 1, f, f2, true, out1 ++ o, r2, rfl, by omega, hdr', by omega, by omega, by simp; omega, by omega, hd', t0, t5, t6, t7, t8, by simpa using ow', ht'⟩
        have n0 : blkC c0 = false → runN blkC text = 0 ∧ c0 = c := fun hb => by
          have h0 : runN blkC text = 0 := by
            rcases Nat.eq_zero_or_pos (runN blkC text) with h | h
            · exact h
            · rw [runN_get h hc0] at hb; cases hb
          refine ⟨h0, ?_⟩
          rw [h0, hc0] at hc
          injection hc
        have n1 : blkC c0 = true → 0 < runN blkC text := fun hb => by
          rcases Nat.eq_zero_or_pos (runN blkC text) with h | h
          · have := runN_end (p := blkC) (s := text) (c := c0) (by rw [h]; exact hc0)
            rw [this] at hb; cases hb
          · exact h
        have adv : ∀ (σ : Slots) (h : Heap) (out1 : List Tok) (r2 : Rt) (o : List Tok), out1.length ≤ 3 * a + 1 → lexF src f (a + tl + 1) true (out1 ++ o) = res → o.length ≤ text.length + 2 → σ 0 = .str src → σ 5 = .list 7 ((out1 ++ o).map tokA) r2 → σ 6 = .bool true → σ 7 = .list 2 (ps.map pairA) rp → σ 8 = .int .i64 k → Ow h0.length h 7 30 r2 (out1.length + o.length) → h.take h0.length = h0 → Wp M K10_0 (thenQ (fun σ' h' => ∃ m, m < ps.length - k ∧ InvZ src ps rp res h0 m σ' h') (blkQ 0 (thenQ (Wp M K10_1 Q) Q))) σ h := by
          intro σ h out1 r2 o l1 hd' l2 t0 t5 t6 t7 t8 ow' ht'
          simp [-Int.natCast_add, wK10_0, t8, e64]
          exact next _ h out1 r2 o l1 hd' l2 (by simp [t0]) (by simp [t5]) (by simp [t6]) (by simp [t7]) (by simp) ow' ht'
        cases hlet : letC c0 with
        | true =>
          have hb : blkC c0 = false := by
            cases hb : blkC c0 with
            | false => rfl
            | true => rw [not_both c0 hb] at hlet; cases hlet
          obtain ⟨hn0, hcc⟩ := n0 hb
          rw [if_neg (by rw [hn0, ← hcc, hlet]; simp)] at hd
          cases any with
          | false =>
            simp [-getElem?_pos, -Int.natCast_add, wL10_1, wJ10_0, s0, s5, s6, s7, s8, hk, hpk, pairA, hal, z1, z2, htk, hemp', hlt, hcs, rletter_ok, rblank_ok, hlet]
            refine tail _ _ h out r (fun σ h xs r a b t1 t2 t3 t4 t5 => ?_) (fun σ h r2 o u1 u2 t0 t5 t6 t7 t8 ow' ht' => ?_) (by simp [s0]) (by simp [s5]) (by simp) (by simp [s7]) (by simp [s8]) (by simp) (by simp) ow ht (by omega) (by simpa using hd)
            · exact fin σ h xs r a b t1 t2 t3 t4 t5
            · exact adv σ h out r2 o (by omega) u1 u2 t0 t5 t6 t7 t8 ow' ht'
          | true =>
            obtain ⟨r', g', p1, p2, p3⟩ := app_list (n0 := h0.length) (key := h.length) (sz := 7) (bytes := 56) (e := 30) (h := h ++ [AE.dead]) (xs := out.map tokA) (ys := [tokA { kind := 13, pos := (a : Int) }]) (r := r) (r2 := .full)
              (by simpa using ow.app _) (by omega) (by simp) (by simp; omega) (by simp; omega)
            simp [-getElem?_pos, -Int.natCast_add, wL10_1, wJ10_0, s0, s5, s6, s7, s8, hk, hpk, pairA, hal, z1, z2, htk, hemp', hlt, hcs, rletter_ok, rblank_ok, hlet]
            simp [tokA, tokL] at p1
            rw [p1]
            simp [wJ10_0]
            refine tail _ _ g' (out ++ [{ kind := 13, pos := (a : Int) }]) r' (fun σ h xs r a b t1 t2 t3 t4 t5 => ?_) (fun σ h r2 o u1 u2 t0 t5 t6 t7 t8 ow' ht' => ?_) (by simp [s0]) (by simp [tokA, tokL]) (by simp) (by simp [s7]) (by simp [s8]) (by simp) (by simp) (by simpa using p2) (by rw [p3.takeLe (Nat.le_refl _), take_app hle, ht]) (by simp; omega) (by simpa [hn0] using hd)
            · exact fin σ h xs r a b t1 t2 t3 t4 t5
            · exact adv σ h _ r2 o (by simp; omega) u1 u2 t0 t5 t6 t7 t8 ow' ht'
        | false =>
          cases any with
          | false =>
            have hcond : (runN blkC text = 0 ∧ letC c = false) ∨ (0 < runN blkC text ∧ false = false) := by
              cases hb : blkC c0 with
              | false =>
                obtain ⟨hn0, hcc⟩ := n0 hb
                exact .inl ⟨hn0, by rw [← hcc]; exact hlet⟩
              | true => exact .inr ⟨n1 hb, rfl⟩
            rw [if_pos hcond] at hd
            simp [-getElem?_pos, -Int.natCast_add, wL10_1, wJ10_0, s0, s5, s6, s7, s8, hk, hpk, pairA, hal, z1, z2, htk, hemp', hlt, hcs, rletter_ok, rblank_ok, hlet]
            exact fin _ _ [] .full _ _ (by simp) (by simp) (by simp) ht hd.symm
          | true =>
            cases hb : blkC c0 with
            | false =>
              obtain ⟨hn0, hcc⟩ := n0 hb
              rw [if_pos (.inl ⟨hn0, by rw [← hcc]; exact hlet⟩)] at hd
              simp [-getElem?_pos, -Int.natCast_add, wL10_1, wJ10_0, s0, s5, s6, s7, s8, hk, hpk, pairA, hal, z1, z2, htk, hemp', hlt, hcs, rletter_ok, rblank_ok, hlet, hb]
              exact fin _ _ [] .full _ _ (by simp) (by simp) (by simp) ht hd.symm
            | true =>
              have hn0 := n1 hb
              have hn0' : ¬ runN blkC text = 0 := by omega
              rw [if_neg (by simp [hn0'])] at hd
              simp [-getElem?_pos, -Int.natCast_add, wL10_1, wJ10_0, s0, s5, s6, s7, s8, hk, hpk, pairA, hal, z1, z2, htk, hemp', hlt, hcs, rletter_ok, rblank_ok, hlet, hb]
              refine tail _ _ h out r (fun σ h xs r a b t1 t2 t3 t4 t5 => ?_) (fun σ h r2 o u1 u2 t0 t5 t6 t7 t8 ow' ht' => ?_) (by simp [s0]) (by simp [s5]) (by simp [s6]) (by simp [s7]) (by simp [s8]) (by simp) (by simp) ow ht (by omega) (by simpa [hn0'] using hd)
              · exact fin σ h xs r a b t1 t2 t3 t4 t5
              · exact adv σ h out r2 o (by omega) u1 u2 t0 t5 t6 t7 t8 ow' ht'
  · rw [if_neg hlt] at hd hdr
    have hk : ¬ k < ps.length := by
      intro h
      have := congrArg List.length hdr
      simp at this
      omega
    cases any with
    | false =>
      simp [-Int.natCast_add, wL10_1, wK10_1, wJ10_2, s0, s5, s6, s7, s8, hk]
      exact fin _ _ out r 0 0 (by simp [s5]) (by simp) (by simp) ht (by rw [← hd]; rfl)
    | true =>
      obtain ⟨r', g', p1, p2, p3⟩ := app_list (n0 := h0.length) (key := h.length) (sz := 7) (bytes := 56) (e := 30) (h := h ++ [AE.dead]) (xs := out.map tokA) (ys := [tokA { kind := 13, pos := (src.length : Int) }]) (r := r) (r2 := .full)
        (by simpa using ow.app _) (by omega) (by simp) (by simp; omega) (by simp; omega)
      simp [-Int.natCast_add, wL10_1, wK10_1, wJ10_2, s0, s5, s6, s7, s8, hk]
      simp [tokA, tokL] at p1
      rw [p1]
      simp [wJ10_2]
      exact fin _ _ (out ++ [{ kind := 13, pos := (src.length : Int) }]) r' 0 0 (by simp [tokA, tokL]) (by simp) (by simp) (by rw [p3.takeLe (Nat.le_refl _), take_app hle, ht]) (by rw [← hd]; rfl)
end Go.Proofs.Ytiobaboailhafaa
