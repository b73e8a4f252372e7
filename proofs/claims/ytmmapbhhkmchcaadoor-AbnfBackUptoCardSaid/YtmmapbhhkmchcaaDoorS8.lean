/-
  lex: Lex.
-/
import Derived.Test.YtmmapbhhkmchcaaDoorS7
set_option linter.unusedVariables false
set_option linter.unusedSimpArgs false
namespace Go.Proofs.YtmmapbhhkmchcaaDoor
open Go Go.Am

/-- A line's text at a place; and the place behind it. -/
def cutL (s : List UInt8) : List UInt8 := if 10 ∈ s then trimSuf (cutB s 10) [13] else cutB s 10
def lexF (src : List UInt8) : Nat → Nat → Bool → List Tok → List Tok × Int × Int
  | 0, _, _, out => (out, 0, 0)
  | f + 1, a, any, out =>
    if a < src.length then
      let text := cutL (src.drop a)
      let nx := a + (cutB (src.drop a) 10).length + 1
      let n := runN blkC text
      match text[n]? with
      | none => lexF src f nx any out
      | some c =>
        if c = 59 then lexF src f nx any out
        else if (n = 0 ∧ letC c = false) ∨ (0 < n ∧ any = false) then ([], (a : Int), 10)
        else
          let out1 := if n = 0 ∧ any = true then out ++ [{ kind := 13, pos := (a : Int) }] else out
          let r := lineP text a (text.length + 2) 0 []
          if r.2.2 ≠ 0 then ([], r.2.1, r.2.2) else lexF src f nx true (out1 ++ r.1)
    else (if any then out ++ [{ kind := 13, pos := (src.length : Int) }] else out, 0, 0)
def lexP (src : List UInt8) : List Tok × Int × Int := if src.length > 65536 then ([], 65536, 3) else lexF src (src.length + 1) 0 false []

theorem lineP_len (s : List UInt8) (off : Nat) : ∀ (f i : Nat) (out : List Tok), (lineP s off f i out).1.length ≤ out.length + f
  | 0, i, out => by simp [lineP]
  | f + 1, i, out => by
    unfold lineP
    split
    · simp
    · split
      · simp
      · split
        · have := lineP_len s off f (i + 1) out; omega
        · rename_i c _ _ _
          simp only
          split
          · simp
          · have := lineP_len s off f (i + (readP c (s.drop i)).n) (out ++ [{ (readP c (s.drop i)).tok with pos := ((off + i : Nat) : Int) }])
            simp at this ⊢
            omega
theorem trimSuf_len (s p : List UInt8) : (trimSuf s p).length ≤ s.length := by
  unfold trimSuf
  split
  · simp
  · simp
theorem cutL_len (s : List UInt8) : (cutL s).length ≤ (cutB s 10).length := by
  unfold cutL
  split
  · exact trimSuf_len _ _
  · exact Nat.le_refl _
theorem cutB_len (s : List UInt8) (c : UInt8) : (cutB s c).length ≤ s.length := (List.takeWhile_prefix _).length_le

def InvX (src : List UInt8) (res : List Tok × Int × Int) (h0 : Heap) (k : Nat) (σ : Slots) (h : Heap) : Prop := ∃ a f any out r, a ≤ src.length + 1 ∧ k = src.length + 1 - a ∧ src.length - a < f ∧ out.length ≤ 3 * a ∧ lexF src f a any out = res ∧
  σ 0 = .str src ∧ σ 6 = .list 2 (rowsA h0.length) .full ∧ σ 5 = .list 7 (out.map tokA) r ∧ σ 7 = .bool any ∧ σ 8 = .int .i64 a ∧ Ow (h0.length + 14) h 7 67 r out.length ∧ h.take (h0.length + 14) = h0 ++ rowsH

theorem HR_rows (h0 : Heap) : HR h0.length (h0 ++ rowsH) := by
  intro k e hk
  rw [List.getElem?_append_right (by omega)]
  simpa using hk
theorem HR_take {h0 h : Heap} (ht : h.take (h0.length + 14) = h0 ++ rowsH) : HR h0.length h := by
  have hl : (h0 ++ rowsH).length = h0.length + 14 := by simp [rowsH]
  exact HR_of (HR_rows h0) (by rw [hl]; exact ht)

theorem lex_ok (src : List UInt8) (hs : src.length ≤ 1000000000) (h0 : Heap) : ∃ x, M.call 17 [.str src] h0 = some x ∧ lexR (lexP src) h0 x := by
  refine call_post tab17 rfl ?_
  generalize hres : lexP src = res
  generalize hQ : (fun e σ h => isEnd e ∧ ∃ vs, resVals σ h [ARes.tmp 2, ARes.tmp 3, ARes.tmp 4] = some vs ∧ ∃ r, finish h0 h (oneOf vs) = some r ∧ lexR res h0 r) = Q
  have fin : ∀ (σ : Slots) (h : Heap) (xs : List Tok) (r : Rt) (a b : Int), σ 2 = .list 7 (xs.map tokA) r → σ 3 = .int .i64 a → σ 4 = .int .i64 b → h.take h0.length = h0 → res = (xs, a, b) → Q .ret σ h := by
    intro σ h xs r a b s6 s7 s8 ht e
    subst hQ
    have k := toks_low h0.length xs
    subst e
    simp [s6, s7, s8, finish_of_take ht, lexR]
    rcases r with _ | _ | t <;> simp [k]
  unfold lexP at hres
  by_cases hbig : src.length > 65536
  · rw [if_pos hbig] at hres
    have hbig' : (65536 : Int) < src.length := by omega
    simp [wB17, hbig']
    exact fin _ _ [] .full _ _ (by simp) (by simp) (by simp) (by simp) hres.symm
  rw [if_neg hbig] at hres
  have hbig' : ¬ (65536 : Int) < src.length := by omega
  simp [wB17, hbig', rows_ok]
  refine Wp.loop (InvX src res h0) ?_ (n := src.length + 1) ⟨0, src.length + 1, false, [], .full, by omega, by omega, by omega, by simp, hres, by simp, by simp, by simp, by simp, by simp, .full, by rw [List.take_of_length_le (by simp [rowsH])]⟩
  rintro k σ h ⟨a, f, any, out, r, ha, rfl, hf, hout, hd, s0, s6, s5, s7, s8, ow, ht⟩
  have ht0 : h.take h0.length = h0 := by
    have := congrArg (List.take h0.length) ht
    simpa [List.take_take] using this
  have hle : h0.length + 14 ≤ h.length := by
    have := congrArg List.length ht
    simp [rowsH] at this
    omega
  obtain ⟨f, rfl⟩ : ∃ g, f = g + 1 := ⟨f - 1, by omega⟩
  unfold lexF at hd
  by_cases hlt : a < src.length
  · rw [if_pos hlt] at hd
    simp only at hd
    have hla : a ≤ src.length := by omega
    have hcut := fun h => cut_ok (src.drop a) 10 (by simp; omega) h
    have htrim := fun h => trimSuffix_ok (cutB (src.drop a) 10) [13] (by have := cutB_len (src.drop a) 10; simp at this; omega) h
    have hcl := cutB_len (src.drop a) 10
    simp at hcl
    have hcl2 := cutL_len (src.drop a)
    have hx : 10 ∈ src.drop a → (cutB (src.drop a) 10).length + 1 ≤ src.length - a := fun hm => by simpa using cut_len hm
    simp at hcut htrim
    have w1 : IntKind.wrap .i64 ((a : Int) + (cutB (src.drop a) 10).length) = (a : Int) + (cutB (src.drop a) 10).length := wrap64 (by omega) (by omega)
    have w2 : IntKind.wrap .i64 ((a : Int) + (cutB (src.drop a) 10).length + 1) = (a : Int) + (cutB (src.drop a) 10).length + 1 := wrap64 (by omega) (by omega)
    have hrun := fun h => run_ok (cutL (src.drop a)) 29 [] blkC h (by omega) (fun c _ => blank_ok c h)
    have hrl := runN_le blkC (cutL (src.drop a))
    have mid : ∀ (σ : Slots), σ 0 = .str src → σ 6 = .list 2 (rowsA h0.length) .full → σ 5 = .list 7 (out.map tokA) r → σ 7 = .bool any → σ 8 = .int .i64 a → σ 9 = .str (cutL (src.drop a)) → σ 12 = .int .i64 ((a : Int) + (cutB (src.drop a) 10).length + 1) →
        Wp M J17_2 (blkQ 1 (thenQ (fun σ' h' => ∃ m, m < src.length + 1 - a ∧ InvX src res h0 m σ' h') (blkQ 0 (thenQ (Wp M K17_0 Q) Q)))) σ h := by
      clear s0 s6 s5 s7 s8
      intro σ s0 s6 s5 s7 s8 s9 s12
      have htl : (cutL (src.drop a)).length ≤ 100000 := by omega
      generalize cutL (src.drop a) = text at *
      generalize (cutB (src.drop a) 10).length = tl at *
      cases hc : text[runN blkC text]? with
      | none =>
        rw [hc] at hd
        simp only at hd
        have hn : runN blkC text = text.length := by
          rcases Nat.lt_or_ge (runN blkC text) text.length with h | h
          · rw [List.getElem?_eq_getElem h] at hc; cases hc
          · omega
        simp [-getElem?_pos, wJ17_2, s0, s6, s5, s7, s8, s9, s12, hrun, hn]
        exact ⟨src.length + 1 - (a + tl + 1), by omega, a + tl + 1, f, any, out, r, by omega, rfl, by omega, by omega, hd, by simp [s0], by simp [s6], by simp [s5], by simp [s7], by simp, ow, ht⟩
      | some c =>
        rw [hc] at hd
        simp only at hd
        have hnl : runN blkC text < text.length := (List.getElem?_eq_some_iff.1 hc).1
        generalize runN blkC text = n at *
        have hn1 : ¬ n = text.length := by omega
        have e59 : ((c.toNat : Int) = 59) = (c = 59) := u8_eq c 59 (by omega)
        by_cases h59 : c = 59
        · rw [if_pos h59] at hd
          subst h59
          have hn1i : ¬ (n : Int) = text.length := by omega
          simp [-getElem?_pos, wJ17_2, s0, s6, s5, s7, s8, s9, s12, hrun, hn1, hn1i, hnl, hc]
          exact ⟨src.length + 1 - (a + tl + 1), by omega, a + tl + 1, f, any, out, r, by omega, rfl, by omega, by omega, hd, by simp [s0], by simp [s6], by simp [s5], by simp [s7], by simp, ow, ht⟩
        rw [if_neg h59] at hd
        have e59' := eq_false h59
        rw [← e59] at e59'
        have tail : ∀ (Q1 : Ex → Slots → Heap → Prop) (σ : Slots) (h : Heap) (out1 : List Tok) (r1 : Rt), (∀ σ h xs r a b, σ 2 = .list 7 (xs.map tokA) r → σ 3 = .int .i64 a → σ 4 = .int .i64 b → h.take h0.length = h0 → res = (xs, a, b) → Q1 .ret σ h) →
            (∀ σ h, InvX src res h0 (src.length + 1 - (a + tl + 1)) σ h → Q1 .normal σ h) → σ 0 = .str src → σ 6 = .list 2 (rowsA h0.length) .full → σ 5 = .list 7 (out1.map tokA) r1 → σ 8 = .int .i64 a → σ 9 = .str text → σ 12 = .int .i64 ((a : Int) + tl + 1) →
            Ow (h0.length + 14) h 7 67 r1 out1.length → h.take (h0.length + 14) = h0 ++ rowsH → out1.length ≤ 3 * a + 1 →
            (if (lineP text a (text.length + 2) 0 []).2.2 ≠ 0 then ([], (lineP text a (text.length + 2) 0 []).2.1, (lineP text a (text.length + 2) 0 []).2.2) else lexF src f (a + tl + 1) true (out1 ++ (lineP text a (text.length + 2) 0 []).1)) = res → Wp M J17_1 Q1 σ h := by
          clear s0 s6 s5 s7 s8 s9 s12 ht0 ow ht hle hd hout
          intro Q1 σ h out1 r1 q1 q2 s0 s6 s5 s8 s9 s12 ow ht hout hd
          have ht0 : h.take h0.length = h0 := by
            have := congrArg (List.take h0.length) ht
            simpa [List.take_take] using this
          have hle : h0.length + 14 ≤ h.length := by
            have := congrArg List.length ht
            simp [rowsH] at this
            omega
          obtain ⟨x, hx, r2, rfl⟩ := line_ok text htl a (by omega) h0.length .full h (HR_take ht)
          have hll := lineP_len text a (text.length + 2) 0 []
          simp at hll
          generalize lineP text a (text.length + 2) 0 [] = res1 at *
          obtain ⟨o1, p, e⟩ := res1
          simp only at hx hd hll
          by_cases he : e = 0
          · subst he
            simp only [ne_eq, not_true, if_false] at hd
            simp [wJ17_1, s0, s6, s5, s8, s9, s12, hx, -Int.natCast_add]
            obtain ⟨r', g', p1, p2, p3⟩ := app_list (n0 := h0.length + 14) (key := h.length) (sz := 7) (bytes := 56) (e := 67) (h := h ++ [AE.dead]) (xs := out1.map tokA) (ys := o1.map tokA) (r := r1) (r2 := r2)
              (by simpa using ow.app _) (by omega) (by simp) (by simp; omega) (by simp; omega)
            rw [p1]
            simp
            refine q2 _ _ ⟨a + tl + 1, f, true, out1 ++ o1, r', by omega, rfl, by omega, by simp; omega, hd, by simp [s0], by simp [s6], by simp, by simp, by simp [s12], by simpa using p2, ?_⟩
            rw [p3.takeLe (by omega), take_app (by omega), ht]
          · simp only [ne_eq, he, not_false_eq_true, if_true] at hd
            simp [wJ17_1, s0, s6, s5, s8, s9, s12, hx, he]
            exact q1 _ _ [] .full _ _ (by simp) (by simp) (by simp) ht0 hd.symm
        rcases Nat.eq_zero_or_pos n with hn0 | hn0
        · subst hn0
          have hpos : 0 < text.length := hnl
          have hn1i : ¬ (0 : Int) = text.length := by omega
          cases hlet : letC c with
          | false =>
            rw [if_pos (.inl ⟨rfl, hlet⟩)] at hd
            simp [-getElem?_pos, wJ17_2, wJ17_0, s0, s6, s5, s7, s8, s9, s12, hrun, hn1, hn1i, hnl, hc, e59', letter_ok, hlet]
            exact fin _ _ [] .full _ _ (by simp) (by simp) (by simp) ht0 hd.symm
          | true =>
            rw [if_neg (by simp [hlet])] at hd
            cases any with
            | false =>
              simp [-getElem?_pos, wJ17_2, wJ17_0, s0, s6, s5, s7, s8, s9, s12, hrun, hn1, hn1i, hnl, hc, e59', letter_ok, hlet]
              exact tail _ _ h out r (fun σ h xs r a b q1 q2 q3 q4 q5 => fin σ h xs r a b q1 q2 q3 q4 q5) (fun σ h k => ⟨_, by omega, k⟩) (by simp [s0]) (by simp [s6]) (by simp [s5]) (by simp [s8]) (by simp [s9]) (by simp [s12]) ow ht (by omega) (by simpa using hd)
            | true =>
              simp [-getElem?_pos, wJ17_2, wJ17_0, s0, s6, s5, s7, s8, s9, s12, hrun, hn1, hn1i, hnl, hc, e59', letter_ok, hlet]
              obtain ⟨r', g', p1, p2, p3⟩ := app_list (n0 := h0.length + 14) (key := h.length) (sz := 7) (bytes := 56) (e := 67) (h := h ++ [AE.dead]) (xs := out.map tokA) (ys := [tokA { kind := 13, pos := (a : Int) }]) (r := r) (r2 := .full)
                (by simpa using ow.app _) (by omega) (by simp) (by simp; omega) (by simp; omega)
              simp [tokA, tokL] at p1
              rw [p1]
              simp
              exact tail _ _ g' (out ++ [{ kind := 13, pos := (a : Int) }]) r' (fun σ h xs r a b q1 q2 q3 q4 q5 => fin σ h xs r a b q1 q2 q3 q4 q5) (fun σ h k => ⟨_, by omega, k⟩) (by simp [s0]) (by simp [s6]) (by simp [tokA, tokL]) (by simp [s8]) (by simp [s9]) (by simp [s12]) (by simpa using p2) (by rw [p3.takeLe (by omega), take_app (by omega), ht]) (by simp; omega) (by simpa using hd)
        · have hn0' : (0 : Int) < n := by omega
          have hn0'' : ¬ n = 0 := by omega
          have hn1i : ¬ (n : Int) = text.length := by omega
          cases any with
          | false =>
            simp [-getElem?_pos, wJ17_2, wJ17_0, s0, s6, s5, s7, s8, s9, s12, hrun, hn1, hn1i, hnl, hc, e59', hn0, hn0', hn0'']
            rw [if_pos (.inr ⟨hn0, rfl⟩)] at hd
            exact fin _ _ [] .full _ _ (by simp) (by simp) (by simp) ht0 hd.symm
          | true =>
            rw [if_neg (by simp [hn0''])] at hd
            simp [-getElem?_pos, wJ17_2, wJ17_0, s0, s6, s5, s7, s8, s9, s12, hrun, hn1, hn1i, hnl, hc, e59', hn0, hn0', hn0'']
            exact tail _ _ h out r (fun σ h xs r a b q1 q2 q3 q4 q5 => fin σ h xs r a b q1 q2 q3 q4 q5) (fun σ h k => ⟨_, by omega, k⟩) (by simp [s0]) (by simp [s6]) (by simp [s5]) (by simp [s8]) (by simp [s9]) (by simp [s12]) ow ht (by omega) (by simpa [hn0''] using hd)
    by_cases hm : 10 ∈ src.drop a
    · simp [-getElem?_pos, wL17_0, s0, s6, s5, s7, s8, hlt, hla, hcut, hm, htrim, w1, w2]
      exact mid _ (by simp [s0]) (by simp [s6]) (by simp [s5]) (by simp [s7]) (by simp [s8]) (by simp [cutL, hm]) (by simp)
    · simp [-getElem?_pos, wL17_0, s0, s6, s5, s7, s8, hlt, hla, hcut, hm, htrim, w1, w2]
      exact mid _ (by simp [s0]) (by simp [s6]) (by simp [s5]) (by simp [s7]) (by simp [s8]) (by simp [cutL, hm]) (by simp)
  · rw [if_neg hlt] at hd
    cases any with
    | false =>
      simp [wL17_0, wK17_0, wJ17_3, s0, s6, s5, s7, s8, hlt]
      exact fin _ _ out r 0 0 (by simp) (by simp) (by simp) ht0 (by rw [← hd]; rfl)
    | true =>
      simp [wL17_0, wK17_0, s0, s6, s5, s7, s8, hlt]
      obtain ⟨r', g', p1, p2, p3⟩ := app_list (n0 := h0.length + 14) (key := h.length) (sz := 7) (bytes := 56) (e := 67) (h := h ++ [AE.dead]) (xs := out.map tokA) (ys := [tokA { kind := 13, pos := (src.length : Int) }]) (r := r) (r2 := .full)
        (by simpa using ow.app _) (by omega) (by simp) (by simp; omega) (by simp; omega)
      simp [tokA, tokL] at p1
      rw [p1]
      simp [wJ17_3]
      exact fin _ _ (out ++ [{ kind := 13, pos := (src.length : Int) }]) r' 0 0 (by simp [tokA, tokL]) (by simp) (by simp) (by rw [p3.takeLe (by omega), take_app (by omega), ht0]) (by rw [← hd]; rfl)
end Go.Proofs.YtmmapbhhkmchcaaDoor
