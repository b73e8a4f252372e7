/-
  frankinglaw01: LexFolds, its walk.
-/
import Derived.Test.YtiobaboailhafaaN5
set_option linter.unusedVariables false
set_option linter.unusedSimpArgs false
namespace Go.Proofs.Ytiobaboailhafaa
open Go Go.Am

def InvFo (m : Nat) (gaps rem : List UInt8) (l : List UInt8) (rg rl : Rt) (n : Nat) (σ : Slots) (h : Heap) : Prop := ∃ (i : Nat) (s : List UInt8) (want : List Tok) (r : Rt), i ≤ l.length ∧ n = l.length - i ∧ l.length ≤ 40 ∧ s.length ≤ 4 + 100 * i ∧ want.length = i + 1 ∧ St s (want.map akT) ∧
  σ 1 = .list 1 (ofBytes gaps) rg ∧ σ 2 = .str rem ∧ σ 7 = .list 1 (piecesT.map AV.str) .full ∧ σ 8 = .list 7 (piecesK.map tokA) .full ∧ σ 9 = .list 1 ((between rem).map AV.str) .full ∧ σ 49 = .list 1 (ofBytes l) rl ∧ σ 50 = .int .i64 l.length ∧ σ 51 = .int .i64 i ∧ σ 10 = .str s ∧ σ 11 = .list 7 (want.map tokA) r ∧ Ow m h 7 30 r want.length
theorem lexP_ends {s : List UInt8} {ks : List Tok} (h : Ends s false ks) (hs : s.length ≤ 65536) : (lexP s).2 = (0, 0) ∧ (lexP s).1.map akT = ks := by
  obtain ⟨l, h1, h2⟩ := h []
  unfold lexP
  rw [if_neg (by omega), h1]
  exact ⟨rfl, by simpa using h2⟩

set_option maxRecDepth 20000 in
theorem folds_loop (gaps rem : List UInt8) (hr : rem.length ≤ 40) (h10 : ¬ 10 ∈ rem) (hg : gaps.length ≤ 9223372036854775807) (l : List UInt8) (rg rl : Rt) (Q : Ex → Slots → Heap → Prop) (hQ : ∀ σ h, σ 6 = .bool true → Q .ret σ h) :
    ∀ (n : Nat) (σ : Slots) (h : Heap), InvFo 0 gaps rem l rg rl n σ h → Wp M (.loop L6_0) (blkQ 0 (thenQ (Wp M K6_0 Q) Q)) σ h := by
  intro n σ h hI
  refine Wp.loop (InvFo 0 gaps rem l rg rl) ?_ hI
  clear hI
  rintro n σ h ⟨i, s, want, r, hi, rfl, hl, hs, hw, hst, s1, s2, s7, s8, s9, s49, s50, s51, s10, s11, ow⟩
  by_cases hlt : i < l.length
  · obtain ⟨k, ek⟩ : ∃ k, l[i]? = some k := ⟨_, List.getElem?_eq_getElem hlt⟩
    have hltI : (i : Int) < l.length := by omega
    have hk := k.toNat_lt
    have e64 : IntKind.wrap .i64 ((i : Int) + 1) = ((i + 1 : Nat) : Int) := by rw [wrap64 (by omega) (by omega)]; rfl
    have wk : IntKind.wrap .i64 (k.toNat : Int) = (k.toNat : Int) := wrap64 (by omega) (by omega)
    obtain ⟨p, t, ep, et, hp⟩ := piece_at (k.toNat % 19) (Nat.mod_lt _ (by omega))
    have hpl : p.length ≤ 8 := by obtain ⟨c, w, _, _, _, _, _, h, _⟩ := hp; exact h
    have htk : akT t = t := by obtain ⟨c, w, _, _, _, _, _, _, h, _⟩ := hp; exact h
    have hkm : k.toNat % 19 < 19 := Nat.mod_lt _ (by omega)
    have ep' : (piecesT.map AV.str)[k.toNat % 19]? = some (.str p) := by rw [List.getElem?_map, ep]; rfl
    have et' : (piecesK.map tokA)[k.toNat % 19]? = some (tokA t) := by rw [List.getElem?_map, et]; rfl
    have lT : (piecesT.map AV.str).length = 19 := rfl
    have lK : (piecesK.map tokA).length = 19 := rfl
    have lB : ((between rem).map AV.str).length = 7 := rfl
    have tm : Int.tmod (k.toNat : Int) 19 = ((k.toNat % 19 : Nat) : Int) := tmod_nat _ 19
    generalize k.toNat % 19 = kk at *
    have hk0 : 0 ≤ (kk : Int) := by omega
    have fin : ∀ (gp : Nat), gp < 7 → ∃ g, (between rem)[gp]? = some g ∧ g.length ≤ 92 ∧ St (s ++ (g ++ p)) ((want ++ [t]).map akT) := by
      intro gp hgp
      obtain ⟨g, h1, h2, h3⟩ := gap_ok hr h10 gp hgp
      refine ⟨g, h1, h2, ?_⟩
      rw [List.map_append, List.map_cons, List.map_nil, htk]
      exact h3 s _ p t hst hp
    have hw0 : want.length ≤ 42 := by omega
    obtain ⟨r', g', p1, p2, p3⟩ := app_list (n0 := 0) (key := h.length) (sz := 7) (bytes := 56) (e := 30) (h := h ++ [AE.dead]) (xs := want.map tokA) (ys := [tokA t]) (r := r) (r2 := .full)
      (by simpa using ow.app _) (by omega) (by simp) (by simp; omega) (by simp; omega)
    simp [tokA, tokL] at p1 p2
    have next : ∀ (g : List UInt8) (σ : Slots), g.length ≤ 92 → St (s ++ (g ++ p)) ((want ++ [t]).map akT) → σ 1 = .list 1 (ofBytes gaps) rg → σ 2 = .str rem → σ 7 = .list 1 (piecesT.map AV.str) .full → σ 8 = .list 7 (piecesK.map tokA) .full → σ 9 = .list 1 ((between rem).map AV.str) .full → σ 49 = .list 1 (ofBytes l) rl → σ 50 = .int .i64 l.length → σ 51 = .int .i64 ((i + 1 : Nat) : Int) → σ 10 = .str (s ++ (g ++ p)) → σ 11 = .list 7 ((want ++ [t]).map tokA) r' →
        ∃ m, m < l.length - i ∧ InvFo 0 gaps rem l rg rl m σ g' := fun g σ hgl hst t1 t2 t7 t8 t9 t49 t50 t51 t10 t11 =>
      ⟨l.length - (i + 1), by omega, i + 1, s ++ (g ++ p), want ++ [t], r', by omega, rfl, hl, by simp; omega, by simp; omega, hst, t1, t2, t7, t8, t9, t49, t50, t51, t10, t11, by simpa using p2⟩
    by_cases hge : gaps = []
    · subst hge
      obtain ⟨g, f1, f2, f3⟩ := fin 0 (by omega)
      have f1' : ((between rem).map AV.str)[0]? = some (.str g) := by rw [List.getElem?_map, f1]; rfl
      have q1 : g.length + p.length ≤ 140737488355328 := by omega
      have q2 : s.length + (g.length + p.length) ≤ 140737488355328 := by omega
      simp [-getElem?_pos, -Int.natCast_add, -List.getElem?_map, -List.map_map, wL6_0, s1, s2, s7, s8, s9, s49, s50, s51, s10, s11, hlt, hltI, ek, wk, tm, lT, lK, ep', et', f1', q1, q2, abin_rem, hkm, e64, tokA, tokL]
      rw [p1]
      simp [-Int.natCast_add, s51, e64]
      refine next g _ f2 f3 ?_ ?_ ?_ ?_ ?_ ?_ ?_ ?_ ?_ ?_ <;> simp [s1, s2, s7, s8, s9, s49, s50, tokA, tokL]
    · have hgl : 0 < gaps.length := List.length_pos_iff.2 hge
      obtain ⟨gi, hgi⟩ : ∃ gi, gi = i % gaps.length := ⟨_, rfl⟩
      have hgil : gi < gaps.length := by rw [hgi]; exact Nat.mod_lt _ hgl
      obtain ⟨gb, egb⟩ : ∃ gb, gaps[gi]? = some gb := ⟨_, List.getElem?_eq_getElem hgil⟩
      have tmg : Int.tmod (i : Int) gaps.length = (gi : Int) := by rw [hgi]; exact tmod_nat _ _
      have hgbl := gb.toNat_lt
      have wg : IntKind.wrap .i64 (gb.toNat : Int) = (gb.toNat : Int) := wrap64 (by omega) (by omega)
      obtain ⟨gp, hgp⟩ : ∃ gp, gp = gb.toNat % 7 := ⟨_, rfl⟩
      have hgpl : gp < 7 := by rw [hgp]; exact Nat.mod_lt _ (by omega)
      have tmp : Int.tmod (gb.toNat : Int) 7 = (gp : Int) := by rw [hgp]; exact tmod_nat _ 7
      clear hgi hgp
      obtain ⟨g, f1, f2, f3⟩ := fin gp hgpl
      have f1' : ((between rem).map AV.str)[gp]? = some (.str g) := by rw [List.getElem?_map, f1]; rfl
      have q1 : g.length + p.length ≤ 140737488355328 := by omega
      have q2 : s.length + (g.length + p.length) ≤ 140737488355328 := by omega
      have hglI : (0 : Int) < gaps.length := by omega
      have hglN : ¬ (gaps.length : Int) = 0 := by omega
      simp [-getElem?_pos, -Int.natCast_add, -List.getElem?_map, -List.map_map, wL6_0, s1, s2, s7, s8, s9, s49, s50, s51, s10, s11, hlt, hltI, ek, wk, tm, lT, lK, lB, ep', et', f1', q1, q2, abin_rem, hkm, e64, tokA, tokL, hglI, hglN, hge, hgl, tmg, tmp, wg, hgil, egb, hgpl]
      rw [p1]
      simp [-Int.natCast_add, s51, e64]
      refine next g _ f2 f3 ?_ ?_ ?_ ?_ ?_ ?_ ?_ ?_ ?_ ?_ <;> simp [s1, s2, s7, s8, s9, s49, s50, tokA, tokL]
  · have hil : i = l.length := by omega
    subst hil
    have hltI : ((l.length : Int) < l.length) = False := eq_false (by omega)
    have e1 := hst.ends
    have e2 := hst.ends2 h10
    obtain ⟨g1, g2⟩ := lexP_ends e1 (by omega)
    obtain ⟨g3, g4⟩ := lexP_ends e2 (by simp; omega)
    obtain ⟨r', g', p1, p2, p3⟩ := app_list (n0 := 0) (key := h.length) (sz := 7) (bytes := 56) (e := 30) (h := h ++ [AE.dead]) (xs := want.map tokA) (ys := [tokA (endT 0)]) (r := r) (r2 := .full)
      (by simpa using ow.app _) (by omega) (by simp) (by simp; omega) (by simp; omega)
    obtain ⟨x1, hx1, r1, rfl⟩ := lex_ok s (by omega) g'
    obtain ⟨x2, hx2, r2, rfl⟩ := lex_ok ([59, 32] ++ rem ++ [10, 13, 10] ++ s ++ [32, 59] ++ rem) (by simp; omega) g'
    have hl1 : (lexP s).1.length = want.length + 1 := by simpa using congrArg List.length g2
    have hl2 : (lexP ([59, 32] ++ rem ++ [10, 13, 10] ++ s ++ [32, 59] ++ rem)).1.length = want.length + 1 := by simpa using congrArg List.length g4
    have ew : (want ++ [endT 0]).map akT = want.map akT ++ [akT (endT 0)] := by simp
    have a1 := fun h => alike_ok (lexP s).1 (want ++ [endT 0]) r1 r' (by omega) h
    have a2 := fun h => alike_ok (lexP ([59, 32] ++ rem ++ [10, 13, 10] ++ s ++ [32, 59] ++ rem)).1 (want ++ [endT 0]) r2 r' (by omega) h
    rw [g2, ew, decide_eq_true rfl] at a1
    rw [g4, ew, decide_eq_true rfl] at a2
    rw [g1] at hx1
    rw [g3] at hx2
    simp only [List.append_assoc, List.cons_append, List.nil_append] at hx2 a2
    generalize (lexP s).1 = l1 at *
    generalize (lexP (59 :: 32 :: (rem ++ 10 :: 13 :: 10 :: (s ++ 32 :: 59 :: rem)))).1 = l2 at *
    have w0 : IntKind.wrap .i64 0 = 0 := by decide
    have b1 : 2 + rem.length ≤ 140737488355328 := by omega
    simp [tokA, tokL, endT] at p1 a1 a2
    simp [-Int.natCast_add, wL6_0, wK6_0, s1, s2, s7, s8, s9, s49, s50, s51, s10, s11, hltI, tokA, tokL]
    rw [p1]
    simp [hx1, hx2, s2, s10, w0, a1, a2, awake_ok]
    exact ⟨by omega, by omega, by omega, by omega, by omega, hQ _ _ (by simp)⟩
theorem lexFolds_true (l gaps rem : List UInt8) (hl : l.length ≤ 9223372036854775807) (hg : gaps.length ≤ 9223372036854775807) (hr : rem.length ≤ 9223372036854775807) : M.call 6 [.list 1 (ofBytes l) .no, .list 1 (ofBytes gaps) .no, .str rem] [] = some (.bool true, []) := by
  refine call_of tab6 rfl (callF_wp ?_)
  by_cases h40 : 40 < rem.length
  · have h40' : (40 : Int) < rem.length := by omega
    simp [wB6, h40', awake_ok]
  have h40' : ((40 : Int) < rem.length) = False := eq_false (by omega)
  have h402 : (rem.length : Int) ≤ 40 := by omega
  have hct := fun h => contains1_ok rem 10 h
  by_cases h10 : 10 ∈ rem
  · rw [decide_eq_true h10] at hct
    simp [wB6, h40', h402, hct, awake_ok]
  rw [decide_eq_false h10] at hct
  have b1 : 2 + rem.length ≤ 140737488355328 := by omega
  have b2 : rem.length + 1 + 1 ≤ 140737488355328 := by omega
  by_cases hl40 : l.length ≤ 40
  · have hm : ((40 : Int) < l.length) = False := eq_false (by omega)
    simp [wB6, h40', h402, hct, pieces_ok, hm]
    refine ⟨by omega, by omega, by omega, by omega, by omega, by omega, folds_loop gaps rem (by omega) h10 hg (l) .no .no _ ?_ _ _ _ ⟨0, [114, 117, 108, 101], [{ kind := 1, text := [114, 117, 108, 101] }], .full, by omega, rfl, (by first | omega | (rw [List.length_take]; omega)), (by decide), rfl, St.rule, by simp, by simp, by simp, by simp, by simp [between], by simp, by simp; try omega, by simp, by simp, by simp [tokA, tokL], .full⟩⟩
    intro σ h h6
    have hf := fun v => finish_of_take (h0 := []) (h := h) (by simp) v
    simp [h6, hf]
  · have hm : ((40 : Int) < l.length) = True := eq_true (by omega)
    have hm2 : (40 : Int) ≤ l.length := by omega
    have hm3 : min 40 l.length = 40 := by omega
    simp [wB6, h40', h402, hct, pieces_ok, hm, hm2, hm3]
    refine ⟨by omega, by omega, by omega, by omega, by omega, by omega, folds_loop gaps rem (by omega) h10 hg (l.take 40) .no .no _ ?_ _ _ _ ⟨0, [114, 117, 108, 101], [{ kind := 1, text := [114, 117, 108, 101] }], .full, by omega, rfl, (by first | omega | (rw [List.length_take]; omega)), (by decide), rfl, St.rule, by simp, by simp, by simp, by simp, by simp [between], by simp, by simp; try omega, by simp, by simp, by simp [tokA, tokL], .full⟩⟩
    intro σ h h6
    have hf := fun v => finish_of_take (h0 := []) (h := h) (by simp) v
    simp [h6, hf]
theorem LexFolds_law (xs : List AV) (h : HasArgs Try.prog [33, 33, 9] xs) : (lim XS T).call 6 xs [] = some (.bool true, []) := by
  obtain ⟨a0, r0, n0, rfl, h0, h⟩ := h
  obtain ⟨a1, r1, n1, rfl, h1, h⟩ := h
  obtain ⟨a2, r2, n2, rfl, h2, h⟩ := h
  obtain rfl := args_nil h
  obtain ⟨l, rfl, hl⟩ := has_bytes Try.underlying33 Try.underlying5 (by kernel_rfl) h0
  obtain ⟨g, rfl, hg⟩ := has_bytes Try.underlying33 Try.underlying5 (by kernel_rfl) h1
  obtain ⟨s, rfl, hs⟩ := has_str Try.underlying9 h2
  exact lexFolds_true l g s (by simpa [maxLen] using hl) (by simpa [maxLen] using hg) (by simpa [maxLen] using hs)
end Go.Proofs.Ytiobaboailhafaa
