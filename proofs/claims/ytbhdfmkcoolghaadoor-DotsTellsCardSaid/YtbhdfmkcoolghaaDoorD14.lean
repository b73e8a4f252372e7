/-
  dots.Decode: its contract.
-/
import Derived.Test.YtbhdfmkcoolghaaDoorD13
set_option linter.unusedVariables false
set_option linter.unusedSimpArgs false
namespace Go.Proofs.YtbhdfmkcoolghaaDoor
open Go Go.Am Go.RowKit

/-- What Decode hands back. -/
def DecR (s : List UInt8) (B : Nat) (w0 : World) (v : Value) (w' : World) : Prop := ∃ E' g xs rr n ok, Rel B w0 E' g w' ∧ decP s = (if ok then some (xs, n) else none) ∧ (ok = false → xs = [] ∧ n = 0) ∧ (xs = [] ∨ ∃ t m, rr = .tok t ∧ g[t]? = some (.tok 1 m 5)) ∧
  Rd E' v (.tup [.list 1 (ofBytes xs) rr, .int .i64 ((n : Nat) : Int), .bool ok])
theorem dec_end {B : Nat} {w0 : World} {nt dn d : Nat} {E5 : Env} {a5 : Act} {w5 : World} {σ5 : Slots} {h0 h5 : Heap} {s : List UInt8} {pre : List Item} (hat : AtD Tryd.prog B w0 nt [markD d] E5 a5 w5 σ5 h5)
    (hi : h5[h0.length + 6]? = some (.opq (.deferred (some [])))) (hρ : E5.ρ (h0.length + 6) = some (d, 0)) (s2 : σ5 2 = .ptr h0.length 0) (s3 : σ5 3 = .ptr (h0.length + 1) 0) (s4 : σ5 4 = .ptr (h0.length + 2) 0) (hj : DecJ h0 s .ret pre h5) :
    LeavesInM (RF none) dn Tryd.prog Tryd.f9 a5.tmps (fun e w' => ∃ v, e = .returned v ∧ DecR s B w0 v w') a5.defers .returning w5 := by
  obtain ⟨_, ⟨xs, rr, n, ok, out, rr2, n2, hb, hrr, hd, hz⟩, ht, hl⟩ := hj
  obtain ⟨b0, b1, b2, b3, b4⟩ := hb
  have g0 : (h5.set (h0.length + 6) (.opq (.deferred none)))[h0.length]? = some (.cells [.list 1 (ofBytes xs) rr]) := by rw [get_set_ne (by omega)]; exact b0
  have g1 : (h5.set (h0.length + 6) (.opq (.deferred none)))[h0.length + 1]? = some (.cells [.int .i64 ((n : Nat) : Int)]) := by rw [get_set_ne (by omega)]; exact b1
  have g2 : (h5.set (h0.length + 6) (.opq (.deferred none)))[h0.length + 2]? = some (.cells [.bool ok]) := by rw [get_set_ne (by omega)]; exact b2
  refine leaves_mono ?_ hat.defers (end_raw hat hi hρ f9_res (vs := [.list 1 (ofBytes xs) rr, .int .i64 ((n : Nat) : Int), .bool ok]) (by simp [resVals, s2, s3, s4, g0, g1, g2]))
  rintro e w6 ⟨v, rfl, hr6, hv6⟩
  refine ⟨v, rfl, E5, _, xs, rr, n, ok, hr6, hd, hz, ?_, hv6⟩
  rcases hrr with h | ⟨t, m, h1, h2, h3⟩
  · exact .inl h
  · exact .inr ⟨t, m, h1, by rw [get_set_ne (by omega)]; exact h2⟩
theorem dec_raw {B : Nat} {w0 : World} {E : Env} {h0 : Heap} {w : World} {vs : Array Value} {s : List UInt8} {r : Rt} (hl : s.length ≤ 100000000) (hrel : Rel B w0 E h0 w) (hsz : vs.size = 1) (hrd : ∀ (i : Nat) (u : Value) (x : AV), vs[i]? = some u → [AV.list 1 (ofBytes s) r][i]? = some x → Rd E u x) :
    Fires Tryd.prog 9 vs w fun v w' => DecR s B w0 v w' := by
  refine fires_marks f9_is (by decide) f9_body ?_
  have hat0 : AtD Tryd.prog B w0 36 [] E { tmps := vs ++ Array.replicate (Tryd.f9.ntmps - vs.size) undef, defers := [] } w (fun i => [AV.list 1 (ofBytes s) .no].getD i .junk) h0 := by
    refine ⟨⟨hrel.gl, fun t => start_sr (args := [AV.list 1 (ofBytes s) .no]) hsz (fun i u x hu hx => ?_) _ t⟩, by simp [show Tryd.f9.ntmps = 36 from rfl]; omega, rfl, hrel⟩
    match i, hx with
    | 0, hx =>
      injection hx with hx
      subst hx
      exact rd_no (hrd 0 u _ hu rfl)
    | i + 1, hx => cases hx
  generalize hσ0 : (fun i => [AV.list 1 (ofBytes s) .no].getD i .junk) = σ0 at hat0
  have s00 : σ0 0 = .list 1 (ofBytes s) .no := by rw [← hσ0]; rfl
  refine wpIn_seq ?_
  refine wpIn_mono (m_sim (ro := none) (dn := 0) pde0 (Q := fun ex σ' h' => ex = .normal ∧ h' = h0 ++ [.cells [.list 1 [] .full], .cells [.int .i64 0], .cells [.bool false]] ∧ σ' 0 = .list 1 (ofBytes s) .no ∧ σ' 2 = .ptr h0.length 0 ∧ σ' 3 = .ptr (h0.length + 1) 0 ∧ σ' 4 = .ptr (h0.length + 2) 0) (by rw [ede0]; simp [s00]) hat0) ?_
  rintro e a1 w1 ⟨ex, σ1, h1, E1, rfl, ⟨rfl, rfl, s10, s12, s13, s14⟩, hat1, k1, gr1⟩
  refine wpIn_seq ?_
  refine wpIn_mono (m_sim (ro := none) (dn := 0) pde1 (Q := fun ex σ' h' => ex = .normal ∧ h' = h0 ++ [.cells [.list 1 [] .full], .cells [.int .i64 0], .cells [.bool false], .cells [.list 1 [] .full]] ∧ σ' 0 = .list 1 (ofBytes s) .no ∧ σ' 2 = .ptr h0.length 0 ∧ σ' 3 = .ptr (h0.length + 1) 0 ∧ σ' 4 = .ptr (h0.length + 2) 0 ∧ σ' 5 = .ptr (h0.length + 3) 0) (by rw [ede1]; simp [s10, s12, s13, s14]) hat1) ?_
  rintro e a2 w2 ⟨ex, σ2, h2, E2, rfl, ⟨rfl, rfl, s20, s22, s23, s24, s25⟩, hat2, k2, gr2⟩
  refine wpIn_seq ?_
  refine wpIn_mono (m_sim (ro := none) (dn := 0) pde2 (Q := fun ex σ' h' => ex = .normal ∧ h' = h0 ++ [.cells [.list 1 [] .full], .cells [.int .i64 0], .cells [.bool false], .cells [.list 1 [] .full], .cells [.int .i64 0]] ∧ σ' 0 = .list 1 (ofBytes s) .no ∧ σ' 2 = .ptr h0.length 0 ∧ σ' 3 = .ptr (h0.length + 1) 0 ∧ σ' 4 = .ptr (h0.length + 2) 0 ∧ σ' 5 = .ptr (h0.length + 3) 0 ∧ σ' 6 = .ptr (h0.length + 4) 0) (by rw [ede2]; simp [s20, s22, s23, s24, s25]) hat2) ?_
  rintro e a3 w3 ⟨ex, σ3, h3, E3, rfl, ⟨rfl, rfl, s30, s32, s33, s34, s35, s36⟩, hat3, k3, gr3⟩
  refine wpIn_seq ?_
  refine wpIn_seq ?_
  obtain ⟨H, hH⟩ : ∃ H, H = h0 ++ [AE.cells [.list 1 [] .full], .cells [.int .i64 0], .cells [.bool false], .cells [.list 1 [] .full], .cells [.int .i64 0], .cells [.list 1 (ofBytes s) .no]] := ⟨_, rfl⟩
  refine wpIn_mono (m_sim (ro := none) (dn := 0) pde3 (Q := fun ex σ' h' => ex = .normal ∧ h' = H ∧ σ' 2 = .ptr h0.length 0 ∧ σ' 3 = .ptr (h0.length + 1) 0 ∧ σ' 4 = .ptr (h0.length + 2) 0 ∧ σ' 5 = .ptr (h0.length + 3) 0 ∧ σ' 6 = .ptr (h0.length + 4) 0 ∧ σ' 12 = .fn 21 [.ptr (h0.length + 5) 0]) (by rw [ede3, hH]; simp [s30, s32, s33, s34, s35, s36, lines_ok nox0 (.list 1 (ofBytes s) .no) rfl]) hat3) ?_
  rintro e a4 w4 ⟨ex, σ4, h4, E4, rfl, ⟨rfl, hh4, s42, s43, s44, s45, s46, s412⟩, hat4, k4, gr4⟩
  rw [hh4] at hat4 gr4
  refine wpIn_block ?_
  have hHl : H.length = h0.length + 6 := by rw [hH]; simp
  have hHB : DecB h0.length H (.list 1 [] .full) 0 false [] .full 0 := by
    rw [hH]
    refine ⟨?_, ?_, ?_, ?_, ?_⟩ <;> simp [List.getElem?_append]
  have hHb : H[h0.length + 5]? = some (.cells [.list 1 (ofBytes s) .no]) := by rw [hH]; simp [List.getElem?_append]
  have hHt : H.take h0.length = h0 := by rw [hH]; simp
  have hk04 : Keeps h0.length E E4 := ((k1.trans k2 (by simp)).trans k3 (by simp)).trans k4 (by simp)
  refine range_sim (b := h0.length + 5) (s := s) (r := .no) (gx := .t 12) hat4 rfl s412 (by simp) hHb (by omega) (by decide) (by decide) pde4 pde5 (DecI h0) (DecJ h0 s) ?_ ?_ ?_ ?_ ?_ ?_
  · rw [hHl]
    exact fun pre g1 g2 hi hw => decI_same hi hw
  · rw [hHl]
    exact fun ex pre g1 g2 hi hw => decJ_same hi hw
  · intro o o'
    refine ⟨fun x hx => (by cases hx), ⟨.full, fun _ => rfl, decB_same (h1 := H) hHB fun k h1 h2 => List.getElem?_append_left (by omega), Ow.full⟩, ?_, by simp [hHl]⟩
    rw [take_app (by omega), hHt]
  · intro pre x post h' rec hx hi hl' hD hL
    rw [hHl] at hl' hD hL ⊢
    obtain ⟨hg, ⟨rr, hfu, hb, ow⟩, ht, hl4⟩ := hi
    rw [ede4]
    have hroom := linesP_room (pre := pre ++ [x]) (post := post) (by rw [hx]; simp)
    rw [lenL_add] at hroom
    have hbl := bodyL_len pre
    have w3' : Wp M0 qde4 (fun e σ' h'' => e = .normal ∧ h'' = h' ∧ DecS h0.length σ' x) (upd (upd σ4 13 (.str x.1)) 14 (.bool x.2)) h' := by
      simp [upd]
      refine ⟨?_, ?_, ?_, ?_, ?_, ?_, ?_⟩ <;> simp [upd, put, s42, s43, s44, s45, s46]
    refine w3'.mono ?_
    rintro e σ5 g ⟨rfl, rfl, hS⟩
    refine ⟨rfl, rfl, ?_⟩
    rw [ede5]
    have hb' : DecB h0.length (g.set (h0.length + 6 + 1) (busy rec)) (.list 1 [] .full) 0 false (bodyL pre) rr (lenL pre) := decB_same hb fun k k1 k2 => get_set_ne (by omega)
    have ow' : Ow (h0.length + 8) (g.set (h0.length + 6 + 1) (busy rec)) 1 5 rr (bodyL pre).length := ow.set (by rw [hL]; simp)
    have fin : ∀ g2 : Heap, (∀ k, k < h0.length ∨ (h0.length + 5 ≤ k ∧ k < h0.length + 8) → g2[k]? = (g.set (h0.length + 6 + 1) (busy rec))[k]?) → g.length ≤ g2.length →
        g2[h0.length + 6 + 1]? = some (busy rec) ∧ g2[h0.length + 5]? = g[h0.length + 5]? ∧ g2[h0.length + 6]? = g[h0.length + 6]? ∧ g2.take h0.length = h0 ∧ h0.length + 8 ≤ g2.length := fun g2 hk hlg =>
      ⟨by rw [hk _ (by omega)]; exact get_set_eq (lt_of_get hL), by rw [hk _ (by omega)]; exact get_set_ne (by omega), by rw [hk _ (by omega)]; exact get_set_ne (by omega), take_get (by omega) fun k hkk => by
        rw [hk _ (by omega), get_set_ne (by omega)]
        exact get_of_take (by rw [ht]; simp) hkk, by omega⟩
    by_cases hx2 : x.2 = true
    · by_cases hx1 : x.1 = [46]
      · refine (dec_last hb' hS (by omega) hx2 hx1).mono ?_
        rintro ex σ6 g2 ⟨rfl, hlg, hB, hk2⟩
        obtain ⟨f1, f2, f3, f4, f5⟩ := fin g2 (fun k hk => hk2 k (by omega)) (by rw [← hlg]; simp)
        refine ⟨f1, f2, f3, ?_⟩
        show DecJ h0 s .ret (pre ++ [x]) g2
        refine ⟨rfl, ⟨_, _, _, _, _, _, _, hB, ?_, ?_, by simp⟩, f4, f5⟩
        · rcases ow' with ow | ⟨t, ow, o2, o3⟩
          · exact .inl (by rw [hfu ow]; rfl)
          · exact .inr ⟨t, _, ow, by rw [hk2 _ (by omega)]; exact o3, o2⟩
        · unfold decP
          rw [hx, decL_go _ _ _ _ hg]
          simp [decL, hx2, hx1]
      · refine (dec_more hb' hS (by omega) hx2 hx1 ow' (by simp; omega) (by omega)).mono ?_
        rintro ex σ6 g2 ⟨rfl, hlg, ⟨rr', ⟨t', ht'⟩, hB, ow2⟩, hk2⟩
        obtain ⟨f1, f2, f3, f4, f5⟩ := fin g2 (fun k hk => hk2 k (by omega)) (by simpa using hlg)
        refine ⟨f1, f2, f3, ?_⟩
        show _ ∧ DecI h0 (pre ++ [x]) g2
        refine ⟨rfl, fun y hy => ?_, ⟨rr', fun h => (by rw [ht'] at h; cases h), by rw [bodyL_add, lenL_add]; exact hB, by rw [bodyL_add]; exact ow2⟩, f4, f5⟩
        rcases List.mem_append.1 hy with hy | hy
        · exact hg y hy
        · simp only [List.mem_singleton] at hy
          subst hy
          exact ⟨hx2, hx1⟩
    · have hx3 : x.2 = false := by simpa using hx2
      refine (dec_wrong hb' hS (by omega) hx3).mono ?_
      rintro ex σ6 g2 ⟨rfl, hlg, hB, hk2⟩
      obtain ⟨f1, f2, f3, f4, f5⟩ := fin g2 (fun k hk => hk2 k (by omega)) (by rw [← hlg]; simp)
      refine ⟨f1, f2, f3, ?_⟩
      show DecJ h0 s .ret (pre ++ [x]) g2
      refine ⟨rfl, ⟨[], .full, 0, false, _, _, _, hB, .inl rfl, ?_, fun _ => ⟨rfl, rfl⟩⟩, f4, f5⟩
      unfold decP
      rw [hx, decL_go _ _ _ _ hg]
      simp [decL, hx3]
  · rintro E5 a5 w5 h5 hat5 k5 hρ hD hl5 ⟨hg, ⟨rr, hfu, hb, ow⟩, ht, hl6⟩
    rw [hHl] at hρ hD
    obtain ⟨b0, b1, b2, b3, b4⟩ := hb
    have l4 := lt_of_get b4
    refine wpIn_mono (m_sim (ro := none) (dn := 0) pde6 (Q := fun ex σ' h' => ex = .ret ∧ DecB h0.length h' (.list 1 [] .full) 0 false (bodyL (linesP s)) rr (lenL (linesP s)) ∧ (∀ k, k < h0.length ∨ h0.length + 5 ≤ k → h'[k]? = h5[k]?) ∧ h'.length = h5.length ∧ σ' 2 = .ptr h0.length 0 ∧ σ' 3 = .ptr (h0.length + 1) 0 ∧ σ' 4 = .ptr (h0.length + 2) 0) ?_ hat5) ?_
    · rw [ede6]
      have l0 : h0.length < h5.length := by omega
      have l1 : h0.length + 1 < h5.length := by omega
      have l2 : h0.length + 2 < h5.length := by omega
      simp [s42, s43, s44, b0, b1, b2]
      refine ⟨⟨?_, ?_, ?_, ?_, ?_⟩, fun k hk => ?_⟩
      · simp [List.getElem?_set, l0]
      · simp [List.getElem?_set, l1]
      · simp [List.getElem?_set, l2]
      · simp [List.getElem?_set, b3]
      · simp [List.getElem?_set, b4]
      · rw [get_set_ne (by omega), get_set_ne (by omega), get_set_ne (by omega)]
    rintro e a6 w6 ⟨ex, σ6, h6, E6, rfl, ⟨rfl, hB, hk6, hl7, t2, t3, t4⟩, hat6, k6, gr6⟩
    refine dec_end (pre := []) hat6 (by rw [hk6 _ (by omega)]; exact hD) (by rw [k6.2 _ (by omega)]; exact hρ) t2 t3 t4 ⟨rfl, ⟨[], .full, 0, false, _, _, _, hB, .inl rfl, ?_, fun _ => ⟨rfl, rfl⟩⟩, take_get (by omega) fun k hk => ?_, by omega⟩
    · have := decL_go (linesP s) [] [] 0 hg
      rw [List.append_nil] at this
      unfold decP
      rw [this]
      rfl
    · rw [hk6 _ (by omega)]
      exact get_of_take (by rw [ht]; simp) hk
  · rintro ex c pre post E5 a5 w5 h5 hc hx hj hat5 k5 hρ hD hl5
    rw [hHl] at hρ hD
    obtain rfl : ex = .ret := hj.1
    injection hc with hc
    subst hc
    refine wpIn_ret ?_
    exact dec_end hat5 hD hρ s42 s43 s44 hj
theorem dec_row {h0 : Heap} {s : List UInt8} {r : Rt} (hl : s.length ≤ 100000000) : Am.Good Tryd.prog 9 [.list 1 (ofBytes s) r] h0 (decA h0 s).1 (decA h0 s).2 := by
  have hh : (decA h0 s).2 = h0 ∨ ∃ e, (decA h0 s).2 = h0 ++ [e] := by
    unfold decA
    split
    · split
      · exact .inl rfl
      · exact .inr ⟨_, rfl⟩
    · exact .inl rfl
  refine ⟨?_, fun k hk => ?_, fun B w0 E w vs hrel hsz hrd => ?_⟩
  · rcases hh with hh | ⟨e, hh⟩ <;> rw [hh] <;> simp
  · rcases hh with hh | ⟨e, hh⟩ <;> rw [hh]
    · exact hk
    · exact get_left hk _
  have := dec_raw (r := .no) hl (fresh_rel hrel) hsz fun i u x hu hx => by
    match i, hx with
    | 0, hx =>
      injection hx with hx
      subst hx
      exact list_fresh (hrd 0 u _ hu rfl)
    | i + 1, hx => cases hx
  refine fires_mono this ?_
  rintro v w' ⟨E5, g5, xs, rr, n, ok, hr5, hd, hz, hrr, hv⟩
  cases hv with
  | tup us _ q1 q2 =>
    obtain ⟨u0, u1, u2, rfl⟩ : ∃ u0 u1 u2, us = #[u0, u1, u2] := by
      have hs : us.size = 3 := q1
      refine ⟨us[0], us[1], us[2], ?_⟩
      apply Array.ext
      · exact hs
      · intro i h1 h2
        match i, h2 with
        | 0, _ => rfl
        | 1, _ => rfl
        | 2, _ => rfl
    have v0 := q2 0 u0 _ rfl rfl
    have v1 : u1 = .int .i64 ((n : Nat) : Int) := (q2 1 u1 _ rfl rfl).inv_int
    have v2 : u2 = .bool ok := (q2 2 u2 _ rfl rfl).inv_bool
    have tup : ∀ (E' : Env) (x : AV), Rd E' u0 x → Rd E' (.tuple #[u0, u1, u2]) (.tup [x, .int .i64 ((n : Nat) : Int), .bool ok]) := fun E' x hx => by
      refine .tup _ _ rfl fun i u y hu hy => ?_
      match i, hu, hy with
      | 0, hu, hy => injection hu with hu; injection hy with hy; subst hu; subst hy; exact hx
      | 1, hu, hy => injection hu with hu; injection hy with hy; subst hu; subst hy; rw [v1]; exact .int _ _
      | 2, hu, hy => injection hu with hu; injection hy with hy; subst hu; subst hy; rw [v2]; exact .bool _
    by_cases hx : xs = []
    · subst hx
      have e : decA h0 s = (.tup [.list 1 [] .no, .int .i64 ((n : Nat) : Int), .bool ok], h0) := by
        unfold decA
        rw [hd]
        cases ok with
        | true => simp
        | false => obtain ⟨_, rfl⟩ := hz rfl; simp
      rw [e]
      refine ⟨E, E.le_refl, fun _ _ => rfl, hrel.world hr5.below, tup _ _ ?_⟩
      generalize hy : ofBytes [] = ys at v0
      cases v0 with
      | list A m c sz _ _ g o vs k1 k2 k3 k4 k5 k6 k7 =>
        subst hy
        have : m = 0 := by simpa using k1.symm
        subst this
        exact .list A 0 c 1 [] .no 0 0 (fun _ _ => undef) rfl (Nat.zero_le _) (fun h => absurd h (Nat.lt_irrefl _)) (fun _ h => (by cases h)) (fun i j h => absurd h (Nat.not_lt_zero _)) (fun i x j y h => (by cases h)) trivial
    · obtain ⟨t, m, rfl, ht⟩ := hrr.resolve_left hx
      have e : decA h0 s = (.tup [.gl 1 h0.length xs.length, .int .i64 ((n : Nat) : Int), .bool ok], h0 ++ [.grow 1 (ofBytes xs)]) := by
        unfold decA
        rw [hd]
        cases ok with
        | true => simp [hx]
        | false => exact absurd (hz rfl).1 hx
      rw [e]
      obtain ⟨E', a1, a2, a3, a4⟩ := row_of_tok hrel hr5 v0 ht
      exact ⟨E', a1, a2, a3, tup _ _ a4⟩
end Go.Proofs.YtbhdfmkcoolghaaDoor
