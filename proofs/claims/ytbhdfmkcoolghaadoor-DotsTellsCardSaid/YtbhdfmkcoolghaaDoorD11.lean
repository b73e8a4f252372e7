/-
  dots.Encode, its result a row.
-/
import Derived.Test.YtbhdfmkcoolghaaDoorD0
set_option linter.unusedVariables false
set_option linter.unusedSimpArgs false
namespace Go.Proofs.YtbhdfmkcoolghaaDoor
open Go Go.Am Go.RowKit

def encL (xs : List Item) : List UInt8 := xs.flatMap fun x => stuffP x.1 ++ [13, 10]
def encP (s : List UInt8) : List UInt8 := encL (linesP s) ++ [46, 13, 10]
theorem encL_add (xs : List Item) (x : Item) : encL (xs ++ [x]) = encL xs ++ stuffP x.1 ++ [13, 10] := by simp [encL]
theorem stuff_len (s : List UInt8) : s.length ≤ (stuffP s).length ∧ (stuffP s).length ≤ s.length + 1 := by unfold stuffP; split <;> simp
theorem encL_len : ∀ (n : Nat) (s : List UInt8), (encL (linesF n s)).length ≤ 4 * s.length
  | 0, s => by simp [linesF, encL]
  | n + 1, s => by
    simp only [linesF]
    split
    · simp [encL]
    · rename_i hs
      split
      · rename_i i hc
        have := (cut_room s i hc).1
        have h1 := encL_len n (s.drop (i + 2))
        have h2 := (stuff_len (s.take i)).2
        simp only [encL, List.flatMap_cons, List.length_append, List.length_cons, List.length_nil, List.length_take, List.length_drop] at *
        omega
      · have h2 := (stuff_len s).2
        have : 0 < s.length := List.length_pos_iff.2 hs
        simp only [encL, List.flatMap_cons, List.flatMap_nil, List.length_append, List.length_cons, List.length_nil] at *
        omega
theorem encL_room {s : List UInt8} {pre post : List Item} {x : Item} (h : linesP s = pre ++ x :: post) : (encL pre).length + x.1.length ≤ 4 * s.length := by
  have := encL_len s.length s
  have h' : linesF s.length s = pre ++ x :: post := h
  rw [h'] at this
  have h2 := (stuff_len x.1).1
  simp only [encL, List.flatMap_append, List.flatMap_cons, List.length_append, List.length_cons, List.length_nil] at *
  omega

/-- What Encode's box holds between two rounds. -/
def EncI (h0 : Heap) (pre : List Item) (h' : Heap) : Prop :=
  (∃ rr, h'[h0.length]? = some (.cells [.list 1 (ofBytes (encL pre)) rr]) ∧ Ow (h0.length + 4) h' 1 5 rr (encL pre).length) ∧ h'.take h0.length = h0 ∧ h0.length + 4 ≤ h'.length
theorem take_get {h h0 : Heap} (hl : h0.length ≤ h.length) (hk : ∀ k, k < h0.length → h[k]? = h0[k]?) : h.take h0.length = h0 := by
  apply List.ext_getElem?
  intro k
  rw [List.getElem?_take]
  split
  · rename_i h1
    exact hk k h1
  · rename_i h1
    rw [List.getElem?_eq_none (by omega)]
theorem encI_same {h0 : Heap} {pre : List Item} {h1 h2 : Heap} (hi : EncI h0 pre h1) (hw : AsWas (h0.length + 1) (h0.length + 3) h1 h2) : EncI h0 pre h2 := by
  obtain ⟨⟨rr, hb, ow⟩, ht, hl⟩ := hi
  refine ⟨⟨rr, by rw [hw.2 _ (by omega) (by omega) (by omega)]; exact hb, ow.same fun t ht => ?_⟩, take_get (by have := hw.1; omega) fun k hk => ?_, by have := hw.1; omega⟩
  · rcases ow with ow | ⟨t', k1, k2, k3⟩
    · rw [ow] at ht; cases ht
    · rw [ht] at k1
      injection k1 with k1
      subst k1
      exact hw.2 _ (lt_of_get k3) (by omega) (by omega)
  · rw [hw.2 _ (by omega) (by omega) (by omega)]
    exact get_of_take (by rw [ht]; simp) hk
theorem fires_mono {P : Program} {f : FuncId} {vs : Array Value} {w : World} {R R' : Value → World → Prop} (h : Fires P f vs w R) (hR : ∀ v w, R v w → R' v w) : Fires P f vs w R' := by
  unfold Fires at h ⊢
  split at h
  · exact hR _ _ h
  · refine Calls.mono h ?_
    intro e w' he
    cases e with
    | returned v => exact hR _ _ he
    | panicked ch => exact he
    | outgrown => exact he
  · exact h
theorem end_raw {P : Program} {B : Nat} {w0 : World} {nt dn : Nat} {fn : Func} {E' : Env} {a : Act} {w' : World} {σ : Slots} {h1 : Heap} {d i : Nat} {rs : List ARes} {vs : List AV}
    (hat : AtD P B w0 nt [markD d] E' a w' σ h1) (hi : h1[i]? = some (.opq (.deferred (some [])))) (hρ : E'.ρ i = some (d, 0))
    (hrs : compileRs P fn.results.toList = some rs) (hvs : resVals σ (h1.set i (.opq (.deferred none))) rs = some vs) :
    LeavesInM (RF none) dn P fn a.tmps (fun e w' => ∃ v, e = .returned v ∧ Rel B w0 E' (h1.set i (.opq (.deferred none))) w' ∧ Rd E' v (oneOf vs)) a.defers .returning w' := by
  rw [hat.defers]
  obtain ⟨hD, hr⟩ := turn_opq hat.rel (.deferred none) hi hρ rfl
  refine ⟨by simp, .inl ⟨d, _, rfl, run_takeDeferred hD, ?_⟩⟩
  obtain ⟨v, hv1, hv2⟩ := results_sound hat.sr hr hrs hvs
  show LeavesIn _ _ _ _ _ _ [] .returning _
  exact ⟨v, hv1, v, rfl, hr, hv2⟩
theorem leaves_mono {P : Program} {dn : Nat} {fn : Func} {tm : Array Value} {R R' : Ending → World → Prop} (hR : ∀ e w, R e w → R' e w) {d : Nat} {w' : World} {ds : List Deferred} (hd : ds = [markD d]) (h : LeavesInM (RF none) dn P fn tm R ds .returning w') : LeavesInM (RF none) dn P fn tm R' ds .returning w' := by
  subst hd
  obtain ⟨h1, h2⟩ := h
  refine ⟨h1, ?_⟩
  rcases h2 with ⟨r, w2, t1, t2, t3⟩ | ⟨_, fv, cap, f, args, t1, _⟩
  · obtain ⟨v, v1, v2⟩ := t3
    exact .inl ⟨r, w2, t1, t2, v, v1, hR _ _ v2⟩
  · cases t1
theorem enc_raw {B : Nat} {w0 : World} {E : Env} {h0 : Heap} {w : World} {vs : Array Value} {s : List UInt8} {r : Rt} (hl : s.length ≤ 100000000) (hrel : Rel B w0 E h0 w) (hsz : vs.size = 1) (hrd : ∀ (i : Nat) (u : Value) (x : AV), vs[i]? = some u → [AV.list 1 (ofBytes s) r][i]? = some x → Rd E u x) :
    Fires Tryd.prog 11 vs w fun v w' => ∃ E' g t n, Rel B w0 E' g w' ∧ g[t]? = some (.tok 1 n 5) ∧ Rd E' v (.list 1 (ofBytes (encP s)) (.tok t)) := by
  refine fires_marks f8_is (by decide) f8_body ?_
  have hat0 : AtD Tryd.prog B w0 16 [] E { tmps := vs ++ Array.replicate (Tryd.f11.ntmps - vs.size) undef, defers := [] } w (fun i => [AV.list 1 (ofBytes s) .no].getD i .junk) h0 := by
    refine ⟨⟨hrel.gl, fun t => start_sr (args := [AV.list 1 (ofBytes s) .no]) hsz (fun i u x hu hx => ?_) _ t⟩, by simp [show Tryd.f11.ntmps = 16 from rfl]; omega, rfl, hrel⟩
    match i, hx with
    | 0, hx =>
      injection hx with hx
      subst hx
      exact rd_no (hrd 0 u _ hu rfl)
    | i + 1, hx => cases hx
  generalize hσ0 : (fun i => [AV.list 1 (ofBytes s) .no].getD i .junk) = σ0 at hat0
  have s00 : σ0 0 = .list 1 (ofBytes s) .no := by rw [← hσ0]; rfl
  refine wpIn_seq ?_
  refine wpIn_mono (m_sim (ro := none) (dn := 0) pen0 (Q := fun ex σ' h' => ex = .normal ∧ h' = h0 ∧ σ' 0 = .list 1 (ofBytes s) .no) (by rw [een0]; simp [s00]) hat0) ?_
  rintro e a1 w1 ⟨ex, σ1, h1, E1, rfl, ⟨rfl, rfl, s10⟩, hat1, k1, gr1⟩
  refine wpIn_seq ?_
  refine wpIn_mono (m_sim (ro := none) (dn := 0) pen1 (Q := fun ex σ' h' => ex = .normal ∧ h' = h1 ++ [.cells [.list 1 [] .full]] ∧ σ' 0 = .list 1 (ofBytes s) .no ∧ σ' 3 = .ptr h1.length 0) (by rw [een1]; simp [s10]) hat1) ?_
  rintro e a2 w2 ⟨ex, σ2, h2, E2, rfl, ⟨rfl, rfl, s20, s23⟩, hat2, k2, gr2⟩
  refine wpIn_seq ?_
  refine wpIn_seq ?_
  refine wpIn_mono (m_sim (ro := none) (dn := 0) pen2 (Q := fun ex σ' h' => ex = .normal ∧ h' = h1 ++ [.cells [.list 1 [] .full], .cells [.list 1 (ofBytes s) .no]] ∧ σ' 3 = .ptr h1.length 0 ∧ σ' 6 = .fn 21 [.ptr (h1.length + 1) 0]) (by rw [een2]; simp [s20, s23, lines_ok nox0 (.list 1 (ofBytes s) .no) rfl]) hat2) ?_
  rintro e a3 w3 ⟨ex, σ3, h3, E3, rfl, ⟨rfl, rfl, s33, s36⟩, hat3, k3, gr3⟩
  refine wpIn_block ?_
  obtain ⟨H, hH⟩ : ∃ H, H = h1 ++ [AE.cells [.list 1 [] .full], .cells [.list 1 (ofBytes s) .no]] := ⟨_, rfl⟩
  rw [← hH] at hat3
  have hHl : H.length = h1.length + 2 := by rw [hH]; simp
  have hHo : H[h1.length]? = some (.cells [.list 1 [] .full]) := by rw [hH]; simp [List.getElem?_append]
  have hHb : H[h1.length + 1]? = some (.cells [.list 1 (ofBytes s) .no]) := by rw [hH]; simp [List.getElem?_append]
  have hHt : H.take h1.length = h1 := by rw [hH]; simp
  refine range_sim (b := h1.length + 1) (s := s) (r := .no) (gx := .t 6) hat3 rfl s36 (by simp) hHb (by omega) (by decide) (by decide) pen3 pen4 (EncI h1) (fun _ _ _ => False) ?_ (fun _ _ _ _ h _ => h) ?_ ?_ ?_ ?_
  · rw [hHl]
    exact fun pre g1 g2 hi hw => encI_same hi hw
  · intro o o'
    refine ⟨⟨.full, ?_, Ow.full⟩, ?_, by simp [hHl]⟩
    · rw [get_left hHo]; rfl
    · rw [take_app (by omega), hHt]
  · intro pre x post h' rec hx hi hl' hD hL
    rw [hHl] at hl' hD hL ⊢
    obtain ⟨⟨rr, ho, ow⟩, ht, hl4⟩ := hi
    rw [een3]
    have hroom := encL_room hx
    have ho' : (h'.set (h1.length + 2 + 1) (busy rec))[h1.length]? = some (.cells [.list 1 (ofBytes (encL pre)) rr]) := by rw [get_set_ne (by omega)]; exact ho
    have ow' : Ow (h1.length + 4) (h'.set (h1.length + 2 + 1) (busy rec)) 1 5 rr (encL pre).length := ow.set (by rw [hL]; simp)
    have w3 : Wp M0 qen3 (fun e σ' h'' => e = .normal ∧ h'' = h' ∧ σ' 3 = .ptr h1.length 0 ∧ σ' 4 = .str x.1) (upd (upd σ3 7 (.str x.1)) 8 (.bool x.2)) h' := by simp [upd, s33]
    refine w3.mono ?_
    rintro e σ4 g ⟨rfl, rfl, e3, e4⟩
    refine ⟨rfl, rfl, ?_⟩
    rw [een4]
    refine (enc_body e3 e4 ho' ow' (by simp; omega) (by omega) (by omega)).mono ?_
    rintro ex σ5 g2 ⟨rfl, hlg, ⟨rr', hb2, ow2⟩, hk2⟩
    have hlg' : g.length ≤ g2.length := by simpa using hlg
    refine ⟨?_, ?_, ?_, ?_⟩
    · rw [hk2 _ (by omega) (by omega)]
      exact get_set_eq (lt_of_get hL)
    · rw [hk2 _ (by omega) (by omega)]
      exact get_set_ne (by omega)
    · rw [hk2 _ (by omega) (by omega)]
      exact get_set_ne (by omega)
    · show _ ∧ EncI h1 (pre ++ [x]) g2
      refine ⟨rfl, ⟨rr', by rw [encL_add]; exact hb2, by rw [encL_add]; exact ow2⟩, take_get (by omega) fun k hk => ?_, by omega⟩
      rw [hk2 _ (by omega) (by omega), get_set_ne (by omega)]
      exact get_of_take (by rw [ht]; simp) hk
  · rintro E4 a4 w4 h4 hat4 k4 hρ hD hl4 ⟨⟨rr, ho, ow⟩, ht, hl5⟩
    rw [hHl] at hρ hD
    have hroom := encL_len s.length s
    obtain ⟨r5, g5, p1, p2, p3⟩ := app_own (n0 := h1.length + 4) (key := h4.length) (sz := 1) (bytes := 1) (e := 5) (h := h4 ++ [AE.dead]) (s' := 1) (xs := ofBytes (encL (linesP s))) (r := rr) (x := .str [46, 13, 10]) (ys := ofBytes [46, 13, 10]) rfl (.inl rfl) (by simpa using ow.app _) hl5 (by simp) (by simp [linesP]; omega) (by simp [linesP]; omega)
    have ho5 : ∀ l, (h4 ++ l)[h1.length]? = some (.cells [.list 1 (ofBytes (encL (linesP s))) rr]) := fun l => get_left ho l
    refine wpIn_mono (m_sim (ro := none) (dn := 0) pen5 (Q := fun ex σ' h' => ex = .ret ∧ h' = g5 ∧ σ' 2 = .list 1 (ofBytes (encP s)) r5) (by rw [een5]; simp [s33, ho5, p1, encP]) hat4) ?_
    rintro e a5 w5 ⟨ex, σ5, h5, E5, rfl, ⟨rfl, rfl, s52⟩, hat5, k5, gr5⟩
    have hi5 : h5[h1.length + 2]? = some (.opq (.deferred (some []))) := p3.keep (by simpa using ow.app _) (get_left hD _) (by simp) (by have := lt_of_get hD; omega)
    have hρ5 : E5.ρ (h1.length + 2) = some (w3.heap.size, 0) := by rw [k5.2 _ (lt_of_get hD)]; exact hρ
    obtain rfl : r5 = .tok h4.length := app_tok rfl (by simp [ofBytes]) p1
    have ht5 : ∃ n, h5[h4.length]? = some (.tok 1 n 5) := by
      rcases p2 with p2 | ⟨t, p2, _, p4⟩
      · cases p2
      · injection p2 with p2
        subst p2
        exact ⟨_, p4⟩
    obtain ⟨n5, ht5⟩ := ht5
    refine leaves_mono ?_ hat5.defers (end_raw hat5 hi5 hρ5 f8_res (vs := [.list 1 (ofBytes (encP s)) (.tok h4.length)]) (by simp [resVals, s52]))
    rintro e w6 ⟨v, rfl, hr6, hv6⟩
    exact ⟨v, rfl, E5, _, h4.length, n5, hr6, by rw [get_set_ne (by have := lt_of_get hD; omega)]; exact ht5, hv6⟩
  · exact fun _ _ _ _ _ _ _ _ _ _ h => h.elim
theorem enc_row {h0 : Heap} {s : List UInt8} {r : Rt} (hl : s.length ≤ 100000000) : Am.Good Tryd.prog 11 [.list 1 (ofBytes s) r] h0 (.gl 1 h0.length (encP s).length) (h0 ++ [.grow 1 (ofBytes (encP s))]) := by
  refine ⟨by simp, fun k hk => get_left hk _, fun B w0 E w vs hrel hsz hrd => ?_⟩
  have := enc_raw (r := .no) hl (fresh_rel hrel) hsz fun i u x hu hx => by
    match i, hx with
    | 0, hx =>
      injection hx with hx
      subst hx
      exact list_fresh (hrd 0 u _ hu rfl)
    | i + 1, hx => cases hx
  refine fires_mono this ?_
  rintro v w' ⟨E5, g5, t, n, hr5, ht, hv⟩
  exact row_of_tok hrel hr5 hv ht
end Go.Proofs.YtbhdfmkcoolghaaDoor
