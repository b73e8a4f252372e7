/-
  frankinglow.Grown: some kids.
-/
import Derived.Test.YtmmapbhhkmchcaaDoorG1
set_option linter.unusedVariables false
set_option linter.unusedSimpArgs false
namespace Go.Proofs.YtmmapbhhkmchcaaDoor
open Go Go.Am

/-- What grows of numbers from a place on. -/
def GR (U : List Nat) (deep a : Nat) (t : Tr) (a' : Nat) : Prop := fitsP (7 - deep) t = true ∧ t.wt ≤ 60 * (a' - a) + 30 ∧ a ≤ a' ∧ a' ≤ U.length
def TreeC (U : List Nat) (rt : Rt) (nm : List (List UInt8)) (rn : Rt) (r deep : Nat) : Prop := ∀ (a : Nat) (h : Heap), a ≤ U.length → h[r]? = some (stG U rt nm rn a) → (∀ t, rt = .tok t → t < h.length) → (∀ t, rn = .tok t → t < h.length) →
  ∃ t a', M.call 15 [.ptr r 0, .int .i64 (deep : Nat)] h = some (t.enc, h.set r (stG U rt nm rn a')) ∧ GR U deep a t a'
section
variable {U : List Nat} {rt : Rt} {nm : List (List UInt8)} {rn : Rt} {r : Nat} (hU : U.length ≤ 1000000) (hj : ∀ j ∈ U, j ≤ 65535)
def kc7 (kind : UInt8) (ks : List Tr) (rk : Rt) : List AV := [.int .u8 kind.toNat, .str [], .int .u8 0, .int .u8 0, .int .i64 0, .int .i64 0, .list 7 (ks.map Tr.enc) rk]
def InvGs (U : List Nat) (rt : Rt) (nm : List (List UInt8)) (rn : Rt) (r deep a1 : Nat) (kind : UInt8) (n : Nat) (g : Heap) (k : Nat) (σ : Slots) (h : Heap) : Prop := ∃ (i a' : Nat) (ks : List Tr) (rk : Rt), i ≤ n ∧ k = n - i ∧ ks.length = i ∧ a1 ≤ a' ∧ a' ≤ U.length ∧ (∀ x ∈ ks, fitsP (6 - deep) x = true) ∧ wts ks ≤ 60 * (a' - a1) + 30 * i ∧
  σ 0 = .ptr r 0 ∧ σ 2 = .int .i64 (deep : Nat) ∧ σ 6 = .ptr g.length 0 ∧ σ 7 = .ptr (g.length + 1) 0 ∧ σ 12 = .int .i64 (n : Nat) ∧ σ 13 = .int .i64 (i : Nat) ∧ (1 ≤ i → ∃ t, rk = .tok t ∧ g.length + 2 ≤ t) ∧ (i = 0 → rk = .full) ∧
  Ow (g.length + 2) h 7 24 rk ks.length ∧ h.take (g.length + 2) = HH g r (stG U rt nm rn a') ++ [.cells z7, .cells (kc7 kind ks rk)]
theorem some_wt {a a1 a' v w : Nat} (h1 : a1 ≤ a') (h2 : a ≤ a1) (h3 : w ≤ 60 * (a' - a1) + 30 * (2 + v)) (h4 : v < 2) (h5 : v = 1 → a1 = a + 1) : 16 + w ≤ 60 * (a' - a) + 90 := by
  rcases Nat.lt_or_ge v 1 with hv1 | hv1
  · omega
  · have := h5 (by omega)
    omega
theorem grow_wt {a1 a' a2 w x i : Nat} (h1 : w ≤ 60 * (a' - a1) + 30 * i) (h2 : x ≤ 60 * (a2 - a') + 30) (h3 : a' ≤ a2) (h4 : a1 ≤ a') : w + x ≤ 60 * (a2 - a1) + 30 * (i + 1) := by omega
theorem wts_app : ∀ (l : List Tr) (t : Tr), wts (l ++ [t]) = wts l + t.wt
  | [], t => by simp [wts]
  | x :: l, t => by simp only [List.cons_append, wts, wts_app l t]; omega
include hU hj in
theorem gsome_ok (deep : Nat) (hd : deep ≤ 5) (ih : TreeC U rt nm rn r (deep + 1)) (kind : UInt8) (hk : kind = 5 ∨ kind = 6) (a : Nat) (ha : a ≤ U.length) (h : Heap) (hr : h[r]? = some (stG U rt nm rn a)) (h1 : ∀ t, rt = .tok t → t < h.length) (h2 : ∀ t, rn = .tok t → t < h.length) :
    ∃ t a', M.call 23 [.ptr r 0, .int .u8 kind.toNat, .int .i64 (deep : Nat)] h = some (t.enc, h.set r (stG U rt nm rn a')) ∧ fitsP (7 - deep) t = true ∧ t.wt ≤ 60 * (a' - a) + 90 ∧ a ≤ a' ∧ a' ≤ U.length := by
  obtain ⟨g, rfl, hlt⟩ := HH_of hr
  rw [HH_len] at h1 h2
  have key : ∃ x, M.call 23 [.ptr r 0, .int .u8 kind.toNat, .int .i64 (deep : Nat)] (HH g r (stG U rt nm rn a)) = some x ∧ ∃ t a', x = (t.enc, HH g r (stG U rt nm rn a')) ∧ fitsP (7 - deep) t = true ∧ t.wt ≤ 60 * (a' - a) + 90 ∧ a ≤ a' ∧ a' ≤ U.length := by
    refine call_post tab23 rfl ?_
    generalize hQ : (fun e σ h => isEnd e ∧ ∃ vs, resVals σ h [ARes.cell 6 (some 7)] = some vs ∧ ∃ x, finish (HH g r (stG U rt nm rn a)) h (oneOf vs) = some x ∧ ∃ t a', x = (t.enc, HH g r (stG U rt nm rn a')) ∧ fitsP (7 - deep) t = true ∧ t.wt ≤ 60 * (a' - a) + 90 ∧ a ≤ a' ∧ a' ≤ U.length) = Q
    have fin : ∀ (σ : Slots) (h : Heap) (a' : Nat) (cs : List AV) (t : Tr), σ 6 = .ptr g.length 0 → h[g.length]? = some (.cells cs) → cs.length = 7 → h.take g.length = HH g r (stG U rt nm rn a') → cleans h g.length cs = some t.encL → fitsP (7 - deep) t = true → t.wt ≤ 60 * (a' - a) + 90 → a ≤ a' → a' ≤ U.length → Q .ret σ h := by
      intro σ h a' cs t s6 hc hlen ht hcl q1 q2 q3 q4
      subst hQ
      have e7 : cs.take 7 = cs := List.take_of_length_le (by omega)
      simp [s6, hc, hlen, e7]
      rw [finish_HH ht hlt (stG_low h1 h2)]
      simp [hcl]
      exact ⟨_, _, ⟨rfl, rfl⟩, t, a', ⟨rfl, rfl⟩, q1, q2, q3, q4⟩
    have e1 := fun (e : AE) q => HH_get (g := g) (r := r) (e := e) hlt q
    have nx := fun q => at_HH (r := r) (g := g) hlt (fun h hg hr => gnext_ok (rt := rt) (nm := nm) (rn := rn) hU hj a 2 ha (by omega) (by omega) h hr (fun t ht => by have := h1 t ht; omega) (fun t ht => by have := h2 t ht; omega)) q
    have hv := nxV_lt U a (b := 2) (by omega)
    have hA : a ≤ nxA U a ∧ nxA U a ≤ U.length := by unfold nxA; split <;> omega
    have hv0 : nxV U a 2 = 1 → nxA U a = a + 1 := fun e => by
      unfold nxV at e
      unfold nxA
      cases ej : U[a]? with
      | none => rw [ej] at e; simp at e
      | some j => rw [if_pos (List.getElem?_eq_some_iff.1 ej).1]
    generalize nxV U a 2 = v at *
    generalize nxA U a = a1 at *
    have w2 : IntKind.wrap .i64 (2 + (v : Int)) = ((2 + v : Nat) : Int) := by rw [wrap64 (by omega) (by omega)]; omega
    have nx : ∀ q, M.call 22 [.ptr r 0, .int .i64 2] (HH g r (stG U rt nm rn a) ++ q) = some (.int .i64 (v : Nat), HH g r (stG U rt nm rn a1) ++ q) := nx
    simp [-Int.natCast_add, wB23, nx, w2, Nat.add_assoc]
    refine Wp.loop (InvGs U rt nm rn r deep a1 kind (2 + v) g) ?_ (n := 2 + v) ⟨0, a1, [], .full, by omega, by omega, rfl, by omega, hA.2, by simp, by simp [wts], by simp, by simp, by simp, by simp, by simp, by simp, by omega, fun _ => rfl, .full, by rw [List.take_of_length_le (by simp)]; rfl⟩
    rintro k σ h ⟨i, a', ks, rk, hi, rfl, hlen, p1, p2, p3, p4, s0, s2, s6, s7, s12, s13, p5, p5', ow, hh⟩
    have hle : g.length + 2 ≤ h.length := by
      have := congrArg List.length hh
      simp at this
      omega
    have hget : ∀ k e, (HH g r (stG U rt nm rn a') ++ [.cells z7, .cells (kc7 kind ks rk)])[k]? = some e → h[k]? = some e := fun k e he => by
      have hkl := (List.getElem?_eq_some_iff.1 he).1
      have := congrArg (fun q : Heap => q[k]?) hh
      simp only [List.getElem?_take] at this
      rw [if_pos (by simp at hkl; omega), he] at this
      exact this
    have hat0 : h[g.length]? = some (.cells z7) := hget _ _ (by simp)
    have hat1 : h[g.length + 1]? = some (.cells (kc7 kind ks rk)) := hget _ _ (by simp)
    have hst : h[r]? = some (stG U rt nm rn a') := hget _ _ (e1 _ _)
    have hh0 : h.take g.length = HH g r (stG U rt nm rn a') := by
      have := congrArg (List.take g.length) hh
      rwa [List.take_take, Nat.min_eq_left (by omega), List.take_left' (by simp)] at this
    by_cases hlt2 : i < 2 + v
    · have hlt3 : (i : Int) < ((2 + v : Nat) : Int) := by omega
      have e64 : IntKind.wrap .i64 ((i : Int) + 1) = ((i + 1 : Nat) : Int) := by rw [wrap64 (by omega) (by omega)]; rfl
      have ed : IntKind.wrap .i64 ((deep : Int) + 1) = ((deep + 1 : Nat) : Int) := by rw [wrap64 (by omega) (by omega)]; rfl
      obtain ⟨t, a2, tr, q1, q2, q3, q4⟩ := ih a' (h ++ [AE.dead]) p2 (by rw [List.getElem?_append_left (by omega)]; exact hst) (fun t ht => by have := h1 t ht; simp; omega) (fun t ht => by have := h2 t ht; simp; omega)
      have hatq : ∀ q : Heap, (h ++ q)[g.length + 1]? = some (.cells (kc7 kind ks rk)) := fun q => by rw [List.getElem?_append_left (by omega)]; exact hat1
      have hsetq : ∀ (q : Heap) (e : AE), (h ++ q).set r e = h.set r e ++ q := fun q e => List.set_append_left _ _ (by omega)
      have hatr : ∀ (q : Heap) (e : AE), (h.set r e ++ q)[g.length + 1]? = some (.cells (kc7 kind ks rk)) := fun q e => by
        rw [List.getElem?_append_left (by simp; omega), List.getElem?_set_ne (by omega)]
        exact hat1
      rw [hsetq] at tr
      unfold kc7 at hatq hatr
      simp [-getElem?_pos, -Int.natCast_add, wL23_0, s0, s2, s6, s7, s12, s13, hlt2, hlt3, hatq, hatr, ed, tr, Nat.add_assoc]
      obtain ⟨r2, g2, q5, q6, q7⟩ := app_list (n0 := g.length + 2) (key := h.length) (sz := 7) (bytes := 72) (e := 24) (h := h.set r (stG U rt nm rn a2) ++ [AE.dead]) (xs := ks.map Tr.enc) (ys := [t.enc]) (r := rk) (r2 := .full)
        (by simpa using (ow.set (i := r) (x := stG U rt nm rn a2) (fun s m f => by rw [hst]; simp [stG])).app _) (by omega) (by simp) (by simp; omega) (by simp; omega)
      obtain ⟨zs, hz⟩ := appA_tok (by simp) q5
      obtain rfl : r2 = .tok h.length := by injection hz
      have hlen2 : g2.length = h.length + 1 := by rw [q7.len]; simp
      have hg2 : g2[g.length + 1]? = some (.cells (kc7 kind ks rk)) := by
        rw [q7.get _ (by omega) (fun t ht => by
          rcases Nat.eq_zero_or_pos i with h0 | h0
          · rw [p5' h0] at ht; cases ht
          · obtain ⟨t', e, ht'⟩ := p5 h0
            rw [e] at ht
            injection ht with ht
            omega)]
        unfold kc7
        exact hatr _ _
      have htk : g2.take (g.length + 2) = HH g r (stG U rt nm rn a2) ++ [.cells z7, .cells (kc7 kind ks rk)] := by
        rw [q7.take, List.take_append_of_le_length (by simp; omega), List.take_set, hh, HH_set hlt]
      have goOn : ∀ σ' : Slots, σ' 0 = σ 0 → σ' 2 = σ 2 → σ' 6 = σ 6 → σ' 7 = σ 7 → σ' 12 = σ 12 → σ' 13 = .int .i64 ((i + 1 : Nat) : Int) → ∃ m, m < 2 + v - i ∧ InvGs U rt nm rn r deep a1 kind (2 + v) g m σ' (g2.set (g.length + 1) (.cells (kc7 kind (ks ++ [t]) (.tok h.length)))) := by
        intro σ' b0 b2 b6 b7 b12 b13
        refine ⟨2 + v - (i + 1), by omega, i + 1, a2, ks ++ [t], .tok h.length, by omega, rfl, by simp [hlen], by omega, q4, ?_, ?_, by rw [b0, s0], by rw [b2, s2], by rw [b6, s6], by rw [b7, s7], by rw [b12, s12], b13, fun _ => ⟨_, rfl, hle⟩, fun h => absurd h (Nat.succ_ne_zero i), ?_, ?_⟩
        · intro x hx
          rcases List.mem_append.1 hx with hx | hx
          · exact p3 x hx
          · simp only [List.mem_singleton] at hx
            subst hx
            have : 7 - (deep + 1) = 6 - deep := by omega
            rw [← this]
            exact q1
        · rw [wts_app]
          exact grow_wt p4 q2 q3 p1
        · have := (by simpa using q6 : Ow (g.length + 2) g2 7 24 (.tok h.length) (ks.length + 1))
          simpa using this.set (i := g.length + 1) (x := .cells (kc7 kind (ks ++ [t]) (.tok h.length))) (fun s m f => by rw [hg2]; simp)
        · rw [List.take_set, htk, List.set_append_right _ _ (by simp)]
          simp
      unfold kc7 at hg2
      rw [q5]
      simp [-Int.natCast_add, s7, s13, hg2, e64]
      refine ⟨by first | exact (hatr _ _).trans (hatq _).symm | exact .inr ((hatr _ _).trans (hatq _).symm), ?_⟩
      have he : kc7 kind (ks ++ [t]) (.tok h.length) = [.int .u8 kind.toNat, .str [], .int .u8 0, .int .u8 0, .int .i64 0, .int .i64 0, .list 7 (ks.map Tr.enc ++ [t.enc]) (.tok h.length)] := by simp [kc7]
      rw [he] at goOn
      refine goOn _ ?_ ?_ ?_ ?_ ?_ ?_ <;> simp
    · have : i = 2 + v := by omega
      subst this
      obtain ⟨t, rfl, ht⟩ := p5 (by omega)
      simp [-getElem?_pos, wL23_0, wK23_0, s0, s2, s6, s7, s12, s13, hat0, hat1, kc7, z7]
      refine fin _ _ a' _ (rowT kind ks) (by simp [s6]) (by rw [List.getElem?_set_self (by omega)]) (by simp) (by rw [List.take_set, hh0, List.set_eq_of_length_le (by simp)]) ?_ ?_ ?_ (by omega) p2
      · rw [row_enc]
        have := trs_low g.length ks
        have h3 : ¬ t < g.length := by omega
        simp only [cleans_cons, clean1_tok, if_pos this, if_neg h3]
        simp [cleans, cleans_cons]
      · have h7 : 7 - deep = (6 - deep) + 1 := by omega
        rw [h7]
        unfold fitsP
        have hal : aloneP (rowT kind ks) = true := by
          have h2 : 2 ≤ ks.length := by omega
          rcases hk with rfl | rfl
          · simp [rowT, aloneP, Tr.k, Tr.s, Tr.lo, Tr.hi, Tr.mn, Tr.mx, Tr.kids]; exact decide_eq_true h2
          · simp [rowT, aloneP, Tr.k, Tr.s, Tr.lo, Tr.hi, Tr.mn, Tr.mx, Tr.kids]; exact decide_eq_true h2
        rw [hal]
        simp only [Bool.true_and, rowT, Tr.kids]
        exact List.all_eq_true.2 p3
      · have hw : (rowT kind ks).wt = 16 + wts ks := by rw [wt_eq]; simp [rowT, Tr.s, Tr.kids]
        rw [hw]
        exact some_wt p1 hA.1 p4 hv hv0
  obtain ⟨x, hx, t, a', rfl, q⟩ := key
  exact ⟨t, a', by rw [hx, HH_set0], q⟩
end
end Go.Proofs.YtmmapbhhkmchcaaDoor
