/-
  frankinglow.Grown: a tree.
-/
import Derived.Test.YtmmapbhhkmchcaaDoorG2
set_option linter.unusedVariables false
set_option linter.unusedSimpArgs false
namespace Go.Proofs.YtmmapbhhkmchcaaDoor
open Go Go.Am

theorem mk_encL (k : UInt8) (s : List UInt8) (lo hi : UInt8) (mn mx : Int) : (Tr.mk k s lo hi mn mx true []).encL = [.int .u8 k.toNat, .str s, .int .u8 lo.toNat, .int .u8 hi.toNat, .int .i64 mn, .int .i64 mx, .list 7 [] .full] := by rw [Tr.encL_eq]; rfl
theorem leaf_GR {U : List Nat} {deep a a' : Nat} {t : Tr} (hd : deep ≤ 6) (ha : aloneP t = true) (hk : t.kids = []) (hs : t.s.length ≤ 3) (h1 : a ≤ a') (h2 : a' ≤ U.length) : GR U deep a t a' := by
  refine ⟨?_, ?_, h1, h2⟩
  · have : 7 - deep = (6 - deep) + 1 := by omega
    rw [this]
    unfold fitsP
    rw [ha, hk]
    rfl
  · rw [wt_eq, hk]
    simp only [wts]
    omega
theorem nxA_le (U : List Nat) (a : Nat) (h : a ≤ U.length) : a ≤ nxA U a ∧ nxA U a ≤ U.length := by unfold nxA; split <;> omega
def wordsC : List (List UInt8) := [[97], [97, 98], [], [98, 32, 99], [65, 45, 98], [43]]
def wordsB : List (List UInt8) := [[97], [13, 10], [65], [0, 255], [128]]
section
variable {U : List Nat} {rt : Rt} {nm : List (List UInt8)} {rn : Rt} {r : Nat} (hU : U.length ≤ 1000000) (hj : ∀ j ∈ U, j ≤ 65535) (hN : nm.length ≤ 1000) (hM : ∀ s ∈ nm, namedP s = true ∧ s.length ≤ 3)
include hU hj hN hM in
theorem gtree_step (deep : Nat) (hd : deep ≤ 6) (ih : deep ≤ 5 → TreeC U rt nm rn r (deep + 1)) : TreeC U rt nm rn r deep := by
  intro a h ha hr h1 h2
  obtain ⟨g, rfl, hlt⟩ := HH_of hr
  rw [HH_len] at h1 h2
  have key : ∃ x, M.call 15 [.ptr r 0, .int .i64 (deep : Nat)] (HH g r (stG U rt nm rn a)) = some x ∧ ∃ t a', x = (t.enc, HH g r (stG U rt nm rn a')) ∧ GR U deep a t a' := by
    refine call_post tab15 rfl ?_
    generalize hQ : (fun e σ h => isEnd e ∧ ∃ vs, resVals σ h [ARes.cell 4 (some 7)] = some vs ∧ ∃ x, finish (HH g r (stG U rt nm rn a)) h (oneOf vs) = some x ∧ ∃ t a', x = (t.enc, HH g r (stG U rt nm rn a')) ∧ GR U deep a t a') = Q
    have fin : ∀ (σ : Slots) (q : Heap) (a' : Nat) (cs : List AV) (t : Tr), cs = t.encL → σ 4 = .ptr g.length 0 → GR U deep a t a' → Q .ret σ (HH g r (stG U rt nm rn a') ++ .cells cs :: q) := by
      intro σ q a' cs t hcs s4 hG
      subst hQ
      subst hcs
      simp [s4]
      rw [finish_HH (by rw [List.take_left' (by simp)]) hlt (stG_low h1 h2)]
      simp
      exact ⟨_, _, ⟨rfl, rfl⟩, t, a', ⟨rfl, rfl⟩, hG⟩
    have e1 := fun (e : AE) q => HH_get (g := g) (r := r) (e := e) hlt q
    have nx := fun (a b : Nat) (ha : a ≤ U.length) (hb : 1 ≤ b) (hb2 : b ≤ 1000) q => at_HH (r := r) (g := g) hlt (fun h hg hr => gnext_ok (rt := rt) (nm := nm) (rn := rn) hU hj a b ha hb hb2 h hr (fun t ht => by have := h1 t ht; omega) (fun t ht => by have := h2 t ht; omega)) q
    -- the last part: a tree so many times
    have J2 : ∀ (a2 : Nat) (mn mx : Int) (σ : Slots), deep ≤ 5 → a ≤ a2 → a + 1 ≤ a2 → a2 ≤ U.length → times7 mn mx = true → σ 0 = .ptr r 0 → σ 1 = .int .i64 (deep : Nat) → σ 4 = .ptr g.length 0 → σ 9 = .ptr (g.length + 1) 0 →
        ∀ Q' : Ex → Slots → Heap → Prop, Q' .ret = Q .ret → Wp M J15_2 Q' σ (HH g r (stG U rt nm rn a2) ++ [.cells z7, .cells [.int .u8 7, .str [], .int .u8 0, .int .u8 0, .int .i64 mn, .int .i64 mx, .list 7 [] .full]]) := by
      intro a2 mn mx σ hd5 q0 q0' q1 q2 s0 s1 s4 s9 Q' hQ'
      have ed : IntKind.wrap .i64 ((deep : Int) + 1) = ((deep + 1 : Nat) : Int) := by rw [wrap64 (by omega) (by omega)]; rfl
      obtain ⟨t, a3, tr, k1, k2, k3, k4⟩ := ih hd5 a2 (HH g r (stG U rt nm rn a2) ++ [.cells z7, .cells [.int .u8 7, .str [], .int .u8 0, .int .u8 0, .int .i64 mn, .int .i64 mx, .list 7 [] .full]]) q1 (HH_get hlt _) (fun t ht => by have := h1 t ht; simp; omega) (fun t ht => by have := h2 t ht; simp; omega)
      rw [HH_set hlt] at tr
      unfold z7 at tr ⊢
      simp [-Int.natCast_add, wJ15_2, s0, s1, s4, s9, ed, tr]
      rw [hQ']
      refine fin _ _ a3 _ (.mk 7 [] 0 0 mn mx true [t]) ?_ (by simp [s4]) ?_
      · rw [Tr.encL_eq]; rfl
      · have h7 : 7 - deep = (6 - deep) + 1 := by omega
        refine ⟨?_, ?_, by omega, k4⟩
        · rw [h7]
          unfold fitsP
          have : aloneP (.mk 7 [] 0 0 mn mx true [t]) = true := by
            simp only [times7, decide_eq_true_eq] at q2
            simp [aloneP, Tr.k, Tr.s, Tr.lo, Tr.hi, Tr.mn, Tr.mx, Tr.kids]
            exact q2
          rw [this]
          have : 7 - (deep + 1) = 6 - deep := by omega
          rw [this] at k1
          simp [Tr.kids, k1]
        · rw [wt_eq]
          simp only [Tr.s, Tr.kids, wts, List.length_nil]
          omega
    have J3 : ∀ (a1 : Nat) (σ : Slots), deep ≤ 5 → a + 1 ≤ a1 → a1 ≤ U.length → σ 0 = .ptr r 0 → σ 1 = .int .i64 (deep : Nat) → σ 4 = .ptr g.length 0 →
        ∀ Q' : Ex → Slots → Heap → Prop, Q' .ret = Q .ret → Wp M J15_3 Q' σ (HH g r (stG U rt nm rn a1) ++ [.cells z7]) := by
      intro a1 σ hd5 q0 q1 s0 s1 s4 Q' hQ'
      have n5 := nx a1 5 q1 (by omega) (by omega)
      have hv := nxV_lt U a1 (b := 5) (by omega)
      have hA := nxA_le U a1 q1
      generalize nxV U a1 5 = v at *
      generalize nxA U a1 = a2 at *
      have n5 : ∀ q, M.call 22 [.ptr r 0, .int .i64 5] (HH g r (stG U rt nm rn a1) ++ q) = some (.int .i64 (v : Nat), HH g r (stG U rt nm rn a2) ++ q) := n5
      unfold z7
      match v, hv with
      | 0, _ =>
        simp [wJ15_3, s0, s1, s4, n5]
        refine J2 a2 0 (-1) _ hd5 (by omega) (by omega) hA.2 (by decide) ?_ ?_ ?_ ?_ _ ?_ <;> simp [s0, s1, s4, hQ']
      | 1, _ =>
        simp [wJ15_3, s0, s1, s4, n5]
        refine J2 a2 0 1 _ hd5 (by omega) (by omega) hA.2 (by decide) ?_ ?_ ?_ ?_ _ ?_ <;> simp [s0, s1, s4, hQ']
      | 2, _ =>
        simp [wJ15_3, s0, s1, s4, n5]
        refine J2 a2 1 (-1) _ hd5 (by omega) (by omega) hA.2 (by decide) ?_ ?_ ?_ ?_ _ ?_ <;> simp [s0, s1, s4, hQ']
      | 3, _ =>
        simp [wJ15_3, s0, s1, s4, n5]
        refine J2 a2 2 2 _ hd5 (by omega) (by omega) hA.2 (by decide) ?_ ?_ ?_ ?_ _ ?_ <;> simp [s0, s1, s4, hQ']
      | 4, _ =>
        have n3 := nx a2 3 hA.2 (by omega) (by omega)
        have hv3 := nxV_lt U a2 (b := 3) (by omega)
        have hA3 := nxA_le U a2 hA.2
        generalize nxV U a2 3 = m at *
        generalize nxA U a2 = a3 at *
        have n3 : ∀ q, M.call 22 [.ptr r 0, .int .i64 3] (HH g r (stG U rt nm rn a2) ++ q) = some (.int .i64 (m : Nat), HH g r (stG U rt nm rn a3) ++ q) := n3
        have n3b := nx a3 3 hA3.2 (by omega) (by omega)
        have hv3b := nxV_lt U a3 (b := 3) (by omega)
        have hA3b := nxA_le U a3 hA3.2
        generalize nxV U a3 3 = m2 at *
        generalize nxA U a3 = a4 at *
        have n3b : ∀ q, M.call 22 [.ptr r 0, .int .i64 3] (HH g r (stG U rt nm rn a3) ++ q) = some (.int .i64 (m2 : Nat), HH g r (stG U rt nm rn a4) ++ q) := n3b
        have w1 : IntKind.wrap .i64 ((m : Int) + (m2 : Int)) = (m : Int) + (m2 : Int) := wrap64 (by omega) (by omega)
        have hnm2 : ∀ e e' : AE, (HH g r e)[g.length + 1]? = (HH g r e')[g.length + 1]? := fun e e' => by
          rw [List.getElem?_eq_none (by simp), List.getElem?_eq_none (by simp)]
        simp [-Int.natCast_add, wJ15_3, s0, s1, s4, n5, n3, n3b, w1]
        have ht7 : times7 (m : Int) ((m : Int) + (m2 : Int)) = true := by
          simp only [times7, decide_eq_true_eq]
          omega
        refine J2 a4 m (m + m2) _ hd5 (by omega) (by omega) hA3b.2 ht7 ?_ ?_ ?_ ?_ _ ?_ <;> simp [s0, s1, s4, hQ']
      | v + 5, hv => omega
    -- behind the first number
    have J4 : ∀ (K : Nat) (σ : Slots), (K = 4 ∨ K = 10 ∧ deep ≤ 5 ∧ a < U.length) → σ 0 = .ptr r 0 → σ 1 = .int .i64 (deep : Nat) → σ 4 = .ptr g.length 0 → σ 5 = .int .i64 (K : Nat) → Wp M J15_4 Q σ (HH g r (stG U rt nm rn a) ++ [.cells z7]) := by
      intro K σ hK s0 s1 s4 s5
      have nk := nx a K ha (by omega) (by omega)
      have hv := nxV_lt U a (b := K) (by omega)
      have hA := nxA_le U a ha
      have hA10 : K = 10 → nxA U a = a + 1 := fun e => by unfold nxA; rw [if_pos (by omega)]
      generalize nxV U a K = v at *
      generalize nxA U a = a1 at *
      have nk : ∀ q, M.call 22 [.ptr r 0, .int .i64 (K : Nat)] (HH g r (stG U rt nm rn a) ++ q) = some (.int .i64 (v : Nat), HH g r (stG U rt nm rn a1) ++ q) := nk
      have e1n : ∀ (a : Nat) q, (HH g r (stG U rt nm rn a) ++ q)[r]? = some (.cells [.list 1 (U.map fun j => .int .u16 (j : Nat)) rt, .int .i64 a, .list 1 (nm.map AV.str) rn]) := fun a q => e1 _ q
      have same : ∀ (a a' : Nat) q, sameC (HH g r (stG U rt nm rn a) ++ q) (HH g r (stG U rt nm rn a') ++ q) r 2 = true := fun a a' q => by
        unfold sameC cellOf
        rw [e1n, e1n]
        simp
        omega
      unfold z7
      have hv10 : v < 10 := by omega
      match v, hv10 with
      | 0, _ =>
        by_cases hn0 : nm = []
        · subst hn0
          simp [wJ15_4, s0, s1, s4, s5, nk, e1n]
          exact fin _ _ a1 _ (.mk 2 [98] 0 0 0 0 true []) (by rw [mk_encL]; rfl) (by simp [s4]) (leaf_GR hd (by decide) rfl (by decide) (by omega) hA.2)
        · have hpos : 1 ≤ nm.length := by
            cases nm with
            | nil => exact absurd rfl hn0
            | cons x l => simp
          have n6 := nx a1 nm.length hA.2 hpos hN
          have hv6 := nxV_lt U a1 (b := nm.length) hpos
          have hA6 := nxA_le U a1 hA.2
          generalize nxV U a1 nm.length = w at *
          generalize nxA U a1 = a2 at *
          have n6 : ∀ q, M.call 22 [.ptr r 0, .int .i64 (nm.length : Nat)] (HH g r (stG U rt nm rn a1) ++ q) = some (.int .i64 (w : Nat), HH g r (stG U rt nm rn a2) ++ q) := n6
          obtain ⟨s, es⟩ : ∃ s, nm[w]? = some s := ⟨_, List.getElem?_eq_getElem hv6⟩
          obtain ⟨hs1, hs2⟩ := hM s (List.mem_of_getElem? es)
          have hposI : (0 : Int) < nm.length := by omega
          simp [-getElem?_pos, -Int.natCast_add, wJ15_4, s0, s1, s4, s5, nk, e1n, n6, same, es, hposI, hv6, Nat.add_assoc]
          rw [if_pos (show 0 < nm.length from hpos)]
          exact fin _ _ a2 _ (.mk 1 s 0 0 0 0 true []) (by rw [mk_encL]; rfl) (by simp [s4]) (leaf_GR hd (by simp [aloneP, Tr.k, Tr.s, Tr.lo, Tr.hi, Tr.mn, Tr.mx, Tr.kids, hs1]) rfl hs2 (by omega) hA6.2)
      | 1, _ =>
        have n6 := nx a1 6 hA.2 (by omega) (by omega)
        have hv6 := nxV_lt U a1 (b := 6) (by omega)
        have hA6 := nxA_le U a1 hA.2
        generalize nxV U a1 6 = w at *
        generalize nxA U a1 = a2 at *
        have n6 : ∀ q, M.call 22 [.ptr r 0, .int .i64 6] (HH g r (stG U rt nm rn a1) ++ q) = some (.int .i64 (w : Nat), HH g r (stG U rt nm rn a2) ++ q) := n6
        match w, hv6 with
        | 0, _ =>
          simp [wJ15_4, s0, s1, s4, s5, nk, n6, Nat.add_assoc]
          refine fin _ _ a2 _ (.mk 2 [97] 0 0 0 0 true []) (by rw [mk_encL]; rfl) (by simp [s4]) (leaf_GR hd (by decide) rfl (by decide) (by omega) hA6.2)
        | 1, _ =>
          simp [wJ15_4, s0, s1, s4, s5, nk, n6, Nat.add_assoc]
          refine fin _ _ a2 _ (.mk 2 [97, 98] 0 0 0 0 true []) (by rw [mk_encL]; rfl) (by simp [s4]) (leaf_GR hd (by decide) rfl (by decide) (by omega) hA6.2)
        | 2, _ =>
          simp [wJ15_4, s0, s1, s4, s5, nk, n6, Nat.add_assoc]
          refine fin _ _ a2 _ (.mk 2 [] 0 0 0 0 true []) (by rw [mk_encL]; rfl) (by simp [s4]) (leaf_GR hd (by decide) rfl (by decide) (by omega) hA6.2)
        | 3, _ =>
          simp [wJ15_4, s0, s1, s4, s5, nk, n6, Nat.add_assoc]
          refine fin _ _ a2 _ (.mk 2 [98, 32, 99] 0 0 0 0 true []) (by rw [mk_encL]; rfl) (by simp [s4]) (leaf_GR hd (by decide) rfl (by decide) (by omega) hA6.2)
        | 4, _ =>
          simp [wJ15_4, s0, s1, s4, s5, nk, n6, Nat.add_assoc]
          refine fin _ _ a2 _ (.mk 2 [65, 45, 98] 0 0 0 0 true []) (by rw [mk_encL]; rfl) (by simp [s4]) (leaf_GR hd (by decide) rfl (by decide) (by omega) hA6.2)
        | 5, _ =>
          simp [wJ15_4, s0, s1, s4, s5, nk, n6, Nat.add_assoc]
          refine fin _ _ a2 _ (.mk 2 [43] 0 0 0 0 true []) (by rw [mk_encL]; rfl) (by simp [s4]) (leaf_GR hd (by decide) rfl (by decide) (by omega) hA6.2)
        | w + 6, hv6 => omega
      | 2, _ =>
        have n6 := nx a1 5 hA.2 (by omega) (by omega)
        have hv6 := nxV_lt U a1 (b := 5) (by omega)
        have hA6 := nxA_le U a1 hA.2
        generalize nxV U a1 5 = w at *
        generalize nxA U a1 = a2 at *
        have n6 : ∀ q, M.call 22 [.ptr r 0, .int .i64 5] (HH g r (stG U rt nm rn a1) ++ q) = some (.int .i64 (w : Nat), HH g r (stG U rt nm rn a2) ++ q) := n6
        match w, hv6 with
        | 0, _ =>
          simp [wJ15_4, s0, s1, s4, s5, nk, n6, Nat.add_assoc]
          refine fin _ _ a2 _ (.mk 3 [97] 0 0 0 0 true []) (by rw [mk_encL]; rfl) (by simp [s4]) (leaf_GR hd (by decide) rfl (by decide) (by omega) hA6.2)
        | 1, _ =>
          simp [wJ15_4, s0, s1, s4, s5, nk, n6, Nat.add_assoc]
          refine fin _ _ a2 _ (.mk 3 [13, 10] 0 0 0 0 true []) (by rw [mk_encL]; rfl) (by simp [s4]) (leaf_GR hd (by decide) rfl (by decide) (by omega) hA6.2)
        | 2, _ =>
          simp [wJ15_4, s0, s1, s4, s5, nk, n6, Nat.add_assoc]
          refine fin _ _ a2 _ (.mk 3 [65] 0 0 0 0 true []) (by rw [mk_encL]; rfl) (by simp [s4]) (leaf_GR hd (by decide) rfl (by decide) (by omega) hA6.2)
        | 3, _ =>
          simp [wJ15_4, s0, s1, s4, s5, nk, n6, Nat.add_assoc]
          refine fin _ _ a2 _ (.mk 3 [0, 255] 0 0 0 0 true []) (by rw [mk_encL]; rfl) (by simp [s4]) (leaf_GR hd (by decide) rfl (by decide) (by omega) hA6.2)
        | 4, _ =>
          simp [wJ15_4, s0, s1, s4, s5, nk, n6, Nat.add_assoc]
          refine fin _ _ a2 _ (.mk 3 [128] 0 0 0 0 true []) (by rw [mk_encL]; rfl) (by simp [s4]) (leaf_GR hd (by decide) rfl (by decide) (by omega) hA6.2)
        | w + 5, hv6 => omega
      | 3, _ =>
        have n6 := nx a1 256 hA.2 (by omega) (by omega)
        have hv6 := nxV_lt U a1 (b := 256) (by omega)
        have hA6 := nxA_le U a1 hA.2
        generalize nxV U a1 256 = lo at *
        generalize nxA U a1 = a2 at *
        have n6 : ∀ q, M.call 22 [.ptr r 0, .int .i64 256] (HH g r (stG U rt nm rn a1) ++ q) = some (.int .i64 (lo : Nat), HH g r (stG U rt nm rn a2) ++ q) := n6
        have n7 := nx a2 (256 - lo) hA6.2 (by omega) (by omega)
        have hv7 := nxV_lt U a2 (b := 256 - lo) (by omega)
        have hA7 := nxA_le U a2 hA6.2
        generalize nxV U a2 (256 - lo) = m at *
        generalize nxA U a2 = a3 at *
        have n7 : ∀ q, M.call 22 [.ptr r 0, .int .i64 ((256 - lo : Nat) : Int)] (HH g r (stG U rt nm rn a2) ++ q) = some (.int .i64 (m : Nat), HH g r (stG U rt nm rn a3) ++ q) := n7
        have w1 : IntKind.wrap .i64 (256 - (lo : Int)) = ((256 - lo : Nat) : Int) := by rw [wrap64 (by omega) (by omega)]; omega
        have w2 : IntKind.wrap .i64 ((lo : Int) + (m : Int)) = ((lo + m : Nat) : Int) := by rw [wrap64 (by omega) (by omega)]; omega
        have w3 : IntKind.wrap .u8 (lo : Int) = ((UInt8.ofNat lo).toNat : Int) := by rw [UInt8.toNat_ofNat', Nat.mod_eq_of_lt (by omega), wrap8 (by omega) (by omega)]
        have w4 : IntKind.wrap .u8 ((lo + m : Nat) : Int) = ((UInt8.ofNat (lo + m)).toNat : Int) := by rw [UInt8.toNat_ofNat', Nat.mod_eq_of_lt (by omega), wrap8 (by omega) (by omega)]
        have hle : (UInt8.ofNat lo).toNat ≤ (UInt8.ofNat (lo + m)).toNat := by
          rw [UInt8.toNat_ofNat', UInt8.toNat_ofNat', Nat.mod_eq_of_lt (by omega), Nat.mod_eq_of_lt (by omega)]
          omega
        generalize UInt8.ofNat lo = L at *
        generalize UInt8.ofNat (lo + m) = H at *
        simp [-Int.natCast_add, wJ15_4, s0, s1, s4, s5, nk, n6, n7, w1, w2, w3, w4, Nat.add_assoc]
        refine fin _ _ a3 _ (.mk 4 [] L H 0 0 true []) (by rw [mk_encL]; rfl) (by simp [s4]) (leaf_GR hd ?_ rfl (by simp [Tr.s]) (by omega) hA7.2)
        simp [aloneP, Tr.k, Tr.s, Tr.lo, Tr.hi, Tr.mn, Tr.mx, Tr.kids]
        exact decide_eq_true hle
      | 4, _ =>
        obtain ⟨hd5, hal⟩ : deep ≤ 5 ∧ a < U.length := by omega
        have hA10 := hA10 (by omega)
        obtain ⟨t, a2, tr, k1, k2, k3, k4⟩ := gsome_ok (rt := rt) (nm := nm) (rn := rn) (r := r) hU hj deep hd5 (ih hd5) 5 (.inl rfl) a1 hA.2 (HH g r (stG U rt nm rn a1) ++ [.cells z7]) (HH_get hlt _) (fun t ht => by have := h1 t ht; simp; omega) (fun t ht => by have := h2 t ht; simp; omega)
        rw [HH_set hlt] at tr
        simp [z7] at tr
        simp [-Int.natCast_add, wJ15_4, wJ15_1, wJ15_0, s0, s1, s4, s5, nk, tr, Nat.add_assoc]
        exact fin _ _ a2 _ t rfl (by simp [s4]) ⟨k1, by omega, by omega, k4⟩
      | 5, _ =>
        obtain ⟨hd5, hal⟩ : deep ≤ 5 ∧ a < U.length := by omega
        have hA10 := hA10 (by omega)
        obtain ⟨t, a2, tr, k1, k2, k3, k4⟩ := gsome_ok (rt := rt) (nm := nm) (rn := rn) (r := r) hU hj deep hd5 (ih hd5) 5 (.inl rfl) a1 hA.2 (HH g r (stG U rt nm rn a1) ++ [.cells z7]) (HH_get hlt _) (fun t ht => by have := h1 t ht; simp; omega) (fun t ht => by have := h2 t ht; simp; omega)
        rw [HH_set hlt] at tr
        simp [z7] at tr
        simp [-Int.natCast_add, wJ15_4, wJ15_1, wJ15_0, s0, s1, s4, s5, nk, tr, Nat.add_assoc]
        exact fin _ _ a2 _ t rfl (by simp [s4]) ⟨k1, by omega, by omega, k4⟩
      | 6, _ =>
        obtain ⟨hd5, hal⟩ : deep ≤ 5 ∧ a < U.length := by omega
        have hA10 := hA10 (by omega)
        obtain ⟨t, a2, tr, k1, k2, k3, k4⟩ := gsome_ok (rt := rt) (nm := nm) (rn := rn) (r := r) hU hj deep hd5 (ih hd5) 5 (.inl rfl) a1 hA.2 (HH g r (stG U rt nm rn a1) ++ [.cells z7]) (HH_get hlt _) (fun t ht => by have := h1 t ht; simp; omega) (fun t ht => by have := h2 t ht; simp; omega)
        rw [HH_set hlt] at tr
        simp [z7] at tr
        simp [-Int.natCast_add, wJ15_4, wJ15_1, wJ15_0, s0, s1, s4, s5, nk, tr, Nat.add_assoc]
        exact fin _ _ a2 _ t rfl (by simp [s4]) ⟨k1, by omega, by omega, k4⟩
      | 7, _ =>
        obtain ⟨hd5, hal⟩ : deep ≤ 5 ∧ a < U.length := by omega
        have hA10 := hA10 (by omega)
        obtain ⟨t, a2, tr, k1, k2, k3, k4⟩ := gsome_ok (rt := rt) (nm := nm) (rn := rn) (r := r) hU hj deep hd5 (ih hd5) 6 (.inr rfl) a1 hA.2 (HH g r (stG U rt nm rn a1) ++ [.cells z7]) (HH_get hlt _) (fun t ht => by have := h1 t ht; simp; omega) (fun t ht => by have := h2 t ht; simp; omega)
        rw [HH_set hlt] at tr
        simp [z7] at tr
        simp [-Int.natCast_add, wJ15_4, wJ15_1, wJ15_0, s0, s1, s4, s5, nk, tr, Nat.add_assoc]
        exact fin _ _ a2 _ t rfl (by simp [s4]) ⟨k1, by omega, by omega, k4⟩
      | 8, _ =>
        obtain ⟨hd5, hal⟩ : deep ≤ 5 ∧ a < U.length := by omega
        have hA10 := hA10 (by omega)
        obtain ⟨t, a2, tr, k1, k2, k3, k4⟩ := gsome_ok (rt := rt) (nm := nm) (rn := rn) (r := r) hU hj deep hd5 (ih hd5) 6 (.inr rfl) a1 hA.2 (HH g r (stG U rt nm rn a1) ++ [.cells z7]) (HH_get hlt _) (fun t ht => by have := h1 t ht; simp; omega) (fun t ht => by have := h2 t ht; simp; omega)
        rw [HH_set hlt] at tr
        simp [z7] at tr
        simp [-Int.natCast_add, wJ15_4, wJ15_1, wJ15_0, s0, s1, s4, s5, nk, tr, Nat.add_assoc]
        exact fin _ _ a2 _ t rfl (by simp [s4]) ⟨k1, by omega, by omega, k4⟩
      | 9, _ =>
        obtain ⟨hd5, hal⟩ : deep ≤ 5 ∧ a < U.length := by omega
        have hA10 := hA10 (by omega)
        have J := J3 a1
        unfold z7 at J
        simp [-Int.natCast_add, wJ15_4, wJ15_1, wJ15_0, s0, s1, s4, s5, nk, Nat.add_assoc]
        refine J _ hd5 (by omega) hA.2 ?_ ?_ ?_ _ ?_ <;> simp [s0, s1, s4]
      | v + 10, hv => omega
    unfold stG at e1
    have hdI : ((6 : Int) ≤ (deep : Int)) = (6 ≤ deep) := by apply propext; omega
    by_cases c1 : 6 ≤ deep
    · have c1' : (6 : Int) ≤ (deep : Int) := by omega
      simp [wB15, c1']
      refine J4 4 _ (.inl rfl) ?_ ?_ ?_ ?_ <;> simp
    · have c1' : ¬ (6 : Int) ≤ (deep : Int) := by omega
      by_cases c2 : U.length ≤ a
      · have c2' : (U.length : Int) ≤ (a : Int) := by omega
        unfold stG at J4 ⊢
        simp [wB15, c1', e1, c2, c2']
        refine J4 4 _ (.inl rfl) ?_ ?_ ?_ ?_ <;> simp
      · have c2' : ¬ (U.length : Int) ≤ (a : Int) := by omega
        unfold stG at J4 ⊢
        simp [wB15, c1', e1, c2, c2']
        refine J4 10 _ (.inr ⟨rfl, by omega, by omega⟩) ?_ ?_ ?_ ?_ <;> simp
  obtain ⟨x, hx, t, a', rfl, q⟩ := key
  exact ⟨t, a', by rw [hx, HH_set0], q⟩
include hU hj hN hM in
theorem gtree_ok : ∀ (k deep : Nat), 6 - deep ≤ k → deep ≤ 6 → TreeC U rt nm rn r deep
  | 0, deep, h, hd => gtree_step hU hj hN hM deep hd fun h5 => by omega
  | k + 1, deep, h, hd => gtree_step hU hj hN hM deep hd fun h5 => gtree_ok k (deep + 1) (by omega) (by omega)
end
/-- Grown, with names or without. -/
theorem grown_okN (U : List Nat) (hU : U.length ≤ 1000000) (hj : ∀ j ∈ U, j ≤ 65535) (rt : Rt) (nm : List (List UInt8)) (rn : Rt) (hN : nm.length ≤ 1000) (hM : ∀ s ∈ nm, namedP s = true ∧ s.length ≤ 3) (h0 : Heap) (hrt : ∀ t, rt = .tok t → t < h0.length) (hrn : ∀ t, rn = .tok t → t < h0.length) :
    ∃ t : Tr, M.call 6 [.list 1 (U.map fun j => .int .u16 (j : Nat)) rt, .list 1 (nm.map AV.str) rn] h0 = some (t.enc, h0) ∧ fitsP 7 t = true ∧ t.wt ≤ 60 * U.length + 30 := by
  obtain ⟨t, a', tr, k1, k2, k3, k4⟩ := gtree_ok (U := U) (rt := rt) (nm := nm) (rn := rn) (r := h0.length + 1) hU hj hN hM 6 0 (by omega) (by omega) 0 (h0 ++ [.cells z7, stG U rt nm rn 0]) (Nat.zero_le _) (by simp) (fun t ht => by have := hrt t ht; simp; omega) (fun t ht => by have := hrn t ht; simp; omega)
  refine ⟨t, call_of tab6 rfl (callF_wp ?_), k1, by omega⟩
  unfold stG z7 at tr
  simp at tr
  simp [wB6, tr, Nat.add_assoc]
end Go.Proofs.YtmmapbhhkmchcaaDoor
