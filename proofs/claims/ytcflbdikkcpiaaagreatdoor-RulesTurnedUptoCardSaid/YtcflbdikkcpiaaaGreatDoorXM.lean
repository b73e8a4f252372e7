/-
  frankinglow.Grown: numbers, one by one.
-/
import Derived.Test.YtcflbdikkcpiaaaGreatDoorXK
import Derived.Test.YtcflbdikkcpiaaaGreatDoorXD
set_option linter.unusedVariables false
set_option linter.unusedSimpArgs false
namespace Go.Proofs.YtcflbdikkcpiaaaGreatDoor
open Go Go.Am
def stG (U : List Nat) (rt : Rt) (nm : List (List UInt8)) (rn : Rt) (a : Nat) : AE := .cells [.list 1 (U.map fun j => .int .u16 (j : Nat)) rt, .int .i64 a, .list 1 (nm.map AV.str) rn]
theorem nums_low (n : Nat) (U : List Nat) : AV.lows n (U.map fun j => AV.int .u16 (j : Nat)) := lows_map _ _ fun _ _ => trivial
theorem strs_low (n : Nat) (l : List (List UInt8)) : AV.lows n (l.map AV.str) := lows_map _ _ fun _ _ => trivial
theorem stG_low {U : List Nat} {rt : Rt} {nm : List (List UInt8)} {rn : Rt} {a n : Nat} (h1 : ∀ t, rt = .tok t → t < n) (h2 : ∀ t, rn = .tok t → t < n) : (stG U rt nm rn a).low n := by
 simp only [stG, AE.low, AV.lows, AV.low, and_true]
 exact ⟨⟨h1, nums_low n U⟩, trivial, h2, strs_low n nm⟩
def nxV (U : List Nat) (a b : Nat) : Nat := match U[a]? with
 | some j => j % b
 | none => 0
def nxA (U : List Nat) (a : Nat) : Nat := if a < U.length then a + 1 else a
theorem nxV_lt (U : List Nat) (a : Nat) {b : Nat} (hb : 1 ≤ b) : nxV U a b < b := by
 unfold nxV
 split
 ·exact Nat.mod_lt _ hb
 ·omega
section
variable {U : List Nat} {rt : Rt} {nm : List (List UInt8)} {rn : Rt} {r : Nat} (hU : U.length ≤ 9223372036854775807) (hj : ∀ j ∈ U, j ≤ 65535)
include hU hj in
theorem gnext_ok (a b : Nat) (ha : a ≤ U.length) (hb : 1 ≤ b) (hb2 : b ≤ 1000) (h : Heap) (hr : h[r]? = some (stG U rt nm rn a)) (h1 : ∀ t, rt = .tok t → t < h.length) (h2 : ∀ t, rn = .tok t → t < h.length) :
  M.call 56 [.ptr r 0, .int .i64 b] h = some (.int .i64 (nxV U a b), h.set r (stG U rt nm rn (nxA U a))) := by
 obtain ⟨g, rfl, hlt⟩ := HH_of hr
 rw [HH_set0]
 rw [HH_len] at h1 h2
 have hlow := stG_low (U := U) (nm := nm) (a := a + 1) h1 h2
 have e1 := fun (e : AE) q => HH_get (g := g) (r := r) (e := e) hlt q
 have e2 := fun (e e' : AE) q => HH_set (g := g) (r := r) (e := e) hlt e' q
 have e10 := fun (e : AE) => HH_get0 (g := g) (r := r) (e := e) hlt
 have e20 := fun (e e' : AE) => HH_set0 (g := g) (r := r) (e := e) e'
 refine call_of tab56 rfl (callF_wp ?_)
 by_cases c : a < U.length
 ·obtain ⟨j, ej⟩ : ∃ j, U[a]? = some j := ⟨_, List.getElem?_eq_getElem c⟩
  have hjl := hj j (List.mem_of_getElem? ej)
  have c' : ¬ (U.length : Int) ≤ a := by omega
  have hv : nxV U a b = j % b := by simp [nxV, ej]
  have ha' : nxA U a = a + 1 := by simp [nxA, c]
  have w1 : IntKind.wrap .i64 ((a : Int) + 1) = ((a + 1 : Nat) : Int) := by rw [wrap64 (by omega) (by omega)]; rfl
  have w2 : IntKind.wrap .i64 (((a + 1 : Nat) : Int) - 1) = (a : Int) := by rw [wrap64 (by omega) (by omega)]; omega
  have w3 : IntKind.wrap .i64 (j : Int) = (j : Int) := wrap64 (by omega) (by omega)
  have tm : (j : Int).tmod (b : Int) = ((j % b : Nat) : Int) := rfl
  have hb0 : ¬ (b : Int) = 0 := by omega
  have hb0' : ¬ b = 0 := by omega
  rw [hv, ha']
  unfold stG at *
  simp [-getElem?_pos, -Int.natCast_add, -Int.natCast_emod, wB56, e1, e2, e10, e20, c, c', ej, w1, w2, w3, tm, hb0, hb0', abin_rem]
  rw [finish_HH (by rw [List.take_of_length_le (by simp)]) hlt hlow]
  simp
 ·have c' : (U.length : Int) ≤ a := by omega
  have hv : nxV U a b = 0 := by simp [nxV, List.getElem?_eq_none (by omega : U.length ≤ a)]
  have ha' : nxA U a = a := by simp [nxA, c]
  rw [hv, ha']
  unfold stG at *
  simp [-getElem?_pos, wB56, e1, e10, c, c']
end
def fitsN (nm : List (List UInt8)) : Nat → Tr → Bool
 | 0, _ => false
 | d + 1, t => aloneP t && ((t.k != 1 || decide (t.s ∈ nm)) && (decide (t.s.length ≤ 3 ∧ t.kids.length ≤ 3) && t.kids.all (fitsN nm d)))
theorem fitsN_P {nm : List (List UInt8)} : ∀ {d : Nat} {t : Tr}, fitsN nm d t = true → fitsP d t = true
 | 0, t, h => by simp [fitsN] at h
 | d + 1, t, h => by
  simp only [fitsN, Bool.and_eq_true] at h
  simp only [fitsP, Bool.and_eq_true]
  exact ⟨h.1, List.all_eq_true.2 fun k hk => fitsN_P (List.all_eq_true.1 h.2.2.2 k hk)⟩
def wtB : Nat → Nat
 | 0 => 0
 | d + 1 => 25 + 3 * wtB d
theorem wts_leN {b : Nat} : ∀ {l : List Tr}, (∀ t ∈ l, t.wt ≤ b) → wts l ≤ l.length * b
 | [], _ => by simp [wts]
 | t :: l, h => by
  have h1 := h t (by simp)
  have h2 := wts_leN (l := l) fun x hx => h x (by simp [hx])
  simp only [wts, List.length_cons, Nat.add_mul]
  omega
theorem fitsN_wt {nm : List (List UInt8)} : ∀ {d : Nat} {t : Tr}, fitsN nm d t = true → t.wt ≤ wtB d
 | 0, t, h => by simp [fitsN] at h
 | d + 1, t, h => by
  simp only [fitsN, Bool.and_eq_true, decide_eq_true_eq] at h
  obtain ⟨_, _, ⟨h1, h2⟩, h3⟩ := h
  have hk := wts_leN fun k hk => fitsN_wt (List.all_eq_true.1 h3 k hk)
  have := Nat.mul_le_mul_right (wtB d) h2
  rw [wt_eq, wtB]
  omega
def GR (U : List Nat) (nm : List (List UInt8)) (deep a : Nat) (t : Tr) (a' : Nat) : Prop := fitsN nm (7 - deep) t = true ∧ t.wt ≤ 60 * (a' - a) + 30 ∧ a ≤ a' ∧ a' ≤ U.length
def TreeC (U : List Nat) (rt : Rt) (nm : List (List UInt8)) (rn : Rt) (r deep : Nat) : Prop := ∀ (a : Nat) (h : Heap), a ≤ U.length → h[r]? = some (stG U rt nm rn a) → (∀ t, rt = .tok t → t < h.length) → (∀ t, rn = .tok t → t < h.length) →
 ∃ t a', M.call 44 [.ptr r 0, .int .i64 (deep : Nat)] h = some (t.enc, h.set r (stG U rt nm rn a')) ∧ GR U nm deep a t a'
section
variable {U : List Nat} {rt : Rt} {nm : List (List UInt8)} {rn : Rt} {r : Nat} (hU : U.length ≤ 9223372036854775807) (hj : ∀ j ∈ U, j ≤ 65535)
def kc7 (kind : UInt8) (ks : List Tr) (rk : Rt) : List AV := [.int .u8 kind.toNat, .str [], .int .u8 0, .int .u8 0, .int .i64 0, .int .i64 0, .list 7 (ks.map Tr.enc) rk]
def InvGs (U : List Nat) (rt : Rt) (nm : List (List UInt8)) (rn : Rt) (r deep a1 : Nat) (kind : UInt8) (n : Nat) (g : Heap) (k : Nat) (σ : Slots) (h : Heap) : Prop := ∃ (i a' : Nat) (ks : List Tr) (rk : Rt), i ≤ n ∧ k = n - i ∧ ks.length = i ∧ a1 ≤ a' ∧ a' ≤ U.length ∧ (∀ x ∈ ks, fitsN nm (6 - deep) x = true) ∧ wts ks ≤ 60 * (a' - a1) + 30 * i ∧
 σ 0 = .ptr r 0 ∧ σ 2 = .int .i64 (deep : Nat) ∧ σ 6 = .ptr g.length 0 ∧ σ 7 = .ptr (g.length + 1) 0 ∧ σ 12 = .int .i64 (n : Nat) ∧ σ 13 = .int .i64 (i : Nat) ∧ (1 ≤ i → ∃ t, rk = .tok t ∧ g.length + 2 ≤ t) ∧ (i = 0 → rk = .full) ∧
 Ow (g.length + 2) h 7 36 rk ks.length ∧ h.take (g.length + 2) = HH g r (stG U rt nm rn a') ++ [.cells z7, .cells (kc7 kind ks rk)]
theorem some_wt {a a1 a' v w : Nat} (h1 : a1 ≤ a') (h2 : a ≤ a1) (h3 : w ≤ 60 * (a' - a1) + 30 * (2 + v)) (h4 : v < 2) (h5 : v = 1 → a1 = a + 1) : 16 + w ≤ 60 * (a' - a) + 90 := by
 rcases Nat.lt_or_ge v 1 with hv1 | hv1
 ·omega
 ·have := h5 (by omega)
  omega
theorem grow_wt {a1 a' a2 w x i : Nat} (h1 : w ≤ 60 * (a' - a1) + 30 * i) (h2 : x ≤ 60 * (a2 - a') + 30) (h3 : a' ≤ a2) (h4 : a1 ≤ a') : w + x ≤ 60 * (a2 - a1) + 30 * (i + 1) := by omega
theorem wts_app : ∀ (l : List Tr) (t : Tr), wts (l ++ [t]) = wts l + t.wt
 | [], t => by simp [wts]
 | x :: l, t => by simp only [List.cons_append, wts, wts_app l t]; omega
include hU hj in
theorem gsome_ok (deep : Nat) (hd : deep ≤ 5) (ih : TreeC U rt nm rn r (deep + 1)) (kind : UInt8) (hk : kind = 5 ∨ kind = 6) (a : Nat) (ha : a ≤ U.length) (h : Heap) (hr : h[r]? = some (stG U rt nm rn a)) (h1 : ∀ t, rt = .tok t → t < h.length) (h2 : ∀ t, rn = .tok t → t < h.length) :
  ∃ t a', M.call 57 [.ptr r 0, .int .u8 kind.toNat, .int .i64 (deep : Nat)] h = some (t.enc, h.set r (stG U rt nm rn a')) ∧ fitsN nm (7 - deep) t = true ∧ t.wt ≤ 60 * (a' - a) + 90 ∧ a ≤ a' ∧ a' ≤ U.length := by
 obtain ⟨g, rfl, hlt⟩ := HH_of hr
 rw [HH_len] at h1 h2
 have key : ∃ x, M.call 57 [.ptr r 0, .int .u8 kind.toNat, .int .i64 (deep : Nat)] (HH g r (stG U rt nm rn a)) = some x ∧ ∃ t a', x = (t.enc, HH g r (stG U rt nm rn a')) ∧ fitsN nm (7 - deep) t = true ∧ t.wt ≤ 60 * (a' - a) + 90 ∧ a ≤ a' ∧ a' ≤ U.length := by
  refine call_post tab57 rfl ?_
  generalize hQ : (fun e σ h => isEnd e ∧ ∃ vs, resVals σ h [ARes.cell 6 (some 7)] = some vs ∧ ∃ x, finish (HH g r (stG U rt nm rn a)) h (oneOf vs) = some x ∧ ∃ t a', x = (t.enc, HH g r (stG U rt nm rn a')) ∧ fitsN nm (7 - deep) t = true ∧ t.wt ≤ 60 * (a' - a) + 90 ∧ a ≤ a' ∧ a' ≤ U.length) = Q
  have fin : ∀ (σ : Slots) (h : Heap) (a' : Nat) (cs : List AV) (t : Tr), σ 6 = .ptr g.length 0 → h[g.length]? = some (.cells cs) → cs.length = 7 → h.take g.length = HH g r (stG U rt nm rn a') → cleans h g.length cs = some t.encL → fitsN nm (7 - deep) t = true → t.wt ≤ 60 * (a' - a) + 90 → a ≤ a' → a' ≤ U.length → Q .ret σ h := by
   intro σ h a' cs t s6 hc hlen ht hcl q1 q2 q3 q4
   subst hQ
   have e7 : cs.take 7 = cs := List.take_of_length_le (by omega)
   simp [s6, hc, hlen, e7]
   rw [finish_HH ht hlt (stG_low h1 h2)]
   simp [hcl]
   exact ⟨_, _, ⟨rfl, rfl⟩, t, a', ⟨rfl, rfl⟩, q1, q2, q3, q4⟩
  have e1 := fun (e : AE) q => HH_get (g := g) (r := r) (e := e) hlt q
  have nx := fun q => at_HH (r := r) (g := g) hlt (fun h hg hr => gnext_ok (rt := rt) (nm := nm) (rn := rn) hU hj a 2 ha (by omega) (by omega) h hr (fun t ht => by have := h1 t ht; omega) (fun t ht => by have := h2 t ht; omega)) q
  have hv := nxV_lt U a (b := 2) (by omega)
  have hA : a ≤ nxA U a ∧ nxA U a ≤ U.length := by unfold nxA; split <;> omega
  have hv0 : nxV U a 2 = 1 → nxA U a = a + 1 := fun e => by
   unfold nxV at e
   unfold nxA
   cases ej : U[a]? with
   | none => rw [ej] at e; simp at e
   | some j => rw [if_pos (List.getElem?_eq_some_iff.1 ej).1]
  generalize nxV U a 2 = v at *
  generalize nxA U a = a1 at *
  have w2 : IntKind.wrap .i64 (2 + (v : Int)) = ((2 + v : Nat) : Int) := by rw [wrap64 (by omega) (by omega)]; omega
  have nx : ∀ q, M.call 56 [.ptr r 0, .int .i64 2] (HH g r (stG U rt nm rn a) ++ q) = some (.int .i64 (v : Nat), HH g r (stG U rt nm rn a1) ++ q) := nx
  simp [-Int.natCast_add, wB57, nx, w2, Nat.add_assoc]
  refine Wp.loop (InvGs U rt nm rn r deep a1 kind (2 + v) g) ?_ (n := 2 + v) ⟨0, a1, [], .full, by omega, by omega, rfl, by omega, hA.2, by simp, by simp [wts], by simp, by simp, by simp, by simp, by simp, by simp, by omega, fun _ => rfl, .full, by rw [List.take_of_length_le (by simp)]; rfl⟩
  rintro k σ h ⟨i, a', ks, rk, hi, rfl, hlen, p1, p2, p3, p4, s0, s2, s6, s7, s12, s13, p5, p5', ow, hh⟩
  have hle : g.length + 2 ≤ h.length := by
   have := congrArg List.length hh
   simp at this
   omega
  have hget : ∀ k e, (HH g r (stG U rt nm rn a') ++ [.cells z7, .cells (kc7 kind ks rk)])[k]? = some e → h[k]? = some e := fun k e he => by
   have hkl := (List.getElem?_eq_some_iff.1 he).1
   have := congrArg (fun q : Heap => q[k]?) hh
   simp only [List.getElem?_take] at this
   rw [if_pos (by simp at hkl; omega), he] at this
   exact this
  have hat0 : h[g.length]? = some (.cells z7) := hget _ _ (by simp)
  have hat1 : h[g.length + 1]? = some (.cells (kc7 kind ks rk)) := hget _ _ (by simp)
  have hst : h[r]? = some (stG U rt nm rn a') := hget _ _ (e1 _ _)
  have hh0 : h.take g.length = HH g r (stG U rt nm rn a') := by
   have := congrArg (List.take g.length) hh
   rwa [List.take_take, Nat.min_eq_left (by omega), List.take_left' (by simp)] at this
  by_cases hlt2 : i < 2 + v
  ·have hlt3 : (i : Int) < ((2 + v : Nat) : Int) := by omega
   have e64 : IntKind.wrap .i64 ((i : Int) + 1) = ((i + 1 : Nat) : Int) := by rw [wrap64 (by omega) (by omega)]; rfl
   have ed : IntKind.wrap .i64 ((deep : Int) + 1) = ((deep + 1 : Nat) : Int) := by rw [wrap64 (by omega) (by omega)]; rfl
   obtain ⟨t, a2, tr, q1, q2, q3, q4⟩ := ih a' (h ++ [AE.dead]) p2 (by rw [List.getElem?_append_left (by omega)]; exact hst) (fun t ht => by have := h1 t ht; simp; omega) (fun t ht => by have := h2 t ht; simp; omega)
   have hatq : ∀ q : Heap, (h ++ q)[g.length + 1]? = some (.cells (kc7 kind ks rk)) := fun q => by rw [List.getElem?_append_left (by omega)]; exact hat1
   have hsetq : ∀ (q : Heap) (e : AE), (h ++ q).set r e = h.set r e ++ q := fun q e => List.set_append_left _ _ (by omega)
   have hatr : ∀ (q : Heap) (e : AE), (h.set r e ++ q)[g.length + 1]? = some (.cells (kc7 kind ks rk)) := fun q e => by
    rw [List.getElem?_append_left (by simp; omega), List.getElem?_set_ne (by omega)]
    exact hat1
   rw [hsetq] at tr
   unfold kc7 at hatq hatr
   simp [-getElem?_pos, -Int.natCast_add, wL57_0, s0, s2, s6, s7, s12, s13, hlt2, hlt3, hatq, hatr, ed, tr, Nat.add_assoc]
   obtain ⟨r2, g2, q5, q6, q7⟩ := app_list (n0 := g.length + 2) (key := h.length) (sz := 7) (bytes := 72) (e := 36) (h := h.set r (stG U rt nm rn a2) ++ [AE.dead]) (xs := ks.map Tr.enc) (ys := [t.enc]) (r := rk) (r2 := .full)
    (by simpa using (ow.set (i := r) (x := stG U rt nm rn a2) (fun s m f => by rw [hst]; simp [stG])).app _) (by omega) (by simp) (by simp; omega) (by simp; omega)
   obtain ⟨zs, hz⟩ := appA_tok (by simp) q5
   obtain rfl : r2 = .tok h.length := by injection hz
   have hlen2 : g2.length = h.length + 1 := by rw [q7.len]; simp
   have hg2 : g2[g.length + 1]? = some (.cells (kc7 kind ks rk)) := by
    rw [q7.get _ (by omega) (fun t ht => by
     rcases Nat.eq_zero_or_pos i with h0 | h0
     ·rw [p5' h0] at ht; cases ht
     ·obtain ⟨t', e, ht'⟩ := p5 h0
      rw [e] at ht
      injection ht with ht
      omega)]
    unfold kc7
    exact hatr _ _
   have htk : g2.take (g.length + 2) = HH g r (stG U rt nm rn a2) ++ [.cells z7, .cells (kc7 kind ks rk)] := by
    rw [q7.take, List.take_append_of_le_length (by simp; omega), List.take_set, hh, HH_set hlt]
   have goOn : ∀ σ' : Slots, σ' 0 = σ 0 → σ' 2 = σ 2 → σ' 6 = σ 6 → σ' 7 = σ 7 → σ' 12 = σ 12 → σ' 13 = .int .i64 ((i + 1 : Nat) : Int) → ∃ m, m < 2 + v - i ∧ InvGs U rt nm rn r deep a1 kind (2 + v) g m σ' (g2.set (g.length + 1) (.cells (kc7 kind (ks ++ [t]) (.tok h.length)))) := by
    intro σ' b0 b2 b6 b7 b12 b13
    refine ⟨2 + v - (i + 1), by omega, i + 1, a2, ks ++ [t], .tok h.length, by omega, rfl, by simp [hlen], by omega, q4, ?_, ?_, by rw [b0, s0], by rw [b2, s2], by rw [b6, s6], by rw [b7, s7], by rw [b12, s12], b13, fun _ => ⟨_, rfl, hle⟩, fun h => absurd h (Nat.succ_ne_zero i), ?_, ?_⟩
    ·intro x hx
     rcases List.mem_append.1 hx with hx | hx
     ·exact p3 x hx
     ·simp only [List.mem_singleton] at hx
      subst hx
      have : 7 - (deep + 1) = 6 - deep := by omega
      rw [← this]
      exact q1
    ·rw [wts_app]
     exact grow_wt p4 q2 q3 p1
    ·have := (by simpa using q6 : Ow (g.length + 2) g2 7 36 (.tok h.length) (ks.length + 1))
     simpa using this.set (i := g.length + 1) (x := .cells (kc7 kind (ks ++ [t]) (.tok h.length))) (fun s m f => by rw [hg2]; simp)
    ·rw [List.take_set, htk, List.set_append_right _ _ (by simp)]
     simp
   unfold kc7 at hg2
   rw [q5]
   simp [-Int.natCast_add, s7, s13, hg2, e64]
   refine ⟨by first | exact (hatr _ _).trans (hatq _).symm | exact .inr ((hatr _ _).trans (hatq _).symm), ?_⟩
   have he : kc7 kind (ks ++ [t]) (.tok h.length) = [.int .u8 kind.toNat, .str [], .int .u8 0, .int .u8 0, .int .i64 0, .int .i64 0, .list 7 (ks.map Tr.enc ++ [t.enc]) (.tok h.length)] := by simp [kc7]
   rw [he] at goOn
   refine goOn _ ?_ ?_ ?_ ?_ ?_ ?_ <;> simp
  ·have : i = 2 + v := by omega
   subst this
   obtain ⟨t, rfl, ht⟩ := p5 (by omega)
   simp [-getElem?_pos, wL57_0, wK57_0, s0, s2, s6, s7, s12, s13, hat0, hat1, kc7, z7]
   refine fin _ _ a' _ (rowT kind ks) (by simp [s6]) (by rw [List.getElem?_set_self (by omega)]) (by simp) (by rw [List.take_set, hh0, List.set_eq_of_length_le (by simp)]) ?_ ?_ ?_ (by omega) p2
   ·rw [row_enc]
    have := trs_low g.length ks
    have h3 : ¬ t < g.length := by omega
    simp only [cleans_cons, clean1_tok, if_pos this, if_neg h3]
    simp [cleans, cleans_cons]
   ·have h7 : 7 - deep = (6 - deep) + 1 := by omega
    rw [h7]
    unfold fitsN
    have hal : aloneP (rowT kind ks) = true := by
     have h2 : 2 ≤ ks.length := by omega
     rcases hk with rfl | rfl
     ·simp [rowT, aloneP, Tr.k, Tr.s, Tr.lo, Tr.hi, Tr.mn, Tr.mx, Tr.kids]; exact decide_eq_true h2
     ·simp [rowT, aloneP, Tr.k, Tr.s, Tr.lo, Tr.hi, Tr.mn, Tr.mx, Tr.kids]; exact decide_eq_true h2
    have hnk : ((rowT kind ks).k != 1) = true := by rcases hk with rfl | rfl <;> rfl
    have h33 : decide ((rowT kind ks).s.length ≤ 3 ∧ (rowT kind ks).kids.length ≤ 3) = true := decide_eq_true ⟨by simp [rowT, Tr.s], by simp only [rowT, Tr.kids]; omega⟩
    rw [hal, hnk, h33]
    simp only [Bool.true_and, Bool.true_or, rowT, Tr.kids]
    exact List.all_eq_true.2 p3
   ·have hw : (rowT kind ks).wt = 16 + wts ks := by rw [wt_eq]; simp [rowT, Tr.s, Tr.kids]
    rw [hw]
    exact some_wt p1 hA.1 p4 hv hv0
 obtain ⟨x, hx, t, a', rfl, q⟩ := key
 exact ⟨t, a', by rw [hx, HH_set0], q⟩
end
theorem mk_encL (k : UInt8) (s : List UInt8) (lo hi : UInt8) (mn mx : Int) : (Tr.mk k s lo hi mn mx true []).encL = [.int .u8 k.toNat, .str s, .int .u8 lo.toNat, .int .u8 hi.toNat, .int .i64 mn, .int .i64 mx, .list 7 [] .full] := by rw [Tr.encL_eq]; rfl
theorem leaf_GR {U : List Nat} {nm : List (List UInt8)} {deep a a' : Nat} {t : Tr} (hd : deep ≤ 6) (ha : aloneP t = true) (hnm : t.k = 1 → t.s ∈ nm) (hk : t.kids = []) (hs : t.s.length ≤ 3) (h1 : a ≤ a') (h2 : a' ≤ U.length) : GR U nm deep a t a' := by
 refine ⟨?_, ?_, h1, h2⟩
 ·have : 7 - deep = (6 - deep) + 1 := by omega
  rw [this]
  unfold fitsN
  rw [ha, hk]
  by_cases e : t.k = 1
  ·simp [e, hnm e, hs]
  ·simp [e, hs]
 ·rw [wt_eq, hk]
  simp only [wts]
  omega
theorem nxA_le (U : List Nat) (a : Nat) (h : a ≤ U.length) : a ≤ nxA U a ∧ nxA U a ≤ U.length := by unfold nxA; split <;> omega
def wordsC : List (List UInt8) := [[97], [97, 98], [], [98, 32, 99], [65, 45, 98], [43]]
def wordsB : List (List UInt8) := [[97], [13, 10], [65], [0, 255], [128]]
section
variable {U : List Nat} {rt : Rt} {nm : List (List UInt8)} {rn : Rt} {r : Nat} (hU : U.length ≤ 9223372036854775807) (hj : ∀ j ∈ U, j ≤ 65535) (hN : nm.length ≤ 1000) (hM : ∀ s ∈ nm, namedP s = true ∧ s.length ≤ 3)
include hU hj hN hM in
theorem gtree_step (deep : Nat) (hd : deep ≤ 6) (ih : deep ≤ 5 → TreeC U rt nm rn r (deep + 1)) : TreeC U rt nm rn r deep := by
 intro a h ha hr h1 h2
 obtain ⟨g, rfl, hlt⟩ := HH_of hr
 rw [HH_len] at h1 h2
 have key : ∃ x, M.call 44 [.ptr r 0, .int .i64 (deep : Nat)] (HH g r (stG U rt nm rn a)) = some x ∧ ∃ t a', x = (t.enc, HH g r (stG U rt nm rn a')) ∧ GR U nm deep a t a' := by
  refine call_post tab44 rfl ?_
  generalize hQ : (fun e σ h => isEnd e ∧ ∃ vs, resVals σ h [ARes.cell 4 (some 7)] = some vs ∧ ∃ x, finish (HH g r (stG U rt nm rn a)) h (oneOf vs) = some x ∧ ∃ t a', x = (t.enc, HH g r (stG U rt nm rn a')) ∧ GR U nm deep a t a') = Q
  have fin : ∀ (σ : Slots) (q : Heap) (a' : Nat) (cs : List AV) (t : Tr), cs = t.encL → σ 4 = .ptr g.length 0 → GR U nm deep a t a' → Q .ret σ (HH g r (stG U rt nm rn a') ++ .cells cs :: q) := by
   intro σ q a' cs t hcs s4 hG
   subst hQ
   subst hcs
   simp [s4]
   rw [finish_HH (by rw [List.take_left' (by simp)]) hlt (stG_low h1 h2)]
   simp
   exact ⟨_, _, ⟨rfl, rfl⟩, t, a', ⟨rfl, rfl⟩, hG⟩
  have e1 := fun (e : AE) q => HH_get (g := g) (r := r) (e := e) hlt q
  have nx := fun (a b : Nat) (ha : a ≤ U.length) (hb : 1 ≤ b) (hb2 : b ≤ 1000) q => at_HH (r := r) (g := g) hlt (fun h hg hr => gnext_ok (rt := rt) (nm := nm) (rn := rn) hU hj a b ha hb hb2 h hr (fun t ht => by have := h1 t ht; omega) (fun t ht => by have := h2 t ht; omega)) q
  -- the last part: a tree so many times
  have J2 : ∀ (a2 : Nat) (mn mx : Int) (σ : Slots), deep ≤ 5 → a ≤ a2 → a + 1 ≤ a2 → a2 ≤ U.length → times7 mn mx = true → σ 0 = .ptr r 0 → σ 1 = .int .i64 (deep : Nat) → σ 4 = .ptr g.length 0 → σ 9 = .ptr (g.length + 1) 0 →
    ∀ Q' : Ex → Slots → Heap → Prop, Q' .ret = Q .ret → Wp M J44_2 Q' σ (HH g r (stG U rt nm rn a2) ++ [.cells z7, .cells [.int .u8 7, .str [], .int .u8 0, .int .u8 0, .int .i64 mn, .int .i64 mx, .list 7 [] .full]]) := by
   intro a2 mn mx σ hd5 q0 q0' q1 q2 s0 s1 s4 s9 Q' hQ'
   have ed : IntKind.wrap .i64 ((deep : Int) + 1) = ((deep + 1 : Nat) : Int) := by rw [wrap64 (by omega) (by omega)]; rfl
   obtain ⟨t, a3, tr, k1, k2, k3, k4⟩ := ih hd5 a2 (HH g r (stG U rt nm rn a2) ++ [.cells z7, .cells [.int .u8 7, .str [], .int .u8 0, .int .u8 0, .int .i64 mn, .int .i64 mx, .list 7 [] .full]]) q1 (HH_get hlt _) (fun t ht => by have := h1 t ht; simp; omega) (fun t ht => by have := h2 t ht; simp; omega)
   rw [HH_set hlt] at tr
   unfold z7 at tr ⊢
   simp [-Int.natCast_add, wJ44_2, s0, s1, s4, s9, ed, tr]
   rw [hQ']
   refine fin _ _ a3 _ (.mk 7 [] 0 0 mn mx true [t]) ?_ (by simp [s4]) ?_
   ·rw [Tr.encL_eq]; rfl
   ·have h7 : 7 - deep = (6 - deep) + 1 := by omega
    refine ⟨?_, ?_, by omega, k4⟩
    ·rw [h7]
     unfold fitsN
     have : aloneP (.mk 7 [] 0 0 mn mx true [t]) = true := by
      simp only [times7, decide_eq_true_eq] at q2
      simp [aloneP, Tr.k, Tr.s, Tr.lo, Tr.hi, Tr.mn, Tr.mx, Tr.kids]
      exact q2
     rw [this]
     have : 7 - (deep + 1) = 6 - deep := by omega
     rw [this] at k1
     simp [Tr.kids, Tr.k, Tr.s, k1]
    ·rw [wt_eq]
     simp only [Tr.s, Tr.kids, wts, List.length_nil]
     omega
  have J3 : ∀ (a1 : Nat) (σ : Slots), deep ≤ 5 → a + 1 ≤ a1 → a1 ≤ U.length → σ 0 = .ptr r 0 → σ 1 = .int .i64 (deep : Nat) → σ 4 = .ptr g.length 0 →
    ∀ Q' : Ex → Slots → Heap → Prop, Q' .ret = Q .ret → Wp M J44_3 Q' σ (HH g r (stG U rt nm rn a1) ++ [.cells z7]) := by
   intro a1 σ hd5 q0 q1 s0 s1 s4 Q' hQ'
   have n5 := nx a1 5 q1 (by omega) (by omega)
   have hv := nxV_lt U a1 (b := 5) (by omega)
   have hA := nxA_le U a1 q1
   generalize nxV U a1 5 = v at *
   generalize nxA U a1 = a2 at *
   have n5 : ∀ q, M.call 56 [.ptr r 0, .int .i64 5] (HH g r (stG U rt nm rn a1) ++ q) = some (.int .i64 (v : Nat), HH g r (stG U rt nm rn a2) ++ q) := n5
   unfold z7
   match v, hv with
   | 0, _ =>
    simp [wJ44_3, s0, s1, s4, n5]
    refine J2 a2 0 (-1) _ hd5 (by omega) (by omega) hA.2 (by decide) ?_ ?_ ?_ ?_ _ ?_ <;> simp [s0, s1, s4, hQ']
   | 1, _ =>
    simp [wJ44_3, s0, s1, s4, n5]
    refine J2 a2 0 1 _ hd5 (by omega) (by omega) hA.2 (by decide) ?_ ?_ ?_ ?_ _ ?_ <;> simp [s0, s1, s4, hQ']
   | 2, _ =>
    simp [wJ44_3, s0, s1, s4, n5]
    refine J2 a2 1 (-1) _ hd5 (by omega) (by omega) hA.2 (by decide) ?_ ?_ ?_ ?_ _ ?_ <;> simp [s0, s1, s4, hQ']
   | 3, _ =>
    simp [wJ44_3, s0, s1, s4, n5]
    refine J2 a2 2 2 _ hd5 (by omega) (by omega) hA.2 (by decide) ?_ ?_ ?_ ?_ _ ?_ <;> simp [s0, s1, s4, hQ']
   | 4, _ =>
    have n3 := nx a2 3 hA.2 (by omega) (by omega)
    have hv3 := nxV_lt U a2 (b := 3) (by omega)
    have hA3 := nxA_le U a2 hA.2
    generalize nxV U a2 3 = m at *
    generalize nxA U a2 = a3 at *
    have n3 : ∀ q, M.call 56 [.ptr r 0, .int .i64 3] (HH g r (stG U rt nm rn a2) ++ q) = some (.int .i64 (m : Nat), HH g r (stG U rt nm rn a3) ++ q) := n3
    have n3b := nx a3 3 hA3.2 (by omega) (by omega)
    have hv3b := nxV_lt U a3 (b := 3) (by omega)
    have hA3b := nxA_le U a3 hA3.2
    generalize nxV U a3 3 = m2 at *
    generalize nxA U a3 = a4 at *
    have n3b : ∀ q, M.call 56 [.ptr r 0, .int .i64 3] (HH g r (stG U rt nm rn a3) ++ q) = some (.int .i64 (m2 : Nat), HH g r (stG U rt nm rn a4) ++ q) := n3b
    have w1 : IntKind.wrap .i64 ((m : Int) + (m2 : Int)) = (m : Int) + (m2 : Int) := wrap64 (by omega) (by omega)
    have hnm2 : ∀ e e' : AE, (HH g r e)[g.length + 1]? = (HH g r e')[g.length + 1]? := fun e e' => by
     rw [List.getElem?_eq_none (by simp), List.getElem?_eq_none (by simp)]
    simp [-Int.natCast_add, wJ44_3, s0, s1, s4, n5, n3, n3b, w1]
    have ht7 : times7 (m : Int) ((m : Int) + (m2 : Int)) = true := by
     simp only [times7, decide_eq_true_eq]
     omega
    refine J2 a4 m (m + m2) _ hd5 (by omega) (by omega) hA3b.2 ht7 ?_ ?_ ?_ ?_ _ ?_ <;> simp [s0, s1, s4, hQ']
   | v + 5, hv => omega
  -- behind the first number
  have J4 : ∀ (K : Nat) (σ : Slots), (K = 4 ∨ K = 10 ∧ deep ≤ 5 ∧ a < U.length) → σ 0 = .ptr r 0 → σ 1 = .int .i64 (deep : Nat) → σ 4 = .ptr g.length 0 → σ 5 = .int .i64 (K : Nat) → Wp M J44_4 Q σ (HH g r (stG U rt nm rn a) ++ [.cells z7]) := by
   intro K σ hK s0 s1 s4 s5
   have nk := nx a K ha (by omega) (by omega)
   have hv := nxV_lt U a (b := K) (by omega)
   have hA := nxA_le U a ha
   have hA10 : K = 10 → nxA U a = a + 1 := fun e => by unfold nxA; rw [if_pos (by omega)]
   generalize nxV U a K = v at *
   generalize nxA U a = a1 at *
   have nk : ∀ q, M.call 56 [.ptr r 0, .int .i64 (K : Nat)] (HH g r (stG U rt nm rn a) ++ q) = some (.int .i64 (v : Nat), HH g r (stG U rt nm rn a1) ++ q) := nk
   have e1n : ∀ (a : Nat) q, (HH g r (stG U rt nm rn a) ++ q)[r]? = some (.cells [.list 1 (U.map fun j => .int .u16 (j : Nat)) rt, .int .i64 a, .list 1 (nm.map AV.str) rn]) := fun a q => e1 _ q
   have same : ∀ (a a' : Nat) q, sameC (HH g r (stG U rt nm rn a) ++ q) (HH g r (stG U rt nm rn a') ++ q) r 2 = true := fun a a' q => by
    unfold sameC cellOf
    rw [e1n, e1n]
    simp
    omega
   unfold z7
   have hv10 : v < 10 := by omega
   match v, hv10 with
   | 0, _ =>
    by_cases hn0 : nm = []
    ·subst hn0
     simp [wJ44_4, s0, s1, s4, s5, nk, e1n]
     exact fin _ _ a1 _ (.mk 2 [98] 0 0 0 0 true []) (by rw [mk_encL]; rfl) (by simp [s4]) (leaf_GR hd (by decide) (fun e => absurd e (by decide)) rfl (by decide) (by omega) hA.2)
    ·have hpos : 1 ≤ nm.length := by
      cases nm with
      | nil => exact absurd rfl hn0
      | cons x l => simp
     have n6 := nx a1 nm.length hA.2 hpos hN
     have hv6 := nxV_lt U a1 (b := nm.length) hpos
     have hA6 := nxA_le U a1 hA.2
     generalize nxV U a1 nm.length = w at *
     generalize nxA U a1 = a2 at *
     have n6 : ∀ q, M.call 56 [.ptr r 0, .int .i64 (nm.length : Nat)] (HH g r (stG U rt nm rn a1) ++ q) = some (.int .i64 (w : Nat), HH g r (stG U rt nm rn a2) ++ q) := n6
     obtain ⟨s, es⟩ : ∃ s, nm[w]? = some s := ⟨_, List.getElem?_eq_getElem hv6⟩
     obtain ⟨hs1, hs2⟩ := hM s (List.mem_of_getElem? es)
     have hposI : (0 : Int) < nm.length := by omega
     simp [-getElem?_pos, -Int.natCast_add, wJ44_4, s0, s1, s4, s5, nk, e1n, n6, same, es, hposI, hv6, Nat.add_assoc]
     rw [if_pos (show 0 < nm.length from hpos)]
     exact fin _ _ a2 _ (.mk 1 s 0 0 0 0 true []) (by rw [mk_encL]; rfl) (by simp [s4]) (leaf_GR hd (by simp [aloneP, Tr.k, Tr.s, Tr.lo, Tr.hi, Tr.mn, Tr.mx, Tr.kids, hs1]) (fun _ => List.mem_of_getElem? es) rfl hs2 (by omega) hA6.2)
   | 1, _ =>
    have n6 := nx a1 6 hA.2 (by omega) (by omega)
    have hv6 := nxV_lt U a1 (b := 6) (by omega)
    have hA6 := nxA_le U a1 hA.2
    generalize nxV U a1 6 = w at *
    generalize nxA U a1 = a2 at *
    have n6 : ∀ q, M.call 56 [.ptr r 0, .int .i64 6] (HH g r (stG U rt nm rn a1) ++ q) = some (.int .i64 (w : Nat), HH g r (stG U rt nm rn a2) ++ q) := n6
    match w, hv6 with
    | 0, _ =>
     simp [wJ44_4, s0, s1, s4, s5, nk, n6, Nat.add_assoc]
     refine fin _ _ a2 _ (.mk 2 [97] 0 0 0 0 true []) (by rw [mk_encL]; rfl) (by simp [s4]) (leaf_GR hd (by decide) (fun e => absurd e (by decide)) rfl (by decide) (by omega) hA6.2)
    | 1, _ =>
     simp [wJ44_4, s0, s1, s4, s5, nk, n6, Nat.add_assoc]
     refine fin _ _ a2 _ (.mk 2 [97, 98] 0 0 0 0 true []) (by rw [mk_encL]; rfl) (by simp [s4]) (leaf_GR hd (by decide) (fun e => absurd e (by decide)) rfl (by decide) (by omega) hA6.2)
    | 2, _ =>
     simp [wJ44_4, s0, s1, s4, s5, nk, n6, Nat.add_assoc]
     refine fin _ _ a2 _ (.mk 2 [] 0 0 0 0 true []) (by rw [mk_encL]; rfl) (by simp [s4]) (leaf_GR hd (by decide) (fun e => absurd e (by decide)) rfl (by decide) (by omega) hA6.2)
    | 3, _ =>
     simp [wJ44_4, s0, s1, s4, s5, nk, n6, Nat.add_assoc]
     refine fin _ _ a2 _ (.mk 2 [98, 32, 99] 0 0 0 0 true []) (by rw [mk_encL]; rfl) (by simp [s4]) (leaf_GR hd (by decide) (fun e => absurd e (by decide)) rfl (by decide) (by omega) hA6.2)
    | 4, _ =>
     simp [wJ44_4, s0, s1, s4, s5, nk, n6, Nat.add_assoc]
     refine fin _ _ a2 _ (.mk 2 [65, 45, 98] 0 0 0 0 true []) (by rw [mk_encL]; rfl) (by simp [s4]) (leaf_GR hd (by decide) (fun e => absurd e (by decide)) rfl (by decide) (by omega) hA6.2)
    | 5, _ =>
     simp [wJ44_4, s0, s1, s4, s5, nk, n6, Nat.add_assoc]
     refine fin _ _ a2 _ (.mk 2 [43] 0 0 0 0 true []) (by rw [mk_encL]; rfl) (by simp [s4]) (leaf_GR hd (by decide) (fun e => absurd e (by decide)) rfl (by decide) (by omega) hA6.2)
    | w + 6, hv6 => omega
   | 2, _ =>
    have n6 := nx a1 5 hA.2 (by omega) (by omega)
    have hv6 := nxV_lt U a1 (b := 5) (by omega)
    have hA6 := nxA_le U a1 hA.2
    generalize nxV U a1 5 = w at *
    generalize nxA U a1 = a2 at *
    have n6 : ∀ q, M.call 56 [.ptr r 0, .int .i64 5] (HH g r (stG U rt nm rn a1) ++ q) = some (.int .i64 (w : Nat), HH g r (stG U rt nm rn a2) ++ q) := n6
    match w, hv6 with
    | 0, _ =>
     simp [wJ44_4, s0, s1, s4, s5, nk, n6, Nat.add_assoc]
     refine fin _ _ a2 _ (.mk 3 [97] 0 0 0 0 true []) (by rw [mk_encL]; rfl) (by simp [s4]) (leaf_GR hd (by decide) (fun e => absurd e (by decide)) rfl (by decide) (by omega) hA6.2)
    | 1, _ =>
     simp [wJ44_4, s0, s1, s4, s5, nk, n6, Nat.add_assoc]
     refine fin _ _ a2 _ (.mk 3 [13, 10] 0 0 0 0 true []) (by rw [mk_encL]; rfl) (by simp [s4]) (leaf_GR hd (by decide) (fun e => absurd e (by decide)) rfl (by decide) (by omega) hA6.2)
    | 2, _ =>
     simp [wJ44_4, s0, s1, s4, s5, nk, n6, Nat.add_assoc]
     refine fin _ _ a2 _ (.mk 3 [65] 0 0 0 0 true []) (by rw [mk_encL]; rfl) (by simp [s4]) (leaf_GR hd (by decide) (fun e => absurd e (by decide)) rfl (by decide) (by omega) hA6.2)
    | 3, _ =>
     simp [wJ44_4, s0, s1, s4, s5, nk, n6, Nat.add_assoc]
     refine fin _ _ a2 _ (.mk 3 [0, 255] 0 0 0 0 true []) (by rw [mk_encL]; rfl) (by simp [s4]) (leaf_GR hd (by decide) (fun e => absurd e (by decide)) rfl (by decide) (by omega) hA6.2)
    | 4, _ =>
     simp [wJ44_4, s0, s1, s4, s5, nk, n6, Nat.add_assoc]
     refine fin _ _ a2 _ (.mk 3 [128] 0 0 0 0 true []) (by rw [mk_encL]; rfl) (by simp [s4]) (leaf_GR hd (by decide) (fun e => absurd e (by decide)) rfl (by decide) (by omega) hA6.2)
    | w + 5, hv6 => omega
   | 3, _ =>
    have n6 := nx a1 256 hA.2 (by omega) (by omega)
    have hv6 := nxV_lt U a1 (b := 256) (by omega)
    have hA6 := nxA_le U a1 hA.2
    generalize nxV U a1 256 = lo at *
    generalize nxA U a1 = a2 at *
    have n6 : ∀ q, M.call 56 [.ptr r 0, .int .i64 256] (HH g r (stG U rt nm rn a1) ++ q) = some (.int .i64 (lo : Nat), HH g r (stG U rt nm rn a2) ++ q) := n6
    have n7 := nx a2 (256 - lo) hA6.2 (by omega) (by omega)
    have hv7 := nxV_lt U a2 (b := 256 - lo) (by omega)
    have hA7 := nxA_le U a2 hA6.2
    generalize nxV U a2 (256 - lo) = m at *
    generalize nxA U a2 = a3 at *
    have n7 : ∀ q, M.call 56 [.ptr r 0, .int .i64 ((256 - lo : Nat) : Int)] (HH g r (stG U rt nm rn a2) ++ q) = some (.int .i64 (m : Nat), HH g r (stG U rt nm rn a3) ++ q) := n7
    have w1 : IntKind.wrap .i64 (256 - (lo : Int)) = ((256 - lo : Nat) : Int) := by rw [wrap64 (by omega) (by omega)]; omega
    have w2 : IntKind.wrap .i64 ((lo : Int) + (m : Int)) = ((lo + m : Nat) : Int) := by rw [wrap64 (by omega) (by omega)]; omega
    have w3 : IntKind.wrap .u8 (lo : Int) = ((UInt8.ofNat lo).toNat : Int) := by rw [UInt8.toNat_ofNat', Nat.mod_eq_of_lt (by omega), wrap8 (by omega) (by omega)]
    have w4 : IntKind.wrap .u8 ((lo + m : Nat) : Int) = ((UInt8.ofNat (lo + m)).toNat : Int) := by rw [UInt8.toNat_ofNat', Nat.mod_eq_of_lt (by omega), wrap8 (by omega) (by omega)]
    have hle : (UInt8.ofNat lo).toNat ≤ (UInt8.ofNat (lo + m)).toNat := by
     rw [UInt8.toNat_ofNat', UInt8.toNat_ofNat', Nat.mod_eq_of_lt (by omega), Nat.mod_eq_of_lt (by omega)]
     omega
    generalize UInt8.ofNat lo = L at *
    generalize UInt8.ofNat (lo + m) = H at *
    simp [-Int.natCast_add, wJ44_4, s0, s1, s4, s5, nk, n6, n7, w1, w2, w3, w4, Nat.add_assoc]
    refine fin _ _ a3 _ (.mk 4 [] L H 0 0 true []) (by rw [mk_encL]; rfl) (by simp [s4]) (leaf_GR hd ?_ (fun e => by simp [Tr.k] at e) rfl (by simp [Tr.s]) (by omega) hA7.2)
    simp [aloneP, Tr.k, Tr.s, Tr.lo, Tr.hi, Tr.mn, Tr.mx, Tr.kids]
    exact decide_eq_true hle
   | 4, _ =>
    obtain ⟨hd5, hal⟩ : deep ≤ 5 ∧ a < U.length := by omega
    have hA10 := hA10 (by omega)
    obtain ⟨t, a2, tr, k1, k2, k3, k4⟩ := gsome_ok (rt := rt) (nm := nm) (rn := rn) (r := r) hU hj deep hd5 (ih hd5) 5 (.inl rfl) a1 hA.2 (HH g r (stG U rt nm rn a1) ++ [.cells z7]) (HH_get hlt _) (fun t ht => by have := h1 t ht; simp; omega) (fun t ht => by have := h2 t ht; simp; omega)
    rw [HH_set hlt] at tr
    simp [z7] at tr
    simp [-Int.natCast_add, wJ44_4, wJ44_1, wJ44_0, s0, s1, s4, s5, nk, tr, Nat.add_assoc]
    exact fin _ _ a2 _ t rfl (by simp [s4]) ⟨k1, by omega, by omega, k4⟩
   | 5, _ =>
    obtain ⟨hd5, hal⟩ : deep ≤ 5 ∧ a < U.length := by omega
    have hA10 := hA10 (by omega)
    obtain ⟨t, a2, tr, k1, k2, k3, k4⟩ := gsome_ok (rt := rt) (nm := nm) (rn := rn) (r := r) hU hj deep hd5 (ih hd5) 5 (.inl rfl) a1 hA.2 (HH g r (stG U rt nm rn a1) ++ [.cells z7]) (HH_get hlt _) (fun t ht => by have := h1 t ht; simp; omega) (fun t ht => by have := h2 t ht; simp; omega)
    rw [HH_set hlt] at tr
    simp [z7] at tr
    simp [-Int.natCast_add, wJ44_4, wJ44_1, wJ44_0, s0, s1, s4, s5, nk, tr, Nat.add_assoc]
    exact fin _ _ a2 _ t rfl (by simp [s4]) ⟨k1, by omega, by omega, k4⟩
   | 6, _ =>
    obtain ⟨hd5, hal⟩ : deep ≤ 5 ∧ a < U.length := by omega
    have hA10 := hA10 (by omega)
    obtain ⟨t, a2, tr, k1, k2, k3, k4⟩ := gsome_ok (rt := rt) (nm := nm) (rn := rn) (r := r) hU hj deep hd5 (ih hd5) 5 (.inl rfl) a1 hA.2 (HH g r (stG U rt nm rn a1) ++ [.cells z7]) (HH_get hlt _) (fun t ht => by have := h1 t ht; simp; omega) (fun t ht => by have := h2 t ht; simp; omega)
    rw [HH_set hlt] at tr
    simp [z7] at tr
    simp [-Int.natCast_add, wJ44_4, wJ44_1, wJ44_0, s0, s1, s4, s5, nk, tr, Nat.add_assoc]
    exact fin _ _ a2 _ t rfl (by simp [s4]) ⟨k1, by omega, by omega, k4⟩
   | 7, _ =>
    obtain ⟨hd5, hal⟩ : deep ≤ 5 ∧ a < U.length := by omega
    have hA10 := hA10 (by omega)
    obtain ⟨t, a2, tr, k1, k2, k3, k4⟩ := gsome_ok (rt := rt) (nm := nm) (rn := rn) (r := r) hU hj deep hd5 (ih hd5) 6 (.inr rfl) a1 hA.2 (HH g r (stG U rt nm rn a1) ++ [.cells z7]) (HH_get hlt _) (fun t ht => by have := h1 t ht; simp; omega) (fun t ht => by have := h2 t ht; simp; omega)
    rw [HH_set hlt] at tr
    simp [z7] at tr
    simp [-Int.natCast_add, wJ44_4, wJ44_1, wJ44_0, s0, s1, s4, s5, nk, tr, Nat.add_assoc]
    exact fin _ _ a2 _ t rfl (by simp [s4]) ⟨k1, by omega, by omega, k4⟩
   | 8, _ =>
    obtain ⟨hd5, hal⟩ : deep ≤ 5 ∧ a < U.length := by omega
    have hA10 := hA10 (by omega)
    obtain ⟨t, a2, tr, k1, k2, k3, k4⟩ := gsome_ok (rt := rt) (nm := nm) (rn := rn) (r := r) hU hj deep hd5 (ih hd5) 6 (.inr rfl) a1 hA.2 (HH g r (stG U rt nm rn a1) ++ [.cells z7]) (HH_get hlt _) (fun t ht => by have := h1 t ht; simp; omega) (fun t ht => by have := h2 t ht; simp; omega)
    rw [HH_set hlt] at tr
    simp [z7] at tr
    simp [-Int.natCast_add, wJ44_4, wJ44_1, wJ44_0, s0, s1, s4, s5, nk, tr, Nat.add_assoc]
    exact fin _ _ a2 _ t rfl (by simp [s4]) ⟨k1, by omega, by omega, k4⟩
   | 9, _ =>
    obtain ⟨hd5, hal⟩ : deep ≤ 5 ∧ a < U.length := by omega
    have hA10 := hA10 (by omega)
    have J := J3 a1
    unfold z7 at J
    simp [-Int.natCast_add, wJ44_4, wJ44_1, wJ44_0, s0, s1, s4, s5, nk, Nat.add_assoc]
    refine J _ hd5 (by omega) hA.2 ?_ ?_ ?_ _ ?_ <;> simp [s0, s1, s4]
   | v + 10, hv => omega
  unfold stG at e1
  have hdI : ((6 : Int) ≤ (deep : Int)) = (6 ≤ deep) := by apply propext; omega
  by_cases c1 : 6 ≤ deep
  ·have c1' : (6 : Int) ≤ (deep : Int) := by omega
   simp [wB44, c1']
   refine J4 4 _ (.inl rfl) ?_ ?_ ?_ ?_ <;> simp
  ·have c1' : ¬ (6 : Int) ≤ (deep : Int) := by omega
   by_cases c2 : U.length ≤ a
   ·have c2' : (U.length : Int) ≤ (a : Int) := by omega
    unfold stG at J4 ⊢
    simp [wB44, c1', e1, c2, c2']
    refine J4 4 _ (.inl rfl) ?_ ?_ ?_ ?_ <;> simp
   ·have c2' : ¬ (U.length : Int) ≤ (a : Int) := by omega
    unfold stG at J4 ⊢
    simp [wB44, c1', e1, c2, c2']
    refine J4 10 _ (.inr ⟨rfl, by omega, by omega⟩) ?_ ?_ ?_ ?_ <;> simp
 obtain ⟨x, hx, t, a', rfl, q⟩ := key
 exact ⟨t, a', by rw [hx, HH_set0], q⟩
include hU hj hN hM in
theorem gtree_ok : ∀ (k deep : Nat), 6 - deep ≤ k → deep ≤ 6 → TreeC U rt nm rn r deep
 | 0, deep, h, hd => gtree_step hU hj hN hM deep hd fun h5 => by omega
 | k + 1, deep, h, hd => gtree_step hU hj hN hM deep hd fun h5 => gtree_ok k (deep + 1) (by omega) (by omega)
end
theorem grown_okN (U : List Nat) (hU : U.length ≤ 9223372036854775807) (hj : ∀ j ∈ U, j ≤ 65535) (rt : Rt) (nm : List (List UInt8)) (rn : Rt) (hN : nm.length ≤ 1000) (hM : ∀ s ∈ nm, namedP s = true ∧ s.length ≤ 3) (h0 : Heap) (hrt : ∀ t, rt = .tok t → t < h0.length) (hrn : ∀ t, rn = .tok t → t < h0.length) :
  ∃ t : Tr, M.call 23 [.list 1 (U.map fun j => .int .u16 (j : Nat)) rt, .list 1 (nm.map AV.str) rn] h0 = some (t.enc, h0) ∧ fitsN nm 7 t = true ∧ t.wt ≤ 60 * U.length + 30 := by
 obtain ⟨t, a', tr, k1, k2, k3, k4⟩ := gtree_ok (U := U) (rt := rt) (nm := nm) (rn := rn) (r := h0.length + 1) hU hj hN hM 6 0 (by omega) (by omega) 0 (h0 ++ [.cells z7, stG U rt nm rn 0]) (Nat.zero_le _) (by simp) (fun t ht => by have := hrt t ht; simp; omega) (fun t ht => by have := hrn t ht; simp; omega)
 refine ⟨t, call_of tab23 rfl (callF_wp ?_), k1, by omega⟩
 unfold stG z7 at tr
 simp at tr
 simp [wB23, tr, Nat.add_assoc]
end Go.Proofs.YtcflbdikkcpiaaaGreatDoor
