/-
  lex: values.
-/
import Derived.Test.YtmmapbhhkmchcaaDoorS3
set_option linter.unusedVariables false
set_option linter.unusedSimpArgs false
namespace Go.Proofs.YtmmapbhhkmchcaaDoor
open Go Go.Am

def hexC (base : Nat) (c : UInt8) : Bool := decide (nib c < base)
/-- Digits: what they say, and how many. -/
def oneC (base : Nat) (r : List UInt8) : Option (Nat × Nat) :=
  let n := runN (hexC base) r
  if n = 0 ∨ 8 < n then none else some (numN base (r.take n), n)
def baseC (c : UInt8) : Nat := if c = 120 ∨ c = 88 then 16 else if c = 100 ∨ c = 68 then 10 else if c = 98 ∨ c = 66 then 2 else 0
def baseL (s : List UInt8) : Nat := match s with | [] => 0 | c :: _ => baseC c
def dotsP (base : Nat) (s : List UInt8) : Nat → Nat → List UInt8 → Fd
  | 0, _, _ => { err := 15 }
  | f + 1, at_, t =>
    if s[at_]? = some 46 then
      match oneC base (s.drop (at_ + 1)) with
      | none => { err := 15 }
      | some (x, n) => if x ≤ 255 then dotsP base s f (at_ + 1 + n) (t ++ [UInt8.ofNat x]) else { err := 15 }
    else { tok := { kind := 11, text := t }, n := at_ }
def valueP (s : List UInt8) : Fd :=
  match oneC (baseL s.tail) (s.drop 2) with
  | none => { err := 15 }
  | some (lo, n) =>
    if lo ≤ 255 then
      if s[2 + n]? = some 45 then
        match oneC (baseL s.tail) (s.drop (2 + n + 1)) with
        | none => { err := 15 }
        | some (hi, m) => if hi ≤ 255 ∧ lo ≤ hi then { tok := { kind := 12, lo := UInt8.ofNat lo, hi := UInt8.ofNat hi }, n := 2 + n + 1 + m } else { err := 15 }
      else dotsP (baseL s.tail) s (s.length + 1) (2 + n) [UInt8.ofNat lo]
    else { err := 15 }

theorem low_base (c : UInt8) : baseC c = if low c = 120 then 16 else if low c = 100 then 10 else if low c = 98 then 2 else 0 := by
  revert c
  apply forall_u8
  decide +kernel
theorem base_ok (s : List UInt8) (h : Heap) : M.call 69 [.str s] h = some (.int .i64 (baseL s), h) := by
  refine call_of tab69 rfl (callF_wp ?_)
  cases s with
  | nil => simp [wB69, baseL]
  | cons c s =>
    have e := low_base c
    by_cases h1 : low c = 120
    · have h1' : (low c : Int) = 120 := by omega
      simp [wB69, baseL, or32, e, h1, h1']
    · have h1' : ¬ (low c : Int) = 120 := by omega
      by_cases h2 : low c = 100
      · have h2' : (low c : Int) = 100 := by omega
        simp [wB69, baseL, or32, e, h2, h2']
      · have h2' : ¬ (low c : Int) = 100 := by omega
        by_cases h3 : low c = 98
        · have h3' : (low c : Int) = 98 := by omega
          simp [wB69, baseL, or32, e, h3, h3']
        · have h3' : ¬ (low c : Int) = 98 := by omega
          simp [wB69, baseL, or32, e, h1, h2, h3, h1', h2', h3']
theorem baseL_le (s : List UInt8) : baseL s ≤ 16 := by
  unfold baseL baseC
  split
  · omega
  · split
    · omega
    · split
      · omega
      · split <;> omega

theorem value11_ok (c : UInt8) (po base : Nat) (h : Heap) (ho : h[po]? = some (.cells [.int .i64 base])) : M.call 71 [.int .u8 c.toNat, .ptr po 0] h = some (.bool (hexC base c), h) := by
  refine call_of tab71 rfl (callF_wp ?_)
  unfold hexC
  by_cases hlt : nib c < base
  · simp [wB71, nibble_ok, ho, hlt]
  · simp [wB71, nibble_ok, ho, hlt]

theorem wrap_u8 (x : Nat) : IntKind.wrap .u8 (x : Int) = ((x % 256 : Nat) : Int) := by
  simp [IntKind.wrap, IntKind.bits, IntKind.signed]

theorem value1_ok (s : List UInt8) (hs : s.length ≤ 1000000000) (at_ base ps pa po : Nat) (hat : at_ ≤ 1000000002) (hb : base ≤ 16) (h : Heap) (h1 : h[ps]? = some (.cells [.str s])) (h2 : h[pa]? = some (.cells [.int .i64 at_])) (h3 : h[po]? = some (.cells [.int .i64 base])) :
    M.call 70 [.ptr ps 0, .ptr pa 0, .ptr po 0] h = some (match oneC base (s.drop at_) with
      | none => (.tup [.int .u8 0, .bool false], h)
      | some (x, n) => (.tup [.int .u8 ((x % 256 : Nat) : Int), .bool (decide (x ≤ 255))], h.set pa (.cells [.int .i64 ((at_ + n : Nat) : Int)]))) := by
  refine call_of tab70 rfl (callF_wpK ?_)
  have hmin : (if (s.length : Int) < at_ then (s.length : Int) else at_) = ((min at_ s.length : Nat) : Int) := by split <;> omega
  have hmin' : (if s.length < at_ then (s.length : Int) else (at_ : Int)) = ((min at_ s.length : Nat) : Int) := by split <;> omega
  have hml : min at_ s.length ≤ s.length := Nat.min_le_right _ _
  have hdr : s.drop (min at_ s.length) = s.drop at_ := by
    by_cases hl : at_ ≤ s.length
    · rw [Nat.min_eq_left hl]
    · rw [Nat.min_eq_right (by omega), List.drop_of_length_le (by omega), List.drop_of_length_le (by omega)]
  have hr := run_ok (s.drop at_) 71 [.ptr po 0] (hexC base) h (by simp; omega) (fun c _ => value11_ok c po base h h3)
  have hrl := runN_le (hexC base) (s.drop at_)
  simp at hrl
  have hnum := fun (hl : runN (hexC base) (s.drop at_) ≤ 8) => number_ok ((s.drop at_).take (runN (hexC base) (s.drop at_))) base h (by simp; omega) hb
  unfold oneC
  simp only
  generalize hn : runN (hexC base) (s.drop at_) = n at *
  by_cases h0 : n = 0
  · subst h0
    simp [wB70, h1, h2, hmin', hml, hdr, hr]
  · by_cases h8 : 8 < n
    · have h8' : (8 : Int) < n := by omega
      have h0' : ¬ (n : Int) = 0 := by omega
      simp [wB70, h1, h2, hmin', hml, hdr, hr, h0, h8, h0', h8']
    · have h8' : ¬ (8 : Int) < n := by omega
      have h0' : ¬ (n : Int) = 0 := by omega
      have hnum' := hnum (by omega)
      have hle : at_ + n ≤ s.length := by omega
      have w1 : IntKind.wrap .i64 ((at_ : Int) + n) = ((at_ + n : Nat) : Int) := by rw [wrap64 (by omega) (by omega)]; simp
      have dt : (s.take (at_ + n)).drop at_ = (s.drop at_).take n := by rw [List.drop_take]; congr 1; omega
      have z1 : 0 ≤ (at_ : Int) + n := by omega
      have z2 : (at_ : Int) + n ≤ s.length := by omega
      have z3 : ((at_ : Int) + n).toNat = at_ + n := by omega
      simp [wB70, h1, h2, h3, z1, z2, z3, hmin', hml, hdr, hr, h0, h8, h0', h8', w1, hle, dt, hnum', wrap_u8]
      omega

def zF : List AV := [.int .u8 0, .int .i64 0, .str [], .int .i64 0, .int .i64 0, .int .u8 0, .int .u8 0, .int .i64 0, .int .i64 0]
def InvV (s : List UInt8) (base : Nat) (res : Fd) (h0 : Heap) (k : Nat) (σ : Slots) (h : Heap) : Prop := ∃ at_ f t r, at_ ≤ s.length ∧ k = s.length - at_ ∧ s.length + 1 ≤ at_ + f ∧ t.length ≤ at_ ∧ dotsP base s f at_ t = res ∧
  σ 1 = .ptr h0.length 0 ∧ σ 2 = .ptr (h0.length + 1) 0 ∧ σ 4 = .ptr (h0.length + 3) 0 ∧ σ 6 = .ptr (h0.length + 4) 0 ∧ σ 5 = .fn 70 [.ptr h0.length 0, .ptr (h0.length + 3) 0, .ptr (h0.length + 2) 0] ∧ σ 11 = .list 1 (ofBytes t) r ∧ Ow (h0.length + 5) h 1 5 r t.length ∧
  h.take h0.length = h0 ∧ h[h0.length]? = some (.cells [.str s]) ∧ h[h0.length + 1]? = some (.cells zF) ∧ h[h0.length + 2]? = some (.cells [.int .i64 base]) ∧ h[h0.length + 3]? = some (.cells [.int .i64 at_]) ∧ h[h0.length + 4]? = some (.cells (tokL {} ++ [.int .i64 0, .int .i64 15]))

theorem oneC_len {base : Nat} {r : List UInt8} {x n : Nat} (h : oneC base r = some (x, n)) : 1 ≤ n ∧ n ≤ r.length := by
  unfold oneC at h
  simp only at h
  split at h
  · cases h
  · simp only [Option.some.injEq, Prod.mk.injEq] at h
    have := runN_le (hexC base) r
    omega

theorem value_loop (s : List UInt8) (hs : s.length ≤ 1000000000) (base : Nat) (hb : base ≤ 16) (res : Fd) (h0 : Heap) (Q : Ex → Slots → Heap → Prop)
    (hQ : Q = fun e σ h => isEnd e ∧ ∃ vs, resVals σ h [ARes.cell 2 (some 9)] = some vs ∧ finish h0 h (oneOf vs) = some (fdA res, h0)) (n : Nat) (σ : Slots) (h : Heap) (hI : InvV s base res h0 n σ h) :
    Wp M (.loop L51_0) (blkQ 0 (thenQ (Wp M K51_0 Q) Q)) σ h := by
  refine Wp.loop (InvV s base res h0) ?_ hI
  clear hI
  rintro k σ h ⟨a, f, t, r, ha, rfl, hf, htl, hd, s1, s2, s4, s6, s5, s11, ow, ht, g0, g1, g2, g3, g4⟩
  have l4 := lt_of_get g4
  have ft : ∀ e, (h.set (h0.length + 1) e).take h0.length = h0 := fun e => by rw [take_set (by omega), ht]
  have gs : ∀ e, (h.set (h0.length + 1) e)[h0.length + 1]? = some e := fun e => get_set_eq (by omega)
  have ft2 : ∀ e e', ((h.set (h0.length + 3) e').set (h0.length + 1) e).take h0.length = h0 := fun e e' => by rw [take_set (by omega), take_set (by omega), ht]
  have gs2 : ∀ e e', ((h.set (h0.length + 3) e').set (h0.length + 1) e)[h0.length + 1]? = some e := fun e e' => get_set_eq (by simp; omega)
  have q0 : ∀ e, (h.set (h0.length + 3) e)[h0.length]? = some (.cells [.str s]) := fun e => by rw [get_set_ne (by omega)]; exact g0
  have q1 : ∀ e, (h.set (h0.length + 3) e)[h0.length + 1]? = some (.cells zF) := fun e => by rw [get_set_ne (by omega)]; exact g1
  have q2 : ∀ e, (h.set (h0.length + 3) e)[h0.length + 2]? = some (.cells [.int .i64 base]) := fun e => by rw [get_set_ne (by omega)]; exact g2
  have q3 : ∀ e, (h.set (h0.length + 3) e)[h0.length + 3]? = some e := fun e => get_set_eq (by omega)
  have q4 : ∀ e, (h.set (h0.length + 3) e)[h0.length + 4]? = some (.cells (tokL {} ++ [.int .i64 0, .int .i64 15])) := fun e => by rw [get_set_ne (by omega)]; exact g4
  cases f with
  | zero => omega
  | succ f =>
    unfold dotsP at hd
    by_cases h46 : s[a]? = some 46
    · rw [if_pos h46] at hd
      have hlt : a < s.length := (List.getElem?_eq_some_iff.1 h46).1
      have w1 : IntKind.wrap .i64 ((a : Int) + 1) = ((a + 1 : Nat) : Int) := by rw [wrap64 (by omega) (by omega)]; rfl
      have hv := value1_ok s hs (a + 1) base h0.length (h0.length + 3) (h0.length + 2) (by omega) hb (h.set (h0.length + 3) (.cells [.int .i64 ((a + 1 : Nat) : Int)])) (q0 _) (q3 _) (q2 _)
      cases ho : oneC base (s.drop (a + 1)) with
      | none =>
        rw [ho] at hd hv
        simp only at hd hv
        subst hd
        simp [-getElem?_pos, -Int.natCast_add, wL51_0, s1, s2, s4, s6, s5, s11, g0, g1, g2, g3, g4, hlt, h46, w1, hv, q0, q1, q3, q4]
        subst hQ
        simp [zF, tokL, ft2, gs2, finish_of_take (ft2 _ _), fdA, s2]
      | some q =>
        obtain ⟨x, m⟩ := q
        have hm := oneC_len ho
        simp at hm
        rw [ho] at hd hv
        simp only [List.set_set] at hd hv
        have e1 : (a + 1 + m : Nat) ≤ s.length := by omega
        by_cases hx : x ≤ 255
        · rw [if_pos hx] at hd
          have hx' : (x : Int) % 256 = x := by omega
          have hxu : (UInt8.ofNat x).toNat = x := by rw [UInt8.toNat_ofNat', Nat.mod_eq_of_lt (by omega)]
          have ow1 : Ow (h0.length + 5) (h.set (h0.length + 3) (.cells [.int .i64 ((a + 1 + m : Nat) : Int)]) ++ [AE.dead]) 1 5 r t.length := (ow.set (fun _ _ _ e => by rw [g3] at e; cases e)).app _
          obtain ⟨r', g, p1, p2, p3⟩ := app_list (n0 := h0.length + 5) (key := h.length) (sz := 1) (bytes := 1) (e := 5) (h := h.set (h0.length + 3) (.cells [.int .i64 ((a + 1 + m : Nat) : Int)]) ++ [AE.dead]) (xs := ofBytes t) (ys := [AV.int .u8 (x : Int)]) (r := r) (r2 := .full) (by simpa using ow1) (by omega) (by simp) (by simp; omega) (by simp; omega)
          have keep : ∀ (i : Nat) (x : AE), (h.set (h0.length + 3) (.cells [.int .i64 ((a + 1 + m : Nat) : Int)]))[i]? = some x → (∀ s m f, x ≠ .tok s m f) → i < h.length → g[i]? = some x := fun i x hi hx hl => p3.keep ow1 (get_left hi _) hx (by omega)
          have htg : g.take h0.length = h0 := by rw [p3.takeLe (by omega), take_app (by simp; omega), take_set (by omega), ht]
          simp [-getElem?_pos, -Int.natCast_add, wL51_0, s1, s2, s4, s6, s5, s11, g0, g1, g2, g3, g4, hlt, h46, w1, hv, q0, q1, q3, q4, hx, hx']
          rw [p1]
          simp
          refine ⟨s.length - (a + 1 + m), by omega, a + 1 + m, f, t ++ [UInt8.ofNat x], r', e1, rfl, by omega, by simp; omega, hd, by simp [s1], by simp [s2], by simp [s4], by simp [s6], by simp [s5], by simp [ofBytes, -UInt8.toNat_ofNat', hxu], by simpa using p2, htg,
            keep _ _ (q0 _) (by simp) (by omega), keep _ _ (q1 _) (by simp) (by omega), keep _ _ (q2 _) (by simp) (by omega), keep _ _ (q3 _) (by simp) (by omega), keep _ _ (q4 _) (by simp) (by omega)⟩
        · rw [if_neg hx] at hd
          subst hd
          simp [-getElem?_pos, -Int.natCast_add, wL51_0, s1, s2, s4, s6, s5, s11, g0, g1, g2, g3, g4, hlt, h46, w1, hv, q0, q1, q3, q4, hx]
          subst hQ
          simp [zF, tokL, ft2, gs2, finish_of_take (ft2 _ _), fdA, s2]
    · rw [if_neg h46] at hd
      subst hd
      cases hsa : s[a]? with
      | none =>
        have hge : ¬ a < s.length := fun h => by rw [List.getElem?_eq_getElem h] at hsa; cases hsa
        simp [-getElem?_pos, wL51_0, wK51_0, s1, s2, s4, s6, s5, s11, g0, g1, g2, g3, g4, hge]
        subst hQ
        simp [zF, tokL, ft, gs, finish_of_take (ft _), fdA, s2]
      | some c =>
        have hlt : a < s.length := (List.getElem?_eq_some_iff.1 hsa).1
        have e46 : ((c.toNat : Int) = 46) = False := by
          show ((c.toNat : Int) = ((46 : Nat) : Int)) = False
          rw [u8_eq c 46 (by omega)]
          apply eq_false
          intro e
          rw [hsa, e] at h46
          exact h46 rfl
        simp [-getElem?_pos, wL51_0, wK51_0, s1, s2, s4, s6, s5, s11, g0, g1, g2, g3, g4, hlt, hsa, e46]
        subst hQ
        simp [zF, tokL, ft, gs, finish_of_take (ft _), fdA, s2]

theorem value_ok (s : List UInt8) (hl1 : 1 ≤ s.length) (hs : s.length ≤ 1000000000) (h0 : Heap) : M.call 51 [.str s] h0 = some (fdA (valueP s), h0) := by
  refine call_of tab51 rfl (callF_wp ?_)
  generalize hres : valueP s = res
  unfold valueP at hres
  have hb := baseL_le s.tail
  have hbase := fun h => base_ok s.tail h
  generalize baseL s.tail = base at *
  have hv := fun (at_ : Nat) (hat : at_ ≤ 1000000002) (h : Heap) h1 h2 h3 => value1_ok s hs at_ base h0.length (h0.length + 3) (h0.length + 2) hat hb h h1 h2 h3
  have hv1 := hv 2 (by omega) (h0 ++ [.cells [.str s], .cells zF, .cells [.int .i64 base], .cells [.int .i64 2], .cells (tokL {} ++ [.int .i64 0, .int .i64 15])]) (by simp) (by simp) (by simp)
  have hl1' : (1 : Int) ≤ s.length := by omega
  cases ho : oneC base (s.drop 2) with
  | none =>
    rw [ho] at hres hv1
    simp only at hres hv1
    subst hres
    simp [zF, tokL] at hv1
    simp [wB51, hbase, hl1, hl1', hv1, Nat.add_assoc, fdA, tokL]
  | some q =>
    obtain ⟨lo, n⟩ := q
    have hn := oneC_len ho
    simp at hn
    rw [ho] at hres hv1
    simp only at hres hv1
    have ha : 2 + n ≤ s.length := by omega
    have ha2 : 2 ≤ 2 + n := by omega
    generalize 2 + n = a at *
    simp [zF, tokL] at hv1
    by_cases hlo : lo ≤ 255
    · rw [if_pos hlo] at hres
      have hlo' : (lo : Int) % 256 = lo := by omega
      have hlou : (UInt8.ofNat lo).toNat = lo := by rw [UInt8.toNat_ofNat', Nat.mod_eq_of_lt (by omega)]
      by_cases h45 : s[a]? = some 45
      · rw [if_pos h45] at hres
        have hlt : a < s.length := (List.getElem?_eq_some_iff.1 h45).1
        have w1 : IntKind.wrap .i64 ((a : Int) + 1) = (a : Int) + 1 := wrap64 (by omega) (by omega)
        have hv2 := hv (a + 1) (by omega) (h0 ++ [.cells [.str s], .cells zF, .cells [.int .i64 base], .cells [.int .i64 ((a + 1 : Nat) : Int)], .cells (tokL {} ++ [.int .i64 0, .int .i64 15])]) (by simp) (by simp) (by simp)
        cases ho2 : oneC base (s.drop (a + 1)) with
        | none =>
          rw [ho2] at hres hv2
          simp only at hres hv2
          subst hres
          simp [zF, tokL] at hv2
          simp [-getElem?_pos, wB51, hbase, hl1, hl1', hv1, hv2, hlo, hlt, h45, w1, Nat.add_assoc, fdA, tokL]
        | some q =>
          obtain ⟨hi, m⟩ := q
          have hm := oneC_len ho2
          simp at hm
          rw [ho2] at hres hv2
          simp only at hres hv2
          simp [zF, tokL] at hv2
          by_cases hhi : hi ≤ 255
          · have hhi' : (hi : Int) % 256 = hi := by omega
            have hhiu : (UInt8.ofNat hi).toNat = hi := by rw [UInt8.toNat_ofNat', Nat.mod_eq_of_lt (by omega)]
            by_cases hle : lo ≤ hi
            · rw [if_pos ⟨hhi, hle⟩] at hres
              subst hres
              have hle' : ¬ (hi : Int) < lo := by omega
              have hle2 : ¬ hi < lo := by omega
              simp [-getElem?_pos, wB51, hbase, hl1, hl1', hv1, hv2, hlo, hlo', hhi, hhi', hle', hle2, hlt, h45, w1, Nat.add_assoc, fdA, tokL]
              omega
            · rw [if_neg (fun h => hle h.2)] at hres
              subst hres
              have hle' : (hi : Int) < lo := by omega
              have hle2 : hi < lo := by omega
              simp [-getElem?_pos, wB51, hbase, hl1, hl1', hv1, hv2, hlo, hlo', hhi, hhi', hle', hle2, hlt, h45, w1, Nat.add_assoc, fdA, tokL]
          · rw [if_neg (fun h => hhi h.1)] at hres
            subst hres
            simp [-getElem?_pos, wB51, hbase, hl1, hl1', hv1, hv2, hlo, hlo', hhi, hlt, h45, w1, Nat.add_assoc, fdA, tokL]
      · rw [if_neg h45] at hres
        generalize hQ : (fun (e : Ex) σ h => isEnd e ∧ ∃ vs, resVals σ h [ARes.cell 2 (some 9)] = some vs ∧ finish h0 h (oneOf vs) = some (fdA res, h0)) = Q
        have fin : ∀ (n : Nat) (σ : Slots) (h : Heap), InvV s base res h0 n σ h → Wp M (.loop L51_0) (blkQ 0 (thenQ (Wp M K51_0 Q) Q)) σ h := fun n σ h hI => value_loop s hs base hb res h0 Q hQ.symm n σ h hI
        have hI : ∀ (σ : Slots), σ 1 = .ptr h0.length 0 → σ 2 = .ptr (h0.length + 1) 0 → σ 4 = .ptr (h0.length + 3) 0 → σ 6 = .ptr (h0.length + 4) 0 → σ 5 = .fn 70 [.ptr h0.length 0, .ptr (h0.length + 3) 0, .ptr (h0.length + 2) 0] → σ 11 = .list 1 [.int .u8 (lo : Int)] .full →
            InvV s base res h0 (s.length - a) σ (h0 ++ [.cells [.str s], .cells zF, .cells [.int .i64 base], .cells [.int .i64 a], .cells (tokL {} ++ [.int .i64 0, .int .i64 15])]) := fun σ t1 t2 t4 t6 t5 t11 =>
          ⟨a, s.length + 1, [UInt8.ofNat lo], .full, by omega, rfl, by omega, by simp; omega, hres, t1, t2, t4, t6, t5, by rw [t11]; simp [ofBytes, -UInt8.toNat_ofNat', hlou], .full, by simp, by simp, by simp, by simp, by simp, by simp⟩
        simp only [zF, tokL] at hI
        cases hsa : s[a]? with
        | none =>
          have hge : ¬ a < s.length := fun h => by rw [List.getElem?_eq_getElem h] at hsa; cases hsa
          simp [-getElem?_pos, wB51, hbase, hl1, hl1', hv1, hlo, hlo', hge, Nat.add_assoc]
          refine fin _ _ _ (hI _ ?_ ?_ ?_ ?_ ?_ ?_) <;> simp
        | some c =>
          have hlt : a < s.length := (List.getElem?_eq_some_iff.1 hsa).1
          have e45 : ((c.toNat : Int) = 45) = False := by
            show ((c.toNat : Int) = ((45 : Nat) : Int)) = False
            rw [u8_eq c 45 (by omega)]
            apply eq_false
            intro e
            rw [hsa, e] at h45
            exact h45 rfl
          simp [-getElem?_pos, wB51, hbase, hl1, hl1', hv1, hlo, hlo', hlt, hsa, e45, Nat.add_assoc]
          refine fin _ _ _ (hI _ ?_ ?_ ?_ ?_ ?_ ?_) <;> simp
    · rw [if_neg hlo] at hres
      subst hres
      simp [wB51, hbase, hl1, hl1', hv1, hlo, Nat.add_assoc, fdA, tokL]
end Go.Proofs.YtmmapbhhkmchcaaDoor
