/-
  abnf: the reader's own steps.
-/
import Derived.Test.YtmmapbhhkmchcaaDoorA4
set_option linter.unusedVariables false
set_option linter.unusedSimpArgs false
namespace Go.Proofs.YtmmapbhhkmchcaaDoor
open Go Go.Am

/-- Is the next token one of these? -/
def nextB (l : List Tok) (a : Nat) (off : Bool) (ks : List UInt8) : Bool := !off && (match l[a]? with | some t => ks.contains t.kind | none => false)
section
variable {l : List Tok} {rt : Rt} {r : Nat}
def InvNx (l : List Tok) (rt : Rt) (r a : Nat) (ks : List UInt8) (rk : Rt) (h0 : Heap) (k : Nat) (σ : Slots) (h : Heap) : Prop := ∃ i, i ≤ ks.length ∧ k = ks.length - i ∧ nextB l a false ks = nextB l a false (ks.drop i) ∧ σ 0 = .ptr r 0 ∧ σ 23 = .list 1 (ofBytes ks) rk ∧ σ 24 = .int .i64 ks.length ∧ σ 25 = .int .i64 i ∧ h = h0
theorem next_ok (hl : l.length ≤ 1000000000) (a : Nat) (off : Bool) (ks : List UInt8) (hk : ks.length ≤ 1000) (rk : Rt) (h : Heap) (hr : h[r]? = some (stC l rt a off)) : M.call 57 [.ptr r 0, .list 1 (ofBytes ks) rk] h = some (.bool (nextB l a off ks), h) := by
  refine call_of tab57 rfl (callF_wp ?_)
  unfold stC at hr
  cases off
  · by_cases hlt : a < l.length
    · obtain ⟨t, et⟩ : ∃ t, l[a]? = some t := ⟨_, List.getElem?_eq_getElem hlt⟩
      have hlt' : ¬ (l.length : Int) ≤ a := by omega
      have hlt'' : ¬ l.length ≤ a := by omega
      simp [-getElem?_pos, wB57, hr, hlt', hlt'']
      refine Wp.loop (InvNx l rt r a ks rk h) ?_ (n := ks.length) ⟨0, by omega, by omega, by simp, by simp, by simp, by simp, by simp, rfl⟩
      rintro k σ h' ⟨i, hi, rfl, hn, s0, s23, s24, s25, rfl⟩
      by_cases hlk : i < ks.length
      · obtain ⟨c, ec⟩ : ∃ c, ks[i]? = some c := ⟨_, List.getElem?_eq_getElem hlk⟩
        have hd := drop_at ec
        have e64 : IntKind.wrap .i64 ((i : Int) + 1) = ((i + 1 : Nat) : Int) := by rw [wrap64 (by omega) (by omega)]; rfl
        have ee : ((t.kind.toNat : Int) = c.toNat) = (t.kind = c) := propext ⟨fun h => UInt8.toNat_inj.1 (by omega), fun h => by rw [h]⟩
        by_cases he : t.kind = c
        · have : nextB l a false ks = true := by rw [hn, hd]; simp [nextB, et, he]
          simp [-getElem?_pos, -Int.natCast_add, wL57_0, s0, s23, s24, s25, hr, hlk, ec, hlt, et, tokA, tokL, ee, he, this]
        · simp [-getElem?_pos, -Int.natCast_add, wL57_0, s0, s23, s24, s25, hr, hlk, ec, hlt, et, tokA, tokL, ee, he, e64]
          refine ⟨ks.length - (i + 1), by omega, i + 1, by omega, rfl, ?_, by simp [s0], by simp [s23], by simp [s24], by simp, rfl⟩
          rw [hn, hd]
          simp [nextB, et, he]
      · have : nextB l a false ks = false := by
          rw [hn, List.drop_eq_nil_of_le (by omega)]
          simp [nextB, et]
        simp [wL57_0, wK57_0, s0, s23, s24, s25, hlk, this]
    · have hlt' : (l.length : Int) ≤ a := by omega
      have hlt'' : l.length ≤ a := by omega
      simp [-getElem?_pos, wB57, hr, hlt', hlt'', nextB]
  · simp [-getElem?_pos, wB57, hr, nextB]

theorem tok_zero : tokA {} = .agg [.int .u8 0, .int .i64 0, .str [], .int .i64 0, .int .i64 0, .int .u8 0, .int .u8 0] := by simp [tokA, tokL]
/-- The next token, which must be one of these. -/
theorem take_no (hl : l.length ≤ 1000000000) (a : Nat) (off : Bool) (ks : List UInt8) (hk : ks.length ≤ 1000) (rk : Rt) (h : Heap) (hr : h[r]? = some (stC l rt a off)) (hrt : ∀ t, rt = .tok t → t < h.length) (hn : nextB l a off ks = false) :
    M.call 32 [.ptr r 0, .list 1 (ofBytes ks) rk] h = some (tokA {}, h.set r (stC l rt a true)) := by
  obtain ⟨g, rfl, hlt⟩ := HH_of hr
  rw [HH_set0]
  have nx : ∀ q, M.call 57 [.ptr r 0, .list 1 (ofBytes ks) rk] (HH g r (stC l rt a off) ++ q) = some (.bool false, HH g r (stC l rt a off) ++ q) := fun q => by
    rw [next_ok hl a off ks hk rk _ (HH_get hlt q), hn]
  have hlow := stC_low (l := l) (a := a) (off := true) (by simpa using hrt)
  have e1 := fun (e : AE) q => HH_get (g := g) (r := r) (e := e) hlt q
  have e2 := fun (e e' : AE) q => HH_set (g := g) (r := r) (e := e) hlt e' q
  refine call_of tab32 rfl (callF_wp ?_)
  unfold stC at *
  simp [wB32, nx, e1, e2]
  rw [finish_HH (by rw [List.take_left' (by simp)]) hlt hlow]
  simp [tok_zero]
theorem take_yes (hl : l.length ≤ 1000000000) (a : Nat) (ks : List UInt8) (hk : ks.length ≤ 1000) (rk : Rt) (t : Tok) (et : l[a]? = some t) (h : Heap) (hr : h[r]? = some (stC l rt a false)) (hrt : ∀ t, rt = .tok t → t < h.length) (hn : ks.contains t.kind = true) :
    M.call 32 [.ptr r 0, .list 1 (ofBytes ks) rk] h = some (tokA t, h.set r (stC l rt (a + 1) false)) := by
  obtain ⟨g, rfl, hlt⟩ := HH_of hr
  rw [HH_set0]
  have nx : ∀ q, M.call 57 [.ptr r 0, .list 1 (ofBytes ks) rk] (HH g r (stC l rt a false) ++ q) = some (.bool true, HH g r (stC l rt a false) ++ q) := fun q => by
    rw [next_ok hl a false ks hk rk _ (HH_get hlt q)]
    simp [nextB, et, hn]
    simpa using hn
  have hlow := stC_low (l := l) (a := a + 1) (off := false) (by simpa using hrt)
  have e1 := fun (e : AE) q => HH_get (g := g) (r := r) (e := e) hlt q
  have e2 := fun (e e' : AE) q => HH_set (g := g) (r := r) (e := e) hlt e' q
  have hal := (List.getElem?_eq_some_iff.1 et).1
  have w1 : IntKind.wrap .i64 ((a : Int) + 1) = ((a + 1 : Nat) : Int) := by rw [wrap64 (by omega) (by omega)]; rfl
  have w2 : IntKind.wrap .i64 (((a + 1 : Nat) : Int) - 1) = (a : Int) := by rw [wrap64 (by omega) (by omega)]; omega
  refine call_of tab32 rfl (callF_wp ?_)
  unfold stC at *
  simp [-getElem?_pos, -Int.natCast_add, wB32, nx, e1, e2, w1, w2, hal, et, tokA, tokL]
  rw [finish_HH (by rw [List.take_left' (by simp)]) hlt hlow]
  simp [tokA, tokL]
end
theorem or32u (c : UInt8) : bitsOp .or .u8 (c.toNat : Int) 32 = ((c ||| 32).toNat : Int) := by
  have h : ∀ n : Fin 256, bitsOp .or .u8 ((UInt8.ofNat n).toNat : Int) 32 = ((UInt8.ofNat n ||| 32).toNat : Int) := by decide +kernel
  exact forall_u8 (p := fun c => bitsOp .or .u8 (c.toNat : Int) 32 = ((c ||| 32).toNat : Int)) h c
theorem set_same' {h : Heap} {r : Nat} {e : AE} (hr : h[r]? = some e) : h.set r e = h := by
  obtain ⟨h1, h2⟩ := List.getElem?_eq_some_iff.1 hr
  rw [← h2]; simp
theorem set_same {cur : List UInt8} {i : Nat} {c : UInt8} (h : cur[i]? = some c) : cur.set i c = cur := by
  obtain ⟨h1, h2⟩ := List.getElem?_eq_some_iff.1 h
  rw [← h2]; simp
theorem ofBytes_set {cur : List UInt8} {i : Nat} (h : i < cur.length) (x : UInt8) : ofBytes (cur.set i x) = ofBytes (cur.take i) ++ .int .u8 x.toNat :: ofBytes (cur.drop (i + 1)) := by
  rw [List.set_eq_take_append_cons_drop, if_pos h]
  simp [ofBytes]
def InvSm (s : List UInt8) (h0 : Heap) (k : Nat) (σ : Slots) (h : Heap) : Prop := ∃ i, i ≤ s.length ∧ k = s.length - i ∧ σ 3 = .gl 1 h0.length s.length ∧ σ 8 = .gl 1 h0.length s.length ∧ σ 9 = .int .i64 s.length ∧ σ 10 = .int .i64 i ∧ h = h0 ++ [.grow 1 (ofBytes (smallP (s.take i) ++ s.drop i))]
theorem small_ok (s : List UInt8) (hs : s.length ≤ 1000000000) (h0 : Heap) : M.call 34 [.str s] h0 = some (.str (smallP s), h0) := by
  refine call_of tab34 rfl (callF_wp ?_)
  simp [wB34]
  refine Wp.loop (InvSm s h0) ?_ (n := s.length) ⟨0, by omega, by omega, by simp, by simp, by simp, by simp, by simp [smallP]⟩
  rintro k σ h ⟨i, hi, rfl, s3, s8, s9, s10, rfl⟩
  by_cases hlt : i < s.length
  · obtain ⟨c, ec⟩ : ∃ c, s[i]? = some c := ⟨_, List.getElem?_eq_getElem hlt⟩
    have hd := drop_at ec
    have e64 : IntKind.wrap .i64 ((i : Int) + 1) = ((i + 1 : Nat) : Int) := by rw [wrap64 (by omega) (by omega)]; rfl
    have hlen : (smallP (s.take i)).length = i := by simp [smallP]; omega
    generalize hcur : smallP (s.take i) ++ s.drop i = cur
    have hcl : cur.length = s.length := by rw [← hcur]; simp [hlen]; omega
    have hcg : cur[i]? = some c := by rw [← hcur, List.getElem?_append_right (by omega), hlen, hd]; simp
    have hnext : smallP (s.take (i + 1)) ++ s.drop (i + 1) = cur.set i (smC c) := by
      rw [← hcur, List.take_add_one, ec, hd]
      have : (smallP (s.take i) ++ c :: s.drop (i + 1)).set i (smC c) = smallP (s.take i) ++ smC c :: s.drop (i + 1) := by
        rw [List.set_append_right _ _ (by omega), hlen]
        simp
      rw [this]
      simp [smallP]
    have fin : ∀ (σ' : Slots) (g : Heap), σ' 3 = σ 3 → σ' 8 = σ 8 → σ' 9 = σ 9 → σ' 10 = .int .i64 ((i + 1 : Nat) : Int) → g = h0 ++ [.grow 1 (ofBytes (cur.set i (smC c)))] → ∃ m, m < s.length - i ∧ InvSm s h0 m σ' g := by
      intro σ' g q1 q2 q3 q4 q5
      exact ⟨s.length - (i + 1), by omega, i + 1, by omega, rfl, by rw [q1, s3], by rw [q2, s8], by rw [q3, s9], q4, by rw [q5, hnext]⟩
    by_cases a1 : 65 ≤ c.toNat
    · by_cases a2 : c.toNat ≤ 90
      · have hsm : smC c = c ||| 32 := by simp [smC, a1, a2]
        simp [-getElem?_pos, -Int.natCast_add, wL34_0, s3, s8, s9, s10, hlt, hcl, hcg, lit_le, le_lit, a1, a2, e64, or32u]
        exact ⟨by omega, fin _ _ (by simp) (by simp) (by simp) (by simp) (by rw [hsm, ofBytes_set (by omega)]; try simp)⟩
      · have hsm : smC c = c := by simp [smC, a2]
        simp [-getElem?_pos, -Int.natCast_add, wL34_0, s3, s8, s9, s10, hlt, hcl, hcg, lit_le, le_lit, a1, a2, e64]
        exact fin _ _ (by simp) (by simp) (by simp) (by simp) (by rw [hsm, set_same hcg])
    · have hsm : smC c = c := by simp [smC, a1]
      simp [-getElem?_pos, -Int.natCast_add, wL34_0, s3, s8, s9, s10, hlt, hcl, hcg, lit_le, le_lit, a1, e64]
      exact fin _ _ (by simp) (by simp) (by simp) (by simp) (by rw [hsm, set_same hcg])
  · have : i = s.length := by omega
    subst this
    simp [wL34_0, wK34_0, s3, s8, s9, s10]
    have : (smallP s).length = s.length := by simp [smallP]
    exact ⟨by omega, List.take_of_length_le (by omega)⟩
/-- A tree's seven cells, folded. -/
theorem take_encL (t : Tr) : t.encL.take 7 = t.encL := List.take_of_length_le (by simp)
section
variable {l : List Tok} {rt : Rt} {r : Nat}
/-- Cells that would be a tree. -/
structure Cell7 (n : Nat) where
  k : Int
  s : List UInt8
  lo : Int
  hi : Int
  mn : Int
  mx : Int
  kids : AV
def Cell7.cs {n : Nat} (c : Cell7 n) : List AV := [.int .u8 c.k, .str c.s, .int .u8 c.lo, .int .u8 c.hi, .int .i64 c.mn, .int .i64 c.mx, c.kids]
/-- made: a tree that is right, alone, or where there was an error already. -/
theorem made_yes (c : Cell7 0) (a : Nat) (off : Bool) (h : Heap) (hr : h[r]? = some (stC l rt a off)) (hcl : ∀ q, clean1 q h.length c.kids = some c.kids) (hal : off = false → ∀ h' : Heap, h'.take h.length = h → M.call 24 [.agg c.cs] h' = some (.bool true, h')) :
    M.call 33 [.ptr r 0, .agg c.cs] h = some (.agg c.cs, h) := by
  refine call_of tab33 rfl (callF_wp ?_)
  have hrl := (List.getElem?_eq_some_iff.1 hr).1
  have e1 : ∀ q : Heap, (h ++ q)[r]? = some (stC l rt a off) := fun q => by rw [List.getElem?_append_left hrl]; exact hr
  have hal' : off = false → ∀ q : Heap, M.call 24 [.agg c.cs] (h ++ q) = some (.bool true, h ++ q) := fun ho q => hal ho _ (by simp)
  unfold stC at e1
  unfold Cell7.cs at *
  cases off
  · simp [wB33, e1, hal' rfl, cleans_cons, hcl]
  · simp [wB33, e1, cleans_cons, hcl]
theorem made_no (c : Cell7 0) (hl : l.length ≤ 1000000000) (a : Nat) (ha : a < l.length) (h : Heap) (hr : h[r]? = some (stC l rt (a + 1) false)) (hrt : ∀ t, rt = .tok t → t < h.length) (hcl : ∀ q, clean1 q h.length c.kids = some c.kids) (hal : ∀ h' : Heap, h'.take h.length = h → M.call 24 [.agg c.cs] h' = some (.bool false, h')) :
    M.call 33 [.ptr r 0, .agg c.cs] h = some (.agg c.cs, h.set r (stC l rt a true)) := by
  obtain ⟨g, rfl, hlt⟩ := HH_of hr
  rw [HH_set0]
  refine call_of tab33 rfl (callF_wp ?_)
  have hal' : ∀ q : Heap, M.call 24 [.agg c.cs] (HH g r (stC l rt (a + 1) false) ++ q) = some (.bool false, HH g r (stC l rt (a + 1) false) ++ q) := fun q => hal _ (by simp)
  have hlow := stC_low (l := l) (a := a) (off := true) (by simpa using hrt)
  have e1 := fun (e : AE) q => HH_get (g := g) (r := r) (e := e) hlt q
  have e2 := fun (e e' : AE) q => HH_set (g := g) (r := r) (e := e) hlt e' q
  have w2 : IntKind.wrap .i64 (((a + 1 : Nat) : Int) - 1) = (a : Int) := by rw [wrap64 (by omega) (by omega)]; omega
  rw [HH_len] at hcl
  unfold stC at *
  unfold Cell7.cs at *
  simp [-Int.natCast_add, wB33, e1, e2, hal', w2]
  rw [finish_HH (by rw [List.take_left' (by simp)]) hlt hlow]
  simp [cleans_cons, hcl]
end
theorem clean_trs (q : Heap) (n : Nat) (ts : List Tr) (r : Rt) (h : ∀ t, r = .tok t → t < n) : clean1 q n (.list 7 (ts.map Tr.enc) r) = some (.list 7 (ts.map Tr.enc) r) := by
  rcases r with _ | _ | t
  · simp
  · simp
  · simp [h t rfl]
@[simp] theorem clean_kids (q : Heap) (n : Nat) (ts : List Tr) (b : Bool) : clean1 q n (.list 7 (ts.map Tr.enc) (rtB b)) = some (.list 7 (ts.map Tr.enc) (rtB b)) := clean_trs _ _ _ _ (rtB_low b n)
@[simp] theorem clean_encL (q : Heap) (n : Nat) (t : Tr) : cleans q n t.encL = some t.encL := by
  rw [Tr.encL_eq]
  simp [cleans_cons]
theorem joined_ok (k : UInt8) (ts : List Tr) (hne : ts ≠ []) (rt : Rt) (h : Heap) (hrt : ∀ t, rt = .tok t → t < h.length) : M.call 59 [.int .u8 k.toNat, .list 7 (ts.map Tr.enc) rt] h = some (match ts with | [t] => t.enc | _ => .agg [.int .u8 k.toNat, .str [], .int .u8 0, .int .u8 0, .int .i64 0, .int .i64 0, .list 7 (ts.map Tr.enc) rt], h) := by
  refine call_of tab59 rfl (callF_wp ?_)
  match ts, hne with
  | [t], _ =>
    simp [wB59, Tr.enc, Tr.encL_eq, cleans_cons]
  | x :: y :: q, _ =>
    have h1 : ¬ ((q.length : Int) + 1 + 1 = 1) := by omega
    have h2 := fun q' => clean_trs q' h.length (x :: y :: q) rt hrt
    simp only [List.map_cons] at h2
    simp [wB59, cleans_cons, h1, h2]
end Go.Proofs.YtmmapbhhkmchcaaDoor
