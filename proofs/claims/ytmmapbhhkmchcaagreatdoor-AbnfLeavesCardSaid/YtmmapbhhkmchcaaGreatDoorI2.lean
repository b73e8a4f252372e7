/-
  AbnfLeaves: leaves, in the machine.
-/
import Derived.Test.YtmmapbhhkmchcaaGreatDoorI1
set_option linter.unusedVariables false
set_option linter.unusedSimpArgs false
namespace Go.Proofs.YtmmapbhhkmchcaaGreatDoor
open Go Go.Am

theorem tok_ext {x y : Tok} (h1 : (x.kind.toNat : Int) = y.kind.toNat) (h2 : x.pos = y.pos) (h3 : x.text = y.text) (h4 : x.mn = y.mn) (h5 : x.mx = y.mx) (h6 : (x.lo.toNat : Int) = y.lo.toNat) (h7 : (x.hi.toNat : Int) = y.hi.toNat) : x = y := by
  cases x; cases y
  simp only at h1 h2 h3 h4 h5 h6 h7
  have k1 := UInt8.toNat_inj.1 (Int.ofNat_inj.1 h1)
  have k6 := UInt8.toNat_inj.1 (Int.ofNat_inj.1 h6)
  have k7 := UInt8.toNat_inj.1 (Int.ofNat_inj.1 h7)
  subst k1; subst k6; subst k7; subst h2; subst h3; subst h4; subst h5
  rfl

def InvTk (a b : List Tok) (r1 r2 : Rt) (h : Heap) (n : Nat) (σ : Slots) (h' : Heap) : Prop := ∃ i, i ≤ b.length ∧ n = b.length - i ∧ σ 0 = .list 7 (a.map tokA) r1 ∧ σ 1 = .list 7 (b.map tokA) r2 ∧ σ 12 = .int .i64 b.length ∧ σ 13 = .int .i64 i ∧ a.take i = b.take i ∧ h' = h
theorem toks_ok (a b : List Tok) (r1 r2 : Rt) (ha : a.length ≤ 1000000000) (h : Heap) : M.call 26 [.list 7 (a.map tokA) r1, .list 7 (b.map tokA) r2] h = some (.bool (decide (a = b)), h) := by
  refine call_of tab26 rfl (callF_wp ?_)
  by_cases hl : a.length = b.length
  · simp [wB26, hl]
    refine Wp.loop (InvTk a b r1 r2 h) ?_ (n := b.length) ⟨0, by omega, by omega, by simp, by simp, by simp, by simp, by simp, rfl⟩
    rintro n σ h' ⟨i, hi, rfl, s0, s1, s12, s13, ht, rfl⟩
    have e64 : IntKind.wrap .i64 ((i : Int) + 1) = ((i + 1 : Nat) : Int) := by rw [wrap64 (by omega) (by omega)]; rfl
    by_cases hlt : i < b.length
    · have hla : i < a.length := by omega
      obtain ⟨x, ex⟩ : ∃ x, a[i]? = some x := ⟨_, List.getElem?_eq_getElem hla⟩
      obtain ⟨y, ey⟩ : ∃ y, b[i]? = some y := ⟨_, List.getElem?_eq_getElem hlt⟩
      by_cases hxy : x = y
      · subst hxy
        simp [-getElem?_pos, -Int.natCast_add, wL26_0, s0, s1, s12, s13, hlt, hla, ex, ey, tokA, tokL, e64]
        refine ⟨b.length - (i + 1), by omega, i + 1, by omega, rfl, by simp [s0], by simp [s1], by simp [s12], by simp, ?_, rfl⟩
        rw [List.take_add_one, List.take_add_one, ht, ex, ey]
      · have hab : ¬ a = b := fun e => by subst e; rw [ex] at ey; injection ey with ey; exact hxy ey
        simp [-getElem?_pos, -Int.natCast_add, wL26_0, s0, s1, s12, s13, hlt, hla, ex, ey, tokA, tokL, e64]
        split
        · simp [hab]
        · rename_i heq
          exfalso
          apply hxy
          simp only [not_or, Decidable.not_not] at heq
          exact tok_ext (by omega) heq.2.1 heq.2.2.1 heq.2.2.2.1 heq.2.2.2.2.1 (by omega) (by omega)
    · simp [wL26_0, wK26_0, s0, s1, s12, s13, hlt]
      rw [List.take_of_length_le (by omega), List.take_of_length_le (by omega)] at ht
      exact ht
  · have hab : ¬ a = b := fun e => hl (by rw [e])
    simp [wB26, hl, hab]
    try omega


theorem call_postK {f : FuncId} {B : AC} {res : List ARes} {args : List AV} {h0 : Heap} (hF : T f = some ⟨B, res, true⟩) (hX : XS f args h0 = none) {R : AV × Heap → Prop}
    (k : Wp M B (fun e σ h => isEnd e ∧ ∃ vs, resVals σ h res = some vs ∧ R (oneOf vs, h)) (fun i => args.getD i .junk) h0) : ∃ r, M.call f args h0 = some r ∧ R r := by
  obtain ⟨e, s, g, h1, h2, vs, h3, h5⟩ := k
  exact ⟨_, lim_call_of hF hX (callF_wpK ⟨e, s, g, h1, h2, vs, h3, rfl⟩), h5⟩
/-- What leaves hands back: a row of the caller's own still. -/
def lvR (n0 : Nat) (ws : List Tok) (t : Tr) (h0 : Heap) (x : AV × Heap) : Prop := ∃ r h', x = (.list 7 ((ws ++ leavesP t).map tokA) r, h') ∧ Ow n0 h' 7 57 r (ws ++ leavesP t).length ∧ h'.take n0 = h0.take n0 ∧ n0 ≤ h'.length
def InvLv (n0 : Nat) (ws : List Tok) (t : Tr) (h0 : Heap) (k : Nat) (σ : Slots) (h : Heap) : Prop := ∃ i r, i ≤ t.kids.length ∧ k = t.kids.length - i ∧ σ 1 = .list 7 ((ws ++ leavesL (t.kids.take i)).map tokA) r ∧ σ 44 = .list 7 (t.kids.map Tr.enc) (rtB t.full) ∧ σ 45 = .int .i64 (t.kids.length : Nat) ∧ σ 46 = .int .i64 i ∧
  Ow n0 h 7 57 r (ws ++ leavesL (t.kids.take i)).length ∧ h.take n0 = h0.take n0 ∧ n0 ≤ h.length
theorem leavesL_take : ∀ (l : List Tr) (i : Nat), (leavesL (l.take i)).length ≤ (leavesL l).length
  | [], i => by simp [leavesL]
  | t :: l, 0 => by simp [leavesL]
  | t :: l, i + 1 => by
    have := leavesL_take l i
    simp only [List.take_succ_cons, leavesL, List.length_append]
    omega
theorem leaves_okN : ∀ (m : Nat) (t : Tr), t.size ≤ m → TOk t → ∀ (n0 : Nat) (ws : List Tok) (r : Rt) (h0 : Heap), n0 ≤ h0.length → (ws ++ leavesP t).length ≤ 1000000000 → Ow n0 h0 7 57 r ws.length →
    ∃ x, M.call 25 [t.enc, .list 7 (ws.map tokA) r] h0 = some x ∧ lvR n0 ws t h0 x
  | 0, t, hn, _, _, _, _, _, _, _, _ => by cases t; simp [Tr.size] at hn
  | m + 1, t, hn, hT, n0, ws, r, h0, hn0, hlen, ow => by
    have ih : ∀ x ∈ t.kids, ∀ (ws : List Tok) (r : Rt) (h0 : Heap), n0 ≤ h0.length → (ws ++ leavesP x).length ≤ 1000000000 → Ow n0 h0 7 57 r ws.length → ∃ y, M.call 25 [x.enc, .list 7 (ws.map tokA) r] h0 = some y ∧ lvR n0 ws x h0 y := fun x hx ws r h0 a1 a2 a3 =>
      leaves_okN m x (by have := Tr.size_kid hx; omega) (hT.kid hx) n0 ws r h0 a1 a2 a3
    have hk := hT.n
    refine call_postK tab25 rfl ?_
    generalize hQ : (fun e σ h => isEnd e ∧ ∃ vs, resVals σ h [ARes.tmp 4] = some vs ∧ lvR n0 ws t h0 (oneOf vs, h)) = Q
    have fin : ∀ (σ : Slots) (h : Heap) (r : Rt), σ 4 = .list 7 ((ws ++ leavesP t).map tokA) r → Ow n0 h 7 57 r (ws ++ leavesP t).length → h.take n0 = h0.take n0 → n0 ≤ h.length → Q .ret σ h := by
      intro σ h r s4 o1 o2 o3
      subst hQ
      refine ⟨trivial, [σ 4], by simp, r, h, by rw [s4]; rfl, o1, o2, o3⟩
    have hlv := leavesP_eq t
    have leaf : ∀ (x : Tok) (c : List AV), leavesP t = [x] → ∃ r2 g2, appA (h0 ++ [AE.cells c, AE.dead]) (h0.length + 1) 7 56 57 (.list 7 (ws.map tokA) r) (.list 7 [tokA x] .full) = some (.list 7 (ws.map tokA ++ [tokA x]) r2, g2) ∧ ∀ σ : Slots, σ 4 = .list 7 (ws.map tokA ++ [tokA x]) r2 → Q .ret σ g2 := by
      intro x c hx
      rw [hx] at hlen fin
      simp at hlen
      obtain ⟨r2, g2, p1, p2, p3⟩ := app_list (n0 := n0) (key := h0.length + 1) (sz := 7) (bytes := 56) (e := 57) (h := h0 ++ [AE.cells c, AE.dead]) (xs := ws.map tokA) (ys := [tokA x]) (r := r) (r2 := .full)
        (by simpa using ow.app _) (by omega) (by simp) (by simp; omega) (by simp; omega)
      refine ⟨r2, g2, p1, fun σ s4 => fin σ g2 r2 (by rw [s4]; simp) (by simpa using p2) (by rw [p3.take, List.take_append_of_le_length hn0]) (by rw [p3.len]; simp; omega)⟩
    unfold Tr.enc
    rw [Tr.encL_eq]
    by_cases k1 : t.k = 1
    · rw [if_pos k1] at hlv
      obtain ⟨r2, g2, p1, p2⟩ := leaf _ [.int .u8 1, .str t.s, .int .u8 t.lo.toNat, .int .u8 t.hi.toNat, .int .i64 t.mn, .int .i64 t.mx, .list 7 (t.kids.map Tr.enc) (rtB t.full)] hlv
      simp [tokA, tokL] at p1 p2
      simp [wB25, k1, Nat.add_assoc]
      rw [p1]
      simp
      exact p2 _ (by simp)
    by_cases k2 : t.k = 2
    · rw [if_neg k1, if_pos k2] at hlv
      obtain ⟨r2, g2, p1, p2⟩ := leaf _ [.int .u8 2, .str t.s, .int .u8 t.lo.toNat, .int .u8 t.hi.toNat, .int .i64 t.mn, .int .i64 t.mx, .list 7 (t.kids.map Tr.enc) (rtB t.full)] hlv
      simp [tokA, tokL] at p1 p2
      simp [wB25, k2, Nat.add_assoc]
      rw [p1]
      simp
      exact p2 _ (by simp)
    by_cases k3 : t.k = 3
    · rw [if_neg k1, if_neg k2, if_pos k3] at hlv
      obtain ⟨r2, g2, p1, p2⟩ := leaf _ [.int .u8 3, .str t.s, .int .u8 t.lo.toNat, .int .u8 t.hi.toNat, .int .i64 t.mn, .int .i64 t.mx, .list 7 (t.kids.map Tr.enc) (rtB t.full)] hlv
      simp [tokA, tokL] at p1 p2
      simp [wB25, k3, Nat.add_assoc]
      rw [p1]
      simp
      exact p2 _ (by simp)
    by_cases k4 : t.k = 4
    · rw [if_neg k1, if_neg k2, if_neg k3, if_pos k4] at hlv
      obtain ⟨r2, g2, p1, p2⟩ := leaf _ [.int .u8 4, .str t.s, .int .u8 t.lo.toNat, .int .u8 t.hi.toNat, .int .i64 t.mn, .int .i64 t.mx, .list 7 (t.kids.map Tr.enc) (rtB t.full)] hlv
      simp [tokA, tokL] at p1 p2
      simp [wB25, k4, Nat.add_assoc]
      rw [p1]
      simp
      exact p2 _ (by simp)
    rw [if_neg k1, if_neg k2, if_neg k3, if_neg k4] at hlv
    have ke : ∀ k : Nat, k < 256 → ((t.k.toNat : Int) = (k : Int)) = (t.k = UInt8.ofNat k) := fun k hk => u8_eq t.k k hk
    have k1' := ke 1 (by omega)
    have k2' := ke 2 (by omega)
    have k3' := ke 3 (by omega)
    have k4' := ke 4 (by omega)
    simp at k1' k2' k3' k4'
    simp [wB25, k1', k2', k3', k4', k1, k2, k3, k4]
    refine Wp.loop (InvLv n0 ws t h0) ?_ (n := t.kids.length) ⟨0, r, by omega, by omega, by simp [leavesL], by simp, by simp, by simp, by simpa [leavesL] using ow.app _, by rw [List.take_append_of_le_length hn0], by simp; omega⟩
    rintro k σ h ⟨i, r, hi, rfl, s1, s44, s45, s46, ow, hh, hle⟩
    have hll := leavesL_take t.kids
    rw [hlv] at hlen fin
    simp only [List.length_append] at hlen
    by_cases hlt : i < t.kids.length
    · obtain ⟨x, ex⟩ : ∃ x, t.kids[i]? = some x := ⟨_, List.getElem?_eq_getElem hlt⟩
      have e64 : IntKind.wrap .i64 ((i : Int) + 1) = ((i + 1 : Nat) : Int) := by rw [wrap64 (by omega) (by omega)]; rfl
      have htk : leavesL (t.kids.take (i + 1)) = leavesL (t.kids.take i) ++ leavesP x := by
        rw [List.take_add_one, ex, leavesL_app]
        simp [leavesL]
      have hl1 := hll (i + 1)
      rw [htk, List.length_append] at hl1
      obtain ⟨y, hy, r3, h3, rfl, o1, o2, o3⟩ := ih x (List.mem_of_getElem? ex) (ws ++ leavesL (t.kids.take i)) r (h ++ [AE.cells x.encL]) (by simp; omega) (by simp; omega) (ow.app _)
      have hd7 : x.encL.drop 7 = [] := List.drop_eq_nil_of_le (by simp)
      simp [-getElem?_pos, -Int.natCast_add, -List.map_append, wL25_0, s1, s44, s45, s46, hlt, ex, hd7, hy, e64, Nat.add_assoc]
      refine ⟨t.kids.length - (i + 1), by omega, i + 1, r3, by omega, rfl, ?_, by simp [s44], by simp [s45], by simp, ?_, ?_, o3⟩
      · rw [htk]; simp
      · rw [htk, ← List.append_assoc]; exact o1
      · rw [o2, List.take_append_of_le_length hle, hh]
    · have : i = t.kids.length := by omega
      subst this
      rw [List.take_length] at s1 ow
      simp [wL25_0, wK25_0, s1, s44, s45, s46]
      refine fin _ _ r ?_ ow hh hle
      simp
end Go.Proofs.YtmmapbhhkmchcaaGreatDoor
