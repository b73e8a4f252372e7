/-
  frame.New, frame.Push.
-/
import Derived.Test.YtbhdfmkcoolghaaAc
set_option linter.unusedVariables false
set_option linter.unusedSimpArgs false
namespace Go.Proofs.Ytbhdfmkcoolghaa
open Go Go.Am

def frA (most : Int) (held : List UInt8) (over cr : Bool) : AV := .agg [.int .i64 most, .str held, .bool over, .bool cr]

theorem new_ok (X : CallO) (hX : ∀ a h, X 11 a h = none) (n : Int) (h : Heap) (h1 : 1 ≤ n) (h2 : n ≤ 2000) : (lim X T).call 11 [.int .i64 n] h = some (.tup [frA n [] false false, .int .i64 0], h) := by
  refine lim_call_of tab11 (hX _ _) (callF_wp ?_)
  have e1 : ¬ n < 1 := by omega
  have e2 : ¬ 2000 < n := by omega
  simp [wB11, e1, e2, frA]
def lnA (x : List UInt8 × Bool) : AV := .agg [.str x.1, .bool x.2]
/-- The closure 'keep', with room. -/
theorem keep_room (X : CallO) (hX : ∀ a h, X 18 a h = none) (c : UInt8) (m : Int) (q p o g : Nat) (n : Nat) (cs rest : List AV) (h : Heap) (hq : h[q]? = some (.cells [.gl 1 g n])) (hg : h[g]? = some (.grow 1 cs)) (hp : h[p]? = some (.cells (.int .i64 m :: rest)))
    (hgq : g ≠ q) (hgp : g ≠ p) (hn : n ≤ cs.length) (hb : n ≤ 10000000) (hm : (n : Int) < m) :
    (lim X T).call 18 [.int .u8 c.toNat, .ptr q 0, .ptr p 0, .ptr o 0] h = some (.tup [], (((h ++ [AE.dead]).set g AE.dead).set h.length (.grow 1 (cs.take n ++ [AV.int .u8 c.toNat]))).set q (.cells [.gl 1 h.length (n + 1)])) := by
  refine lim_call_of tab18 (hX _ _) (callF_wpK ?_)
  have q1 := get_left hq
  have g1 := get_left hg
  have p1 := get_left hp
  have lq := lt_of_get hq
  have lg := lt_of_get hg
  have n1 : h.length ≠ q := by omega
  have b1 : n + 1 ≤ 70368744177664 := by omega
  simp [wB18, hq, hg, hp, q1, g1, p1, hm, appA, srcOf, hgq, n1, List.getElem?_set, hn, b1]
theorem keep_full (X : CallO) (hX : ∀ a h, X 18 a h = none) (c : UInt8) (m : Int) (q p o g : Nat) (n : Nat) (ov : Bool) (rest : List AV) (h : Heap) (hq : h[q]? = some (.cells [.gl 1 g n])) (hp : h[p]? = some (.cells (.int .i64 m :: rest))) (ho : h[o]? = some (.cells [.bool ov]))
    (hm : ¬ (n : Int) < m) :
    (lim X T).call 18 [.int .u8 c.toNat, .ptr q 0, .ptr p 0, .ptr o 0] h = some (.tup [], h.set o (.cells [.bool true])) := by
  refine lim_call_of tab18 (hX _ _) (callF_wpK ?_)
  simp [wB18, hq, hp, ho, hm]

structure St where
  held : List UInt8
  over : Bool
  cr : Bool
  out : List (List UInt8 × Bool)
def keepB (m : Int) (c : UInt8) (s : St) : St := if (s.held.length : Int) < m then ⟨s.held ++ [c], s.over, s.cr, s.out⟩ else ⟨s.held, true, s.cr, s.out⟩
def byteB (m : Int) (s : St) (c : UInt8) : St :=
  if s.cr then
    if c = 10 then ⟨[], false, false, s.out ++ [(s.held, s.over)]⟩
    else if c = 13 then keepB m 13 s
    else keepB m c (keepB m 13 ⟨s.held, s.over, false, s.out⟩)
  else if c = 13 then ⟨s.held, s.over, true, s.out⟩ else keepB m c s
def pushB (m : Int) (s : St) (l : List UInt8) : St := l.foldl (byteB m) s

/-- The heap of a Push under way. -/
structure PS (h0 : Heap) (m : Int) (held : List UInt8) (over : Bool) (out : Nat) (r : Rt) (h : Heap) : Prop where
  base : h.take h0.length = h0
  len : h0.length + 5 ≤ h.length
  p : ∃ rest, h[h0.length]? = some (.cells (.int .i64 m :: rest))
  res : ∃ a b c d, h[h0.length + 1]? = some (.cells [a, b, c, d])
  q : ∃ g cs, h[h0.length + 3]? = some (.cells [.gl 1 g held.length]) ∧ h[g]? = some (.grow 1 cs) ∧ held.length ≤ cs.length ∧ cs.take held.length = ofBytes held ∧ h0.length ≤ g
  o : h[h0.length + 4]? = some (.cells [.bool over])
  own : r = .full ∨ ∃ t, r = .tok t ∧ h[t]? = some (.tok 2 out 38) ∧ h0.length ≤ t

theorem keep_ok (X : CallO) (hX : ∀ a h, X 18 a h = none) (c : UInt8) {h0 : Heap} {m : Int} {held : List UInt8} {over : Bool} {out : Nat} {r : Rt} {h : Heap} (k : PS h0 m held over out r h) (hb : held.length ≤ 10000000) :
    ∃ h', (lim X T).call 18 [.int .u8 c.toNat, .ptr (h0.length + 3) 0, .ptr h0.length 0, .ptr (h0.length + 4) 0] h = some (.tup [], h') ∧
      PS h0 m (if (held.length : Int) < m then held ++ [c] else held) (if (held.length : Int) < m then over else true) out r h' := by
  obtain ⟨kb, kl, ⟨rest, kp⟩, ⟨a, b, c', d, kr⟩, ⟨g, cs, kq, kg, kn, kt, kgl⟩, ko, kown⟩ := k
  have lg := lt_of_get kg
  have e1 : g ≠ h0.length + 3 := fun e => by rw [e, kq] at kg; cases kg
  have e2 : g ≠ h0.length := fun e => by rw [e, kp] at kg; cases kg
  have e3 : g ≠ h0.length + 1 := fun e => by rw [e, kr] at kg; cases kg
  have e4 : g ≠ h0.length + 4 := fun e => by rw [e, ko] at kg; cases kg
  by_cases hm : (held.length : Int) < m
  · refine ⟨_, keep_room X hX c m _ _ _ g held.length cs rest h kq kg kp e1 e2 kn hb hm, ?_⟩
    simp only [if_pos hm]
    have f1 : h.length ≠ h0.length := by omega
    have f2 : h.length ≠ h0.length + 1 := by omega
    have f3 : h.length ≠ h0.length + 3 := by omega
    have f4 : h.length ≠ h0.length + 4 := by omega
    have i3 : h0.length + 3 < h.length + 1 := by omega
    refine ⟨?_, by simp; omega, ⟨rest, ?_⟩, ⟨a, b, c', d, ?_⟩, ⟨h.length, cs.take held.length ++ [AV.int .u8 c.toNat], ?_, ?_, ?_, ?_, by omega⟩, ?_, ?_⟩
    · rw [take_set (by omega), take_set (by omega), take_set kgl, take_app (by omega), kb]
    · simp [List.getElem?_set, e2, f1, get_left kp]
    · simp [List.getElem?_set, e3, f2, get_left kr]
    · simp [List.getElem?_set, i3]
    · have : ¬ h0.length + 3 = h.length := by omega
      simp [List.getElem?_set, this]
    · simp [kn]
    · rw [kt]
      simp [ofBytes, List.take_of_length_le]
    · simp [List.getElem?_set, e4, f4, get_left ko]
    · rcases kown with rfl | ⟨t, rfl, ht, htl⟩
      · exact .inl rfl
      · refine .inr ⟨t, rfl, ?_, htl⟩
        have t1 : h0.length + 3 ≠ t := fun e => by rw [← e, kq] at ht; cases ht
        have t2 : h.length ≠ t := by have := lt_of_get ht; omega
        have t3 : g ≠ t := fun e => by rw [← e, kg] at ht; cases ht
        simp [List.getElem?_set, t1, t2, t3, get_left ht]
  · refine ⟨_, keep_full X hX c m _ _ _ g held.length over rest h kq kp ko hm, ?_⟩
    simp only [if_neg hm]
    have o3 : h0.length + 4 < h.length := by omega
    refine ⟨?_, by simp; omega, ⟨rest, ?_⟩, ⟨a, b, c', d, ?_⟩, ⟨g, cs, ?_, ?_, kn, kt, kgl⟩, ?_, ?_⟩
    · rw [take_set (by omega), kb]
    · simp [List.getElem?_set, kp]
    · simp [List.getElem?_set, kr]
    · simp [List.getElem?_set, kq]
    · simp [List.getElem?_set, kg, e4.symm]
    · simp [List.getElem?_set, o3]
    · rcases kown with rfl | ⟨t, rfl, ht, htl⟩
      · exact .inl rfl
      · refine .inr ⟨t, rfl, ?_, htl⟩
        have t1 : h0.length + 4 ≠ t := fun e => by rw [← e, ko] at ht; cases ht
        simp [List.getElem?_set, t1, ht]
def Inv (h0 : Heap) (m : Int) (s0 : St) (b : List UInt8) (rb : Rt) (n : Nat) (σ : Slots) (h : Heap) : Prop := ∃ i s r, i ≤ b.length ∧ n = b.length - i ∧ s = pushB m s0 (b.take i) ∧ s.held.length ≤ s0.held.length + 2 * i ∧ s.out.length ≤ s0.out.length + i ∧
  σ 21 = .list 1 (ofBytes b) rb ∧ σ 22 = .int .i64 b.length ∧ σ 23 = .int .i64 i ∧ σ 9 = .bool s.cr ∧ σ 6 = .list 2 (s.out.map lnA) r ∧ σ 10 = .fn 18 [.ptr (h0.length + 3) 0, .ptr h0.length 0, .ptr (h0.length + 4) 0] ∧
  σ 7 = .ptr (h0.length + 3) 0 ∧ σ 8 = .ptr (h0.length + 4) 0 ∧ σ 2 = .ptr h0.length 0 ∧ σ 4 = .ptr (h0.length + 1) 0 ∧ PS h0 m s.held s.over s.out.length r h

def pushR (m : Int) (s : St) (h0 : Heap) (x : AV × Heap) : Prop := ∃ r, (r = Rt.no ∨ r = Rt.full) ∧ x = (.tup [frA m s.held s.over s.cr, .list 2 (s.out.map lnA) r], h0)

@[simp] theorem lows_ln (n : Nat) (l : List (List UInt8 × Bool)) : AV.lows n (l.map lnA) := lows_map _ _ fun _ _ => by simp [lnA]

set_option maxHeartbeats 2000000 in
theorem push_ok (X : CallO) (hX : ∀ a h, X 12 a h = none) (hX2 : ∀ a h, X 18 a h = none) (m : Int) (held : List UInt8) (over cr : Bool) (b : List UInt8) (rb : Rt) (hl : held.length ≤ 1000000) (hb : b.length ≤ 1000000) (h0 : Heap) :
    ∃ x, (lim X T).call 12 [frA m held over cr, .list 1 (ofBytes b) rb] h0 = some x ∧ pushR m (pushB m ⟨held, over, cr, []⟩ b) h0 x := by
  refine call_post tab12 (hX _ _) ?_
  generalize hQ : (fun e σ h => isEnd e ∧ ∃ vs, resVals σ h [ARes.cell 4 (some 4), ARes.tmp 5] = some vs ∧ ∃ r, finish h0 h (oneOf vs) = some r ∧ pushR m (pushB m ⟨held, over, cr, []⟩ b) h0 r) = Q
  simp [wB12, frA, Nat.add_assoc]
  refine Wp.loop (Inv h0 m ⟨held, over, cr, []⟩ b rb) ?_ (n := b.length) ⟨0, ⟨held, over, cr, []⟩, .full, by omega, by omega, rfl, by simp, by simp, by simp, by simp [ofBytes], by simp, by simp, by simp, by simp, by simp, by simp, by simp, by simp, ?_⟩
  · rintro n σ h ⟨i, s, r, hi, rfl, hs, hsl, hso, s21, s22, s23, s9, s6, s10, s7, s8, s2, s4, ps⟩
    by_cases hlt : i < b.length
    · have hc : ∀ hh, (ofBytes b)[i]'hh = AV.int .u8 b[i].toNat := fun hh => by simp [ofBytes]
      have e64 : IntKind.wrap .i64 ((i : Int) + 1) = ((i + 1 : Nat) : Int) := by rw [wrap64 (by omega) (by omega)]; rfl
      have hst : byteB m s b[i] = pushB m ⟨held, over, cr, []⟩ (b.take (i + 1)) := by
        rw [List.take_succ_eq_append_getElem hlt, hs]
        unfold pushB
        rw [List.foldl_append]
        rfl
      have next : ∀ (σ' : Slots) (g : Heap) (s' : St) (r' : Rt), s' = pushB m ⟨held, over, cr, []⟩ (b.take (i + 1)) → s'.held.length ≤ s.held.length + 2 → s'.out.length ≤ s.out.length + 1 → σ' 21 = σ 21 → σ' 22 = σ 22 → σ' 23 = .int .i64 ((i : Int) + 1) → σ' 9 = .bool s'.cr →
          σ' 6 = .list 2 (s'.out.map lnA) r' → σ' 10 = σ 10 → σ' 7 = σ 7 → σ' 8 = σ 8 → σ' 2 = σ 2 → σ' 4 = σ 4 → PS h0 m s'.held s'.over s'.out.length r' g → ∃ m_1, m_1 < b.length - i ∧ Inv h0 m ⟨held, over, cr, []⟩ b rb m_1 σ' g := by
        intro σ' g s' r' a1 a2 a3 a4 a5 a6 a7 a8 a9 b1 b2 b3 b4 b5
        simp only at hsl hso
        exact ⟨b.length - (i + 1), by omega, i + 1, s', r', by omega, rfl, a1, by simp only; omega, by simp only; omega, by rw [a4, s21], by rw [a5, s22], by rw [a6]; rfl, a7, a8, by rw [a9, s10], by rw [b1, s7], by rw [b2, s8], by rw [b3, s2], by rw [b4, s4], b5⟩
      generalize hcc : b[i] = c at *
      simp only [List.length_nil, Nat.zero_add] at hso
      cases hcr : s.cr with
      | false =>
        rw [hcr] at s9
        by_cases h13 : c = 13
        · subst h13
          have hb1 : byteB m s 13 = ⟨s.held, s.over, true, s.out⟩ := by simp [byteB, hcr]
          simp [wL12_0, s21, s22, s23, s9, hlt, hcc, e64]
          exact next _ _ ⟨s.held, s.over, true, s.out⟩ r (by rw [← hst, hb1]) (by simp) (by simp) (by simp) (by simp) (by simp) (by simp) (by simp [s6]) (by simp) (by simp) (by simp) (by simp) (by simp) ps
        · have h13' : ¬ (c.toNat : Int) = 13 := fun e => h13 (UInt8.toNat_inj.1 (by rw [show (13 : UInt8).toNat = 13 from rfl]; omega))
          obtain ⟨h', hcall, ps'⟩ := keep_ok X hX2 c ps (by simp only at hsl; omega)
          have hb1 : byteB m s c = keepB m c s := by simp [byteB, hcr, h13]
          have hk : keepB m c s = ⟨if (s.held.length : Int) < m then s.held ++ [c] else s.held, if (s.held.length : Int) < m then s.over else true, s.cr, s.out⟩ := by
            unfold keepB; split <;> rfl
          simp [wL12_0, s21, s22, s23, s9, s10, hlt, hcc, h13', hcall, e64]
          exact next _ _ (keepB m c s) r (by rw [← hst, hb1]) (by rw [hk]; simp only; split <;> simp <;> omega) (by rw [hk]; simp) (by simp) (by simp) (by simp) (by rw [hk]; simp [s9, hcr]) (by rw [hk]; simp [s6]) (by simp) (by simp) (by simp) (by simp) (by simp) (by rw [hk]; exact ps')
      | true =>
        rw [hcr] at s9
        by_cases h10 : c = 10
        · subst h10
          have hb1 : byteB m s 10 = ⟨[], false, false, s.out ++ [(s.held, s.over)]⟩ := by simp [byteB, hcr]
          obtain ⟨kb, kl, ⟨rest, kp⟩, ⟨a, b', c', d, kr⟩, ⟨g, cs, kq, kg, kn, kt, kgl⟩, ko, kown⟩ := ps
          have n3 : ¬ h.length = h0.length + 3 := by omega
          have n4 : ¬ h.length = h0.length + 4 := by omega
          have n1 : ¬ h.length = h0.length + 1 := by omega
          have n0 : ¬ h.length = h0.length := by omega
          have g3 : ¬ h0.length + 3 = g := fun e => by rw [← e, kq] at kg; cases kg
          have g4 : ¬ h0.length + 4 = g := fun e => by rw [← e, ko] at kg; cases kg
          have lg := lt_of_get kg
          have gl : ¬ h.length = g := by omega
          have q1 : (s.out.length + 1) * 24 ≤ 70368744177664 := by omega
          have q2 : s.out.length ≤ 70368744177663 := by omega
          have l3 : h0.length + 3 < h.length + 1 := by omega
          have l4 : h0.length + 4 < h.length + 1 := by omega
          have tk : ∀ e1 e2 e3, (((h ++ [AE.dead]).set h.length e1).set (h0.length + 3) e2).set (h0.length + 4) e3 = (((h ++ [AE.dead]).set h.length e1).set (h0.length + 3) e2).set (h0.length + 4) e3 := fun _ _ _ => rfl
          rcases kown with rfl | ⟨t, rfl, ht, htl⟩
          · simp [wL12_0, s21, s22, s23, s9, s6, s7, s8, hlt, hcc, e64, get_left kq, get_left kg, get_left ko, kn, kt, appA, srcOf, own, kill, List.getElem?_set, n3, n4, q1, q2, -set_app0]
            refine next _ _ ⟨[], false, false, s.out ++ [(s.held, s.over)]⟩ (.tok h.length) (by rw [← hst, hb1]) (by simp) (by simp) (by simp) (by simp) (by simp) (by simp) (by simp [lnA]) (by simp) (by simp) (by simp) (by simp) (by simp) ?_
            refine ⟨?_, by simp; omega, ⟨rest, ?_⟩, ⟨a, b', c', d, ?_⟩, ⟨g, cs, ?_, ?_, by simp, by simp [ofBytes], kgl⟩, ?_, .inr ⟨h.length, rfl, ?_, by omega⟩⟩
            · rw [take_set (by omega), take_set (by omega), take_app (by omega), kb]
            · simp [List.getElem?_set, get_left kp]
            · simp [List.getElem?_set, get_left kr]
            · simp [List.getElem?_set, l3]
            · simp [List.getElem?_set, g3, g4, get_left kg]
            · simp [List.getElem?_set, l4]
            · have : ¬ h0.length + 4 = h.length := by omega
              have : ¬ h0.length + 3 = h.length := by omega
              simp [List.getElem?_set, *]
          · have t3 : ¬ t = h0.length + 3 := fun e => by rw [e, kq] at ht; cases ht
            have t4 : ¬ t = h0.length + 4 := fun e => by rw [e, ko] at ht; cases ht
            have tg : ¬ t = g := fun e => by rw [e, kg] at ht; cases ht
            have lt := lt_of_get ht
            simp [wL12_0, s21, s22, s23, s9, s6, s7, s8, hlt, hcc, e64, get_left kq, get_left kg, get_left ko, get_left ht, kn, kt, appA, srcOf, own, kill, List.getElem?_set, n3, n4, t3, t4, tg, q1, q2, -set_app0]
            refine next _ _ ⟨[], false, false, s.out ++ [(s.held, s.over)]⟩ (.tok h.length) (by rw [← hst, hb1]) (by simp) (by simp) (by simp) (by simp) (by simp) (by simp) (by simp [lnA]) (by simp) (by simp) (by simp) (by simp) (by simp) ?_
            have t0 : ¬ t = h0.length := fun e => by rw [e, kp] at ht; cases ht
            have t1 : ¬ t = h0.length + 1 := fun e => by rw [e, kr] at ht; cases ht
            refine ⟨?_, by simp; omega, ⟨rest, ?_⟩, ⟨a, b', c', d, ?_⟩, ⟨g, cs, ?_, ?_, by simp, by simp [ofBytes], kgl⟩, ?_, .inr ⟨h.length, rfl, ?_, by omega⟩⟩
            · simp only [take_set (show h0.length ≤ h0.length + 4 by omega), take_set (show h0.length ≤ h0.length + 3 by omega), take_set (show h0.length ≤ h.length by omega), take_set htl, take_app (show h0.length ≤ h.length by omega), kb]
            · simp [List.getElem?_set, t0, n0, get_left kp]
            · simp [List.getElem?_set, t1, n1, get_left kr]
            · simp [List.getElem?_set, l3]
            · simp [List.getElem?_set, g3, g4, tg, gl, get_left kg]
            · simp [List.getElem?_set, l4]
            · have : ¬ h0.length + 4 = h.length := by omega
              have : ¬ h0.length + 3 = h.length := by omega
              simp [List.getElem?_set, *]
        · have h10' : ¬ (c.toNat : Int) = 10 := fun e => h10 (UInt8.toNat_inj.1 (by rw [show (10 : UInt8).toNat = 10 from rfl]; omega))
          obtain ⟨g, hcall0, ps1⟩ := keep_ok X hX2 13 ps (by simp only at hsl; omega)
          have hcall : (lim X T).call 18 [.int .u8 13, .ptr (h0.length + 3) 0, .ptr h0.length 0, .ptr (h0.length + 4) 0] h = some (.tup [], g) := hcall0
          have hk : keepB m 13 s = ⟨if (s.held.length : Int) < m then s.held ++ [13] else s.held, if (s.held.length : Int) < m then s.over else true, s.cr, s.out⟩ := by
            unfold keepB; split <;> rfl
          by_cases h13 : c = 13
          · subst h13
            have hb1 : byteB m s 13 = keepB m 13 s := by simp [byteB, hcr]
            simp [wL12_0, s21, s22, s23, s9, s10, hlt, hcc, hcall, e64]
            exact next _ _ (keepB m 13 s) r (by rw [← hst, hb1]) (by rw [hk]; simp only; split <;> simp <;> omega) (by rw [hk]; simp) (by simp) (by simp) (by simp) (by rw [hk]; simp [hcr]) (by rw [hk]; simp [s6]) (by simp [s10]) (by simp) (by simp) (by simp) (by simp) (by rw [hk]; exact ps1)
          · have h13' : ¬ (c.toNat : Int) = 13 := fun e => h13 (UInt8.toNat_inj.1 (by rw [show (13 : UInt8).toNat = 13 from rfl]; omega))
            have hk' : keepB m 13 ⟨s.held, s.over, false, s.out⟩ = ⟨(keepB m 13 s).held, (keepB m 13 s).over, false, s.out⟩ := by
              rw [hk]; unfold keepB; simp only; split <;> rfl
            have hb1 : byteB m s c = keepB m c ⟨(keepB m 13 s).held, (keepB m 13 s).over, false, s.out⟩ := by simp [byteB, hcr, h10, h13, hk']
            have hkl : (keepB m 13 s).held.length ≤ s.held.length + 1 := by rw [hk]; simp only; split <;> simp
            have ps1' : PS h0 m (keepB m 13 s).held (keepB m 13 s).over s.out.length r g := by rw [hk]; exact ps1
            obtain ⟨g', hcall2, ps2⟩ := keep_ok X hX2 c ps1' (by simp only at hsl; omega)
            have hk2 : keepB m c ⟨(keepB m 13 s).held, (keepB m 13 s).over, false, s.out⟩ = ⟨if ((keepB m 13 s).held.length : Int) < m then (keepB m 13 s).held ++ [c] else (keepB m 13 s).held, if ((keepB m 13 s).held.length : Int) < m then (keepB m 13 s).over else true, false, s.out⟩ := by
              generalize keepB m 13 s = s1
              unfold keepB; simp only; split <;> rfl
            simp [wL12_0, s21, s22, s23, s9, s10, hlt, hcc, h10', h13', hcall, hcall2, e64]
            exact next _ _ (keepB m c ⟨(keepB m 13 s).held, (keepB m 13 s).over, false, s.out⟩) r (by rw [← hst, hb1]) (by rw [hk2]; simp only; split <;> first | omega | (simp only [List.length_append, List.length_singleton]; omega)) (by rw [hk2]; simp) (by simp) (by simp) (by simp) (by rw [hk2]; simp) (by rw [hk2]; simp [s6]) (by simp) (by simp) (by simp) (by simp) (by simp) (by rw [hk2]; exact ps2)
    · simp [wL12_0, s22, s23, hlt]
      subst hQ
      obtain ⟨kb, kl, ⟨rest, kp⟩, ⟨a, b', c', d, kr⟩, ⟨g, cs, kq, kg, kn, kt, kgl⟩, ko, kown⟩ := ps
      have ft : ∀ e, (h.set (h0.length + 1) e).take h0.length = h0 := fun e => by rw [take_set (by omega), kb]
      have hi' : b.take i = b := List.take_of_length_le (by omega)
      rw [hi'] at hs
      rw [← hs]
      have gs : ∀ e, (h.set (h0.length + 1) e)[h0.length + 1]? = some e := fun e => by rw [List.getElem?_set_self (lt_of_get kr)]
      rcases kown with rfl | ⟨t, rfl, ht, htl⟩
      · simp [wK12_0, s2, s4, s6, s7, s8, s9, kp, kr, kq, kg, kn, kt, ko, gs, finish_of_take (ft _), pushR, frA]
        exact ⟨_, _, ⟨rfl, rfl⟩, .inr ⟨rfl, rfl⟩⟩
      · have : ¬ t < h0.length := by omega
        simp [wK12_0, s2, s4, s6, s7, s8, s9, kp, kr, kq, kg, kn, kt, ko, gs, finish_of_take (ft _), pushR, frA, this]
        exact ⟨_, _, ⟨rfl, rfl⟩, .inl ⟨rfl, rfl⟩⟩
  · exact ⟨by simp, by simp, ⟨[.str held, .bool over, .bool cr], by simp⟩, ⟨.int .i64 0, .str [], .bool false, .bool false, by simp⟩, ⟨h0.length + 2, ofBytes held, by simp, by simp, by simp, by simp [List.take_of_length_le], by omega⟩, by simp, .inl rfl⟩
def St0 : St := ⟨[], false, false, []⟩
end Go.Proofs.Ytbhdfmkcoolghaa
