import Derived.Test.YtmcjnbkodcdjnaaT2
set_option linter.unusedVariables false
set_option linter.unusedSimpArgs false
namespace Go.Proofs.Ytmcjnbkodcdjnaa
open Go Go.Am

/-- The closure 'keep', with room. -/
theorem keep_room (X : CallO) (hX : ∀ a h, X 23 a h = none) (c : UInt8) (m : Int) (q p o g : Nat) (n : Nat) (cs rest : List AV) (h : Heap) (hq : h[q]? = some (.cells [.gl 1 g n])) (hg : h[g]? = some (.grow 1 cs)) (hp : h[p]? = some (.cells (.int .i64 m :: rest)))
    (hgq : g ≠ q) (hgp : g ≠ p) (hn : n ≤ cs.length) (hb : n ≤ 10000000) (hm : (n : Int) < m) :
    (lim X T).call 23 [.int .u8 c.toNat, .ptr q 0, .ptr p 0, .ptr o 0] h = some (.tup [], (((h ++ [AE.dead]).set g AE.dead).set h.length (.grow 1 (cs.take n ++ [AV.int .u8 c.toNat]))).set q (.cells [.gl 1 h.length (n + 1)])) := by
  refine lim_call_of tab23 (hX _ _) (callF_wpK ?_)
  have q1 := get_left hq
  have g1 := get_left hg
  have p1 := get_left hp
  have lq := lt_of_get hq
  have lg := lt_of_get hg
  have n1 : h.length ≠ q := by omega
  have b1 : n + 1 ≤ 70368744177664 := by omega
  simp [wB23, hq, hg, hp, q1, g1, p1, hm, appA, srcOf, hgq, n1, List.getElem?_set, hn, b1]
theorem keep_full (X : CallO) (hX : ∀ a h, X 23 a h = none) (c : UInt8) (m : Int) (q p o g : Nat) (n : Nat) (ov : Bool) (rest : List AV) (h : Heap) (hq : h[q]? = some (.cells [.gl 1 g n])) (hp : h[p]? = some (.cells (.int .i64 m :: rest))) (ho : h[o]? = some (.cells [.bool ov]))
    (hm : ¬ (n : Int) < m) :
    (lim X T).call 23 [.int .u8 c.toNat, .ptr q 0, .ptr p 0, .ptr o 0] h = some (.tup [], h.set o (.cells [.bool true])) := by
  refine lim_call_of tab23 (hX _ _) (callF_wpK ?_)
  simp [wB23, hq, hp, ho, hm]

structure St where
  held : List UInt8
  over : Bool
  cr : Bool
  out : List (List UInt8 × Bool)
def keepB (m : Int) (c : UInt8) (s : St) : St := if (s.held.length : Int) < m then ⟨s.held ++ [c], s.over, s.cr, s.out⟩ else ⟨s.held, true, s.cr, s.out⟩
def byteB (m : Int) (s : St) (c : UInt8) : St :=
  if s.cr then
    if c = 10 then ⟨[], false, false, s.out ++ [(s.held, s.over)]⟩
    else if c = 13 then keepB m 13 s
    else keepB m c (keepB m 13 ⟨s.held, s.over, false, s.out⟩)
  else if c = 13 then ⟨s.held, s.over, true, s.out⟩ else keepB m c s
def pushB (m : Int) (s : St) (l : List UInt8) : St := l.foldl (byteB m) s

/-- The heap of a Push under way. -/
structure PS (h0 : Heap) (m : Int) (held : List UInt8) (over : Bool) (out : Nat) (r : Rt) (h : Heap) : Prop where
  base : h.take h0.length = h0
  len : h0.length + 5 ≤ h.length
  p : ∃ rest, h[h0.length]? = some (.cells (.int .i64 m :: rest))
  res : ∃ a b c d, h[h0.length + 1]? = some (.cells [a, b, c, d])
  q : ∃ g cs, h[h0.length + 3]? = some (.cells [.gl 1 g held.length]) ∧ h[g]? = some (.grow 1 cs) ∧ held.length ≤ cs.length ∧ cs.take held.length = ofBytes held ∧ h0.length ≤ g
  o : h[h0.length + 4]? = some (.cells [.bool over])
  own : r = .full ∨ ∃ t, r = .tok t ∧ h[t]? = some (.tok 2 out 34) ∧ h0.length ≤ t

theorem keep_ok (X : CallO) (hX : ∀ a h, X 23 a h = none) (c : UInt8) {h0 : Heap} {m : Int} {held : List UInt8} {over : Bool} {out : Nat} {r : Rt} {h : Heap} (k : PS h0 m held over out r h) (hb : held.length ≤ 10000000) :
    ∃ h', (lim X T).call 23 [.int .u8 c.toNat, .ptr (h0.length + 3) 0, .ptr h0.length 0, .ptr (h0.length + 4) 0] h = some (.tup [], h') ∧
      PS h0 m (if (held.length : Int) < m then held ++ [c] else held) (if (held.length : Int) < m then over else true) out r h' := by
  obtain ⟨kb, kl, ⟨rest, kp⟩, ⟨a, b, c', d, kr⟩, ⟨g, cs, kq, kg, kn, kt, kgl⟩, ko, kown⟩ := k
  have lg := lt_of_get kg
  have e1 : g ≠ h0.length + 3 := fun e => by rw [e, kq] at kg; cases kg
  have e2 : g ≠ h0.length := fun e => by rw [e, kp] at kg; cases kg
  have e3 : g ≠ h0.length + 1 := fun e => by rw [e, kr] at kg; cases kg
  have e4 : g ≠ h0.length + 4 := fun e => by rw [e, ko] at kg; cases kg
  by_cases hm : (held.length : Int) < m
  · refine ⟨_, keep_room X hX c m _ _ _ g held.length cs rest h kq kg kp e1 e2 kn hb hm, ?_⟩
    simp only [if_pos hm]
    have f1 : h.length ≠ h0.length := by omega
    have f2 : h.length ≠ h0.length + 1 := by omega
    have f3 : h.length ≠ h0.length + 3 := by omega
    have f4 : h.length ≠ h0.length + 4 := by omega
    have i3 : h0.length + 3 < h.length + 1 := by omega
    refine ⟨?_, by simp; omega, ⟨rest, ?_⟩, ⟨a, b, c', d, ?_⟩, ⟨h.length, cs.take held.length ++ [AV.int .u8 c.toNat], ?_, ?_, ?_, ?_, by omega⟩, ?_, ?_⟩
    · rw [take_set (by omega), take_set (by omega), take_set kgl, take_app (by omega), kb]
    · simp [List.getElem?_set, e2, f1, get_left kp]
    · simp [List.getElem?_set, e3, f2, get_left kr]
    · simp [List.getElem?_set, i3]
    · have : ¬ h0.length + 3 = h.length := by omega
      simp [List.getElem?_set, this]
    · simp [kn]
    · rw [kt]
      simp [ofBytes, List.take_of_length_le]
    · simp [List.getElem?_set, e4, f4, get_left ko]
    · rcases kown with rfl | ⟨t, rfl, ht, htl⟩
      · exact .inl rfl
      · refine .inr ⟨t, rfl, ?_, htl⟩
        have t1 : h0.length + 3 ≠ t := fun e => by rw [← e, kq] at ht; cases ht
        have t2 : h.length ≠ t := by have := lt_of_get ht; omega
        have t3 : g ≠ t := fun e => by rw [← e, kg] at ht; cases ht
        simp [List.getElem?_set, t1, t2, t3, get_left ht]
  · refine ⟨_, keep_full X hX c m _ _ _ g held.length over rest h kq kp ko hm, ?_⟩
    simp only [if_neg hm]
    have o3 : h0.length + 4 < h.length := by omega
    refine ⟨?_, by simp; omega, ⟨rest, ?_⟩, ⟨a, b, c', d, ?_⟩, ⟨g, cs, ?_, ?_, kn, kt, kgl⟩, ?_, ?_⟩
    · rw [take_set (by omega), kb]
    · simp [List.getElem?_set, kp]
    · simp [List.getElem?_set, kr]
    · simp [List.getElem?_set, kq]
    · simp [List.getElem?_set, kg, e4.symm]
    · simp [List.getElem?_set, o3]
    · rcases kown with rfl | ⟨t, rfl, ht, htl⟩
      · exact .inl rfl
      · refine .inr ⟨t, rfl, ?_, htl⟩
        have t1 : h0.length + 4 ≠ t := fun e => by rw [← e, ko] at ht; cases ht
        simp [List.getElem?_set, t1, ht]
end Go.Proofs.Ytmcjnbkodcdjnaa
