import Derived.Test.YtmcjnbkodcdjnaaT5
set_option linter.unusedVariables false
set_option linter.unusedSimpArgs false
namespace Go.Proofs.Ytmcjnbkodcdjnaa
open Go Go.Am

noncomputable def rPush (X : CallO) (m : Int) (held : List UInt8) (over cr : Bool) (b : List UInt8) (rb : Rt) (h : Heap) : Rt :=
  match (lim X T).call 16 [frA m held over cr, .list 1 (ofBytes b) rb] h with
  | some (.tup [_, .list _ _ r], _) => r
  | _ => .no
theorem push_eq (X : CallO) (hX : ∀ a h, X 16 a h = none) (hX2 : ∀ a h, X 23 a h = none) (m : Int) (held : List UInt8) (over cr : Bool) (b : List UInt8) (rb : Rt) (hl : held.length ≤ 1000000) (hb : b.length ≤ 1000000) (h0 : Heap) :
    (lim X T).call 16 [.agg [.int .i64 m, .str held, .bool over, .bool cr], .list 1 (ofBytes b) rb] h0 =
      some (.tup [frA m (pushB m ⟨held, over, cr, []⟩ b).held (pushB m ⟨held, over, cr, []⟩ b).over (pushB m ⟨held, over, cr, []⟩ b).cr, .list 2 ((pushB m ⟨held, over, cr, []⟩ b).out.map lnA) (rPush X m held over cr b rb h0)], h0) := by
  obtain ⟨x, hx, r, hr, rfl⟩ := push_ok X hX hX2 m held over cr b rb hl hb h0
  rw [frA] at hx
  have : rPush X m held over cr b rb h0 = r := by unfold rPush; rw [frA, hx]
  rw [this, hx]

theorem same_1 (X : CallO) (hX : ∀ a h, X 9 a h = none) (a : List (List UInt8 × Bool)) (x : List UInt8) (y : Bool) (r1 r2 : Rt) (ha : a.length ≤ 1000000) (h : Heap) :
    (lim X T).call 9 [.list 2 (a.map lnA) r1, .list 2 [.agg [.str x, .bool y]] r2] h = some (.bool (decide (a = [(x, y)])), h) := same_ok X hX a [(x, y)] r1 r2 ha (by simp) h
theorem same_11 (X : CallO) (hX : ∀ a h, X 9 a h = none) (a : List UInt8 × Bool) (x : List UInt8) (y : Bool) (r1 r2 : Rt) (h : Heap) :
    (lim X T).call 9 [.list 2 [lnA a] r1, .list 2 [.agg [.str x, .bool y]] r2] h = some (.bool (decide (a = (x, y))), h) := by
  have := same_1 X hX [a] x y r1 r2 (by simp) h
  simpa using this
theorem rest_1 (X : CallO) (hX : ∀ a h, X 12 a h = none) (n : Int) (l : List UInt8) (o c : Bool) (hl : l.length ≤ 1000000) (h : Heap) : (lim X T).call 12 [.agg [.int .i64 n, .str l, .bool o, .bool c]] h = some (.str (if c then l ++ [13] else l), h) := rest_ok X hX n l o c hl h

set_option maxRecDepth 20000 in
theorem awake_ok (X : CallO) (hX : ∀ f, f ≠ 13 → f ≠ 14 → ∀ a h, X f a h = none) (h0 : Heap) : (lim X T).call 7 [] h0 = some (.bool true, h0) := by
  refine lim_call_of tab7 (hX _ (by decide) (by decide) _ _) (callF_wp ?_)
  have p1 : pushB 4 ⟨[], false, false, []⟩ [97, 98, 13, 10, 99, 100, 101, 102, 103, 104, 13] = ⟨[99, 100, 101, 102], true, true, [([97, 98], false)]⟩ := by rfl
  have p2 : pushB 4 ⟨[99, 100, 101, 102], true, true, []⟩ [10] = ⟨[], false, false, [([99, 100, 101, 102], true)]⟩ := by rfl
  have p3 : pushB 4 ⟨[], false, false, []⟩ [13, 13, 10] = ⟨[], false, false, [([13], false)]⟩ := by rfl
  simp [wB7, new_ok X (hX 15 (by decide) (by decide)) 4 _ (by omega) (by omega), new_bad X (hX 15 (by decide) (by decide)) 0, new_bad X (hX 15 (by decide) (by decide)) 2001, push_eq X (hX 16 (by decide) (by decide)) (hX 23 (by decide) (by decide)), p1, p2, p3, frA, same_11 X (hX 9 (by decide) (by decide)), rest_1 X (hX 12 (by decide) (by decide)), Nat.add_assoc]
end Go.Proofs.Ytmcjnbkodcdjnaa
