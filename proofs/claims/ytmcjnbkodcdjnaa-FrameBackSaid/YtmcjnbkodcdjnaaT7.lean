import Derived.Test.YtmcjnbkodcdjnaaT6
set_option linter.unusedVariables false
set_option linter.unusedSimpArgs false
namespace Go.Proofs.Ytmcjnbkodcdjnaa
open Go Go.Am

noncomputable def rAll (X : CallO) (m : Int) (b sizes : List UInt8) (rb rs : Rt) (h : Heap) : Rt :=
  match (lim X T).call 8 [.int .i64 m, .list 1 (ofBytes b) rb, .list 1 (ofBytes sizes) rs] h with
  | some (.tup [_, .list _ _ r, _], _) => r
  | _ => .no
theorem all_eq (X : CallO) (hX : ∀ f, f ≠ 13 → f ≠ 14 → ∀ a h, X f a h = none) (m : Int) (h1 : 1 ≤ m) (h2 : m ≤ 2000) (b sizes : List UInt8) (rb rs : Rt) (hb : b.length ≤ 10000) (hs : sizes.length ≤ 9223372036854775807) (h0 : Heap) :
    (lim X T).call 8 [.int .i64 m, .list 1 (ofBytes b) rb, .list 1 (ofBytes sizes) rs] h0 =
      some (.tup [.agg [.int .i64 m, .str (pushB m St0 b).held, .bool (pushB m St0 b).over, .bool (pushB m St0 b).cr], .list 2 ((pushB m St0 b).out.map lnA) (rAll X m b sizes rb rs h0), .bool true], h0) := by
  obtain ⟨x, hx, r, hr, rfl⟩ := all_ok X (hX 8 (by decide) (by decide)) (hX 15 (by decide) (by decide)) (hX 16 (by decide) (by decide)) (hX 23 (by decide) (by decide)) m h1 h2 b sizes rb rs hb hs h0
  have : rAll X m b sizes rb rs h0 = r := by unfold rAll; rw [hx]
  rw [this, hx, frA]
theorem all_eq0 (X : CallO) (hX : ∀ f, f ≠ 13 → f ≠ 14 → ∀ a h, X f a h = none) (m : Int) (h1 : 1 ≤ m) (h2 : m ≤ 2000) (b : List UInt8) (rb rs : Rt) (hb : b.length ≤ 10000) (h0 : Heap) :
    (lim X T).call 8 [.int .i64 m, .list 1 (ofBytes b) rb, .list 1 [] rs] h0 =
      some (.tup [.agg [.int .i64 m, .str (pushB m St0 b).held, .bool (pushB m St0 b).over, .bool (pushB m St0 b).cr], .list 2 ((pushB m St0 b).out.map lnA) (rAll X m b [] rb rs h0), .bool true], h0) := all_eq X hX m h1 h2 b [] rb rs hb (by simp) h0

theorem same_2 (X : CallO) (hX : ∀ a h, X 9 a h = none) (a : List (List UInt8 × Bool)) (r1 r2 : Rt) (ha : a.length ≤ 1000000) (h : Heap) :
    (lim X T).call 9 [.list 2 (a.map lnA) r1, .list 2 (a.map lnA) r2] h = some (.bool true, h) := by
  rw [same_ok X hX a a r1 r2 ha ha h]; simp

theorem chunks_ok (X : CallO) (hX : ∀ f, f ≠ 13 → f ≠ 14 → ∀ a h, X f a h = none) (k : Nat) (hk : k ≤ 65535) (b x y : List UInt8) (rb rx ry : Rt) (hx : x.length ≤ 9223372036854775807) (hy : y.length ≤ 9223372036854775807) (h0 : Heap) :
    (lim X T).call 3 [.int .u16 k, .list 1 (ofBytes b) rb, .list 1 (ofBytes x) rx, .list 1 (ofBytes y) ry] h0 = some (.bool true, h0) := by
  refine lim_call_of tab3 (hX _ (by decide) (by decide) _ _) (callF_wp ?_)
  by_cases hb : b.length ≤ 3000
  · have hl : (pushB (((k % 2000 : Nat) : Int) + 1) St0 b).out.length ≤ 1000000 := by
      have := (pushB_len ((k % 2000 : Nat) + 1) b St0).2
      simp [St0] at this ⊢
      omega
    have w0 : IntKind.wrap .i64 (k : Int) = k := wrap64 (by omega) (by omega)
    have w1 : IntKind.wrap .i64 (1 + (k : Int).tmod 2000) = ((k % 2000 : Nat) : Int) + 1 := by
      rw [show (k : Int).tmod 2000 = ((k % 2000 : Nat) : Int) from rfl, wrap64 (by omega) (by omega)]; omega
    have e := fun s rs (hs : s.length ≤ 9223372036854775807) h => all_eq X hX (((k % 2000 : Nat) : Int) + 1) (by omega) (by omega) b s rb rs (by omega) hs h
    have e0 := fun rs h => all_eq0 X hX (((k % 2000 : Nat) : Int) + 1) (by omega) (by omega) b rb rs (by omega) h
    generalize ((k % 2000 : Nat) : Int) + 1 = m at *
    have hn : ¬ (3000 < (b.length : Int)) := by omega
    simp [wB3, w0, w1, e, e0, hx, hy, hn, same_2 X (hX 9 (by decide) (by decide)), awake_ok X hX, hl, Nat.add_assoc]
    try fail "x"
  · simp [wB3, hb, awake_ok X hX]
    omega

theorem extOk0 : CallOk Try.prog noX := noX_ok _
theorem FrameChunks_law (xs : List AV) (h : HasArgs Try.prog [22, 23, 23, 23] xs) : (lim noX T).call 3 xs [] = some (.bool true, []) := by
  obtain ⟨a0, r0, n0, rfl, h0, h⟩ := h
  obtain ⟨a1, r1, n1, rfl, h1, h⟩ := h
  obtain ⟨a2, r2, n2, rfl, h2, h⟩ := h
  obtain ⟨a3, r3, n3, rfl, h3, h⟩ := h
  obtain rfl := args_nil h
  obtain ⟨k, rfl, hk⟩ := has_u16 Try.underlying22 h0
  obtain ⟨b, rfl, _⟩ := has_bytes Try.underlying23 Try.underlying5 (by kernel_rfl) h1
  obtain ⟨x, rfl, hx⟩ := has_bytes Try.underlying23 Try.underlying5 (by kernel_rfl) h2
  obtain ⟨y, rfl, hy⟩ := has_bytes Try.underlying23 Try.underlying5 (by kernel_rfl) h3
  exact chunks_ok noX (fun _ _ _ _ _ => rfl) k hk b x y _ _ _ hx hy []
end Go.Proofs.Ytmcjnbkodcdjnaa
