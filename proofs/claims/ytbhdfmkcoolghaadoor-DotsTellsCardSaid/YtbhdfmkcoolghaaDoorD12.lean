/-
  dots.Decode: its rounds.
-/
import Derived.Test.YtbhdfmkcoolghaaDoorD11
set_option linter.unusedVariables false
set_option linter.unusedSimpArgs false
namespace Go.Proofs.YtbhdfmkcoolghaaDoor
open Go Go.Am

theorem f9_res : compileRs Tryd.prog Tryd.f9.results.toList = some [.cell 2 none, .cell 3 none, .cell 4 none] := by kernel_rfl
/-- What lies in Decode's boxes, from place m on. -/
structure DecB (m : Nat) (h : Heap) (a : AV) (b : Int) (c : Bool) (out : List UInt8) (rr : Rt) (n : Nat) : Prop where
  b0 : h[m]? = some (.cells [a])
  b1 : h[m + 1]? = some (.cells [.int .i64 b])
  b2 : h[m + 2]? = some (.cells [.bool c])
  b3 : h[m + 3]? = some (.cells [.list 1 (ofBytes out) rr])
  b4 : h[m + 4]? = some (.cells [.int .i64 n])
structure DecS (m : Nat) (σ : Slots) (x : Item) : Prop where
  s2 : σ 2 = .ptr m 0
  s3 : σ 3 = .ptr (m + 1) 0
  s4 : σ 4 = .ptr (m + 2) 0
  s5 : σ 5 = .ptr (m + 3) 0
  s6 : σ 6 = .ptr (m + 4) 0
  s7 : σ 7 = .str x.1
  s8 : σ 8 = .bool x.2
section
variable {m : Nat} {h : Heap} {a : AV} {b : Int} {c : Bool} {out : List UInt8} {rr : Rt} {n : Nat} {σ : Slots} {x : Item}
theorem dec_wrong (hb : DecB m h a b c out rr n) (hs : DecS m σ x) (hl : n + x.1.length ≤ 1000000000) (hx : x.2 = false) :
    Wp M0 qde5 (fun ex σ2 h2 => ex = .ret ∧ h.length = h2.length ∧ DecB m h2 (.list 1 [] .full) 0 false out rr (n + (x.1.length + 2)) ∧ ∀ k, k < m ∨ m + 5 ≤ k → h2[k]? = h[k]?) σ h := by
  obtain ⟨b0, b1, b2, b3, b4⟩ := hb
  obtain ⟨s2, s3, s4, s5, s6, s7, s8⟩ := hs
  have w1 : IntKind.wrap .i64 ((x.1.length : Int) + 2) = (x.1.length : Int) + 2 := wrap64 (by omega) (by omega)
  have w2 : IntKind.wrap .i64 ((n : Int) + ((x.1.length : Int) + 2)) = (n : Int) + ((x.1.length : Int) + 2) := wrap64 (by omega) (by omega)
  have hu := fun h => unstuff_ok nox0 x.1 h
  have l4 := lt_of_get b4
  have l0 : m < h.length := by omega
  have l1 : m + 1 < h.length := by omega
  have l2 : m + 2 < h.length := by omega
  simp [s2, s3, s4, s5, s6, s7, s8, b0, b1, b2, b3, b4, w1, w2, hu, hx]
  refine ⟨⟨?_, ?_, ?_, ?_, ?_⟩, fun k hk => ?_⟩
  · simp [List.getElem?_set, l0]
  · simp [List.getElem?_set, l1]
  · simp [List.getElem?_set, l2]
  · simp [List.getElem?_set, b3]
  · simp [List.getElem?_set, l4]
  · rw [get_set_ne (by omega), get_set_ne (by omega), get_set_ne (by omega), get_set_ne (by omega)]
theorem dec_last (hb : DecB m h a b c out rr n) (hs : DecS m σ x) (hl : n + x.1.length ≤ 1000000000) (hx : x.2 = true) (hd : x.1 = [46]) :
    Wp M0 qde5 (fun ex σ2 h2 => ex = .ret ∧ h.length = h2.length ∧ DecB m h2 (.list 1 (ofBytes out) rr) ((n + (x.1.length + 2) : Nat) : Int) true out rr (n + (x.1.length + 2)) ∧ ∀ k, k < m ∨ m + 5 ≤ k → h2[k]? = h[k]?) σ h := by
  obtain ⟨b0, b1, b2, b3, b4⟩ := hb
  obtain ⟨s2, s3, s4, s5, s6, s7, s8⟩ := hs
  rw [hd] at s7 hl
  have w2 : IntKind.wrap .i64 ((n : Int) + 3) = (n : Int) + 3 := wrap64 (by omega) (by simp at hl; omega)
  have w1 : IntKind.wrap .i64 3 = 3 := by decide
  have hu := fun h => unstuff_ok nox0 [46] h
  have l4 := lt_of_get b4
  have l0 : m < h.length := by omega
  have l1 : m + 1 < h.length := by omega
  have l2 : m + 2 < h.length := by omega
  simp [s2, s3, s4, s5, s6, s7, s8, b0, b1, b2, b3, b4, w1, w2, hu, hx, hd, fun v => get_set_eq (h := h) (e := v) l4]
  refine ⟨⟨?_, ?_, ?_, ?_, ?_⟩, fun k hk => ?_⟩
  · simp [List.getElem?_set, l0]
  · simp [List.getElem?_set, l1]
  · simp [List.getElem?_set, l2]
  · simp [List.getElem?_set, b3]
  · simp [List.getElem?_set, l4]
  · rw [get_set_ne (by omega), get_set_ne (by omega), get_set_ne (by omega), get_set_ne (by omega)]
theorem dec_more (hb : DecB m h a b c out rr n) (hs : DecS m σ x) (hl : n + x.1.length + out.length ≤ 1000000000) (hx : x.2 = true) (hd : x.1 ≠ [46]) {n0 : Nat} (ow : Ow n0 h 1 5 rr out.length) (hn : n0 ≤ h.length) (hm : m + 5 ≤ n0) :
    Wp M0 qde5 (fun ex σ2 h2 => ex = .normal ∧ h.length ≤ h2.length ∧ (∃ rr', (∃ t, rr' = .tok t) ∧ DecB m h2 a b c (out ++ unP x.1 ++ [13, 10]) rr' (n + (x.1.length + 2)) ∧ Ow n0 h2 1 5 rr' (out ++ unP x.1 ++ [13, 10]).length) ∧ ∀ k, k < m ∨ (m + 5 ≤ k ∧ k < n0) → h2[k]? = h[k]?) σ h := by
  obtain ⟨b0, b1, b2, b3, b4⟩ := hb
  obtain ⟨s2, s3, s4, s5, s6, s7, s8⟩ := hs
  have w1 : IntKind.wrap .i64 ((x.1.length : Int) + 2) = (x.1.length : Int) + 2 := wrap64 (by omega) (by omega)
  have w2 : IntKind.wrap .i64 ((n : Int) + ((x.1.length : Int) + 2)) = (n : Int) + ((x.1.length : Int) + 2) := wrap64 (by omega) (by omega)
  have hu := fun h => unstuff_ok nox0 x.1 h
  have l4 := lt_of_get b4
  have l3 : m + 3 < h.length := by omega
  have hul : (unP x.1).length ≤ x.1.length := by unfold unP; split <;> simp
  have ow0 : Ow n0 (h.set (m + 4) (.cells [.int .i64 ((n : Int) + ((x.1.length : Int) + 2))])) 1 5 rr out.length := ow.set (by rw [b4]; simp)
  obtain ⟨r1, g1, p1, p2, p3⟩ := app_own (n0 := n0) (key := h.length) (sz := 1) (bytes := 1) (e := 5) (h := h.set (m + 4) (.cells [.int .i64 ((n : Int) + ((x.1.length : Int) + 2))]) ++ [AE.dead, AE.dead]) (s' := 1) (xs := ofBytes out) (r := rr) (x := .str (unP x.1)) (ys := ofBytes (unP x.1)) rfl (.inl rfl) (by simpa using ow0.app _) hn (by simp) (by simp; omega) (by simp; omega)
  have hg1 : g1.length = h.length + 2 := by rw [p3.len]; simp
  obtain ⟨r2, g2, q1, q2, q3⟩ := app_own (n0 := n0) (key := h.length + 1) (sz := 1) (bytes := 1) (e := 5) (h := g1) (s' := 1) (xs := ofBytes (out ++ unP x.1)) (r := r1) (x := .str [13, 10]) (ys := ofBytes [13, 10]) rfl (.inl rfl) (by simpa using p2) (by omega) (by omega) (by simp; omega) (by simp; omega)
  have b3' : ∀ l, (h.set (m + 4) (.cells [.int .i64 ((n : Int) + ((x.1.length : Int) + 2))]) ++ l)[m + 3]? = some (.cells [.list 1 (ofBytes out) rr]) := fun l => get_left (by rw [get_set_ne (by omega)]; exact b3) _
  have b33 : g2[m + 3]? = some (.cells [.list 1 (ofBytes out) rr]) := q3.keep p2 (p3.keep (by simpa using ow0.app _) (b3' _) (by simp) (by omega)) (by simp) (by omega)
  simp [s2, s3, s4, s5, s6, s7, s8, b0, b1, b2, b3', b4, w1, w2, hu, hx, hd, p1, q1, b33]
  have keep : ∀ k e, k < n0 → (h.set (m + 4) (.cells [.int .i64 ((n : Int) + ((x.1.length : Int) + 2))]))[k]? = some e → g2[k]? = some e := fun k e hk he => by
    have e1 : g2.take n0 = (h.set (m + 4) (.cells [.int .i64 ((n : Int) + ((x.1.length : Int) + 2))])).take n0 := by rw [q3.take, p3.take, take_app (by simpa using hn)]
    rw [get_of_take e1 hk]
    exact he
  have keep2 : ∀ k, k < n0 → g2[k]? = (h.set (m + 4) (.cells [.int .i64 ((n : Int) + ((x.1.length : Int) + 2))]))[k]? := fun k hk => by
    have e1 : g2.take n0 = (h.set (m + 4) (.cells [.int .i64 ((n : Int) + ((x.1.length : Int) + 2))])).take n0 := by rw [q3.take, p3.take, take_app (by simpa using hn)]
    exact get_of_take e1 hk
  have hg2 : g2.length = h.length + 2 := by rw [q3.len, hg1]
  refine ⟨by omega, ⟨r2, ⟨_, app_tok rfl (by simp [ofBytes]) q1⟩, ⟨?_, ?_, ?_, ?_, ?_⟩, ?_⟩, fun k hk => ?_⟩
  · rw [get_set_ne (by omega)]
    exact keep _ _ (by omega) (by rw [get_set_ne (by omega)]; exact b0)
  · rw [get_set_ne (by omega)]
    exact keep _ _ (by omega) (by rw [get_set_ne (by omega)]; exact b1)
  · rw [get_set_ne (by omega)]
    exact keep _ _ (by omega) (by rw [get_set_ne (by omega)]; exact b2)
  · exact get_set_eq (by omega)
  · rw [get_set_ne (by omega)]
    exact keep _ _ (by omega) (by rw [get_set_eq l4]; simp)
  · have := q2.set (i := m + 3) (x := .cells [.list 1 (ofBytes (out ++ (unP x.1 ++ [13, 10]))) r2]) (by rw [b33]; simp)
    simpa [Nat.add_assoc] using this
  · rw [get_set_ne (by omega), keep2 k (by omega), get_set_ne (by omega)]
end
end Go.Proofs.YtbhdfmkcoolghaaDoor
