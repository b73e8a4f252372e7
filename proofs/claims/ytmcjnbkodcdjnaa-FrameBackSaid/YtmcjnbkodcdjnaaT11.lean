/-
  FrameBack: the walk.
-/
import Derived.Test.YtmcjnbkodcdjnaaT10
import Derived.Test.YtmcjnbkodcdjnaaT0
set_option linter.unusedVariables false
set_option linter.unusedSimpArgs false
namespace Go.Proofs.Ytmcjnbkodcdjnaa
open Go Go.Am

theorem hXS : ∀ f, f ≠ 13 → f ≠ 14 → ∀ a h, XS f a h = none := by
  intro f h1 h2 a h
  simp [XS, orX, fX, h1, h2]
def InvK (l : List (List UInt8)) (x : List UInt8) (rl rx : Rt) (n : Nat) (h0 : Heap) (k : Nat) (σ : Slots) (h : Heap) : Prop := ∃ i r, i ≤ l.length ∧ k = l.length - i ∧ (∀ s ∈ l.take i, s.length ≤ 300 ∧ Lib.contains s [13, 10] = false) ∧
  σ 1 = .list 1 (l.map AV.str) rl ∧ σ 2 = .list 1 (ofBytes x) rx ∧ σ 7 = .int .i64 n ∧ σ 23 = .list 1 (l.map AV.str) rl ∧ σ 24 = .int .i64 l.length ∧ σ 25 = .int .i64 i ∧ σ 8 = .list 2 ((l.map (lnA ∘ lineB n)).take i) r ∧ Ow h0.length h 2 34 r i ∧ h.take h0.length = h0

theorem back_ok (k : Nat) (hk : k ≤ 65535) (l : List (List UInt8)) (x : List UInt8) (rl rx : Rt) (hx : x.length ≤ 9223372036854775807) (hlm : ∀ s ∈ l, s.length ≤ 9223372036854775807) (h0 : Heap) :
    M.call 6 [.int .u16 k, .list 1 (l.map AV.str) rl, .list 1 (ofBytes x) rx] h0 = some (.bool true, h0) := by
  refine lim_call_of tab6 (hXS _ (by decide) (by decide) _ _) (callF_wp ?_)
  have aw := fun h => awake_ok XS hXS h
  by_cases hb : l.length ≤ 30
  · have hn : ¬ (30 < (l.length : Int)) := by omega
    have w0 : IntKind.wrap .i64 (k : Int) = k := wrap64 (by omega) (by omega)
    have w1 : IntKind.wrap .i64 (1 + (k : Int).tmod 2000) = ((k % 2000 + 1 : Nat) : Int) := by
      rw [show (k : Int).tmod 2000 = ((k % 2000 : Nat) : Int) from rfl, wrap64 (by omega) (by omega)]; omega
    have hn2 : 1 ≤ k % 2000 + 1 ∧ k % 2000 + 1 ≤ 2000 := by omega
    generalize hnn : k % 2000 + 1 = n at *
    simp [wB6, w0, w1, hn]
    refine Wp.loop (InvK l x rl rx n h0) ?_ (n := l.length) ⟨0, .full, by omega, by omega, by simp, by simp, by simp, by simp, by simp, by simp, by simp, by simp, .full, by simp⟩
    rintro k σ h ⟨i, r, hi, rfl, hok, s1, s2, s7, s23, s24, s25, s8, ow, ht⟩
    have hle : h0.length ≤ h.length := by have := congrArg List.length ht; simp at this; omega
    by_cases hlt : i < l.length
    · obtain ⟨c, ec⟩ : ∃ c, l[i]? = some c := ⟨_, List.getElem?_eq_getElem hlt⟩
      have hcm : c.length ≤ 9223372036854775807 := hlm c (List.mem_of_getElem? ec)
      have e64 : IntKind.wrap .i64 ((i : Int) + 1) = ((i + 1 : Nat) : Int) := by rw [wrap64 (by omega) (by omega)]; rfl
      have htk : l.take (i + 1) = l.take i ++ [c] := by rw [List.take_add_one, ec]; rfl
      have next : ∀ (σ' : Slots) (g : Heap) (r' : Rt), c.length ≤ 300 → Lib.contains c [13, 10] = false → σ' 1 = σ 1 → σ' 2 = σ 2 → σ' 7 = σ 7 → σ' 23 = σ 23 → σ' 24 = σ 24 → σ' 25 = .int .i64 ((i + 1 : Nat) : Int) → σ' 8 = .list 2 ((l.map (lnA ∘ lineB n)).take i ++ [lnA (lineB n c)]) r' → Ow h0.length g 2 34 r' (i + 1) → g.take h0.length = h0 → ∃ m, m < l.length - i ∧ InvK l x rl rx n h0 m σ' g :=
        fun σ' g r' c1 c2 a1 a2 a3 a4 a5 a6 a7 a8 a9 => ⟨l.length - (i + 1), by omega, i + 1, r', by omega, rfl, by
          rw [htk]
          intro s hs
          rw [List.mem_append, List.mem_singleton] at hs
          rcases hs with hs | rfl
          · exact hok s hs
          · exact ⟨c1, c2⟩, by rw [a1, s1], by rw [a2, s2], by rw [a3, s7], by rw [a4, s23], by rw [a5, s24], a6, by rw [a7, List.take_add_one, List.getElem?_map, ec]; rfl, a8, a9⟩
      by_cases hc3 : c.length ≤ 300
      · have h3 : ¬ (300 < (c.length : Int)) := by omega
        have hcon := fun h => contains_ok c [13, 10] (by omega) h
        cases hcc : Lib.contains c [13, 10] with
        | true =>
          simp [-getElem?_pos, wL6_0, s1, s2, s7, s23, s24, s25, s8, hlt, ec, h3, hcon, hcc, aw, finish_of_take ht]
        | false =>
          have hmin : (if n < c.length then (n : Int) else (c.length : Int)) = ((min n c.length : Nat) : Int) := by split <;> omega
          have hm0 : (0 : Int) ≤ ((min n c.length : Nat) : Int) ∧ ((min n c.length : Nat) : Int) ≤ (c.length : Int) := by omega
          have hmt : c.take (((min n c.length : Nat) : Int)).toNat = c.take n := by
            rw [Int.toNat_natCast]
            by_cases hh : n ≤ c.length
            · rw [Nat.min_eq_left hh]
            · rw [Nat.min_eq_right (by omega), List.take_of_length_le (Nat.le_refl _), List.take_of_length_le (by omega)]
          generalize ((min n c.length : Nat) : Int) = m at *
          simp [-getElem?_pos, wL6_0, s1, s2, s7, s23, s24, s25, s8, hlt, ec, h3, hcon, hcc, aw, e64, hmin, hm0, hmt]
          have hlen : ((l.map (lnA ∘ lineB n)).take i).length = i := by simp; omega
          refine onO_app (n0 := h0.length) (by rw [hlen]; exact ow.app [AE.dead]) hle (by simp) (by rw [hlen]; simp; omega) (by rw [hlen]; simp; omega) fun r' g ow' t => ?_
          rw [hlen] at ow'
          simp [-getElem?_pos, s1, s2, s7, s23, s24, s25, s8, ec, e64]
          exact next _ _ r' hc3 hcc (by simp) (by simp) (by simp) (by simp) (by simp) (by simp) (by simp [lnA, lineB]) (by simpa using ow') (by rw [t.take, take_app hle, ht])
      · have h3 : (300 < (c.length : Int)) := by omega
        simp [-getElem?_pos, wL6_0, s1, s2, s7, s23, s24, s25, s8, hlt, ec, h3, aw, finish_of_take ht]
    · obtain rfl : i = l.length := by omega
      rw [List.take_of_length_le (Nat.le_refl _)] at hok
      rw [List.take_of_length_le (by simp)] at s8
      simp [wL6_0, s24, s25, hlt]
      clear s23 s24 s25
      have hpl := push_lines (n := n) l (fun s hs => (hok s hs).2)
      have hll := lines_len 30 300 l hb (fun s hs => (hok s hs).1)
      have ht1 : ∀ e d, (h ++ [e, d]).take h0.length = h0 := fun e d => by rw [take_app hle, ht]
      have hrs := fun h => rest_1 XS (hXS 12 (by decide) (by decide)) n [] false false (by simp) h
      have hsm := fun r1 r2 h => same_2 XS (hXS 9 (by decide) (by decide)) (l.map (lineB n)) r1 r2 (by simp; omega) h
      simp only [List.map_map] at hsm
      have hal := fun b (hb : b.length ≤ 10000) rb h => all_eq XS hXS (n : Int) (by omega) (by omega) b x rb rx hb hx h
      cases hl : l with
      | nil =>
        subst hl
        have e := fun rb h => hal [] (by simp) rb h
        have j := fun r h => join_ok [] [13, 10] r (by simp) (by simp [Lib.join_nil]) h
        rw [Lib.join_nil] at j
        simp only [List.map_nil] at j s1 s8 hsm
        rw [show ofBytes [] = [] from rfl] at e
        simp [wK6_0, s1, s2, s7, s8, j, e, hrs, aw, pushB, St0, hsm, finish_of_take (ht1 _ _)]
      | cons y r =>
        have jl := join_lines [13, 10] r y
        rw [← hl] at jl
        have hjl : (Lib.join l [13, 10]).length ≤ 10000 := by
          have := congrArg List.length jl
          simp only [List.length_append] at this
          omega
        have j := fun r h => join_ok l [13, 10] r (by omega) (by omega) h
        have e := fun rb h => hal (Lib.join l [13, 10] ++ [13, 10]) (by rw [jl]; omega) rb h
        rw [jl, hpl] at e
        have hpos : 0 < l.length := by rw [hl]; simp
        have hj2 : (Lib.join l [13, 10]).length ≤ 140737488355326 := by omega
        simp [wK6_0, s1, s2, s7, s8, j, jl, e, hrs, aw, hsm, hpos, hj2, finish_of_take (ht1 _ _)]
  · have : 30 < (l.length : Int) := by omega
    simp [wB6, this, aw]
theorem FrameBack_law (xs : List AV) (h : HasArgs Try.prog [22, 39, 23] xs) : M.call 6 xs [] = some (.bool true, []) := by
  obtain ⟨a0, r0, n0, rfl, h0, h⟩ := h
  obtain ⟨a1, r1, n1, rfl, h1, h⟩ := h
  obtain ⟨a2, r2, n2, rfl, h2, h⟩ := h
  obtain rfl := args_nil h
  obtain ⟨k, rfl, hk⟩ := has_u16 Try.underlying22 h0
  obtain ⟨l, rfl, hl, hlm⟩ := has_strs Try.underlying39 Try.underlying9 (by kernel_rfl) h1
  obtain ⟨x, rfl, hx⟩ := has_bytes Try.underlying23 Try.underlying5 (by kernel_rfl) h2
  exact back_ok k hk l x _ _ hx hlm []
end Go.Proofs.Ytmcjnbkodcdjnaa
