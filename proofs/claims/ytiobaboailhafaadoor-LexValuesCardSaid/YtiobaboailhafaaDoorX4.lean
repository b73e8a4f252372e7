/-
  LexValues: the walk.
-/
import Derived.Test.YtiobaboailhafaaDoorX2
import Derived.Test.YtiobaboailhafaaDoorF3
import Derived.Test.YtiobaboailhafaaDoorL1
set_option linter.unusedVariables false
set_option linter.unusedSimpArgs false
set_option maxRecDepth 20000
namespace Go.Proofs.YtiobaboailhafaaDoor
open Go Go.Am

theorem of_ok (base : Nat) (hb : base = 16 ∨ base = 10 ∨ base = 2) (c : UInt8) (b : Nat) (x y : AV) (h : Heap) (hk : h[b]? = some (.cells [x, y, .int .i64 base])) : M.call 5 [.int .u8 c.toNat, .ptr b 0] h = some (.str (fmtP base c.toNat), h) := by
  refine call_of tab5 rfl (callF_wp ?_)
  have hc := c.toNat_lt
  have w1 : IntKind.wrap .u64 (c.toNat : Int) = (c.toNat : Int) := by simp [IntKind.wrap, IntKind.bits, IntKind.signed]; omega
  simp [wB5, hk, w1, fmt_ok base c.toNat hb hc]
theorem up_ok (s : List UInt8) (hl : s.length ≤ 100000) (hs : ∀ b ∈ s, b.toNat < 128) (h : Heap) : M.call 7 [.str s] h = some (.str (Lib.toUpperA s), h) := by
  refine lim_ext ?_
  have h1 : s.length ≤ 140737488355328 := by omega
  have h2 : upPat [.str s] = some (.str (Lib.toUpperA s)) := by
    unfold upPat
    simp only
    rw [if_pos ⟨h1, hs⟩]
  simp [XS, orX, ibsX, fX, h2]
def minB (a b : UInt8) : UInt8 := if a ≤ b then a else b
def maxB (a b : UInt8) : UInt8 := if a ≤ b then b else a
/-- Between two ways of writing. -/
def InvW (l : List UInt8) (rl : Rt) (great : Bool) (lo hi : UInt8) (rb : Rt) (h0 : Heap) (k : Nat) (σ : Slots) (h : Heap) : Prop := ∃ j, j ≤ 3 ∧ k = 3 - j ∧ σ 0 = .list 1 (ofBytes l) rl ∧ σ 1 = .bool great ∧ σ 5 = .int .u8 lo.toNat ∧ σ 6 = .int .u8 hi.toNat ∧
  σ 49 = .list 3 (ways.map fun p => .agg [.str [p.1], .str p.2.1, .int .i64 (p.2.2 : Nat)]) rb ∧ σ 50 = .int .i64 3 ∧ σ 51 = .int .i64 (j : Nat) ∧ h.take h0.length = h0
/-- Between two bytes of a row. -/
def InvRow (p : UInt8 × List UInt8 × Nat) (a : UInt8) (r : List UInt8) (rl rt rb : Rt) (great : Bool) (lo hi : UInt8) (j b : Nat) (H : Heap) (k : Nat) (σ : Slots) (h : Heap) : Prop := ∃ i, i ≤ r.length ∧ k = r.length - i ∧ σ 0 = .list 1 (ofBytes (a :: r)) rl ∧ σ 1 = .bool great ∧ σ 5 = .int .u8 lo.toNat ∧ σ 6 = .int .u8 hi.toNat ∧
  σ 8 = .ptr b 0 ∧ σ 9 = .fn 5 [.ptr b 0] ∧ σ 49 = .list 3 (ways.map fun p => .agg [.str [p.1], .str p.2.1, .int .i64 (p.2.2 : Nat)]) rb ∧ σ 50 = .int .i64 3 ∧ σ 51 = .int .i64 (j : Nat) ∧
  σ 66 = .list 1 (ofBytes r) rt ∧ σ 67 = .int .i64 (r.length : Nat) ∧ σ 68 = .int .i64 (i : Nat) ∧ σ 10 = .str (rowOf p a (r.take i)) ∧ h = H
theorem row_add (p : UInt8 × List UInt8 × Nat) (a : UInt8) (q : List UInt8) (c : UInt8) : rowOf p a (q ++ [c]) = rowOf p a q ++ 46 :: fmtP p.2.2 c.toNat := by
  simp [rowOf, grp, tailT]
theorem row_few {p : UInt8 × List UInt8 × Nat} (hp : p ∈ ways) (a : UInt8) (q : List UInt8) : (rowOf p a q).length ≤ 10 + 9 * q.length := by
  have h1 := (dig_low hp a).1.few
  have h2 := tail_few (base := p.2.2) (grp p.2.2 q) fun g hg => by
    obtain ⟨b, _, rfl⟩ := List.mem_map.1 hg
    exact (dig_low hp b).1
  have h3 : (grp p.2.2 q).length = q.length := by simp [grp]
  simp [rowOf]
  omega
theorem text_row (p : UInt8 × List UInt8 × Nat) (a : UInt8) (r : List UInt8) (lo hi : UInt8) : textOf p a r lo hi = 114 :: 32 :: 61 :: 32 :: (rowOf p a r ++ 32 :: 37 :: p.1 :: (p.2.1 ++ (fmtP p.2.2 lo.toNat ++ 45 :: fmtP p.2.2 hi.toNat))) := by
  simp [textOf, ruleT, rowOf]
theorem values_ok (l : List UInt8) (rl : Rt) (great : Bool) (hl : l.length ≤ 9223372036854775807) (h0 : Heap) : M.call 3 [.list 1 (ofBytes l) rl, .bool great] h0 = some (.bool true, h0) := by
  refine call_of tab3 rfl (callF_wp ?_)
  have aw := fun h => awake_ok h
  match l, hl with
  | [], _ => simp [wB3, aw]
  | a :: r, hl =>
    by_cases h20 : (a :: r).length ≤ 20
    · have n1 : ¬ (20 < (r.length : Int) + 1) := by simp at h20; omega
      have n2 : ¬ ((r.length : Int) + 1 = 0) := by omega
      obtain ⟨z, hz⟩ : ∃ z, (a :: r)[r.length]? = some z := ⟨_, List.getElem?_eq_getElem (by simp)⟩
      have w1 : IntKind.wrap .i64 ((r.length : Int) + 1 - 1) = (r.length : Int) := by rw [wrap64 (by omega) (by omega)]; omega
      have w1' : IntKind.wrap .i64 (r.length : Int) = (r.length : Int) := wrap64 (by simp at h20; omega) (by simp at h20; omega)
      simp [-getElem?_pos, wB3, n1, n2, w1, w1', hz]
      obtain ⟨lo, hlo⟩ : ∃ lo : UInt8, lo = if z.toNat < a.toNat then z else a := ⟨_, rfl⟩
      obtain ⟨hi, hhi⟩ : ∃ hi : UInt8, hi = if a.toNat < z.toNat then z else a := ⟨_, rfl⟩
      have hle : lo ≤ hi := by
        rw [hlo, hhi]
        show UInt8.toNat _ ≤ UInt8.toNat _
        split <;> split <;> omega
      have e5 : (if z.toNat < a.toNat then (z.toNat : Int) else (a.toNat : Int)) = (lo.toNat : Int) := by rw [hlo]; split <;> rfl
      have e6 : (if a.toNat < z.toNat then (z.toNat : Int) else (a.toNat : Int)) = (hi.toNat : Int) := by rw [hhi]; split <;> rfl
      rw [e5, e6]
      clear hlo hhi e5 e6 hz
      have hr19 : r.length ≤ 19 := by simpa using h20
      refine Wp.loop (InvW (a :: r) rl great lo hi .full h0) ?_ (n := 3) ⟨0, by omega, by omega, by simp, by simp, by simp, by simp, by simp [ways], by simp, by simp, by simp⟩
      rintro k σ h ⟨j, hj, rfl, s0, s1, s5, s6, s49, s50, s51, ht⟩
      have ht' : ∀ l, (h ++ l).take h0.length = h0 := fun l => by rw [take_app (by have := congrArg List.length ht; simp at this; omega), ht]
      by_cases hlt : j < 3
      · obtain ⟨p, ec⟩ : ∃ p, ways[j]? = some p := ⟨_, List.getElem?_eq_getElem hlt⟩
        have hp : p ∈ ways := List.mem_of_getElem? ec
        have hb : p.2.2 = 16 ∨ p.2.2 = 10 ∨ p.2.2 = 2 := by
          simp only [ways, List.mem_cons, List.not_mem_nil, or_false] at hp
          rcases hp with rfl | rfl | rfl <;> simp
        have hlt' : (j : Int) < 3 := by omega
        obtain ⟨H, hH⟩ : ∃ H, H = h ++ [AE.cells [.str [p.1], .str p.2.1, .int .i64 (p.2.2 : Nat)]] := ⟨_, rfl⟩
        have hHb : H[h.length]? = some (.cells [.str [p.1], .str p.2.1, .int .i64 (p.2.2 : Nat)]) := by rw [hH]; simp
        have hof := fun c => of_ok p.2.2 hb c h.length _ _ H hHb
        have hr0 := row_few hp a []
        have hc0 : 2 + (fmtP p.2.2 a.toNat).length ≤ 140737488355328 := by have := (dig_low hp a).1.few; omega
        rw [hH] at hof
        have w2 : IntKind.wrap .i64 ((j : Int) + 1) = ((j + 1 : Nat) : Int) := by rw [wrap64 (by omega) (by omega)]; rfl
        have c1 : (1 : Int) ≤ (r.length : Int) + 1 := by omega
        simp [-getElem?_pos, wL3_1, s0, s1, s5, s6, s49, s50, s51, hlt', ec, hof, hc0, c1]
        rw [← hH] at hof ⊢
        refine Wp.loop (InvRow p a r rl .no .full great lo hi j h.length H) ?_ (n := r.length) ⟨0, by omega, by omega, by simp [s0], by simp [s1], by simp [s5], by simp [s6], by simp, by simp, by simp [s49], by simp [s50], by simp [s51], by simp [ofBytes], by simp, by simp, by simp [rowOf, grp, tailT], rfl⟩
        rintro k σ2 g ⟨i, hile, rfl, t0, t1, t5, t6, t8, t9, t49, t50, t51, t66, t67, t68, t10, rfl⟩
        have hrow := row_few hp a (r.take i)
        have htl : (r.take i).length ≤ 19 := by simp; omega
        by_cases hil : i < r.length
        · obtain ⟨c, eci⟩ : ∃ c, r[i]? = some c := ⟨_, List.getElem?_eq_getElem hil⟩
          have e64 : IntKind.wrap .i64 ((i : Int) + 1) = ((i + 1 : Nat) : Int) := by rw [wrap64 (by omega) (by omega)]; rfl
          have hcf := (dig_low hp c).1.few
          have b1 : 1 + (fmtP p.2.2 c.toNat).length ≤ 140737488355328 := by omega
          have b2 : (rowOf p a (r.take i)).length + ((fmtP p.2.2 c.toNat).length + 1) ≤ 140737488355328 := by omega
          have hofc := hof c
          have htk : r.take (i + 1) = r.take i ++ [c] := by rw [List.take_add_one, eci]; rfl
          simp [-getElem?_pos, wL3_0, t0, t1, t5, t6, t8, t9, t49, t50, t51, t66, t67, t68, t10, hil, eci, hofc, b1, b2, e64]
          exact ⟨r.length - (i + 1), by omega, i + 1, by omega, rfl, by simp [t0], by simp [t1], by simp [t5], by simp [t6], by simp [t8], by simp [t9], by simp [t49], by simp [t50], by simp [t51], by simp [t66], by simp [t67], by simp, by rw [htk, row_add]; simp, rfl⟩
        · have hir : i = r.length := by omega
          subst hir
          rw [List.take_length] at t10 hrow
          have hd1 := (dig_low hp lo).1.few
          have hd2 := (dig_low hp hi).1.few
          have hpl : p.2.1.length ≤ 1 := by
            simp only [ways, List.mem_cons, List.not_mem_nil, or_false] at hp
            rcases hp with rfl | rfl | rfl <;> simp
          have hofl := hof lo
          have hofh := hof hi
          have hir2 : ¬ r.length < r.length := Nat.lt_irrefl _
          have htx := text_row p a r lo hi
          obtain ⟨hS1, hS2⟩ := text_low hp a r lo hi (by omega) hle
          have hU := text_up hp a r lo hi (by omega) hle
          have hA := text_ascii hp a r lo hi
          have w5 : IntKind.wrap .i64 (5 + ((rowOf p a r).length : Int)) = 5 + ((rowOf p a r).length : Int) := wrap64 (by omega) (by omega)
          have w51 : IntKind.wrap .i64 1 = 1 := by decide
          have hbd : 4 + (rowOf p a r).length ≤ 140737488355328 := by omega
          have next : ∀ (σ' : Slots) (g' : Heap), σ' 0 = σ2 0 → σ' 1 = σ2 1 → σ' 5 = σ2 5 → σ' 6 = σ2 6 → σ' 49 = σ2 49 → σ' 50 = σ2 50 → σ' 51 = .int .i64 ((j + 1 : Nat) : Int) → g'.take h0.length = h0 → ∃ m, m < 3 - j ∧ InvW (a :: r) rl great lo hi .full h0 m σ' g' :=
            fun σ' g' a1 a2 a3 a4 a5 a6 a7 a8 => ⟨3 - (j + 1), by omega, j + 1, by omega, rfl, by rw [a1, t0], by rw [a2, t1], by rw [a3, t5], by rw [a4, t6], by rw [a5, t49], by rw [a6, t50], a7, a8⟩
          cases great with
          | false =>
            obtain ⟨x, hx, rr, rfl⟩ := lex_ok (textOf p a r lo hi) (by omega) g
            rw [hS2, htx] at hx
            simp [ruleK, tokA, tokL] at hx
            simp [-getElem?_pos, wL3_0, wK3_0, wK3_1, w2, t0, t1, t5, t6, t8, t9, t49, t50, t51, t66, t67, t68, t10, hofl, hofh, hHb, hx, w5]
            refine ⟨by omega, by omega, by omega, by omega, by omega, by omega, by omega, ?_⟩
            exact next _ _ (by simp) (by simp) (by simp) (by simp) (by simp) (by simp) (by simp) (by rw [hH]; exact ht' _)
          | true =>
            have hup := fun h => up_ok (textOf p a r lo hi) (by omega) hA h
            obtain ⟨x, hx, rr, rfl⟩ := lex_ok (Lib.toUpperA (textOf p a r lo hi)) (by simp [Lib.toUpperA]; omega) g
            rw [hU] at hx
            generalize Lib.toUpperA (textOf p a r lo hi) = UP at *
            rw [htx] at hup
            simp [ruleK, tokA, tokL] at hx
            simp [-getElem?_pos, wL3_0, wK3_0, wK3_1, w2, t0, t1, t5, t6, t8, t9, t49, t50, t51, t66, t67, t68, t10, hofl, hofh, hHb, hup, hx, w5]
            refine ⟨by omega, by omega, by omega, by omega, by omega, by omega, by omega, ?_⟩
            exact next _ _ (by simp) (by simp) (by simp) (by simp) (by simp) (by simp) (by simp) (by rw [hH]; exact ht' _)
      · have hlt' : ¬ (j : Int) < 3 := by omega
        simp [-getElem?_pos, wL3_1, wK3_2, s50, s51, hlt', aw, finish_of_take ht]
    · have n1 : (20 < (r.length : Int) + 1) := by simp at h20; omega
      have n2 : ¬ ((r.length : Int) + 1 = 0) := by omega
      simp [wB3, n1, n2, aw]
theorem LexValues_law (xs : List AV) (h : HasArgs Tryd.prog [22, 4] xs) : (lim XS T).call 3 xs [] = some (.bool true, []) := by
  obtain ⟨a0, r0, n0, rfl, h0, h⟩ := h
  obtain ⟨a1, r1, n1, rfl, h1, h⟩ := h
  obtain rfl := args_nil h
  obtain ⟨l, rfl, hl⟩ := has_bytes Tryd.underlying22 Tryd.underlying5 (by kernel_rfl) h0
  obtain ⟨g, rfl⟩ := has_bool Tryd.underlying4 h1
  exact values_ok l _ g hl []
end Go.Proofs.YtiobaboailhafaaDoor
