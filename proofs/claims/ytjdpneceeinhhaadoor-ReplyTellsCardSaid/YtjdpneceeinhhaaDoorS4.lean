/-
  frankingref18: Parse.
-/
import Derived.Test.YtjdpneceeinhhaaDoorS3
set_option linter.unusedVariables false
set_option linter.unusedSimpArgs false
namespace Go.Proofs.YtjdpneceeinhhaaDoor
open Go Go.Am

def InvT (l : Txt) (rl : Rt) (i n : Nat) (h0 : Heap) (k : Nat) (σ : Slots) (h : Heap) : Prop := ∃ (j : Nat) (r : Rt), j ≤ i + 1 ∧ k = i + 1 - j ∧
  σ 0 = .list 1 (l.map AV.str) rl ∧ σ 2 = .ptr h0.length 0 ∧ σ 5 = .int .i64 i ∧ σ 6 = .ptr (h0.length + 1) 0 ∧ σ 7 = .int .i64 j ∧
  h.take h0.length = h0 ∧ h[h0.length]? = some (.cells [.int .i64 0, .list 1 [] .full]) ∧ h[h0.length + 1]? = some (.cells [.int .i64 n, .list 1 (((l.take j).map (·.drop 4)).map AV.str) r]) ∧ Ow (h0.length + 2) h 1 9 r j
theorem rparse_ok (l : Txt) (hl : l.length ≤ big) (hm : ∀ s ∈ l, s.length ≤ big) (rl : Rt) (h0 : Heap) : ∃ x, M.call 16 [strL l rl] h0 = some x ∧ parR (parseP l) h0 x := by
  refine call_post tab16 rfl ?_
  generalize hres : parseP l = res
  generalize hQ : (fun e σ h => isEnd e ∧ ∃ vs, resVals σ h [ARes.cell 2 (some 2), ARes.tmp 3, ARes.tmp 4] = some vs ∧ ∃ r, finish h0 h (oneOf vs) = some r ∧ parR res h0 r) = Q
  have fin : ∀ (σ : Slots) (h : Heap) (c : Int) (xs : Txt) (r : Rt) (a b : Int), σ 2 = .ptr h0.length 0 → h[h0.length]? = some (.cells [.int .i64 c, .list 1 (xs.map AV.str) r]) → σ 3 = .int .i64 a → σ 4 = .int .i64 b → h.take h0.length = h0 → res = ((c, xs), a, b) → Q .ret σ h := by
    intro σ h c xs r a b s2 hh s3 s4 ht e
    subst hQ
    have k := txt_low h0.length xs
    subst e
    simp [s2, s3, s4, hh, finish_of_take ht, parR, repA, strL]
    rcases r with _ | _ | t <;> simp [clean1, AV.low, k]
  have ht1 : ∀ x, (h0 ++ [x]).take h0.length = h0 := fun x => by simp
  simp [wB16, strL, Nat.add_assoc]
  refine scan_ok l hl hm rl res h0 _ _ hres (by simp) (by simp) (by simp) (fun i σ' hi hf s0 s2 s5 => ?_) (fun σ' e s2 s3 s4 => ?_)
  · rcases hf with ⟨rfl, e⟩ | ⟨s, a, b, c, m, t, n, es, L, seen, hi99, e⟩
    · simp [wK16_1, s0, s2, s5]
      exact fin _ _ 0 [] .full 0 181 (by simp [s2]) (by simp) (by simp) (by simp) (ht1 _) e
    · have hlt : i < l.length := (List.getElem?_eq_some_iff.1 es).1
      obtain ⟨f, ef⟩ : ∃ f, l[0]? = some f := ⟨_, List.getElem?_eq_getElem (by omega)⟩
      have ef' : (l.map AV.str)[0]? = some (.str f) := by rw [List.getElem?_map, ef]; rfl
      have hf : l.headD [] = f := by
        cases l with
        | nil => cases ef
        | cons x l => injection ef
      rw [hf] at L
      obtain ⟨rfl, hn, hcut, hmm, d1, d2, d3, d4, d5, d6, hnn⟩ := L
      have hltI : ((i : Int) = l.length) = False := eq_false (by omega)
      obtain ⟨A, hA⟩ : ∃ A : Nat, a.toNat = 48 + A := ⟨a.toNat - 48, by omega⟩
      obtain ⟨B, hB⟩ : ∃ B : Nat, b.toNat = 48 + B := ⟨b.toNat - 48, by omega⟩
      obtain ⟨C, hC⟩ : ∃ C : Nat, c.toNat = 48 + C := ⟨c.toNat - 48, by omega⟩
      have wA : IntKind.wrap .u8 ((a.toNat : Int) - 48) = (A : Int) := by rw [wrap8 (by omega) (by omega)]; omega
      have wB : IntKind.wrap .u8 ((b.toNat : Int) - 48) = (B : Int) := by rw [wrap8 (by omega) (by omega)]; omega
      have wC : IntKind.wrap .u8 ((c.toNat : Int) - 48) = (C : Int) := by rw [wrap8 (by omega) (by omega)]; omega
      have vA : IntKind.wrap .i64 (A : Int) = A := wrap64 (by omega) (by omega)
      have vB : IntKind.wrap .i64 (B : Int) = B := wrap64 (by omega) (by omega)
      have vC : IntKind.wrap .i64 (C : Int) = C := wrap64 (by omega) (by omega)
      have v1 : IntKind.wrap .i64 (100 * (A : Int)) = 100 * A := wrap64 (by omega) (by omega)
      have v2 : IntKind.wrap .i64 (10 * (B : Int)) = 10 * B := wrap64 (by omega) (by omega)
      have v3 : IntKind.wrap .i64 (100 * (A : Int) + 10 * B) = 100 * A + 10 * B := wrap64 (by omega) (by omega)
      have v4 : IntKind.wrap .i64 (100 * (A : Int) + 10 * B + C) = (n : Int) := by rw [wrap64 (by omega) (by omega)]; omega
      have hlt0 : 0 < l.length := by omega
      simp [-getElem?_pos, -List.getElem?_map, -Int.natCast_add, wK16_1, s0, s2, s5, hltI, hlt0, ef', wA, wB, wC, vA, vB, vC, v1, v2, v3, v4]
      refine Wp.loop (InvT l rl i n h0) ?_ (n := i + 1) ⟨0, .full, by omega, by omega, by simp [s0], by simp [s2], by simp [s5], by simp, by simp, by simp, by simp, by simp, .full⟩
      rintro k σ h ⟨j, r, hj, rfl, t0, t2, t5, t6, t7, ht, hh0, hh1, ow⟩
      have hle : h0.length + 2 ≤ h.length := by
        have := (List.getElem?_eq_some_iff.1 hh1).1
        omega
      by_cases hji : j ≤ i
      · obtain ⟨s', es'⟩ : ∃ s', l[j]? = some s' := ⟨_, List.getElem?_eq_getElem (by omega)⟩
        have es'' : (l.map AV.str)[j]? = some (.str s') := by rw [List.getElem?_map, es']; rfl
        have hjI : (j : Int) ≤ i := by omega
        have hjl : j < l.length := by omega
        obtain ⟨a', b', c', m', t', n', L'⟩ := line_is (seen j s' (by omega) es').1
        have hs4 : (4 : Int) ≤ (s'.length : Int) := by rw [L'.1]; simp; omega
        have e64 : IntKind.wrap .i64 ((j : Int) + 1) = ((j + 1 : Nat) : Int) := by rw [wrap64 (by omega) (by omega)]; rfl
        have htake : (l.take (j + 1)).map (·.drop 4) = (l.take j).map (·.drop 4) ++ [s'.drop 4] := by
          rw [List.take_add_one, es']
          simp
        have hPl : ((l.take j).map (·.drop 4)).length = j := by simp; omega
        generalize (l.take j).map (·.drop 4) = P at *
        have ow1 : Ow (h0.length + 2) (h ++ [AE.dead]) 1 9 r (P.map AV.str).length := by simpa [hPl] using ow.app [AE.dead]
        have hh1' : (h ++ [AE.dead])[h0.length + 1]? = some (.cells [.int .i64 n, .list 1 (P.map AV.str) r]) := by rw [List.getElem?_append_left (by omega)]; exact hh1
        obtain ⟨r', g', p1, p2, p3⟩ := app_list (n0 := h0.length + 2) (key := h.length) (sz := 1) (bytes := 16) (e := 9) (xs := P.map AV.str) (ys := [.str (s'.drop 4)]) (r := r) (r2 := .full) ow1 (by omega) (by simp) (by simp; omega) (by simp; omega)
        have hg1 := p3.keep ow1 hh1' (fun _ _ _ h => by cases h) (by omega)
        have hg0 : g'[h0.length]? = some (.cells [.int .i64 0, .list 1 [] .full]) := p3.keep ow1 (by rw [List.getElem?_append_left (by omega)]; exact hh0) (fun _ _ _ h => by cases h) (by omega)
        have htk : g'.take h0.length = h0 := by rw [p3.takeLe (by omega), take_app (by omega), ht]
        have hlen : h0.length + 1 < g'.length := by have := p3.len; simp at this; omega
        simp [-getElem?_pos, -List.getElem?_map, -Int.natCast_add, wL16_1, t0, t2, t5, t6, t7, hjI, hjl, es'', hs4, hh1, hh1']
        rw [p1]
        simp [-Int.natCast_add, t0, t2, t5, t6, t7, hg1, e64]
        refine ⟨i + 1 - (j + 1), by omega, j + 1, r', by omega, rfl, by simp [t0], by simp [t2], by simp [t5], by simp [t6], by simp, by rw [take_set_ge (by omega), htk], by rw [List.getElem?_set_ne (by omega)]; exact hg0, by rw [get_set (by omega), htake]; simp, ?_⟩
        simpa [hPl] using p2.set (fun s m f h => by rw [hg1] at h; cases h)
      · obtain rfl : j = i + 1 := by omega
        have hjI : (((i + 1 : Nat) : Int) ≤ i) = False := eq_false (by omega)
        have w1 : IntKind.wrap .i64 ((i : Int) + 1) = ((i + 1 : Nat) : Int) := by rw [wrap64 (by omega) (by omega)]; rfl
        simp [-Int.natCast_add, wL16_1, wK16_0, t0, t2, t5, t6, t7, hjI, hh1, hh0, w1]
        exact fin _ _ n _ r _ 0 (by simp [t2]) (by rw [get_set (by omega)]; simp) (by simp) (by simp) (by rw [take_set_ge (by omega), ht]) e
  · simp
    exact fin _ _ 0 [] .full 0 180 s2 (by simp) s3 s4 (ht1 _) e
end Go.Proofs.YtjdpneceeinhhaaDoor
