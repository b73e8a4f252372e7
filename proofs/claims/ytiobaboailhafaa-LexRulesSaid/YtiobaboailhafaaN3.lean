/-
  frankinglaw01: LexRules.
-/
import Derived.Test.YtiobaboailhafaaN2
import Derived.Test.YtiobaboailhafaaW4
set_option linter.unusedVariables false
set_option linter.unusedSimpArgs false
namespace Go.Proofs.Ytiobaboailhafaa
open Go Go.Am

theorem chk_pos {s : List UInt8} {l : List Tok} (h : chkA s l) : ∀ (i : Nat) (t : Tok), l[i]? = some t → 0 ≤ t.pos ∧ t.pos ≤ s.length := by
  have hst : ∀ i, i ≤ l.length → 0 ≤ (stOf (l.take i)).1 := by
    intro i
    induction i with
    | zero => intro _; simp [stOf]
    | succ i ih =>
      intro hi
      obtain ⟨t, et⟩ : ∃ t, l[i]? = some t := ⟨_, List.getElem?_eq_getElem (by omega)⟩
      have := (h i t et).1
      have := ih (by omega)
      rw [st_take et]
      unfold stp
      simp only
      split <;> omega
  intro i t et
  have hl := (List.getElem?_eq_some_iff.1 et).1
  have := hst i (by omega)
  have := h i t et
  exact ⟨by have := this.1; omega, this.2.1⟩
def InvRu (s : List UInt8) (a b c : List Tok) (r1 r2 r3 : Rt) (n : Nat) (σ : Slots) (h' : Heap) : Prop := ∃ i, i ≤ c.length ∧ n = c.length - i ∧ σ 0 = .str s ∧ σ 5 = .list 7 (a.map tokA) r1 ∧ σ 8 = .list 7 (b.map tokA) r2 ∧ σ 83 = .list 7 (c.map tokA) r3 ∧ σ 84 = .int .i64 c.length ∧ σ 85 = .int .i64 i

set_option maxRecDepth 20000 in
theorem rules_loop (s t : List UInt8) (hs : s.length ≤ 2000) (ht : t.length ≤ 2000) (a b u : List Tok) (r1 r2 r3 : Rt) (ha : a.length ≤ 1000000000) (hb : b.length ≤ 1000000000) (hul : u.length = a.length)
    (hu : ∀ (i : Nat) (x y : Tok), u[i]? = some x → a[i]? = some y → x.kind ≠ 13 → x.pos = y.pos) (hbp : ∀ (i : Nat) (t' : Tok), b[i]? = some t' → 0 ≤ t'.pos ∧ t'.pos ≤ t.length) (Q : Ex → Slots → Heap → Prop) (hQ : ∀ σ h, σ 2 = σ 2 → Wp M K5_0 Q σ h) (hQ' : True) :
    ∀ (n : Nat) (σ : Slots) (h : Heap), InvRu s a b (u ++ b.map (shT (s.length + 1))) r1 r2 r3 n σ h → Wp M (.loop L5_0) (blkQ 0 (thenQ (Wp M K5_0 Q) Q)) σ h := by
  intro n σ h hI
  refine Wp.loop (InvRu s a b _ r1 r2 r3) ?_ hI
  clear hI
  rintro n σ h ⟨i, hi, rfl, s0, s5, s8, s83, s84, s85⟩
  have hcl : (u ++ b.map (shT (s.length + 1))).length = a.length + b.length := by simp [hul]
  have e64 : IntKind.wrap .i64 ((i : Int) + 1) = ((i + 1 : Nat) : Int) := by rw [wrap64 (by omega) (by omega)]; rfl
  have next : ∀ (σ : Slots) (h : Heap), σ 0 = .str s → σ 5 = .list 7 (a.map tokA) r1 → σ 8 = .list 7 (b.map tokA) r2 → σ 83 = .list 7 ((u ++ b.map (shT (s.length + 1))).map tokA) r3 → σ 84 = .int .i64 (u ++ b.map (shT (s.length + 1))).length → σ 85 = .int .i64 ((i + 1 : Nat) : Int) → i < (u ++ b.map (shT (s.length + 1))).length →
      ∃ m, m < (u ++ b.map (shT (s.length + 1))).length - i ∧ InvRu s a b (u ++ b.map (shT (s.length + 1))) r1 r2 r3 m σ h := fun σ h t0 t5 t8 t83 t84 t85 hlt => ⟨_, by omega, i + 1, by omega, rfl, t0, t5, t8, t83, t84, t85⟩
  by_cases hlt : i < (u ++ b.map (shT (s.length + 1))).length
  · obtain ⟨x, ex⟩ : ∃ x, (u ++ b.map (shT (s.length + 1)))[i]? = some x := ⟨_, List.getElem?_eq_getElem hlt⟩
    have e13 := u8_eq x.kind 13 (by omega)
    simp at e13
    rcases Nat.lt_or_ge i a.length with hia | hia
    · have ex' : u[i]? = some x := by rw [List.getElem?_append_left (by omega)] at ex; exact ex
      obtain ⟨y, ey⟩ : ∃ y, a[i]? = some y := ⟨_, List.getElem?_eq_getElem hia⟩
      have hxy := hu i x y ex' ey
      generalize u ++ b.map (shT (s.length + 1)) = c at *
      have hiaI : (i : Int) < a.length := by omega
      have hiaI2 : ((a.length : Int) ≤ i) = False := eq_false (by omega)
      have hltI : (i : Int) < c.length := by omega
      by_cases hk : x.kind = 13
      · have hkI : (x.kind.toNat : Int) = 13 := by rw [hk]; rfl
        simp [-getElem?_pos, -Int.natCast_add, wL5_0, s0, s5, s8, s83, s84, s85, hlt, hltI, hia, hiaI, hiaI2, ex, ey, tokA, tokL, hk, hkI, e64, Nat.add_assoc]
        refine next _ _ ?_ ?_ ?_ ?_ ?_ ?_ hlt <;> simp [s0, s5, s8, s83, s84]
      · have hp := hxy hk
        simp [-getElem?_pos, -Int.natCast_add, wL5_0, s0, s5, s8, s83, s84, s85, hlt, hltI, hia, hiaI, hiaI2, ex, ey, tokA, tokL, hk, e13, hp, e64, Nat.add_assoc]
        refine next _ _ ?_ ?_ ?_ ?_ ?_ ?_ hlt <;> simp [s0, s5, s8, s83, s84]
    · obtain ⟨j, rfl⟩ : ∃ j, i = a.length + j := ⟨i - a.length, by omega⟩
      have ex' : (b.map (shT (s.length + 1)))[j]? = some x := by
        rw [List.getElem?_append_right (by omega)] at ex
        rw [← ex, hul]
        simp
      have hj : j < b.length := by omega
      obtain ⟨y, ey⟩ : ∃ y, b[j]? = some y := ⟨_, List.getElem?_eq_getElem hj⟩
      rw [List.getElem?_map, ey] at ex'
      simp at ex'
      have hpx : x.pos = y.pos + s.length + 1 := by rw [← ex']; simp [shT]; omega
      obtain ⟨y0, y1⟩ := hbp j y ey
      generalize u ++ b.map (shT (s.length + 1)) = c at *
      have hltI : ((a.length + j : Nat) : Int) < c.length := by omega
      have q1 : (((a.length + j : Nat) : Int) < a.length) = False := eq_false (by omega)
      have q2 : (a.length : Int) ≤ ((a.length + j : Nat) : Int) := by omega
      have w1 : IntKind.wrap .i64 (((a.length + j : Nat) : Int) - a.length) = (j : Int) := by rw [wrap64 (by omega) (by omega)]; omega
      have w2 : IntKind.wrap .i64 (y.pos + s.length) = y.pos + s.length := wrap64 (by omega) (by omega)
      have w3 : IntKind.wrap .i64 (y.pos + s.length + 1) = y.pos + s.length + 1 := wrap64 (by omega) (by omega)
      generalize a.length + j = i at *
      simp [-getElem?_pos, -Int.natCast_add, wL5_0, s0, s5, s8, s83, s84, s85, hlt, hltI, hia, hj, q1, q2, w1, w2, w3, ex, ey, tokA, tokL, hpx, e64, Nat.add_assoc]
      refine next _ _ ?_ ?_ ?_ ?_ ?_ ?_ hlt <;> simp [s0, s5, s8, s83, s84]
  · generalize u ++ b.map (shT (s.length + 1)) = c at *
    have hltI : ((i : Int) < c.length) = False := eq_false (by omega)
    simp [-getElem?_pos, wL5_0, s0, s5, s8, s83, s84, s85, hlt, hltI]
    exact hQ _ _ rfl
theorem lexRules_true (s t : List UInt8) : M.call 5 [.str s, .str t] [] = some (.bool true, []) := by
  refine call_of tab5 rfl (callF_wp ?_)
  by_cases hl : 2000 < s.length
  · have hl' : (2000 : Int) < s.length := by omega
    simp [wB5, hl', awake_ok]
  have hl' : ((2000 : Int) < s.length) = False := eq_false (by omega)
  have hl2 : (s.length : Int) ≤ 2000 := by omega
  by_cases hm : 2000 < t.length
  · have hm' : (2000 : Int) < t.length := by omega
    simp [wB5, hl', hl2, hm', awake_ok]
  have hm' : ((2000 : Int) < t.length) = False := eq_false (by omega)
  have hm2 : (t.length : Int) ≤ 2000 := by omega
  obtain ⟨x1, hx1, r1, rfl⟩ := lex_ok s (by omega) []
  obtain ⟨x2, hx2, r2, rfl⟩ := lex_ok t (by omega) []
  obtain ⟨x3, hx3, r3, rfl⟩ := lex_ok (s ++ 10 :: t) (by simp; omega) []
  have hla := lexP_short s (by omega)
  have hlb := lexP_short t (by omega)
  have hch := lexP_chk t (by omega)
  have hpl := rules_plain s t (by omega) (by omega)
  generalize lexP s = ra at *
  obtain ⟨a, pa, ea⟩ := ra
  generalize lexP t = rb at *
  obtain ⟨b, pb, eb⟩ := rb
  simp only at hx1 hx2 hla hlb hch hpl
  by_cases he : ea = 0
  · by_cases hf : eb = 0
    · obtain ⟨u, hu1, hu2, hu3, hu4⟩ := hpl he hf
      have hbp := chk_pos (hch.1 hf).2.1
      rw [hu1] at hx3
      simp only at hx3
      have k1 : s.length + 1 ≤ 140737488355328 := by omega
      have k2 : s.length + 1 + t.length ≤ 140737488355328 := by omega
      have w1 : IntKind.wrap .i64 ((a.length : Int) + b.length) = (a.length : Int) + b.length := wrap64 (by omega) (by omega)
      have k3 : (u.length : Int) = a.length := by omega
      have a1 := fun r1 r2 h => alike_ok u a r1 r2 (by omega) h
      have a2 := fun r1 r2 h => alike_ok (b.map (shT (s.length + 1))) b r1 r2 (by simp; omega) h
      have hak : (b.map (shT (s.length + 1))).map akT = b.map akT := by simp [akT, shT]
      rw [hu3] at a1
      rw [hak] at a2
      simp only [decide_true] at a1 a2
      have hloop := fun (σ : Slots) (h : Heap) n Q hQ => rules_loop s t (by omega) (by omega) a b u r1 r2 r3 hla hlb hu2 hu4 hbp Q hQ trivial n σ h
      have hT : ((u ++ b.map (shT (s.length + 1))).map tokA).take a.length = u.map tokA := by rw [← hu2]; simp
      have hD : ((u ++ b.map (shT (s.length + 1))).map tokA).drop a.length = (b.map (shT (s.length + 1))).map tokA := by rw [← hu2]; simp
      have hcl : (u ++ b.map (shT (s.length + 1))).length = a.length + b.length := by simp [hu2]
      have hcl' : ((u ++ b.map (shT (s.length + 1))).length : Int) = (a.length : Int) + b.length := by omega
      generalize u ++ b.map (shT (s.length + 1)) = c at *
      generalize b.map (shT (s.length + 1)) = bs at *
      have g1 : a.length ≤ c.length := by omega
      have g2 : (a.length : Int) ≤ c.length := by omega
      have g3 : (a.length : Int) ≤ (a.length : Int) + b.length := by omega
      have g4 : 0 ≤ (b.length : Int) := by omega
      simp [-List.map_take, -List.map_drop, wB5, he, hf, hl', hl2, hm', hm2, hx1, hx2, hx3, k1, k2, hcl, hcl', w1, hT, hD, a1, a2, g1, g2, g3, g4]
      refine hloop _ _ c.length _ ?_ ⟨0, by omega, by omega, by simp, by simp, by simp, by simp, by simp [hcl'], by simp⟩
      intro σ h _
      have hf := fun v => finish_of_take (h0 := []) (h := h) (by simp) v
      simp [wK5_0, awake_ok, hf]
    · simp [wB5, hl', hl2, hm', hm2, hx1, hx2, he, hf, awake_ok]
  · simp [wB5, hl', hl2, hm', hm2, hx1, hx2, he, awake_ok]
theorem LexRules_law (xs : List AV) (h : HasArgs Try.prog [9, 9] xs) : (lim XS T).call 5 xs [] = some (.bool true, []) := by
  obtain ⟨a0, r0, n0, rfl, h0, h⟩ := h
  obtain ⟨a1, r1, n1, rfl, h1, h⟩ := h
  obtain rfl := args_nil h
  obtain ⟨s, rfl, _⟩ := has_str Try.underlying9 h0
  obtain ⟨t, rfl, _⟩ := has_str Try.underlying9 h1
  exact lexRules_true s t
end Go.Proofs.Ytiobaboailhafaa
