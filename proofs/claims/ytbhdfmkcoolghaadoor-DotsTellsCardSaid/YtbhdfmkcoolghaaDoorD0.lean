/-
  A fresh row that is handed out, to be written by who gets it.
-/
import Derived.Test.YtbhdfmkcoolghaaDoorU10
set_option linter.unusedVariables false
set_option linter.unusedSimpArgs false
namespace Go.Proofs.YtbhdfmkcoolghaaDoor
open Go Go.Am Go.RowKit

theorem enter_row {B : Nat} {w0 : World} {E : Env} {h : Heap} {w w1 : World} (r : Rel B w0 E h w) (hb : Below w.heap.size w w1) {g : Nat} (hge : w.heap.size ≤ g) {cur : Array Value} {t : TypeId} {fr : Nat × Nat} (hg : w1.heap[g]? = some (.cells cur t fr)) (hf : Unf fr cur.size) {c sz n : Nat} (hsz : cur.size = c * sz)
    {cs : List AV} (hl : cs.length ≤ cur.size) (hn : n ≤ c) (hr : RdCells E cur cs) :
    ∃ E', E.le E' ∧ (∀ b, b < h.length → E'.ρ b = E.ρ b) ∧ Rel B w0 E' (h ++ [.grow sz cs]) w1 ∧ Rd E' (.slice (some ⟨g, 0, none⟩) n c) (.gl sz h.length n) := by
  have r1 : Rel B w0 E h w1 := r.world hb
  have hfree : E.ρ h.length = none := by
    cases hx : E.ρ h.length with
    | none => rfl
    | some x => exact absurd (r.dom _ x hx) (Nat.lt_irrefl _)
  have hnC : ∀ o, E.C g o = none := by
    intro o
    cases hC : E.C g o with
    | none => rfl
    | some v => exact absurd (World.block_lt_of_cell? w _ (r.prot _ _ _ hC)) (by simp; omega)
  have hle : E.le ⟨E.C, fun b => if b = h.length then some (g, c) else E.ρ b⟩ := ⟨fun _ _ _ h => h, fun b x hx => by
    dsimp only; split
    · rename_i e; subst e; rw [hfree] at hx; cases hx
    · exact hx⟩
  have r2 := r1.reserve 1
  obtain ⟨_, h2⟩ := r2.enter h.length (by simp) hfree g c (.grow sz cs) E.C (fun _ _ _ h => h) r2.prot
    (fun b e' he hd g' c' hρ => by
      rw [List.getElem?_append] at he
      split at he
      · obtain ⟨g1, c1, k1, k2⟩ := r.live b e' he hd
        rw [hρ] at k1; injection k1 with k1; injection k1 with k1 _; subst k1
        exact ⟨by have := (k2.lt hd).1; omega, fun _ => rfl⟩
      · have := List.mem_of_getElem? he
        simp at this
        exact absurd this hd)
    ⟨by have := r.bsz; omega, ⟨cur, t, fr, hg, hl, hsz, ⟨hr.1, fun o u x hu hx => (hr.2 o u x hu hx).mono hle⟩, hf⟩, hnC⟩
  refine ⟨_, hle, fun b hb => ?_, by simpa using h2, .gl _ _ _ g c (by simp) hn⟩
  dsimp only
  rw [if_neg (by omega)]
theorem fresh_rel {B : Nat} {w0 : World} {E : Env} {h : Heap} {w : World} (r : Rel B w0 E h w) : Rel w.heap.size w ⟨E.C, fun _ => none⟩ [] w := by
  obtain ⟨hB, m, t, fr, hz⟩ := r.z
  refine ⟨Below.refl _ _, Nat.le_refl _, fun b x hx => (by cases hx), r.prot, fun b e he => (by simp at he), fun b b' e e' _ he => (by simp at he), fun g cs h => (by simp [GT, gtList] at h), ⟨Nat.lt_of_lt_of_le hB r.bsz, m, t, fr, ?_⟩⟩
  rw [r.below.block 0 hB]
  exact hz
theorem list_fresh {E : Env} {u : Value} {s : List UInt8} {r : Rt} (h : Rd E u (.list 1 (ofBytes s) r)) : Rd ⟨E.C, fun _ => none⟩ u (.list 1 (ofBytes s) .no) := by
  cases h with
  | list A n c sz xs r g o vs k1 k2 k3 k4 k5 k6 k7 =>
    refine .list A n c 1 _ .no g o vs k1 k2 k3 k4 k5 (fun i x j y hx hy => ?_) trivial
    have h6 := k6 i x j y hx hy
    simp only [ofBytes, List.getElem?_map, Option.map_eq_some_iff] at hx
    obtain ⟨b, _, rfl⟩ := hx
    match j, hy with
    | 0, hy =>
      injection hy with hy
      subst hy
      rw [h6.inv_int]
      exact .int _ _
theorem row_of_tok {B : Nat} {w0 : World} {E E5 : Env} {h0 g5 : Heap} {w w5 : World} (r : Rel B w0 E h0 w) (r5 : Rel w.heap.size w E5 g5 w5) {v : Value} {xs : List UInt8} {t n : Nat} {e : TypeId} (hv : Rd E5 v (.list 1 (ofBytes xs) (.tok t))) (ht : g5[t]? = some (.tok 1 n e)) :
    ∃ E', E.le E' ∧ (∀ b, b < h0.length → E'.ρ b = E.ρ b) ∧ Rel B w0 E' (h0 ++ [.grow 1 (ofBytes xs)]) w5 ∧ Rd E' v (.gl 1 h0.length xs.length) := by
  cases hv with
  | list A m c sz ys r g o vs k1 k2 k3 k4 k5 k6 k7 =>
    obtain ⟨gg, rfl, hρ⟩ := k7
    obtain ⟨g', c', h1, h2⟩ := r5.live t _ ht (by simp)
    rw [hρ] at h1
    injection h1 with h1; injection h1 with h1 h1'; subst h1; subst h1'
    obtain ⟨hge, ⟨cur, ty, fr, hg, hsz, hnc, hf⟩, _⟩ := h2
    have hm : xs.length = m := by simpa [ofBytes] using k1
    subst hm
    refine enter_row r r5.below hge hg hf hsz (cs := ofBytes xs) (by simp [ofBytes]; omega) k2 ⟨fun y hy => ?_, fun i u x hu hx => ?_⟩
    · simp only [ofBytes, List.mem_map] at hy
      obtain ⟨b, _, rfl⟩ := hy
      trivial
    · have hx' := hx
      simp only [ofBytes, List.getElem?_map, Option.map_eq_some_iff] at hx
      obtain ⟨b, hb, rfl⟩ := hx
      have hlt := (List.getElem?_eq_some_iff.1 hb).1
      have e3 := k3 (by omega)
      injection e3 with e3
      injection e3 with e4 e5
      subst e4
      have p := r5.prot gg (o + (i * 1 + 0)) _ (k5 i 0 (by omega) (by omega))
      rw [← e5] at p
      rw [(k6 i (.int .u8 b.toNat) 0 (.int .u8 b.toNat) hx' rfl).inv_int] at p
      have : u = .int .u8 b.toNat := by
        simp [World.cell?, hg] at p
        rw [hu] at p
        exact Option.some.inj p
      rw [this]
      exact .int _ _
theorem app_tok {h h' : Heap} {key sz bytes s' a : Nat} {e : TypeId} {xs ys b : List AV} {r r' : Rt} {x : AV} (hx : srcOf sz x = some ys) (hy : ys ≠ []) (h : appA h key sz bytes e (.list s' xs r) x = some (.list a b r', h')) : r' = .tok key := by
  simp only [appA, hx, if_neg hy] at h
  split at h
  · injection h with h
    injection h with h _
    injection h with _ _ h
    exact h.symm
  · cases h
end Go.Proofs.YtbhdfmkcoolghaaDoor
