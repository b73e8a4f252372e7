/-
  DotsTells: the walk.
-/
import Derived.Test.YtbhdfmkcoolghaaDoorD18
set_option linter.unusedVariables false
set_option linter.unusedSimpArgs false
namespace Go.Proofs.YtbhdfmkcoolghaaDoor
open Go Go.Am Go.RowKit

def u8s (cs : List AV) : Prop := ∀ x ∈ cs, ∃ i : Int, x = .int .u8 i
theorem u8s_bytes (l : List UInt8) : u8s (ofBytes l) := by
  intro x hx
  simp only [ofBytes, List.mem_map] at hx
  obtain ⟨b, _, rfl⟩ := hx
  exact ⟨_, rfl⟩
theorem u8s_put {cs : List AV} (h : u8s cs) (i : Nat) (n : Int) : u8s (cs.take i ++ .int .u8 n :: cs.drop (i + 1)) := by
  intro x hx
  rcases List.mem_append.1 hx with hx | hx
  · exact h x (List.mem_of_mem_take hx)
  · rcases List.mem_cons.1 hx with rfl | hx
    · exact ⟨n, rfl⟩
    · exact h x (List.mem_of_mem_drop hx)
theorem len_put {cs : List AV} {i : Nat} (x : AV) (h : i < cs.length) : (cs.take i ++ x :: cs.drop (i + 1)).length = cs.length := by
  simp
  omega
/-- A row that was handed out: nothing, or bytes at place k. -/
def RowAt (v : AV) (n k : Nat) (h : Heap) : Prop := (v = .list 1 [] .no ∧ n = 0) ∨ (v = .gl 1 k n ∧ ∃ cs, h[k]? = some (.grow 1 cs) ∧ cs.length = n ∧ u8s cs)
theorem RowAt.other {v : AV} {n k : Nat} {h : Heap} (r : RowAt v n k h) {j : Nat} {e : AE} (hj : j ≠ k) : RowAt v n k (h.set j e) := by
  rcases r with r | ⟨r, cs, h1, h2, h3⟩
  · exact .inl r
  · exact .inr ⟨r, cs, by rw [get_set_ne hj]; exact h1, h2, h3⟩
def InvT (s : List UInt8) (rs : Rt) (v v2 : AV) (n n2 k k2 : Nat) (h0 : Heap) (m : Nat) (σ : Slots) (h : Heap) : Prop := ∃ i, i ≤ n ∧ m = n - i ∧ σ 1 = .list 1 (ofBytes s) rs ∧ σ 9 = .str s ∧ σ 10 = v ∧ σ 16 = v2 ∧ σ 93 = .int .i64 (n : Nat) ∧ σ 94 = .int .i64 (i : Nat) ∧
  RowAt v n k h ∧ RowAt v2 n2 k2 h ∧ h.take h0.length = h0
def InvT2 (s : List UInt8) (rs : Rt) (v2 : AV) (n2 k2 : Nat) (h0 : Heap) (m : Nat) (σ : Slots) (h : Heap) : Prop := ∃ i, i ≤ n2 ∧ m = n2 - i ∧ σ 1 = .list 1 (ofBytes s) rs ∧ σ 9 = .str s ∧ σ 16 = v2 ∧ σ 105 = .int .i64 (n2 : Nat) ∧ σ 106 = .int .i64 (i : Nat) ∧
  RowAt v2 n2 k2 h ∧ h.take h0.length = h0
theorem tail2 {s : List UInt8} {rs : Rt} {v2 : AV} {n2 k2 : Nat} {h0 : Heap} {σ : Slots} {h : Heap} {Q : Ex → Slots → Heap → Prop} (hn2 : n2 ≤ 1000000) (hk2 : h0.length ≤ k2) (hQ : ∀ σ' h', σ' 4 = .bool true → h'.take h0.length = h0 → Q .ret σ' h')
    (hi : InvT2 s rs v2 n2 k2 h0 n2 σ h) : Wp ML (.seq (.block 2 (.loop L3_1)) K3_0) Q σ h := by
  have aw := fun h => awake_ok h
  simp
  refine Wp.loop (InvT2 s rs v2 n2 k2 h0) ?_ (n := n2) hi
  rintro m σ h ⟨i, hi, rfl, s1, s9, s16, s105, s106, r2, ht⟩
  by_cases hlt : i < n2
  · rcases r2 with ⟨_, r2⟩ | ⟨rfl, cs, hk, hl, hu⟩
    · omega
    · obtain ⟨x, hx⟩ : ∃ x : Int, cs[i]? = some (.int .u8 x) := by
        have e := List.getElem?_eq_getElem (show i < cs.length by omega)
        obtain ⟨x, hx⟩ := hu _ (List.mem_of_getElem? e)
        exact ⟨x, by rw [e, hx]⟩
      have e64 : IntKind.wrap .i64 ((i : Int) + 1) = ((i + 1 : Nat) : Int) := by rw [wrap64 (by omega) (by omega)]; rfl
      simp [-getElem?_pos, wL3_1, s16, s105, s106, hlt, hk, hx, e64]
      refine ⟨by omega, n2 - (i + 1), by omega, i + 1, by omega, rfl, by simp [s1], by simp [s9], by simp [s16], by simp [s105], by simp, .inr ⟨rfl, _, get_set_eq (lt_of_get hk), by rw [len_put _ (by omega), hl], u8s_put hu _ _⟩, by rw [take_set hk2]; exact ht⟩
  · simp [-getElem?_pos, wL3_1, wK3_0, s1, s9, s105, s106, hlt, aw]
    exact hQ _ _ (by simp) ht
theorem tail1 {s : List UInt8} {rs : Rt} {v v2 : AV} {n n2 k k2 : Nat} {h0 : Heap} {σ : Slots} {h : Heap} {Q : Ex → Slots → Heap → Prop} (hn : n ≤ 1000000) (hn2 : n2 ≤ 1000000) (hk : h0.length ≤ k) (hk2 : h0.length ≤ k2) (hkk : v = .list 1 [] .no ∨ k ≠ k2) (hQ : ∀ σ' h', σ' 4 = .bool true → h'.take h0.length = h0 → Q .ret σ' h')
    (hi : InvT s rs v v2 n n2 k k2 h0 n σ h) : Wp ML (.seq (.block 0 (.loop L3_0)) K3_1) Q σ h := by
  simp
  refine Wp.loop (InvT s rs v v2 n n2 k k2 h0) ?_ (n := n) hi
  rintro m σ h ⟨i, hi, rfl, s1, s9, s10, s16, s93, s94, r1, r2, ht⟩
  by_cases hlt : i < n
  · rcases r1 with ⟨_, r1⟩ | ⟨rfl, cs, hkc, hl, hu⟩
    · omega
    · have hne : k ≠ k2 := by
        rcases hkk with hkk | hkk
        · cases hkk
        · exact hkk
      obtain ⟨x, hx⟩ : ∃ x : Int, cs[i]? = some (.int .u8 x) := by
        have e := List.getElem?_eq_getElem (show i < cs.length by omega)
        obtain ⟨x, hx⟩ := hu _ (List.mem_of_getElem? e)
        exact ⟨x, by rw [e, hx]⟩
      have e64 : IntKind.wrap .i64 ((i : Int) + 1) = ((i + 1 : Nat) : Int) := by rw [wrap64 (by omega) (by omega)]; rfl
      simp [-getElem?_pos, wL3_0, s10, s93, s94, hlt, hkc, hx, e64]
      refine ⟨by omega, n - (i + 1), by omega, i + 1, by omega, rfl, by simp [s1], by simp [s9], by simp [s10], by simp [s16], by simp [s93], by simp, .inr ⟨rfl, _, get_set_eq (lt_of_get hkc), by rw [len_put _ (by omega), hl], u8s_put hu _ _⟩, r2.other hne, by rw [take_set hk]; exact ht⟩
  · have hlen : lenV v2 = some (.int .i64 (n2 : Nat)) := by
      rcases r2 with ⟨rfl, rfl⟩ | ⟨rfl, _⟩ <;> simp
    simp [-getElem?_pos, wL3_0, wK3_1, s93, s94, hlt, s16, hlen]
    have := tail2 (σ := put (put (put (put σ (some 95) (.bool false)) (some 104) v2) (some 105) (.int .i64 (n2 : Nat))) (some 106) (.int .i64 0)) (h := h) (s := s) (rs := rs) (v2 := v2) (n2 := n2) (k2 := k2) hn2 hk2 hQ ⟨0, by omega, by omega, by simp [put, upd, s1], by simp [put, upd, s9], by simp [put, upd, s16], by simp [put, upd], by simp [put, upd], r2, ht⟩
    simp at this
    exact this
end Go.Proofs.YtbhdfmkcoolghaaDoor
