/-
  The reference: a quoted text; a value; an empty line.
-/
import Derived.Test.YtiobaboailhafaaR2
set_option linter.unusedVariables false
set_option linter.unusedSimpArgs false
namespace Go.Proofs.Ytiobaboailhafaa
open Go Go.Am

def InvQ (s : List UInt8) (a : Nat) (h0 : Heap) (k : Nat) (σ : Slots) (h : Heap) : Prop := ∃ i, a + 1 ≤ i ∧ i ≤ s.length ∧ k = s.length - i ∧ ((s.take i).drop (a + 1)).all (fun c => okC c && c != 34) = true ∧ σ 0 = .str s ∧ σ 1 = .int .i64 a ∧ σ 6 = .int .i64 i ∧ h = h0

theorem cutB_split {t : List UInt8} {c : UInt8} : ∀ {i : Nat}, t[i]? = some c → (t.take i).all (fun d => d != c) = true → cutB t c = t.take i ∧ c ∈ t := by
  intro i
  induction t generalizing i with
  | nil => intro h; simp at h
  | cons d t ih =>
    intro h h2
    cases i with
    | zero =>
      simp at h
      subst h
      simp [cutB]
    | succ i =>
      simp at h
      simp only [List.take_succ_cons, List.all_cons, Bool.and_eq_true] at h2
      obtain ⟨e1, e2⟩ := ih h h2.2
      refine ⟨?_, List.mem_cons_of_mem _ e2⟩
      have h3 := h2.1
      unfold cutB at e1 ⊢
      rw [List.takeWhile_cons, if_pos h3, e1, List.take_succ_cons]

theorem cutB_mem {t : List UInt8} {c d : UInt8} (hn : c ≠ d) : ∀ {i : Nat}, t[i]? = some c → (t.take i).all (fun x => x != d) = true → c ∈ cutB t d := by
  induction t with
  | nil => intro i h; simp at h
  | cons x t ih =>
    intro i h h2
    cases i with
    | zero =>
      simp at h
      subst h
      simp [cutB, hn]
    | succ i =>
      simp at h
      simp only [List.take_succ_cons, List.all_cons, Bool.and_eq_true] at h2
      unfold cutB
      rw [List.takeWhile_cons, if_pos h2.1]
      exact List.mem_cons_of_mem _ (ih h h2.2)

theorem rquoted_ok (s : List UInt8) (a : Nat) (hs : s.length ≤ 1000000000) (ha : a < s.length) (h0 : Heap) : M.call 55 [.str s, .int .i64 a] h0 =
    some (if 34 ∈ s.drop (a + 1) ∧ (cutB (s.drop (a + 1)) 34).all okC = true then .tup [.str (cutB (s.drop (a + 1)) 34), .bool true] else .tup [.str [], .bool false], h0) := by
  refine call_of tab55 rfl (callF_wp ?_)
  have w0 : IntKind.wrap .i64 ((a : Int) + 1) = ((a + 1 : Nat) : Int) := by rw [wrap64 (by omega) (by omega)]; rfl
  generalize hr : (if 34 ∈ s.drop (a + 1) ∧ (cutB (s.drop (a + 1)) 34).all okC = true then AV.tup [.str (cutB (s.drop (a + 1)) 34), .bool true] else .tup [.str [], .bool false]) = r
  simp [-Int.natCast_add, wB55, w0]
  refine Wp.loop (InvQ s a h0) ?_ (n := s.length - (a + 1)) ⟨a + 1, by omega, by omega, rfl, by simp, by simp, by simp, by simp, rfl⟩
  rintro k σ h ⟨i, hi, hi2, rfl, hall, s0, s1, s6, rfl⟩
  have e64 : IntKind.wrap .i64 ((i : Int) + 1) = ((i + 1 : Nat) : Int) := by rw [wrap64 (by omega) (by omega)]; rfl
  have hall' : ((s.drop (a + 1)).take (i - (a + 1))).all (fun c => okC c && c != 34) = true := by rw [← List.drop_take]; exact hall
  by_cases hlt : i < s.length
  · obtain ⟨c, ec⟩ : ∃ c, s[i]? = some c := ⟨_, List.getElem?_eq_getElem hlt⟩
    have ec' : (s.drop (a + 1))[i - (a + 1)]? = some c := by rw [List.getElem?_drop]; rw [← ec]; congr 1; omega
    have e34 : ((c.toNat : Int) = 34) = (c = 34) := u8_eq c 34 (by omega)
    by_cases h34 : c = 34
    · subst h34
      obtain ⟨q1, q2⟩ := cutB_split ec' (by
        rw [List.all_eq_true] at hall' ⊢
        intro x hx
        have := hall' x hx
        simp only [Bool.and_eq_true] at this
        exact this.2)
      have q3 : ((s.drop (a + 1)).take (i - (a + 1))).all okC = true := by
        rw [List.all_eq_true] at hall' ⊢
        intro x hx
        have := hall' x hx
        simp only [Bool.and_eq_true] at this
        exact this.1
      rw [q1, if_pos ⟨q2, q3⟩] at hr
      subst hr
      have hai : ((a + 1 : Nat) : Int) ≤ i := by omega
      simp [-getElem?_pos, -Int.natCast_add, wL55_0, s0, s1, s6, hlt, ec, w0, hai, hi, hi2, List.drop_take]
    · have e34' := eq_false h34
      rw [← e34] at e34'
      by_cases hok : okC c = true
      · have ho := hok
        simp only [okC, decide_eq_true_eq] at ho
        have o1 : ¬ c.toNat < 32 := by omega
        have o2 : ¬ 126 < c.toNat := by omega
        simp [-getElem?_pos, -Int.natCast_add, wL55_0, s0, s1, s6, hlt, ec, e34', lt_lit, lit_lt, o1, o2, e64]
        refine ⟨s.length - (i + 1), by omega, i + 1, by omega, by omega, rfl, ?_, by simp [s0], by simp [s1], by simp, rfl⟩
        rw [List.drop_take, show i + 1 - (a + 1) = (i - (a + 1)) + 1 by omega, List.take_add_one, ec', List.all_append, hall']
        simp [hok, h34]
      · have ho : c.toNat < 32 ∨ 126 < c.toNat := by
          simp only [okC, decide_eq_true_eq] at hok
          omega
        rw [if_neg] at hr
        · subst hr
          by_cases o1 : c.toNat < 32
          · simp [-getElem?_pos, -Int.natCast_add, wL55_0, s0, s1, s6, hlt, ec, e34', lt_lit, lit_lt, o1]
          · have o2 : 126 < c.toNat := by omega
            simp [-getElem?_pos, -Int.natCast_add, wL55_0, s0, s1, s6, hlt, ec, e34', lt_lit, lit_lt, o1, o2]
        · rintro ⟨_, q⟩
          apply hok
          rw [List.all_eq_true] at q
          apply q
          refine cutB_mem h34 ec' ?_
          rw [List.all_eq_true] at hall' ⊢
          intro x hx
          have := hall' x hx
          simp only [Bool.and_eq_true] at this
          exact this.2
  · have hie : i = s.length := by omega
    subst hie
    rw [if_neg] at hr
    · subst hr
      simp [-getElem?_pos, wL55_0, wK55_0, s0, s1, s6, hlt]
    · rintro ⟨q, _⟩
      rw [List.take_of_length_le (by simp)] at hall'
      rw [List.all_eq_true] at hall'
      have := hall' _ q
      simp at this

/-- Is a line passed over? -/
def empL (s : List UInt8) : Bool := runN blkC s == s.length || s[runN blkC s]? == some 59
def InvE (s : List UInt8) (h0 : Heap) (k : Nat) (σ : Slots) (h : Heap) : Prop := ∃ i, i ≤ runN blkC s ∧ k = runN blkC s - i ∧ σ 0 = .str s ∧ σ 3 = .int .i64 i ∧ h = h0
theorem rempty_ok (s : List UInt8) (hs : s.length ≤ 1000000000) (h0 : Heap) : M.call 27 [.str s] h0 = some (.bool (empL s), h0) := by
  refine call_of tab27 rfl (callF_wp ?_)
  simp [wB27]
  refine Wp.loop (InvE s h0) ?_ (n := runN blkC s) ⟨0, by omega, by omega, by simp, by simp, rfl⟩
  rintro k σ h ⟨i, hi, rfl, s0, s3, rfl⟩
  have hle := runN_le blkC s
  have e64 : IntKind.wrap .i64 ((i : Int) + 1) = ((i + 1 : Nat) : Int) := by rw [wrap64 (by omega) (by omega)]; rfl
  by_cases hlt : i < s.length
  · obtain ⟨c, ec⟩ : ∃ c, s[i]? = some c := ⟨_, List.getElem?_eq_getElem hlt⟩
    have e59 : ((c.toNat : Int) = 59) = (c = 59) := u8_eq c 59 (by omega)
    by_cases hr : i < runN blkC s
    · have hb := runN_get hr ec
      have h59 : ¬ c = 59 := fun e => by subst e; simp [blkC] at hb
      have e59' := eq_false h59
      rw [← e59] at e59'
      simp [-getElem?_pos, wL27_0, s0, s3, hlt, ec, e59', rblank_ok, hb, e64]
      exact ⟨runN blkC s - (i + 1), by omega, i + 1, by omega, rfl, by simp [s0], by simp, rfl⟩
    · have hir : i = runN blkC s := by omega
      have hb := runN_end (p := blkC) (s := s) (c := c) (by rw [← hir]; exact ec)
      have hne : (i == s.length) = false := by simp; omega
      unfold empL
      rw [← hir, hne, ec]
      by_cases h59 : c = 59
      · subst h59
        simp [-getElem?_pos, wL27_0, s0, s3, hlt, ec]
      · have e59' := eq_false h59
        rw [← e59] at e59'
        simp [-getElem?_pos, wL27_0, s0, s3, hlt, ec, e59', rblank_ok, hb, h59]
  · have hir : runN blkC s = s.length := by omega
    simp [wL27_0, wK27_0, s0, s3, hlt, empL, hir]
end Go.Proofs.Ytiobaboailhafaa
