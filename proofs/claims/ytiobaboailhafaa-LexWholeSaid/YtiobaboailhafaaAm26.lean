/-
  What arguments of each type are, as the abstract machine sees them.
-/
import Derived.Test.YtiobaboailhafaaAm25
set_option linter.unusedVariables false
set_option linter.unusedSimpArgs false
namespace Go.Am
open Go

section
variable {P : Program} {n : Nat} {t e : TypeId} {a : AV}
theorem has_not_agg {d : TypeDesc} (hu : P.underlying t = some d) (h1 : ∀ fs, d ≠ .struct fs) (h2 : ∀ m e, d ≠ .array m e) : aggT P t = false := by
  unfold aggT
  rw [hu]
  cases d <;> first | rfl | exact absurd rfl (h1 _) | exact absurd rfl (h2 _ _)
theorem has_pos {H : TypeId → List AV → Prop} (h : HasE P (Has P n) t a) : ∃ m, n = m + 1 := by
  cases n with
  | zero =>
    unfold HasE at h
    split at h
    · obtain ⟨_, _, h⟩ := h; exact h.elim
    · exact h.elim
  | succ m => exact ⟨m, rfl⟩
theorem has_int {k : IntKind} (hu : P.underlying t = some (.int k)) (h : HasE P (Has P n) t a) : ∃ i, a = .int k i ∧ (Lit.int k i).wf = true := by
  unfold HasE at h
  rw [has_not_agg hu (by simp) (by simp), if_neg (by simp)] at h
  cases n with
  | zero => exact h.elim
  | succ m =>
    simp only [Has, hu] at h
    obtain ⟨i, h1, h2⟩ := h
    exact ⟨i, by simpa using h1, h2⟩
theorem has_bool (hu : P.underlying t = some .bool) (h : HasE P (Has P n) t a) : ∃ b, a = .bool b := by
  unfold HasE at h
  rw [has_not_agg hu (by simp) (by simp), if_neg (by simp)] at h
  cases n with
  | zero => exact h.elim
  | succ m =>
    simp only [Has, hu] at h
    obtain ⟨b, h1⟩ := h
    exact ⟨b, by simpa using h1⟩
theorem has_str (hu : P.underlying t = some .string) (h : HasE P (Has P n) t a) : ∃ l : List UInt8, a = .str l ∧ l.length ≤ maxLen := by
  unfold HasE at h
  rw [has_not_agg hu (by simp) (by simp), if_neg (by simp)] at h
  cases n with
  | zero => exact h.elim
  | succ m =>
    simp only [Has, hu] at h
    obtain ⟨b, h1, h2⟩ := h
    exact ⟨b, by simpa using h1, h2⟩
theorem has_slice (hu : P.underlying t = some (.slice e)) (h : HasE P (Has P n) t a) : ∃ xs m, a = .list (P.cellsOf e) xs .no ∧ xs.length ≤ maxLen ∧ ∀ x ∈ xs, HasE P (Has P m) e x := by
  unfold HasE at h
  rw [has_not_agg hu (by simp) (by simp), if_neg (by simp)] at h
  cases n with
  | zero => exact h.elim
  | succ m =>
    simp only [Has, hu] at h
    obtain ⟨xs, h1, h2, h3⟩ := h
    exact ⟨xs, m, by simpa using h1, h2, h3⟩
theorem has_struct {fs : Array Field} (hu : P.underlying t = some (.struct fs)) (h : HasE P (Has P n) t a) : ∃ as m, a = .agg as ∧ HasF (Has P m) fs.toList as := by
  unfold HasE at h
  have : aggT P t = true := by unfold aggT; rw [hu]
  rw [this, if_pos rfl] at h
  obtain ⟨as, rfl, h⟩ := h
  cases n with
  | zero => exact h.elim
  | succ m =>
    simp only [Has, hu] at h
    exact ⟨as, m, rfl, h⟩
theorem has_array {k : Nat} (hu : P.underlying t = some (.array k e)) (h : HasE P (Has P n) t a) : ∃ as m, a = .agg as ∧ HasR (Has P m e) k as := by
  unfold HasE at h
  have : aggT P t = true := by unfold aggT; rw [hu]
  rw [this, if_pos rfl] at h
  obtain ⟨as, rfl, h⟩ := h
  cases n with
  | zero => exact h.elim
  | succ m =>
    simp only [Has, hu] at h
    exact ⟨as, m, rfl, h⟩
/-- A part of a row of cells, as a value. -/
theorem has_part (H : TypeId → List AV → Prop) {as : List AV} (h : H t as) : (aggT P t = true → HasE P H t (.agg as)) := by
  intro hg
  unfold HasE
  rw [if_pos hg]
  exact ⟨as, rfl, h⟩
theorem has_cell (H : TypeId → List AV → Prop) {x : AV} (h : H t [x]) (hg : aggT P t = false) : HasE P H t x := by
  unfold HasE
  rw [hg, if_neg (by simp)]
  exact h

theorem nat_of_wf {k : IntKind} {i : Int} {m : Nat} (h : (Lit.int k i).wf = true) (hk : k.min = 0 ∧ k.max = m) : ∃ j : Nat, i = j ∧ j ≤ m := by
  simp only [Lit.wf, Bool.and_eq_true, decide_eq_true_eq] at h
  exact ⟨i.toNat, by omega, by omega⟩
theorem has_u8 (hu : P.underlying t = some (.int .u8)) (h : HasE P (Has P n) t a) : ∃ c : UInt8, a = .int .u8 c.toNat := by
  obtain ⟨i, rfl, hw⟩ := has_int hu h
  obtain ⟨j, rfl, hj⟩ := nat_of_wf (m := 255) hw ⟨by decide, by decide⟩
  exact ⟨UInt8.ofNat j, by rw [UInt8.toNat_ofNat', Nat.mod_eq_of_lt (by omega)]⟩
theorem has_u16 (hu : P.underlying t = some (.int .u16)) (h : HasE P (Has P n) t a) : ∃ j : Nat, a = .int .u16 j ∧ j ≤ 65535 := by
  obtain ⟨i, rfl, hw⟩ := has_int hu h
  obtain ⟨j, rfl, hj⟩ := nat_of_wf (m := 65535) hw ⟨by decide, by decide⟩
  exact ⟨j, rfl, hj⟩
theorem has_u32 (hu : P.underlying t = some (.int .u32)) (h : HasE P (Has P n) t a) : ∃ j : Nat, a = .int .u32 j ∧ j ≤ 4294967295 := by
  obtain ⟨i, rfl, hw⟩ := has_int hu h
  obtain ⟨j, rfl, hj⟩ := nat_of_wf (m := 4294967295) hw ⟨by decide, by decide⟩
  exact ⟨j, rfl, hj⟩
theorem has_u64 (hu : P.underlying t = some (.int .u64)) (h : HasE P (Has P n) t a) : ∃ j : Nat, a = .int .u64 j ∧ j ≤ 18446744073709551615 := by
  obtain ⟨i, rfl, hw⟩ := has_int hu h
  obtain ⟨j, rfl, hj⟩ := nat_of_wf (m := 18446744073709551615) hw ⟨by decide, by decide⟩
  exact ⟨j, rfl, hj⟩
theorem has_i64 (hu : P.underlying t = some (.int .i64)) (h : HasE P (Has P n) t a) : ∃ i : Int, a = .int .i64 i ∧ -9223372036854775808 ≤ i ∧ i ≤ 9223372036854775807 := by
  obtain ⟨i, rfl, hw⟩ := has_int hu h
  have h1 : IntKind.min .i64 = -9223372036854775808 := by decide
  have h2 : IntKind.max .i64 = 9223372036854775807 := by decide
  simp only [Lit.wf, h1, h2, Bool.and_eq_true, decide_eq_true_eq] at hw
  exact ⟨i, rfl, hw.1, hw.2⟩
theorem choose_list {α : Type} {p : α → AV} : ∀ {xs : List AV}, (∀ x ∈ xs, ∃ y, x = p y) → ∃ ys : List α, xs = ys.map p
  | [], _ => ⟨[], rfl⟩
  | x :: xs, h => by
    obtain ⟨y, rfl⟩ := h x List.mem_cons_self
    obtain ⟨ys, rfl⟩ := choose_list fun z hz => h z (List.mem_cons_of_mem _ hz)
    exact ⟨y :: ys, rfl⟩
theorem choose_list' {α : Type} {p : α → AV} {q : α → Prop} : ∀ {xs : List AV}, (∀ x ∈ xs, ∃ y, x = p y ∧ q y) → ∃ ys : List α, xs = ys.map p ∧ ∀ y ∈ ys, q y
  | [], _ => ⟨[], rfl, by simp⟩
  | x :: xs, h => by
    obtain ⟨y, rfl, hq⟩ := h x List.mem_cons_self
    obtain ⟨ys, rfl, hy⟩ := choose_list' fun z hz => h z (List.mem_cons_of_mem _ hz)
    exact ⟨y :: ys, rfl, by simpa using ⟨hq, hy⟩⟩
theorem has_bytes (hu : P.underlying t = some (.slice e)) (he : P.underlying e = some (.int .u8)) (hc : P.cellsOf e = 1) (h : HasE P (Has P n) t a) : ∃ l : List UInt8, a = .list 1 (ofBytes l) .no ∧ l.length ≤ maxLen := by
  obtain ⟨xs, m, rfl, h1, h2⟩ := has_slice hu h
  obtain ⟨l, rfl⟩ := choose_list (p := fun b : UInt8 => AV.int .u8 b.toNat) fun x hx => has_u8 he (h2 x hx)
  rw [hc]
  exact ⟨l, rfl, by simpa using h1⟩
theorem has_strs (hu : P.underlying t = some (.slice e)) (he : P.underlying e = some .string) (hc : P.cellsOf e = 1) (h : HasE P (Has P n) t a) : ∃ l : List (List UInt8), a = .list 1 (l.map AV.str) .no ∧ l.length ≤ maxLen ∧ ∀ x ∈ l, x.length ≤ maxLen := by
  obtain ⟨xs, m, rfl, h1, h2⟩ := has_slice hu h
  obtain ⟨l, rfl, h3⟩ := choose_list' (p := AV.str) (q := fun x : List UInt8 => x.length ≤ maxLen) fun x hx => has_str he (h2 x hx)
  rw [hc]
  exact ⟨l, rfl, by simpa using h1, h3⟩
theorem args_cons {ts : List TypeId} {as : List AV} (h : HasArgs P (t :: ts) as) : ∃ a r n, as = a :: r ∧ HasE P (Has P n) t a ∧ HasArgs P ts r := h
theorem args_nil {as : List AV} (h : HasArgs P [] as) : as = [] := h
end

theorem wrap8 {x : Int} (h1 : 0 ≤ x) (h2 : x < 256) : IntKind.wrap .u8 x = x := by
  simp [IntKind.wrap, IntKind.bits, IntKind.signed]
  omega
theorem wrap16 {x : Int} (h1 : 0 ≤ x) (h2 : x < 65536) : IntKind.wrap .u16 x = x := by
  simp [IntKind.wrap, IntKind.bits, IntKind.signed]
  omega
theorem wrapU32 {x : Int} (h1 : 0 ≤ x) (h2 : x < 4294967296) : IntKind.wrap .u32 x = x := by
  simp [IntKind.wrap, IntKind.bits, IntKind.signed]
  omega
theorem wrapU64 {x : Int} (h1 : 0 ≤ x) (h2 : x < 18446744073709551616) : IntKind.wrap .u64 x = x := by
  simp [IntKind.wrap, IntKind.bits, IntKind.signed]
  omega

/-- No function's contract comes from without. -/
def noX : CallO := fun _ _ _ => none
theorem noX_ok (P : Program) : CallOk P noX := fun _ _ _ _ _ h => by cases h
theorem noX_fr : FrX noX := fun _ _ _ _ _ _ => ⟨fun _ => rfl, fun _ _ h => by cases h⟩
end Go.Am
