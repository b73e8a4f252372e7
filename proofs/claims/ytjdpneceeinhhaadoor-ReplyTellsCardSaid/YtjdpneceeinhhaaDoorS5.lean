/-
  ReplyTells.
-/
import Derived.Test.YtjdpneceeinhhaaDoorS4
set_option linter.unusedVariables false
set_option linter.unusedSimpArgs false
namespace Go.Proofs.YtjdpneceeinhhaaDoor
open Go Go.Am

theorem rparse_eq (l : Txt) (hl : l.length ≤ big) (hm : ∀ s ∈ l, s.length ≤ big) (rl : Rt) : ∃ f : Heap → Rt, ∀ h, M.call 16 [.list 1 (l.map AV.str) rl] h = some (.tup [.agg [.int .i64 (parseP l).1.1, .list 1 ((parseP l).1.2.map AV.str) (f h)], .int .i64 (parseP l).2.1, .int .i64 (parseP l).2.2], h) := by
  refine Classical.axiomOfChoice (r := fun h r => M.call 16 [.list 1 (l.map AV.str) rl] h = some (.tup [.agg [.int .i64 (parseP l).1.1, .list 1 ((parseP l).1.2.map AV.str) r], .int .i64 (parseP l).2.1, .int .i64 (parseP l).2.2], h)) fun h => ?_
  obtain ⟨x, hx, r, rfl⟩ := rparse_ok l hl hm rl h
  exact ⟨r, hx⟩
theorem rprint_eq (c : Int) (l : Txt) (hl : l.length ≤ big) (hm : ∀ s ∈ l, s.length ≤ big) (rl : Rt) : ∃ f : Heap → Rt, ∀ h, M.call 19 [.agg [.int .i64 c, .list 1 (l.map AV.str) rl]] h = some (.tup [.list 1 ((printP c l).1.map AV.str) (f h), .int .i64 (printP c l).2], h) := by
  refine Classical.axiomOfChoice (r := fun h r => M.call 19 [.agg [.int .i64 c, .list 1 (l.map AV.str) rl]] h = some (.tup [.list 1 ((printP c l).1.map AV.str) r, .int .i64 (printP c l).2], h)) fun h => ?_
  obtain ⟨x, hx, r, rfl⟩ := rprint_ok c l hl hm rl h
  exact ⟨r, hx⟩
def short6 (l : Txt) (i : Nat) : Prop := ∀ (j : Nat) s, j < i → l[j]? = some s → s.length ≤ 600
def InvL6 (l : Txt) (c : Int) (ls : Txt) (code : Int) (k : Nat) (σ : Slots) (h : Heap) : Prop := ∃ i, i ≤ max l.length ls.length ∧ k = max l.length ls.length - i ∧ short6 l i ∧ short6 ls i ∧
  σ 0 = .list 1 (l.map AV.str) .no ∧ σ 2 = .int .i64 code ∧ σ 4 = .ptr 0 0 ∧ σ 7 = .int .i64 i ∧ h = [.cells [.int .i64 c, .list 1 (ls.map AV.str) .no]]
theorem lens_ok (l : Txt) (c : Int) (ls : Txt) (code : Int) (h1 : l.length ≤ 150) (h2 : ls.length ≤ 150) (σ : Slots) (Q : Ex → Slots → Heap → Prop)
    (t0 : σ 0 = .list 1 (l.map AV.str) .no) (t2 : σ 2 = .int .i64 code) (t4 : σ 4 = .ptr 0 0) (t7 : σ 7 = .int .i64 0)
    (hR : ∀ σ' h', σ' 6 = .bool true → Q .ret σ' h')
    (hQ : ∀ σ', (∀ s ∈ l, s.length ≤ 600) → (∀ s ∈ ls, s.length ≤ 600) → σ' 0 = .list 1 (l.map AV.str) .no → σ' 2 = .int .i64 code → σ' 4 = .ptr 0 0 → Q (.exit 0) σ' [.cells [.int .i64 c, .list 1 (ls.map AV.str) .no]]) :
    Wp M (.loop L6_0) Q σ [.cells [.int .i64 c, .list 1 (ls.map AV.str) .no]] := by
  refine Wp.loop (InvL6 l c ls code) ?_ (n := max l.length ls.length) ⟨0, by omega, by omega, fun j s hj => absurd hj (by omega), fun j s hj => absurd hj (by omega), t0, t2, t4, by simpa using t7, rfl⟩
  rintro k σ h ⟨i, hi, rfl, k1, k2, s0, s2, s4, s7, rfl⟩
  have aw := fun h => awake_ok h
  have e64 : IntKind.wrap .i64 ((i : Int) + 1) = ((i + 1 : Nat) : Int) := by rw [wrap64 (by omega) (by omega)]; rfl
  have step : ∀ (m : Txt), short6 m i → (∀ s, m[i]? = some s → s.length ≤ 600) → short6 m (i + 1) := by
    intro m hm hs j s hj hjs
    by_cases hji : j < i
    · exact hm j s hji hjs
    · have : j = i := by omega
      subst this
      exact hs s hjs
  have next : ∀ σ' : Slots, i < max l.length ls.length → (∀ s, l[i]? = some s → s.length ≤ 600) → (∀ s, ls[i]? = some s → s.length ≤ 600) → σ' 0 = σ 0 → σ' 2 = σ 2 → σ' 4 = σ 4 → σ' 7 = .int .i64 ((i + 1 : Nat) : Int) → ∃ m, m < max l.length ls.length - i ∧ InvL6 l c ls code m σ' [.cells [.int .i64 c, .list 1 (ls.map AV.str) .no]] :=
    fun σ' hlt a1 a2 b0 b2 b4 b7 => ⟨max l.length ls.length - (i + 1), by omega, i + 1, by omega, rfl, step l k1 a1, step ls k2 a2, by rw [b0, s0], by rw [b2, s2], by rw [b4, s4], b7, rfl⟩
  by_cases hl : i < l.length
  · obtain ⟨s, es⟩ : ∃ s, l[i]? = some s := ⟨_, List.getElem?_eq_getElem hl⟩
    have es' : (l.map AV.str)[i]? = some (.str s) := by rw [List.getElem?_map, es]; rfl
    have hlI : ((i : Int) < l.length) = True := eq_true (by omega)
    by_cases hs6 : s.length ≤ 600
    · have hs6I : ((600 : Int) < s.length) = False := eq_false (by omega)
      have asm : ∀ s', l[i]? = some s' → s'.length ≤ 600 := fun s' e => by rw [es] at e; injection e with e; rw [← e]; exact hs6
      by_cases hr : i < ls.length
      · obtain ⟨t, et⟩ : ∃ t, ls[i]? = some t := ⟨_, List.getElem?_eq_getElem hr⟩
        have et' : (ls.map AV.str)[i]? = some (.str t) := by rw [List.getElem?_map, et]; rfl
        have hrI : ((i : Int) < ls.length) = True := eq_true (by omega)
        by_cases ht6 : t.length ≤ 600
        · have ht6I : ((600 : Int) < t.length) = False := eq_false (by omega)
          simp [-getElem?_pos, -List.getElem?_map, -Int.natCast_add, wL6_0, s0, s2, s4, s7, hl, hlI, hr, hrI, es', et', hs6I, ht6I, e64]
          exact next _ (by omega) asm (fun s' e => by rw [et] at e; injection e with e; rw [← e]; exact ht6) (by simp) (by simp) (by simp) (by simp)
        · have ht6I : ((600 : Int) < t.length) = True := eq_true (by omega)
          simp [-getElem?_pos, -List.getElem?_map, -Int.natCast_add, wL6_0, s0, s2, s4, s7, hl, hlI, hr, hrI, es', et', hs6I, ht6I, aw]
          exact hR _ _ (by simp)
      · have hrI : ((i : Int) < ls.length) = False := eq_false (by omega)
        have et : ls[i]? = none := List.getElem?_eq_none (by omega)
        simp [-getElem?_pos, -List.getElem?_map, -Int.natCast_add, wL6_0, s0, s2, s4, s7, hl, hlI, hr, hrI, es', hs6I, e64]
        exact next _ (by omega) asm (fun s' e => by rw [et] at e; cases e) (by simp) (by simp) (by simp) (by simp)
    · have hs6I : ((600 : Int) < s.length) = True := eq_true (by omega)
      simp [-getElem?_pos, -List.getElem?_map, -Int.natCast_add, wL6_0, s0, s2, s4, s7, hl, hlI, es', hs6I, aw]
      exact hR _ _ (by simp)
  · have hlI : ((i : Int) < l.length) = False := eq_false (by omega)
    have es : l[i]? = none := List.getElem?_eq_none (by omega)
    have asm : ∀ s', l[i]? = some s' → s'.length ≤ 600 := fun s' e => by rw [es] at e; cases e
    by_cases hr : i < ls.length
    · obtain ⟨t, et⟩ : ∃ t, ls[i]? = some t := ⟨_, List.getElem?_eq_getElem hr⟩
      have et' : (ls.map AV.str)[i]? = some (.str t) := by rw [List.getElem?_map, et]; rfl
      have hrI : ((i : Int) < ls.length) = True := eq_true (by omega)
      by_cases ht6 : t.length ≤ 600
      · have ht6I : ((600 : Int) < t.length) = False := eq_false (by omega)
        simp [-getElem?_pos, -List.getElem?_map, -Int.natCast_add, wL6_0, s0, s2, s4, s7, hl, hlI, hr, hrI, et', ht6I, e64]
        exact next _ (by omega) asm (fun s' e => by rw [et] at e; injection e with e; rw [← e]; exact ht6) (by simp) (by simp) (by simp) (by simp)
      · have ht6I : ((600 : Int) < t.length) = True := eq_true (by omega)
        simp [-getElem?_pos, -List.getElem?_map, -Int.natCast_add, wL6_0, s0, s2, s4, s7, hl, hlI, hr, hrI, et', ht6I, aw]
        exact hR _ _ (by simp)
    · have hrI : ((i : Int) < ls.length) = False := eq_false (by omega)
      have all : ∀ m : Txt, m.length ≤ i → short6 m i → ∀ s ∈ m, s.length ≤ 600 := by
        intro m hm hk s hs
        obtain ⟨j, hj⟩ := List.getElem?_of_mem hs
        exact hk j s (by have := (List.getElem?_eq_some_iff.1 hj).1; omega) hj
      simp [wL6_0, s0, s2, s4, s7, hl, hlI, hr, hrI]
      exact hQ _ (all l (by omega) k1) (all ls (by omega) k2) (by simp [s0]) (by simp [s2]) (by simp [s4])
end Go.Proofs.YtjdpneceeinhhaaDoor
