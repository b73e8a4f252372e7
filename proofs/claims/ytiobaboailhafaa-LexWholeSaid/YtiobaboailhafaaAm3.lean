/-
  Each operation of the abstract machine is what the model's machine does: operands, loads, stores, new blocks.
-/
import Derived.Test.YtiobaboailhafaaAm2
import Derived.Laws.Sem
import Derived.Laws.World
import Derived.Laws.Entries
import Derived.Laws.Strings
import Derived.Laws.Strings2
import Derived.Laws.BytesString
set_option linter.unusedVariables false
set_option linter.unusedSimpArgs false
namespace Go.Am
open Go Go.RowKit

/-- What an operation comes to. -/
def Out (P : Program) (B : Nat) (w0 : World) (E : Env) (h' : Heap) (key : Nat) (a : Act) (o : Oper) (w : World) (x : AV) : Prop :=
  ∃ val w' E', ((execOp a.eval o).run P w = .ok (.value val) w' ∨ ((execOp a.eval o).run P w = .ok .skip w' ∧ val = undef)) ∧ E.le E' ∧ (∀ b, b ≠ key → E'.ρ b = E.ρ b) ∧ Rel B w0 E' h' w' ∧ Rd E' val x

/-- The world and the heap stay. -/
theorem Out.quiet {P : Program} {B : Nat} {w0 : World} {E : Env} {h : Heap} {key : Nat} {a : Act} {o : Oper} {w : World} {x : AV} (r : Rel B w0 E h w) (v : Value) (hrun : (execOp a.eval o).run P w = .ok (.value v) w) (hx : Rd E v x) : Out P B w0 E h key a o w x :=
  ⟨v, w, E, .inl hrun, E.le_refl, fun _ _ => rfl, r, hx⟩

section
variable {P : Program} {B : Nat} {w0 : World} {E : Env} {h : Heap} {a : Act} {w : World} {σ : Slots}

theorem constV_sound {t : TypeId} {v : Value} {x : AV} (hc : constV P t v = some x) : Rd E v x := by
  unfold constV at hc
  split at hc <;> first
    | (injection hc with hc; subst hc; first
        | exact .int _ _
        | exact .bool _
        | exact .str _
        | exact .nilp
        | exact .nili
        | exact .nilf
        | exact .nilm
        | exact .list none 0 0 _ [] .full 0 0 (fun _ _ => undef) rfl (Nat.le_refl _) (fun h => absurd h (by omega)) (by simp) (by omega) (by simp) rfl)
    | cases hc

theorem cx_sound {t : TypeId} {x : Operand} {y : AX} (hc : cx P t x = some y) (hs : SR E a σ) : Rd E (a.eval x) (y.ev σ) := by
  cases x with
  | tmp i => simp only [cx, Option.some.injEq] at hc; subst hc; exact hs i
  | const v =>
    simp only [cx, Option.map_eq_some_iff] at hc
    obtain ⟨z, hz, rfl⟩ := hc
    exact constV_sound hz
  | func f => simp only [cx, Option.some.injEq] at hc; subst hc; exact .fn f #[] [] rfl (by simp)
  | global g => simp [cx] at hc

theorem Rd.one_cell {v : Value} {x : AV} (k : Rd E v x) (h1 : x.one) : v.oneCell' = true := by
  cases k <;> first
    | rfl
    | exact absurd h1 (by simp [AV.one])

theorem Rd.cells_eq {v : Value} {x : AV} (k : Rd E v x) (h1 : x.one) : v.cells = #[v] ∧ x.cells = [x] := by
  cases k <;> first
    | exact ⟨rfl, rfl⟩
    | exact absurd h1 (by simp [AV.one])

/-- The cells of a value and of what it reads as. -/
theorem Rd.cells {v : Value} {x : AV} (k : Rd E v x) (hne : x.cells ≠ []) : v.cells.size = x.cells.length ∧ RdCells E v.cells x.cells := by
  by_cases h1 : x.one
  · obtain ⟨e1, e2⟩ := k.cells_eq h1
    rw [e1, e2]
    refine ⟨rfl, by simpa using h1, fun o u y hu hy => ?_⟩
    match o with
    | 0 => simp at hu hy; subst hu; subst hy; exact k
    | o + 1 => simp at hu
  · cases k with
    | agg cs as hl ho hc => exact ⟨hl, ho, hc⟩
    | junk v => exact absurd rfl hne
    | tup cs as hl hc => exact absurd rfl hne
    | _ => exact absurd trivial h1

theorem RdCells.one_cell {cur : Array Value} {cs : List AV} (k : RdCells E cur cs) {o : Nat} {u : Value} (hu : cur[o]? = some u) (hlt : o < cs.length) : u.oneCell' = true := by
  obtain ⟨x, hx⟩ : ∃ x, cs[o]? = some x := ⟨cs[o], List.getElem?_eq_getElem hlt⟩
  exact (k.2 o u x hu hx).one_cell (k.1 x (List.mem_of_getElem? hx))

/-! ### Loads -/
theorem ld_some {t : TypeId} {s : Option Nat} (hl : ld P t = some s) : ∃ d, P.underlying t = some d ∧ ((isAggD d = true ∧ ∃ n, size? P t = some n ∧ s = some n) ∨ (isAggD d = false ∧ s = none)) := by
  unfold ld at hl
  split at hl
  · rename_i d hd
    refine ⟨d, hd, ?_⟩
    split at hl
    · rename_i hg
      simp only [Option.map_eq_some_iff] at hl
      obtain ⟨n, hn, rfl⟩ := hl
      exact .inl ⟨hg, n, hn, rfl⟩
    · rename_i hg
      injection hl with hl
      exact .inr ⟨by simpa using hg, hl.symm⟩
  · cases hl

theorem run_isAgg' {t : TypeId} {d : TypeDesc} (hu : P.underlying t = some d) (w : World) : (isAgg t).run P w = .ok (isAggD d) w := by
  unfold isAgg
  rw [Sem.run_bind, run_underlying hu w]
  cases d <;> rfl
theorem run_sizeOf' {t : TypeId} {n : Nat} (hs : size? P t = some n) (w : World) : (sizeOf t).run P w = .ok n w := by
  unfold size? at hs
  simp only [Option.map_eq_some_iff] at hs
  obtain ⟨i, hi, rfl⟩ := hs
  simp [sizeOf, typeInfo, hi]

theorem add_plain (g o j : Nat) : (⟨g, o, none⟩ : Addr).add j = ⟨g, o + j, none⟩ := by unfold Addr.add; split <;> simp_all

/-- A load off cells that read as these. -/
theorem run_load_cells {t : TypeId} {s : Option Nat} (hl : ld P t = some s) (g o : Nat) (cs : List AV) (off : Nat) {x : AV} (hx : loadA s cs off = some x) (hone : ∀ y ∈ cs, y.one)
    (hcell : ∀ j y, cs[j]? = some y → ∃ u, w.cell? ⟨g, o + j, none⟩ = some u ∧ Rd E u y) :
    ∃ v, (loadVar t ⟨g, o + off, none⟩).run P w = .ok v w ∧ Rd E v x := by
  obtain ⟨d, hd, ⟨hg, n, hn, rfl⟩ | ⟨hg, rfl⟩⟩ := ld_some hl
  · simp only [loadA] at hx
    split at hx
    · rename_i hle
      injection hx with hx
      subst hx
      have hc : ∀ j, ∃ u, j < n → w.cell? ⟨g, o + off + j, none⟩ = some u ∧ ∀ y, cs[off + j]? = some y → Rd E u y := by
        intro j
        by_cases hj : j < n
        · have hlt : off + j < cs.length := by omega
          obtain ⟨u, hu, hr⟩ := hcell (off + j) _ (List.getElem?_eq_getElem hlt)
          refine ⟨u, fun _ => ⟨by rw [Nat.add_assoc]; exact hu, fun y hy => ?_⟩⟩
          rw [List.getElem?_eq_getElem hlt] at hy
          injection hy with hy
          subst hy
          exact hr
        · exact ⟨undef, fun h => absurd h hj⟩
      obtain ⟨f, hf⟩ := Classical.axiomOfChoice hc
      have hrun := run_loadCells (P := P) w ⟨g, o + off, none⟩ n f (fun j hj => by rw [add_plain]; exact (hf j hj).1)
      refine ⟨.agg ((List.range n).map f).toArray, by simp [loadVar, run_isAgg' hd, hg, run_sizeOf' hn, hrun], ?_⟩
      refine .agg _ _ (by simp; omega) (fun y hy => hone y (List.mem_of_mem_drop (List.mem_of_mem_take hy))) ?_
      intro i u y hu hy
      have hi : i < n := by
        rcases Nat.lt_or_ge i n with h' | h'
        · exact h'
        · rw [List.getElem?_eq_none (by simp; omega)] at hy; cases hy
      rw [List.getElem?_take_of_lt hi, List.getElem?_drop] at hy
      simp [hi] at hu
      subst hu
      exact (hf i hi).2 y hy
    · cases hx
  · simp only [loadA] at hx
    obtain ⟨u, hu, hr⟩ := hcell off x hx
    exact ⟨u, by simp [loadVar, run_isAgg' hd, hg, hu], hr⟩

theorem cell_of_block {g j : Nat} {cur : Array Value} {t : TypeId} {fr : Nat × Nat} (hg : w.heap[g]? = some (.cells cur t fr)) : w.cell? ⟨g, j, none⟩ = cur[j]? := by simp [World.cell?, hg]
theorem frozen_of_block {g j : Nat} {cur : Array Value} {t : TypeId} {fr : Nat × Nat} (hg : w.heap[g]? = some (.cells cur t fr)) : w.frozen? ⟨g, j, none⟩ = (decide (fr.1 ≤ j) && decide (j < fr.2)) := by simp [World.frozen?, hg]

/-- The cells of a living block of cells. -/
theorem LiveAt.at {g c : Nat} {cs : List AV} (hl : LiveAt B E w g c (.cells cs)) (j : Nat) (y : AV) (hy : cs[j]? = some y) : ∃ u, w.cell? ⟨g, j, none⟩ = some u ∧ Rd E u y := by
  obtain ⟨_, ⟨cur, t, fr, h2, h3, h4, _⟩, _⟩ := hl
  have hlt : j < cur.size := by
    have := (List.getElem?_eq_some_iff.1 hy).1
    omega
  exact ⟨cur[j], by rw [cell_of_block h2]; exact Array.getElem?_eq_getElem hlt, h4.2 j _ _ (Array.getElem?_eq_getElem hlt) hy⟩

theorem load_sound {t : TypeId} {x : Operand} {s : Option Nat} {y : AX} {o : Oper} (ho : o.op = .load t x) (hl : ld P t = some s) (hc : cx P 0 x = some y) (hs : SR E a σ) (r : Rel B w0 E h w) (key : Nat) {O : CallO} {v : AV} {h' : Heap}
    (hex : aop O σ h key (.load s y) = some (v, h')) : Out P B w0 E h' key a o w v := by
  have hx := cx_sound hc hs
  simp only [aop] at hex
  split at hex
  · rename_i b off he
    split at hex
    · rename_i cs hb
      simp only [Option.map_eq_some_iff, Prod.mk.injEq] at hex
      obtain ⟨z, hz, rfl, rfl⟩ := hex
      rw [he] at hx
      generalize hv : a.eval x = av at hx
      cases hx with
      | ptr _ _ g c hρ =>
        obtain ⟨g', c', h1, h2⟩ := r.live b _ hb (by simp)
        rw [hρ] at h1
        injection h1 with h1; injection h1 with h1 h1'; subst h1; subst h1'
        have hone : ∀ y ∈ cs, y.one := by obtain ⟨_, ⟨_, _, _, _, _, h4, _⟩, _⟩ := h2; exact h4.1
        obtain ⟨u, hu, hr⟩ := run_load_cells (P := P) (w := w) (E := E) hl g 0 cs off hz hone (fun j y hy => by rw [Nat.zero_add]; exact h2.at j y hy)
        rw [Nat.zero_add] at hu
        exact Out.quiet r u (by simp [execOp, ho, hv, Instr.loadAt, Instr.sureAddr, hu]) hr
    · cases hex
  · rename_i cs he
    simp only [Option.map_eq_some_iff, Prod.mk.injEq] at hex
    obtain ⟨z, hz, rfl, rfl⟩ := hex
    rw [he] at hx
    generalize hv : a.eval x = av at hx
    cases hx with
    | eptr g off _ vs hone h1 h2 =>
      obtain ⟨u, hu, hr⟩ := run_load_cells (P := P) (w := w) (E := E) hl g off cs 0 hz hone (fun j y hy => ⟨vs j, r.prot _ _ _ (h1 j (List.getElem?_eq_some_iff.1 hy).1), h2 j y hy⟩)
      exact Out.quiet r u (by simp [execOp, ho, hv, Instr.loadAt, Instr.sureAddr] at hu ⊢; simp [hu]) hr
  · cases hex

/-! ### Stores -/
theorem grown_trans {w w1 w2 : World} {row : Option Nat} (h : w.grownBy w1 row) (k : w1.grownBy w2 row) : w.grownBy w2 row :=
  ⟨k.os.trans h.os, k.tape.trans h.tape, k.output.trans h.output, Nat.le_trans h.size k.size, fun i hi hne => (k.block i (Nat.lt_of_lt_of_le hi h.size) hne).trans (h.block i hi hne)⟩

theorem run_storeCells' (P : Program) (g o : Nat) (t : TypeId) (fr : Nat × Nat) : ∀ (vs : List Value) (i : Nat) (cur : Array Value) (w : World), w.heap[g]? = some (.cells cur t fr) → o + i + vs.length ≤ cur.size → (∀ v ∈ vs, v.oneCell' = true) → Unf fr cur.size →
    ∃ w', (storeCells ⟨g, o, none⟩ vs i).run P w = .ok () w' ∧ w.grownBy w' (some g) ∧ w'.heap[g]? = some (.cells (cur.toList.take (o + i) ++ vs ++ cur.toList.drop (o + i + vs.length)).toArray t fr)
  | [], i, cur, w, hg, hle, _, _ => ⟨w, by simp [storeCells], ⟨rfl, rfl, rfl, Nat.le_refl _, fun _ _ _ => rfl⟩, by simp [hg]⟩
  | v :: vs, i, cur, w, hg, hle, hone, hf => by
    simp only [List.length_cons] at hle
    have hlt : o + i < cur.size := by omega
    have hcell : w.cell? ⟨g, o + i, none⟩ = some cur[o + i] := by rw [cell_of_block hg]; exact Array.getElem?_eq_getElem hlt
    have hfr : w.frozen? ⟨g, o + i, none⟩ = false := by rw [frozen_of_block hg]; exact hf.at _ hlt
    have hst : (store ((⟨g, o, none⟩ : Addr).add i) v).run P w = Result.ok () (w.setCell ⟨g, o + i, none⟩ v) := by
      rw [add_plain, run_store P w _ v _ (hone v (by simp)), hcell]
      simp [hfr]
    have hg1 : (w.setCell ⟨g, o + i, none⟩ v).heap[g]? = some (.cells (cur.setIfInBounds (o + i) v) t fr) := by simp [World.setCell, Array.getElem?_modify, hg]
    obtain ⟨w', h1, h2, h3⟩ := run_storeCells' P g o t fr vs (i + 1) _ _ hg1 (by simp; omega) (fun u hu => hone u (by simp [hu])) (by simpa using hf)
    refine ⟨w', ?_, ?_, ?_⟩
    · simp only [storeCells, Sem.run_bind]
      rw [hst]
      simpa using h1
    · have h0 : w.grownBy (w.setCell ⟨g, o + i, none⟩ v) (some g) := ⟨rfl, rfl, rfl, by simp, fun k hk hne => Below.heap_setCell _ _ _ _ (by simpa using hne)⟩
      exact grown_trans h0 h2
    · rw [h3]
      congr 2
      congr 1
      apply List.ext_getElem?
      intro j
      simp only [Array.toList_setIfInBounds, List.append_assoc, List.getElem?_append, List.length_take, List.length_set, Array.length_toList, List.length_cons, List.getElem?_drop, List.getElem?_take, List.getElem?_set]
      rcases Nat.lt_trichotomy j (o + i) with hj | hj | hj
      · have e1 : j < min (o + i) cur.size := by omega
        have e2 : j < min (o + (i + 1)) cur.size := by omega
        have e3 : j < o + (i + 1) := by omega
        have e4 : ¬ (o + i = j) := by omega
        simp [e1, e2, e3, e4, hj]
      · subst hj
        have e1 : ¬ (o + i < min (o + i) cur.size) := by omega
        have e2 : o + i < min (o + (i + 1)) cur.size := by omega
        have e3 : o + i < o + (i + 1) := by omega
        have e5 : o + i - min (o + i) cur.size = 0 := by omega
        simp [e1, e2, e3, e5, hlt]
      · have e1 : ¬ (j < min (o + i) cur.size) := by omega
        have e2 : ¬ (j < min (o + (i + 1)) cur.size) := by omega
        have e3 : j - min (o + i) cur.size = (j - min (o + (i + 1)) cur.size) + 1 := by omega
        simp only [e1, e2, if_false, e3, List.getElem?_cons_succ]
        have e4 : (j - min (o + (i + 1)) cur.size) + 1 < vs.length + 1 ↔ j - min (o + (i + 1)) cur.size < vs.length := by omega
        simp only [e4]
        split
        · rfl
        · rename_i hge
          have e6 : ¬ (o + i = o + (i + 1) + vs.length + (j - min (o + (i + 1)) cur.size - vs.length)) := by omega
          simp only [e6, if_false]
          congr 1
          omega

theorem size_splice {cur : List Value} {vs : List Value} {o : Nat} (h : o + vs.length ≤ cur.length) : (cur.take o ++ vs ++ cur.drop (o + vs.length)).length = cur.length := by
  simp; omega

/-- Cells that read, some of which are written. -/
theorem RdCells.splice {E : Env} {cur : Array Value} {cs : List AV} (k : RdCells E cur cs) (hsz : cs.length ≤ cur.size) {vs : Array Value} {ys : List AV} (kv : RdCells E vs ys) (hl : vs.size = ys.length) {o : Nat} (hle : o + ys.length ≤ cs.length) :
    RdCells E (cur.toList.take o ++ vs.toList ++ cur.toList.drop (o + vs.toList.length)).toArray (cs.take o ++ ys ++ cs.drop (o + ys.length)) := by
  refine ⟨fun y hy => ?_, ?_⟩
  · simp only [List.mem_append] at hy
    rcases hy with (hy | hy) | hy
    · exact k.1 y (List.mem_of_mem_take hy)
    · exact kv.1 y hy
    · exact k.1 y (List.mem_of_mem_drop hy)
  · intro j u y hu hy
    simp only [List.append_assoc, List.getElem?_toArray, List.getElem?_append, List.length_take, Array.length_toList, List.getElem?_drop, List.getElem?_take] at hu hy
    have e0 : min o cur.size = o := by omega
    have e1 : min o cs.length = o := by omega
    simp only [e0, e1] at hu hy
    split at hu
    · rename_i hj
      simp only [hj, if_true] at hy hu
      exact k.2 j u y (by simpa using hu) hy
    · rename_i hj
      simp only [hj, if_false] at hy
      split at hu
      · rename_i hj2
        rw [if_pos (by omega)] at hy
        exact kv.2 _ u y (by simpa using hu) hy
      · rename_i hj2
        rw [if_neg (by omega)] at hy
        rw [hl] at hu
        exact k.2 _ u y (by simpa using hu) hy

theorem store_sound {t : TypeId} {p x : Operand} {n : Nat} {q y : AX} {o : Oper} (ho : o.op = .store t p x) (hn : size? P t = some n) (hpos : 0 < n) (hp : cx P 0 p = some q) (hc : cx P t x = some y) (hs : SR E a σ) (r : Rel B w0 E h w) (key : Nat) {O : CallO} {v : AV} {h' : Heap}
    (hex : aop O σ h key (.store n q y) = some (v, h')) : Out P B w0 E h' key a o w v := by
  have hx := cx_sound hc hs
  have hq := cx_sound hp hs
  simp only [aop] at hex
  split at hex
  · rename_i b off he
    split at hex
    · rename_i cs hb
      split at hex
      · rename_i hcond
        obtain ⟨hlen, hle⟩ := hcond
        simp only [Option.some.injEq, Prod.mk.injEq] at hex
        obtain ⟨rfl, rfl⟩ := hex
        rw [he] at hq
        generalize hv : a.eval p = pv at hq
        cases hq with
        | ptr _ _ g c hρ =>
          obtain ⟨g', c', h1, h2⟩ := r.live b _ hb (by simp)
          rw [hρ] at h1
          injection h1 with h1; injection h1 with h1 h1'; subst h1; subst h1'
          obtain ⟨hB, ⟨cur, ty, fr, hcur, hsz, hrd, hf⟩, hC⟩ := h2
          obtain ⟨kl, kc⟩ := hx.cells (by intro e; rw [e] at hlen; simp at hlen; omega)
          obtain ⟨w', hrun, hg, hh⟩ := run_storeCells' P g off ty fr (a.eval x).cells.toList 0 cur w hcur (by simp; omega) (fun u hu => by
            obtain ⟨i, hi⟩ := List.mem_iff_getElem?.1 hu
            exact kc.one_cell (o := i) (by simpa using hi) (by have := (List.getElem?_eq_some_iff.1 hi).1; simp at this; omega)) hf
          refine ⟨undef, w', E, .inr ⟨?_, rfl⟩, E.le_refl, fun _ _ => rfl, ?_, .junk _⟩
          · simp [execOp, ho, hv, Instr.storeAt, Instr.sureAddr, storeVar, run_sizeOf' hn, kl, hlen, hrun]
          · refine r.turn b g c (.cells cs) _ hb (by simp) (by simp) hρ hB hg (fun o v hv => by rw [hC] at hv; cases hv) ?_
            refine ⟨hB, ⟨_, ty, fr, hh, ?_, ?_, ?_⟩, hC⟩
            · simp; omega
            · have := RdCells.splice (o := off) hrd (by omega) kc kl (by omega)
              simpa [hlen] using this
            · have : (cur.toList.take (off + 0) ++ (a.eval x).cells.toList ++ cur.toList.drop (off + 0 + (a.eval x).cells.toList.length)).toArray.size = cur.size := by simp; omega
              rw [this]; exact hf
      · cases hex
    · cases hex
  · cases hex

/-! ### New blocks -/
/-- A fresh block of cells at a reserved place. -/
theorem enter_cells (r : Rel B w0 E h w) {key : Nat} (hk : h[key]? = some .dead) (hfree : E.ρ key = none) (cur : Array Value) (t : TypeId) (cs : List AV) (hl : cur.size = cs.length) (hr : RdCells E cur cs) :
    ∃ E', E.le E' ∧ (∀ b, b ≠ key → E'.ρ b = E.ρ b) ∧ E'.ρ key = some (w.heap.size, 0) ∧ Rel B w0 E' (h.set key (.cells cs)) (w.alloc (.cells cur t)) := by
  have r1 : Rel B w0 E h (w.alloc (.cells cur t)) := r.world ((Below.refl _ _).alloc (Nat.le_refl _) _)
  have hle : E.le ⟨E.C, fun b => if b = key then some (w.heap.size, 0) else E.ρ b⟩ := ⟨fun _ _ _ h => h, fun b x hx => by
    dsimp only; split
    · rename_i e; subst e; rw [hfree] at hx; cases hx
    · exact hx⟩
  obtain ⟨_, h2⟩ := r1.enter key hk hfree w.heap.size 0 (.cells cs) E.C (fun _ _ _ h => h) r1.prot
    (fun b e' he hd g' c' hρ => by
      obtain ⟨g1, c1, k1, k2⟩ := r.live b e' he hd
      rw [hρ] at k1; injection k1 with k1; injection k1 with k1 _; subst k1
      exact ⟨Nat.ne_of_lt (k2.lt hd).1, fun _ => rfl⟩)
    (by
      refine ⟨r.bsz, ⟨cur, t, (0, 0), heap_alloc_new _ _, hl, ⟨hr.1, fun o u x hu hx => (hr.2 o u x hu hx).mono hle⟩, (.inl rfl)⟩, fun o => ?_⟩
      show E.C w.heap.size o = none
      cases hC : E.C w.heap.size o with
      | none => rfl
      | some v => exact absurd (World.block_lt_of_cell? w _ (r.prot _ _ _ hC)) (Nat.lt_irrefl _))
  exact ⟨_, hle, fun b hb => by dsimp only; rw [if_neg hb], by simp, h2⟩

theorem zOk1_sound {v : Value} {x : AV} (hz : zOk1 v x = true) : Rd E v x ∧ x.one := by
  unfold zOk1 at hz
  split at hz
  · simp at hz; obtain ⟨rfl, rfl⟩ := hz; exact ⟨.int _ _, trivial⟩
  · simp at hz; subst hz; exact ⟨.bool _, trivial⟩
  · simp at hz; rename_i s l; subst hz; exact ⟨.str _, trivial⟩
  · exact ⟨.nilp, trivial⟩
  · exact ⟨.nili, trivial⟩
  · exact ⟨.nilf, trivial⟩
  · exact ⟨.nilm, trivial⟩
  · exact ⟨.list none 0 0 _ [] .full 0 0 (fun _ _ => undef) rfl (Nat.le_refl _) (fun h => absurd h (by omega)) (by simp) (by omega) (by simp) rfl, trivial⟩
  · cases hz
theorem zOk_sound : ∀ {vs : List Value} {xs : List AV}, zOk vs xs = true → vs.length = xs.length ∧ (∀ y ∈ xs, y.one) ∧ ∀ (i : Nat) (u : Value) (x : AV), vs[i]? = some u → xs[i]? = some x → Rd E u x
  | [], [], _ => ⟨rfl, by simp, by simp⟩
  | v :: vs, x :: xs, hz => by
    simp only [zOk, Bool.and_eq_true] at hz
    obtain ⟨h1, h2⟩ := hz
    obtain ⟨k1, k2, k3⟩ := zOk_sound h2
    obtain ⟨z1, z2⟩ := zOk1_sound (E := E) h1
    refine ⟨by simp [k1], fun y hy => ?_, fun i u x hu hx => ?_⟩
    · rcases List.mem_cons.1 hy with rfl | hy
      · exact z2
      · exact k2 y hy
    · match i with
      | 0 => simp at hu hx; subst hu; subst hx; exact z1
      | i + 1 => simp at hu hx; exact k3 i u x hu hx
  | [], _ :: _, hz => by simp [zOk] at hz
  | _ :: _, [], hz => by simp [zOk] at hz

/-- A type's zero value, as the model has it. -/
theorem zeroA_sound {t : TypeId} {zs : List AV} (hz : zeroA P t = some zs) : ∃ i z, P.info? t = some i ∧ i.zero = some z ∧ z.cells.size = zs.length ∧ i.size = zs.length ∧ RdCells E z.cells zs := by
  unfold zeroA at hz
  split at hz
  · rename_i z as h1 h2
    split at hz
    · rename_i hc
      injection hz with hz; subst hz
      simp only [Bool.and_eq_true, beq_iff_eq] at hc
      obtain ⟨i, hi, hiz⟩ := Option.bind_eq_some_iff.1 h1
      obtain ⟨k1, k2, k3⟩ := zOk_sound (E := E) hc.1
      refine ⟨i, z, hi, hiz, by simpa using k1, ?_, k2, fun o u x hu hx => k3 o u x (by simpa using hu) hx⟩
      have := hc.2
      simp only [size?, hi, Option.map_some, Option.some.injEq] at this
      exact this
    · cases hz
  · cases hz

theorem alloc_sound {t : TypeId} {zs : List AV} {o : Oper} (ho : o.op = .alloc t) (hz : zeroA P t = some zs) (r : Rel B w0 E h w) (key : Nat) (hk : h[key]? = some .dead) (hfree : E.ρ key = none) {O : CallO} {v : AV} {h' : Heap}
    (hex : aop O σ h key (.alloc zs) = some (v, h')) : Out P B w0 E h' key a o w v := by
  simp only [aop, Option.some.injEq, Prod.mk.injEq] at hex
  obtain ⟨rfl, rfl⟩ := hex
  obtain ⟨i, z, hi, hiz, hl, _, hr⟩ := zeroA_sound (E := E) hz
  obtain ⟨E', h1, h2, h3, h4⟩ := enter_cells r hk hfree z.cells t zs hl hr
  exact ⟨_, _, E', .inl (by simp [execOp, ho, Instr.alloc, zeroValue, typeInfo, hi, hiz, newVar, newRow]), h1, h2, h4, .ptr key 0 w.heap.size 0 h3⟩

theorem box_sound {t : TypeId} {x : Operand} {n : Nat} {y : AX} {o : Oper} (ho : o.op = .box t x) (hpos : 0 < n) (hc : cx P t x = some y) (hs : SR E a σ) (r : Rel B w0 E h w) (key : Nat) (hk : h[key]? = some .dead) (hfree : E.ρ key = none) {O : CallO} {v : AV} {h' : Heap}
    (hex : aop O σ h key (.box n y) = some (v, h')) : Out P B w0 E h' key a o w v := by
  have hx := cx_sound hc hs
  simp only [aop] at hex
  split at hex
  · rename_i hlen
    simp only [Option.some.injEq, Prod.mk.injEq] at hex
    obtain ⟨rfl, rfl⟩ := hex
    obtain ⟨kl, kc⟩ := hx.cells (by intro e; rw [e] at hlen; simp at hlen; omega)
    obtain ⟨E', h1, h2, h3, h4⟩ := enter_cells r hk hfree (a.eval x).cells t (y.ev σ).cells kl kc
    exact ⟨_, _, E', .inl (by simp [execOp, ho, Instr.box, newVar, newRow]), h1, h2, h4, .ptr key 0 w.heap.size 0 h3⟩
  · cases hex
end
end Go.Am
