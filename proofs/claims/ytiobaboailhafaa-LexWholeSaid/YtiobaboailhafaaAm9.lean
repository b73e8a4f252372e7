/-
  Makes and appends.
-/
import Derived.Test.YtiobaboailhafaaAm8
import Derived.IntWalk
set_option linter.unusedVariables false
set_option linter.unusedSimpArgs false
namespace Go.Am
open Go Go.RowKit
section
variable {P : Program} {B : Nat} {w0 : World} {E : Env} {h h' : Heap} {a : Act} {w : World} {σ : Slots} {o : Oper} {key : Nat} {O : CallO} {v : AV} {ty : TypeId}

/-- The cells of a fresh row of zeros. -/
def zcells (z : Array Value) (n : Nat) : Array Value := (Array.range n).map (z[· % z.size]!)

theorem zcells_get {z : Array Value} {n k : Nat} (hk : k < n) (hz : 0 < z.size) : (zcells z n)[k]? = z[k % z.size]? := by
  have hlt : k % z.size < z.size := Nat.mod_lt _ hz
  simp [zcells, hk, Array.getElem?_eq_getElem hlt, hlt]

theorem run_mkslice {t e : TypeId} {i : TypeInfo} {z : Value} (hu : P.underlying t = some (.slice e)) (hi : P.info? e = some i) (hz : i.zero = some z) (hpos : 0 < i.size) {n c : Int} (h0 : 0 ≤ n) (h1 : n ≤ c) (h2 : c * i.bytes ≤ 70368744177664) (h3 : c ≤ 70368744177664) :
    (Instr.makeSlice t (.int .i64 n) (.int .i64 c)).run P w = .ok (.slice (some ⟨w.heap.size, 0, none⟩) n.toNat c.toNat) (w.alloc (.cells (zcells z.cells (c.toNat * i.size)) e)) := by
  have hwn : IntKind.i64.wrap n = n := IntWalk.i64_in n (by omega)
  have hwc : IntKind.i64.wrap c = c := IntWalk.i64_in c (by omega)
  have hb : ¬ ((i.bytes : Int) * c > 281474976710656) := by rw [Int.mul_comm]; omega
  have hti : (typeInfo e).run P w = .ok i w := by simp [typeInfo, hi]
  have hsz : (sizeOf e).run P w = .ok i.size w := by simp [sizeOf, typeInfo, hi]
  have hzv : (zeroValue e).run P w = .ok z w := by simp [zeroValue, typeInfo, hi, hz]
  have hc0 : ¬ (c < 0) := by omega
  have hn0 : ¬ (n < 0) := by omega
  have hnc : ¬ (n > c) := by omega
  have hb' : ¬ ((281474976710656 : Int) < (i.bytes : Int) * c) := by omega
  by_cases hz0 : c.toNat * i.size = 0
  · simp [Instr.makeSlice, run_underlying hu, asInt, asIntOf, hti, hwn, hwc, hc0, hn0, hnc, hb', hsz, hz0, newRow, zcells]
    have : Array.range 0 = #[] := by apply Array.ext'; simp
    simp [this]
  · simp [Instr.makeSlice, run_underlying hu, asInt, asIntOf, hti, hwn, hwc, hc0, hn0, hnc, hb', hsz, hz0, hzv, newRow, zcells]

theorem zeroV_sound {t : TypeId} {z : AV} {zs : List AV} (hv : zeroV P t = some z) (hz : zeroA P t = some zs) : z.cells = zs ∧ 0 < zs.length ∨ zs = [] := by
  unfold zeroV at hv
  rw [hz] at hv
  split at hv
  · rename_i x y e1 e2
    injection e2 with e2
    subst e2
    injection hv with hv
    subst hv
    obtain ⟨i, zv, _, _, _, _, hr⟩ := zeroA_sound (E := ⟨fun _ _ => none, fun _ => none⟩) hz
    have h1 := hr.1 y (by simp)
    refine .inl ⟨?_, by simp⟩
    cases y <;> first | rfl | exact absurd h1 (by simp [AV.one])
  · rename_i n as e1 e2
    injection e2 with e2
    subst e2
    split at hv
    · injection hv with hv
      subst hv
      cases zs with
      | nil => exact .inr rfl
      | cons y ys => exact .inl ⟨rfl, by simp⟩
    · cases hv
  · cases hv

theorem zrow {e : TypeId} {i : TypeInfo} {zs : List AV} {z : AV} (hi : P.info? e = some i) (hz : zeroA P e = some zs) (hzl : zs.length = i.size) (hpos : 0 < i.size) (hv : zeroV P e = some z) (n c : Nat) (hn : n ≤ c) :
    ∃ zv, i.zero = some zv ∧ (zcells zv.cells (c * i.size)).size = c * i.size ∧ RowAt E (fun o => (zcells zv.cells (c * i.size))[o]?) i.size (List.replicate n z) ∧ RdCells E (zcells zv.cells (c * i.size)) (List.replicate c zs).flatten := by
  obtain ⟨i', zv, hi', hiz, hl, hsi, hr⟩ := zeroA_sound (E := E) hz
  rw [hi] at hi'
  injection hi' with hi'
  subst hi'
  have hzc : z.cells = zs := by
    rcases zeroV_sound hv hz with h1 | h1
    · exact h1.1
    · subst h1; simp at hzl; omega
  refine ⟨zv, hiz, by simp [zcells], ⟨fun x hx => ?_, fun k x j y hx hy => ?_⟩, ⟨fun y hy => ?_, fun k u y hu hy => ?_⟩⟩
  · rw [List.mem_replicate] at hx
    obtain ⟨_, rfl⟩ := hx
    rw [hzc]
    exact ⟨hzl, hr.1⟩
  · rw [List.getElem?_replicate] at hx
    split at hx
    · rename_i hk
      injection hx with hx
      subst hx
      rw [hzc] at hy
      have hj : j < i.size := by have := (List.getElem?_eq_some_iff.1 hy).1; omega
      have hlt : j < zv.cells.size := by omega
      refine ⟨zv.cells[j], ?_, hr.2 j _ y (Array.getElem?_eq_getElem hlt) hy⟩
      show (zcells _ _)[k * i.size + j]? = _
      rw [zcells_get (idx_lt (by omega) hj) (by omega), hl, hsi]
      have d2 : (k * zs.length + j) % zs.length = j := by
        rw [Nat.mul_comm, Nat.mul_add_mod, Nat.mod_eq_of_lt (by omega)]
      rw [d2]
      exact Array.getElem?_eq_getElem hlt
    · cases hx
  · rw [List.mem_flatten] at hy
    obtain ⟨l, hl', hy⟩ := hy
    rw [List.mem_replicate] at hl'
    obtain ⟨_, rfl⟩ := hl'
    exact hr.1 y hy
  · have hk : k < c * i.size := by
      rcases Nat.lt_or_ge k (c * i.size) with h' | h'
      · exact h'
      · rw [Array.getElem?_eq_none (by simp [zcells]; omega)] at hu; cases hu
    rw [zcells_get hk (by omega), hl] at hu
    have hy' : zs[k % zs.length]? = some y := by
      have : ∀ (m k : Nat), k < m * zs.length → (List.replicate m zs).flatten[k]? = zs[k % zs.length]? := by
        intro m
        induction m with
        | zero => intro k hk; omega
        | succ m ih =>
          intro k hk
          rw [List.replicate_succ, List.flatten_cons, List.getElem?_append]
          split
          · rename_i h'; rw [Nat.mod_eq_of_lt h']
          · rename_i h'
            rw [ih _ (by rw [Nat.add_mul] at hk; omega)]
            congr 1
            have := Nat.sub_add_cancel (Nat.le_of_not_lt h')
            conv => rhs; rw [← this]
            rw [Nat.add_mod_right]
      rw [this c k (by rw [hzl]; exact hk)] at hy
      exact hy
    exact hr.2 _ u y hu hy'

theorem mkslice_sound {t e : TypeId} {l c : Operand} {p q : AX} {i : TypeInfo} {zs : List AV} {z : AV} (ho : o.op = .makeSlice t l c) (hu : P.underlying t = some (.slice e)) (hi : P.info? e = some i) (hz : zeroA P e = some zs) (hzl : zs.length = i.size) (hpos : 0 < i.size) (hzv : zeroV P e = some z)
    (h1 : cx P 0 l = some p) (h2 : cx P 0 c = some q) (hs : SR E a σ) (r : Rel B w0 E h w) (hk : h[key]? = some .dead) (hfree : E.ρ key = none) (hex : aop O σ h key (.mkslice z i.size i.bytes e p q) = some (v, h')) : Out P B w0 E h' key a o w v := by
  have hl := cx_sound h1 hs
  have hc := cx_sound h2 hs
  simp only [aop] at hex
  split at hex
  · rename_i n m e1 e2
    rw [e1] at hl
    rw [e2] at hc
    split at hex
    · rename_i hcond
      obtain ⟨c1, c2, c3, c4⟩ := hcond
      obtain ⟨zv, hiz, g1, g2, _⟩ := zrow (E := E) hi hz hzl hpos hzv n.toNat m.toNat (by omega)
      have hrun := run_mkslice (P := P) (w := w) hu hi hiz hpos c1 c2 c3 c4
      have hex' : (execOp a.eval o).run P w = .ok (.value (.slice (some ⟨w.heap.size, 0, none⟩) n.toNat m.toNat)) (w.alloc (.cells (zcells zv.cells (m.toNat * i.size)) e)) := by
        unfold execOp; rw [ho]; dsimp only; rw [hl.inv_int, hc.inv_int]
        exact run_v hrun
      split at hex
      · rename_i heq
        simp only [Option.some.injEq, Prod.mk.injEq] at hex
        obtain ⟨rfl, rfl⟩ := hex
        subst heq
        obtain ⟨E', k1, k2, k3, k4⟩ := enter_full r ((Below.refl _ _).alloc (Nat.le_refl _) _) (heap_alloc_new w _) g2
        rw [List.length_replicate] at k4
        exact ⟨_, _, E', .inl hex', k1, fun b _ => k2 b, k3, k4⟩
      · simp only [Option.some.injEq, Prod.mk.injEq] at hex
        obtain ⟨rfl, rfl⟩ := hex
        obtain ⟨E', k1, k2, k3, k4⟩ := enter_tok (fr := (0, 0)) r hk hfree ((Below.refl _ _).alloc (Nat.le_refl _) _) (heap_alloc_new w _) (.inl rfl) g1 (by rw [List.length_replicate]; omega) g2 e
        rw [List.length_replicate] at k3 k4
        exact ⟨_, _, E', .inl hex', k1, k2, k3, k4⟩
    · cases hex
  · cases hex

theorem mksliceM_sound {t e : TypeId} {l c : Operand} {p q : AX} {i : TypeInfo} {zs : List AV} {z : AV} (ho : o.op = .makeSlice t l c) (hu : P.underlying t = some (.slice e)) (hi : P.info? e = some i) (hz : zeroA P e = some zs) (hzl : zs.length = i.size) (hpos : 0 < i.size) (hzv : zeroV P e = some z)
    (h1 : cx P 0 l = some p) (h2 : cx P 0 c = some q) (hs : SR E a σ) (r : Rel B w0 E h w) (hk : h[key]? = some .dead) (hfree : E.ρ key = none) (hex : aop O σ h key (.mksliceM zs i.size i.bytes p q) = some (v, h')) : Out P B w0 E h' key a o w v := by
  have hl := cx_sound h1 hs
  have hc := cx_sound h2 hs
  simp only [aop] at hex
  split at hex
  · rename_i n m e1 e2
    rw [e1] at hl
    rw [e2] at hc
    split at hex
    · rename_i hcond
      obtain ⟨c1, c2, c3, c4⟩ := hcond
      obtain ⟨zv, hiz, g1, _, g3⟩ := zrow (E := E) hi hz hzl hpos hzv n.toNat m.toNat (by omega)
      have hrun := run_mkslice (P := P) (w := w) hu hi hiz hpos c1 c2 c3 c4
      simp only [Option.some.injEq, Prod.mk.injEq] at hex
      obtain ⟨rfl, rfl⟩ := hex
      have hlen : ∀ k, ((List.replicate k zs).flatten).length = k * zs.length := by
        intro k
        induction k with
        | zero => simp
        | succ k ih => rw [List.replicate_succ, List.flatten_cons, List.length_append, ih, Nat.add_mul]; omega
      obtain ⟨E', k1, k2, k3, k4⟩ := enter_cells r hk hfree _ e _ (by rw [g1, hlen, hzl]) g3
      refine ⟨_, _, E', .inl ?_, k1, k2, k4, .sl _ _ _ _ _ w.heap.size 0 k3 (by omega)⟩
      unfold execOp; rw [ho]; dsimp only; rw [hl.inv_int, hc.inv_int]
      exact run_v hrun
    · cases hex
  · cases hex

/-! ### append -/
theorem wrap_low {n : Nat} (h : n ≤ 9223372036854775807) : ((n : Int) > IntKind.i64.max) = False := by
  have : IntKind.i64.max = 9223372036854775807 := rfl
  rw [this]
  simp
  omega

/-- What an append's second argument is, in the model: how many elements, and their cells. -/
structure Src (P : Program) (w : World) (size : Nat) (u : TypeId) (x : Value) (m : Nat) (news : Array Value) : Prop where
  ty : (∃ e, P.underlying u = some (.slice e)) ∨ P.underlying u = some .string
  len : ∀ w', (Builtin.lenOf x).run P w' = .ok m w'
  cells : (Builtin.firstCells size m x).run P w = .ok news w
  size : news.size = m * size

theorem run_append_realloc {t u e : TypeId} {i : TypeInfo} {z : Value} (ht : P.underlying t = some (.slice e)) (hi : P.info? e = some i) (hz : i.zero = some z) {A : Option Addr} {n c m : Nat} {x : Value} {olds news : Array Value}
    (ho : (Builtin.firstCells i.size n (.slice A n c)).run P w.drew = .ok olds w.drew) (hx : Src P w.drew i.size u x m news) (hgrow : c < n + m) (hb : (n + m) * i.bytes ≤ 70368744177664) (hb2 : n + m ≤ 70368744177664) (hpos : 0 < i.bytes) :
    (Builtin.append_ #[t, u] ty #[.slice A n c, x]).run P w = .ok (.slice (some ⟨w.heap.size, 0, none⟩) (n + m) (grownCap w (n + m) c e)) (w.drew.alloc (.cells (olds ++ news ++ Builtin.zeroCells z.cells (grownCap w (n + m) c e - (n + m))) e)) := by
  have hn : ¬ (n + m ≤ c) := by omega
  have h63 : ¬ (9223372036854775807 < ((n : Int) + (m : Int))) := by omega
  have hcap : Builtin.nextslicecap (n + m) c * i.bytes ≤ 281474976710656 := growslice_fits hgrow (by omega)
  have hcap' : ¬ (281474976710656 < Builtin.nextslicecap (n + m) c * i.bytes) := by omega
  have hbz : i.bytes ≠ 0 := by omega
  obtain ⟨e', hu⟩ | hu := hx.ty
  · simp [Builtin.append_, run_underlying ht, run_underlying hu, sizeOf, typeInfo, zeroValue, hi, hz, hx.len, hn, h63, hcap', hbz, Question.forced, ho, hx.cells, newRow, grownCap]
  · simp [Builtin.append_, run_underlying ht, run_underlying hu, sizeOf, typeInfo, zeroValue, hi, hz, hx.len, hn, h63, hcap', hbz, Question.forced, ho, hx.cells, newRow, grownCap]

theorem run_append_fits {t u e : TypeId} {i : TypeInfo} {z : Value} (ht : P.underlying t = some (.slice e)) (hi : P.info? e = some i) (hz : i.zero = some z) {g n c m : Nat} {x : Value} {news : Array Value}
    (hx : Src P w i.size u x m news) (hfit : n + m ≤ c) {w' : World} (hst : (storeCells ⟨g, n * i.size, none⟩ news.toList).run P w = .ok () w') :
    (Builtin.append_ #[t, u] ty #[.slice (some ⟨g, 0, none⟩) n c, x]).run P w = .ok (.slice (some ⟨g, 0, none⟩) (n + m) c) w' := by
  have ha : (⟨g, 0, none⟩ : Addr).add (n * i.size) = ⟨g, n * i.size, none⟩ := by rw [add_plain, Nat.zero_add]
  obtain ⟨e', hu⟩ | hu := hx.ty
  · simp [Builtin.append_, run_underlying ht, run_underlying hu, sizeOf, typeInfo, hi, hx.len, hfit, hx.cells, ha, hst]
  · simp [Builtin.append_, run_underlying ht, run_underlying hu, sizeOf, typeInfo, hi, hx.len, hfit, hx.cells, ha, hst]

theorem run_append_none {t u e : TypeId} {i : TypeInfo} (ht : P.underlying t = some (.slice e)) (hi : P.info? e = some i) {A : Option Addr} {n c : Nat} {x : Value} {news : Array Value} (hnc : n ≤ c)
    (hx : Src P w i.size u x 0 news) : (Builtin.append_ #[t, u] ty #[.slice A n c, x]).run P w = .ok (.slice A n c) w := by
  have hne : news = #[] := by
    have := hx.size
    simp at this
    exact this
  subst hne
  obtain ⟨e', hu⟩ | hu := hx.ty
  · cases A <;> simp [Builtin.append_, run_underlying ht, run_underlying hu, sizeOf, typeInfo, hi, hx.len, hnc, hx.cells, storeCells]
  · cases A <;> simp [Builtin.append_, run_underlying ht, run_underlying hu, sizeOf, typeInfo, hi, hx.len, hnc, hx.cells, storeCells]
end
end Go.Am
