/-
  Makes and appends.
-/
import Derived.Test.YtcflbdikkcpiaaaGreatDoorXA
import Derived.IntWalk
import Derived.Orders
set_option linter.unusedVariables false
set_option linter.unusedSimpArgs false
namespace Go.Am
open Go Go.RowKit
section
variable {P : Program} {B : Nat} {w0 : World} {E : Env} {h h' : Heap} {a : Act} {w : World} {σ : Slots} {o : Oper} {key : Nat} {O : CallO} {v : AV} {ty : TypeId}
def zcells (z : Array Value) (n : Nat) : Array Value := (Array.range n).map (z[· % z.size]!)
theorem zcells_get {z : Array Value} {n k : Nat} (hk : k < n) (hz : 0 < z.size) : (zcells z n)[k]? = z[k % z.size]? := by
 have hlt : k % z.size < z.size := Nat.mod_lt _ hz
 simp [zcells, hk, Array.getElem?_eq_getElem hlt, hlt]
theorem run_mkslice {t e : TypeId} {i : TypeInfo} {z : Value} (hu : P.underlying t = some (.slice e)) (hi : P.info? e = some i) (hz : i.zero = some z) (hpos : 0 < i.size) {n c : Int} (h0 : 0 ≤ n) (h1 : n ≤ c) (h2 : c * i.bytes ≤ 70368744177664) (h3 : c ≤ 70368744177664) :
  (Instr.makeSlice t (.int .i64 n) (.int .i64 c)).run P w = .ok (.slice (some ⟨w.heap.size, 0, none⟩) n.toNat c.toNat) (w.alloc (.cells (zcells z.cells (c.toNat * i.size)) e)) := by
 have hwn : IntKind.i64.wrap n = n := IntWalk.i64_in n (by omega)
 have hwc : IntKind.i64.wrap c = c := IntWalk.i64_in c (by omega)
 have hb : ¬ ((i.bytes : Int) * c > 281474976710656) := by rw [Int.mul_comm]; omega
 have hti : (typeInfo e).run P w = .ok i w := by simp [typeInfo, hi]
 have hsz : (sizeOf e).run P w = .ok i.size w := by simp [sizeOf, typeInfo, hi]
 have hzv : (zeroValue e).run P w = .ok z w := by simp [zeroValue, typeInfo, hi, hz]
 have hc0 : ¬ (c < 0) := by omega
 have hn0 : ¬ (n < 0) := by omega
 have hnc : ¬ (n > c) := by omega
 have hb' : ¬ ((281474976710656 : Int) < (i.bytes : Int) * c) := by omega
 by_cases hz0 : c.toNat * i.size = 0
 ·simp [Instr.makeSlice, run_underlying hu, asInt, asIntOf, hti, hwn, hwc, hc0, hn0, hnc, hb', hsz, hz0, newRow, zcells]
  have : Array.range 0 = #[] := by apply Array.ext'; simp
  simp [this]
 ·simp [Instr.makeSlice, run_underlying hu, asInt, asIntOf, hti, hwn, hwc, hc0, hn0, hnc, hb', hsz, hz0, hzv, newRow, zcells]
theorem zeroV_sound {t : TypeId} {z : AV} {zs : List AV} (hv : zeroV P t = some z) (hz : zeroA P t = some zs) : z.cells = zs ∧ 0 < zs.length ∨ zs = [] := by
 unfold zeroV at hv
 rw [hz] at hv
 split at hv
 ·rename_i x y e1 e2
  injection e2 with e2
  subst e2
  injection hv with hv
  subst hv
  obtain ⟨i, zv, _, _, _, _, hr⟩ := zeroA_sound (E := ⟨fun _ _ => none, fun _ => none⟩) hz
  have h1 := hr.1 y (by simp)
  refine .inl ⟨?_, by simp⟩
  cases y <;> first | rfl | exact absurd h1 (by simp [AV.one])
 ·rename_i n as e1 e2
  injection e2 with e2
  subst e2
  split at hv
  ·injection hv with hv
   subst hv
   cases zs with
   | nil => exact .inr rfl
   | cons y ys => exact .inl ⟨rfl, by simp⟩
  ·cases hv
 ·cases hv
theorem zrow {e : TypeId} {i : TypeInfo} {zs : List AV} {z : AV} (hi : P.info? e = some i) (hz : zeroA P e = some zs) (hzl : zs.length = i.size) (hpos : 0 < i.size) (hv : zeroV P e = some z) (n c : Nat) (hn : n ≤ c) :
  ∃ zv, i.zero = some zv ∧ (zcells zv.cells (c * i.size)).size = c * i.size ∧ RowAt E (fun o => (zcells zv.cells (c * i.size))[o]?) i.size (List.replicate n z) ∧ RdCells E (zcells zv.cells (c * i.size)) (List.replicate c zs).flatten := by
 obtain ⟨i', zv, hi', hiz, hl, hsi, hr⟩ := zeroA_sound (E := E) hz
 rw [hi] at hi'
 injection hi' with hi'
 subst hi'
 have hzc : z.cells = zs := by
  rcases zeroV_sound hv hz with h1 | h1
  ·exact h1.1
  ·subst h1; simp at hzl; omega
 refine ⟨zv, hiz, by simp [zcells], ⟨fun x hx => ?_, fun k x j y hx hy => ?_⟩, ⟨fun y hy => ?_, fun k u y hu hy => ?_⟩⟩
 ·rw [List.mem_replicate] at hx
  obtain ⟨_, rfl⟩ := hx
  rw [hzc]
  exact ⟨hzl, hr.1⟩
 ·rw [List.getElem?_replicate] at hx
  split at hx
  ·rename_i hk
   injection hx with hx
   subst hx
   rw [hzc] at hy
   have hj : j < i.size := by have := (List.getElem?_eq_some_iff.1 hy).1; omega
   have hlt : j < zv.cells.size := by omega
   refine ⟨zv.cells[j], ?_, hr.2 j _ y (Array.getElem?_eq_getElem hlt) hy⟩
   show (zcells _ _)[k * i.size + j]? = _
   rw [zcells_get (idx_lt (by omega) hj) (by omega), hl, hsi]
   have d2 : (k * zs.length + j) % zs.length = j := by
    rw [Nat.mul_comm, Nat.mul_add_mod, Nat.mod_eq_of_lt (by omega)]
   rw [d2]
   exact Array.getElem?_eq_getElem hlt
  ·cases hx
 ·rw [List.mem_flatten] at hy
  obtain ⟨l, hl', hy⟩ := hy
  rw [List.mem_replicate] at hl'
  obtain ⟨_, rfl⟩ := hl'
  exact hr.1 y hy
 ·have hk : k < c * i.size := by
   rcases Nat.lt_or_ge k (c * i.size) with h' | h'
   ·exact h'
   ·rw [Array.getElem?_eq_none (by simp [zcells]; omega)] at hu; cases hu
  rw [zcells_get hk (by omega), hl] at hu
  have hy' : zs[k % zs.length]? = some y := by
   have : ∀ (m k : Nat), k < m * zs.length → (List.replicate m zs).flatten[k]? = zs[k % zs.length]? := by
    intro m
    induction m with
    | zero => intro k hk; omega
    | succ m ih =>
     intro k hk
     rw [List.replicate_succ, List.flatten_cons, List.getElem?_append]
     split
     ·rename_i h'; rw [Nat.mod_eq_of_lt h']
     ·rename_i h'
      rw [ih _ (by rw [Nat.add_mul] at hk; omega)]
      congr 1
      have := Nat.sub_add_cancel (Nat.le_of_not_lt h')
      conv => rhs; rw [← this]
      rw [Nat.add_mod_right]
   rw [this c k (by rw [hzl]; exact hk)] at hy
   exact hy
  exact hr.2 _ u y hu hy'
theorem mkslice_sound {t e : TypeId} {l c : Operand} {p q : AX} {i : TypeInfo} {zs : List AV} {z : AV} (ho : o.op = .makeSlice t l c) (hu : P.underlying t = some (.slice e)) (hi : P.info? e = some i) (hz : zeroA P e = some zs) (hzl : zs.length = i.size) (hpos : 0 < i.size) (hzv : zeroV P e = some z)
  (h1 : cx P 0 l = some p) (h2 : cx P 0 c = some q) (hs : SR E a σ) (r : Rel B w0 E h w) (hk : h[key]? = some .dead) (hfree : E.ρ key = none) (hex : aop O σ h key (.mkslice z i.size i.bytes e p q) = some (v, h')) : Out P B w0 E h' key a o w v := by
 have hl := cx_sound h1 hs
 have hc := cx_sound h2 hs
 simp only [aop] at hex
 split at hex
 ·rename_i n m e1 e2
  rw [e1] at hl
  rw [e2] at hc
  split at hex
  ·rename_i hcond
   obtain ⟨c1, c2, c3, c4⟩ := hcond
   obtain ⟨zv, hiz, g1, g2, _⟩ := zrow (E := E) hi hz hzl hpos hzv n.toNat m.toNat (by omega)
   have hrun := run_mkslice (P := P) (w := w) hu hi hiz hpos c1 c2 c3 c4
   have hex' : (execOp a.eval o).run P w = .ok (.value (.slice (some ⟨w.heap.size, 0, none⟩) n.toNat m.toNat)) (w.alloc (.cells (zcells zv.cells (m.toNat * i.size)) e)) := by
    unfold execOp; rw [ho]; dsimp only; rw [hl.inv_int, hc.inv_int]
    exact run_v hrun
   split at hex
   ·rename_i heq
    simp only [Option.some.injEq, Prod.mk.injEq] at hex
    obtain ⟨rfl, rfl⟩ := hex
    subst heq
    obtain ⟨E', k1, k2, k3, k4⟩ := enter_full r ((Below.refl _ _).alloc (Nat.le_refl _) _) (heap_alloc_new w _) g2
    rw [List.length_replicate] at k4
    exact ⟨_, _, E', .inl hex', k1, fun b _ => k2 b, k3, k4⟩
   ·simp only [Option.some.injEq, Prod.mk.injEq] at hex
    obtain ⟨rfl, rfl⟩ := hex
    obtain ⟨E', k1, k2, k3, k4⟩ := enter_tok (fr := (0, 0)) r hk hfree ((Below.refl _ _).alloc (Nat.le_refl _) _) (heap_alloc_new w _) (.inl rfl) g1 (by rw [List.length_replicate]; omega) g2 e
    rw [List.length_replicate] at k3 k4
    exact ⟨_, _, E', .inl hex', k1, k2, k3, k4⟩
  ·cases hex
 ·cases hex
theorem mksliceM_sound {t e : TypeId} {l c : Operand} {p q : AX} {i : TypeInfo} {zs : List AV} {z : AV} (ho : o.op = .makeSlice t l c) (hu : P.underlying t = some (.slice e)) (hi : P.info? e = some i) (hz : zeroA P e = some zs) (hzl : zs.length = i.size) (hpos : 0 < i.size) (hzv : zeroV P e = some z)
  (h1 : cx P 0 l = some p) (h2 : cx P 0 c = some q) (hs : SR E a σ) (r : Rel B w0 E h w) (hk : h[key]? = some .dead) (hfree : E.ρ key = none) (hex : aop O σ h key (.mksliceM zs i.size i.bytes p q) = some (v, h')) : Out P B w0 E h' key a o w v := by
 have hl := cx_sound h1 hs
 have hc := cx_sound h2 hs
 simp only [aop] at hex
 split at hex
 ·rename_i n m e1 e2
  rw [e1] at hl
  rw [e2] at hc
  split at hex
  ·rename_i hcond
   obtain ⟨c1, c2, c3, c4⟩ := hcond
   obtain ⟨zv, hiz, g1, _, g3⟩ := zrow (E := E) hi hz hzl hpos hzv n.toNat m.toNat (by omega)
   have hrun := run_mkslice (P := P) (w := w) hu hi hiz hpos c1 c2 c3 c4
   simp only [Option.some.injEq, Prod.mk.injEq] at hex
   obtain ⟨rfl, rfl⟩ := hex
   have hlen : ∀ k, ((List.replicate k zs).flatten).length = k * zs.length := by
    intro k
    induction k with
    | zero => simp
    | succ k ih => rw [List.replicate_succ, List.flatten_cons, List.length_append, ih, Nat.add_mul]; omega
   obtain ⟨E', k1, k2, k3, k4⟩ := enter_cells r hk hfree _ e _ (by rw [g1, hlen, hzl]) g3
   refine ⟨_, _, E', .inl ?_, k1, k2, k4, .sl _ _ _ _ _ w.heap.size 0 k3 (by omega)⟩
   unfold execOp; rw [ho]; dsimp only; rw [hl.inv_int, hc.inv_int]
   exact run_v hrun
  ·cases hex
 ·cases hex
/-! ### append -/
structure Src (P : Program) (w : World) (size : Nat) (u : TypeId) (x : Value) (m : Nat) (news : Array Value) : Prop where
 ty : (∃ e, P.underlying u = some (.slice e)) ∨ P.underlying u = some .string
 len : ∀ w', (Builtin.lenOf x).run P w' = .ok m w'
 cells : (Builtin.firstCells size m x).run P w = .ok news w
 size : news.size = m * size
theorem run_append_realloc {t u e : TypeId} {i : TypeInfo} {z : Value} (ht : P.underlying t = some (.slice e)) (hi : P.info? e = some i) (hz : i.zero = some z) {A : Option Addr} {n c m : Nat} {x : Value} {olds news : Array Value}
  (ho : (Builtin.firstCells i.size n (.slice A n c)).run P w.drew = .ok olds w.drew) (hx : Src P w.drew i.size u x m news) (hgrow : c < n + m) (hb : (n + m) * i.bytes ≤ 70368744177664) (hb2 : n + m ≤ 70368744177664) (hpos : 0 < i.bytes) :
  (Builtin.append_ #[t, u] ty #[.slice A n c, x]).run P w = .ok (.slice (some ⟨w.heap.size, 0, none⟩) (n + m) (grownCap w (n + m) c e)) (w.drew.alloc (.cells (olds ++ news ++ Builtin.zeroCells z.cells (grownCap w (n + m) c e - (n + m))) e)) := by
 have hn : ¬ (n + m ≤ c) := by omega
 have h63 : ¬ (9223372036854775807 < ((n : Int) + (m : Int))) := by omega
 have hcap : Builtin.nextslicecap (n + m) c * i.bytes ≤ 281474976710656 := growslice_fits hgrow (by omega)
 have hcap' : ¬ (281474976710656 < Builtin.nextslicecap (n + m) c * i.bytes) := by omega
 have hbz : i.bytes ≠ 0 := by omega
 obtain ⟨e', hu⟩ | hu := hx.ty
 ·simp [Builtin.append_, run_underlying ht, run_underlying hu, sizeOf, typeInfo, zeroValue, hi, hz, hx.len, hn, h63, hcap', hbz, Question.forced, ho, hx.cells, newRow, grownCap]
 ·simp [Builtin.append_, run_underlying ht, run_underlying hu, sizeOf, typeInfo, zeroValue, hi, hz, hx.len, hn, h63, hcap', hbz, Question.forced, ho, hx.cells, newRow, grownCap]
theorem run_append_fits {t u e : TypeId} {i : TypeInfo} {z : Value} (ht : P.underlying t = some (.slice e)) (hi : P.info? e = some i) (hz : i.zero = some z) {g n c m : Nat} {x : Value} {news : Array Value}
  (hx : Src P w i.size u x m news) (hfit : n + m ≤ c) {w' : World} (hst : (storeCells ⟨g, n * i.size, none⟩ news.toList).run P w = .ok () w') :
  (Builtin.append_ #[t, u] ty #[.slice (some ⟨g, 0, none⟩) n c, x]).run P w = .ok (.slice (some ⟨g, 0, none⟩) (n + m) c) w' := by
 have ha : (⟨g, 0, none⟩ : Addr).add (n * i.size) = ⟨g, n * i.size, none⟩ := by rw [add_plain, Nat.zero_add]
 obtain ⟨e', hu⟩ | hu := hx.ty
 ·simp [Builtin.append_, run_underlying ht, run_underlying hu, sizeOf, typeInfo, hi, hx.len, hfit, hx.cells, ha, hst]
 ·simp [Builtin.append_, run_underlying ht, run_underlying hu, sizeOf, typeInfo, hi, hx.len, hfit, hx.cells, ha, hst]
theorem run_append_fitsB {t u e : TypeId} {i : TypeInfo} {z : Value} (ht : P.underlying t = some (.slice e)) (hi : P.info? e = some i) (hz : i.zero = some z) {g b n c m : Nat} {x : Value} {news : Array Value}
  (hx : Src P w i.size u x m news) (hfit : n + m ≤ c) {w' : World} (hst : (storeCells ⟨g, b + n * i.size, none⟩ news.toList).run P w = .ok () w') :
  (Builtin.append_ #[t, u] ty #[.slice (some ⟨g, b, none⟩) n c, x]).run P w = .ok (.slice (some ⟨g, b, none⟩) (n + m) c) w' := by
 have ha : (⟨g, b, none⟩ : Addr).add (n * i.size) = ⟨g, b + n * i.size, none⟩ := by rw [add_plain]
 obtain ⟨e', hu⟩ | hu := hx.ty
 ·simp [Builtin.append_, run_underlying ht, run_underlying hu, sizeOf, typeInfo, hi, hx.len, hfit, hx.cells, ha, hst]
 ·simp [Builtin.append_, run_underlying ht, run_underlying hu, sizeOf, typeInfo, hi, hx.len, hfit, hx.cells, ha, hst]
theorem run_append_none {t u e : TypeId} {i : TypeInfo} (ht : P.underlying t = some (.slice e)) (hi : P.info? e = some i) {A : Option Addr} {n c : Nat} {x : Value} {news : Array Value} (hnc : n ≤ c)
  (hx : Src P w i.size u x 0 news) : (Builtin.append_ #[t, u] ty #[.slice A n c, x]).run P w = .ok (.slice A n c) w := by
 have hne : news = #[] := by
  have := hx.size
  simp at this
  exact this
 subst hne
 obtain ⟨e', hu⟩ | hu := hx.ty
 ·cases A <;> simp [Builtin.append_, run_underlying ht, run_underlying hu, sizeOf, typeInfo, hi, hx.len, hnc, hx.cells, storeCells]
 ·cases A <;> simp [Builtin.append_, run_underlying ht, run_underlying hu, sizeOf, typeInfo, hi, hx.len, hnc, hx.cells, storeCells]
end
end Go.Am
/-
 Appends, copies: soundness.
-/
namespace Go.Am
open Go Go.RowKit
section
variable {P : Program} {B : Nat} {w0 : World} {E : Env} {h h' : Heap} {a : Act} {w : World} {σ : Slots} {o : Oper} {key : Nat} {O : CallO} {v : AV} {ty : TypeId}
theorem flat_getA {s : Nat} (hs : 0 < s) : ∀ (vs : List AV), (∀ v ∈ vs, v.cells.length = s) → ∀ k, (vs.flatMap AV.cells)[k]? = (vs[k / s]?).bind (fun v => v.cells[k % s]?)
 | [], _, k => by simp
 | v :: vs, hv, k => by
  have hvs : v.cells.length = s := hv v List.mem_cons_self
  rw [List.flatMap_cons]
  by_cases hk : k < s
  ·rw [List.getElem?_append_left (by omega), Nat.div_eq_of_lt hk, Nat.mod_eq_of_lt hk]
   simp
  ·have h1 : k / s = (k - s) / s + 1 := by
    have := Nat.sub_add_cancel (Nat.le_of_not_lt hk)
    conv => lhs; rw [← this]
    rw [Nat.add_div_right _ hs]
   have h2 : k % s = (k - s) % s := by
    have := Nat.sub_add_cancel (Nat.le_of_not_lt hk)
    conv => lhs; rw [← this]
    rw [Nat.add_mod_right]
   rw [List.getElem?_append_right (by omega), hvs, flat_getA hs vs (fun u hu => hv u (List.mem_cons_of_mem _ hu)) (k - s), h1, h2, List.getElem?_cons_succ]
theorem flat_lenA {s : Nat} : ∀ (vs : List AV), (∀ v ∈ vs, v.cells.length = s) → (vs.flatMap AV.cells).length = vs.length * s
 | [], _ => by simp
 | v :: vs, hv => by
  rw [List.flatMap_cons, List.length_append, hv v List.mem_cons_self, flat_lenA vs (fun u hu => hv u (List.mem_cons_of_mem _ hu)), List.length_cons, Nat.add_mul]
  omega
theorem RowAt.flat {cur : Array Value} {sz : Nat} (hpos : 0 < sz) {ys : List AV} (k : RowAt E (fun o => cur[o]?) sz ys) : RdCells E cur (ys.flatMap AV.cells) := by
 refine ⟨fun y hy => ?_, fun o u y hu hy => ?_⟩
 ·rw [List.mem_flatMap] at hy
  obtain ⟨x, hx, hy⟩ := hy
  exact (k.1 x hx).2 y hy
 ·rw [flat_getA hpos ys (fun v hv => (k.1 v hv).1), Option.bind_eq_some_iff] at hy
  obtain ⟨x, hx, hy⟩ := hy
  obtain ⟨u', h1, h2⟩ := k.2 _ x _ y hx hy
  have e : o / sz * sz + o % sz = o := by rw [Nat.mul_comm]; exact Nat.div_add_mod o sz
  simp only [e] at h1
  rw [hu] at h1
  injection h1 with h1
  subst h1
  exact h2
theorem RowAt.append {c1 c2 : Nat → Option Value} {sz : Nat} {xs ys : List AV} (k1 : RowAt E c1 sz xs) (k2 : RowAt E c2 sz ys) {cur : Nat → Option Value} (e1 : ∀ o, o < xs.length * sz → cur o = c1 o) (e2 : ∀ o, o < ys.length * sz → cur (xs.length * sz + o) = c2 o) : RowAt E cur sz (xs ++ ys) := by
 refine ⟨fun x hx => ?_, fun i x j y hx hy => ?_⟩
 ·rcases List.mem_append.1 hx with hx | hx
  ·exact k1.1 x hx
  ·exact k2.1 x hx
 ·rw [List.getElem?_append] at hx
  split at hx
  ·rename_i hi
   have hj : j < sz := by rw [← (k1.1 x (List.mem_of_getElem? hx)).1]; exact (List.getElem?_eq_some_iff.1 hy).1
   obtain ⟨u, h1, h2⟩ := k1.2 i x j y hx hy
   exact ⟨u, by rw [e1 _ (idx_lt hi hj)]; exact h1, h2⟩
  ·rename_i hi
   have hj : j < sz := by rw [← (k2.1 x (List.mem_of_getElem? hx)).1]; exact (List.getElem?_eq_some_iff.1 hy).1
   have hi2 : i - xs.length < ys.length := (List.getElem?_eq_some_iff.1 hx).1
   obtain ⟨u, h1, h2⟩ := k2.2 _ x j y hx hy
   refine ⟨u, ?_, h2⟩
   have : i * sz + j = xs.length * sz + ((i - xs.length) * sz + j) := by
    have : i = xs.length + (i - xs.length) := by omega
    conv => lhs; rw [this]
    rw [Nat.add_mul]; omega
   rw [this, e2 _ (idx_lt hi2 hj)]
   exact h1
theorem list_cells {A : Option Addr} {n c sz : Nat} {xs : List AV} {rt : Rt} (hx : Rd E (.slice A n c) (.list sz xs rt)) (r : Rel B w0 E h w) {size : Nat} (hs : sz = size ∨ xs = []) :
  ∃ olds : Array Value, (Builtin.firstCells size n (.slice A n c)).run P w = .ok olds w ∧ (Builtin.firstCells size n (.slice A n c)).run P w.drew = .ok olds w.drew ∧ olds.size = n * size ∧ RowAt E (fun o => olds[o]?) size xs ∧ n = xs.length ∧ n ≤ c := by
 cases hx with
 | list _ _ _ _ _ _ g b vs k1 k2 k3 k4 k5 k6 k7 =>
  rcases Nat.eq_zero_or_pos n with hn | hn
  ·subst hn
   have hxs : xs = [] := List.eq_nil_of_length_eq_zero k1
   subst hxs
   refine ⟨#[], ?_, ?_, by simp, ⟨by simp, by simp⟩, rfl, k2⟩
   ·cases A <;> simp [Builtin.firstCells, loadCells, loadCellsFrom]
   ·cases A <;> simp [Builtin.firstCells, loadCells, loadCellsFrom]
  ·have hs' : sz = size := by
    rcases hs with hs | hs
    ·exact hs
    ·rw [hs] at k1; simp at k1; omega
   subst hs'
   have hA := k3 hn
   subst hA
   have hcell : ∀ o, o < n * sz → w.cell? ⟨g, b + o, none⟩ = some (vs (o / sz) (o % sz)) := by
    intro o ho
    have hpos : 0 < sz := by
     rcases Nat.eq_zero_or_pos sz with h0 | h0
     ·subst h0; omega
     ·exact h0
    have h1 : o / sz < n := (Nat.div_lt_iff_lt_mul hpos).2 ho
    have h2 : o % sz < sz := Nat.mod_lt _ hpos
    have := r.prot _ _ _ (k5 _ _ h1 h2)
    rw [show o / sz * sz + o % sz = o from by rw [Nat.mul_comm]; exact Nat.div_add_mod o sz] at this
    exact this
   have hrun : ∀ w' : World, (∀ o, o < n * sz → w'.cell? ⟨g, b + o, none⟩ = some (vs (o / sz) (o % sz))) → (Builtin.firstCells sz n (.slice (some ⟨g, b, none⟩) n c)).run P w' = .ok ((List.range (n * sz)).map fun o => vs (o / sz) (o % sz)).toArray w' := by
    intro w' hw'
    simp only [Builtin.firstCells]
    exact run_loadCells (P := P) w' ⟨g, b, none⟩ (n * sz) (fun o => vs (o / sz) (o % sz)) (fun j hj => by rw [add_plain]; exact hw' j hj)
   refine ⟨_, hrun w hcell, hrun w.drew (fun o ho => hcell o ho), by simp, ⟨k4, fun i x j y hx hy => ?_⟩, k1.symm, k2⟩
   have hi : i < n := by have := (List.getElem?_eq_some_iff.1 hx).1; omega
   have hj : j < sz := by rw [← (k4 x (List.mem_of_getElem? hx)).1]; exact (List.getElem?_eq_some_iff.1 hy).1
   refine ⟨vs i j, ?_, k6 i x j y hx hy⟩
   have hlt := idx_lt hi hj
   have d1 : (i * sz + j) / sz = i := by
    rw [Nat.mul_comm, Nat.mul_add_div (by omega), Nat.div_eq_of_lt hj, Nat.add_zero]
   have d2 : (i * sz + j) % sz = j := by
    rw [Nat.mul_comm, Nat.mul_add_mod, Nat.mod_eq_of_lt hj]
   simp [hlt, d1, d2]
theorem src_sound {x : AV} {u : Value} {ut : TypeId} {size : Nat} {ys : List AV} (hu : (∃ e, P.underlying ut = some (.slice e)) ∨ P.underlying ut = some .string) (hr : Rd E u x) (hs : srcOf size x = some ys) (r : Rel B w0 E h w) :
  ∃ news, Src P w size ut u ys.length news ∧ Src P w.drew size ut u ys.length news ∧ RowAt E (fun o => news[o]?) size ys := by
 unfold srcOf at hs
 split at hs
 ·rename_i s xs rt
  split at hs
  ·rename_i hsz
   injection hs with hs
   subst hs
   cases u <;> try (cases hr; done)
   rename_i A n c
   obtain ⟨olds, h1, h2, h3, h4, h5, h6⟩ := list_cells (P := P) hr r hsz
   subst h5
   exact ⟨olds, ⟨hu, fun w' => rfl, h1, h3⟩, ⟨hu, fun w' => rfl, h2, h3⟩, h4⟩
  ·cases hs
 ·rename_i l
  split at hs
  ·rename_i h1
   subst h1
   injection hs with hs
   subst hs
   rw [hr.inv_str]
   have hlen : (ofBytes l).length = l.length := by simp [ofBytes]
   have hx : (((⟨⟨l⟩⟩ : ByteArray).extract 0 l.length).data.map fun b => Value.int .u8 b.toNat).size = l.length := by
    have := Lib.extract_data ⟨⟨l⟩⟩ 0 l.length
    have := congrArg List.length this
    simp at this
    simp [this]
   refine ⟨((⟨⟨l⟩⟩ : ByteArray).extract 0 l.length).data.map fun b => .int .u8 b.toNat, ⟨hu, fun w' => by rw [hlen]; rfl, by rw [hlen]; rfl, by rw [hlen, hx]; omega⟩, ⟨hu, fun w' => by rw [hlen]; rfl, by rw [hlen]; rfl, by rw [hlen, hx]; omega⟩, ⟨fun x hx => ?_, fun i x j y hx hy => ?_⟩⟩
   ·simp only [ofBytes, List.mem_map] at hx
    obtain ⟨b, _, rfl⟩ := hx
    simp [AV.cells, AV.one]
   ·simp only [ofBytes, List.getElem?_map, Option.map_eq_some_iff] at hx
    obtain ⟨b, hb, rfl⟩ := hx
    match j with
    | 0 =>
     simp [AV.cells] at hy
     subst hy
     refine ⟨.int .u8 b.toNat, ?_, .int _ _⟩
     have e := Lib.extract_data ⟨⟨l⟩⟩ 0 l.length
     have e2 : ((⟨⟨l⟩⟩ : ByteArray).extract 0 l.length).data.toList[i]? = some b := by rw [e]; simpa using hb
     have e3 : ((⟨⟨l⟩⟩ : ByteArray).extract 0 l.length).data[i]? = some b := by simpa using e2
     simp only [Nat.mul_one, Nat.add_zero, Array.getElem?_map, e3, Option.map_some]
    | j + 1 => simp [AV.cells] at hy
  ·cases hs
 ·cases hs
theorem kill_dead (hk : h[key]? = some .dead) (rt : Rt) : (kill h rt)[key]? = some .dead := by
 cases rt with
 | no => exact hk
 | full => exact hk
 | tok t =>
  simp only [kill, List.getElem?_set]
  split
  ·rename_i e
   subst e
   have := (List.getElem?_eq_some_iff.1 hk).1
   simp [this]
  ·exact hk
theorem rel_kills (r : Rel B w0 E h w) (rt : Rt) : Rel B w0 E (kill h rt) w := by
 cases rt with
 | no => exact r
 | full => exact r
 | tok t => exact r.kill t
theorem app_realloc {sz : Nat} {xs ys : List AV} {e : TypeId} {i : TypeInfo} {z : Value} {A : Option Addr} {c : Nat} {olds news : Array Value} (r : Rel B w0 E h w) (hk : h[key]? = some .dead) (hfree : E.ρ key = none) (hsize : i.size = sz) (hz : z.cells.size = i.size)
  (ho : RowAt E (fun o => olds[o]?) sz xs) (hol : olds.size = xs.length * sz) (hn : RowAt E (fun o => news[o]?) sz ys) (hnl : news.size = ys.length * sz) (gc : Nat) (hgc : xs.length + ys.length ≤ gc) (e' : TypeId) :
  ∃ E', E.le E' ∧ (∀ b, b ≠ key → E'.ρ b = E.ρ b) ∧ Rel B w0 E' (h.set key (.tok sz (xs.length + ys.length) e')) (w.drew.alloc (.cells (olds ++ news ++ Builtin.zeroCells z.cells (gc - (xs.length + ys.length))) e)) ∧ Rd E' (.slice (some ⟨w.heap.size, 0, none⟩) (xs.length + ys.length) gc) (.list sz (xs ++ ys) (.tok key)) := by
 have hzl : (Builtin.zeroCells z.cells (gc - (xs.length + ys.length))).size = (gc - (xs.length + ys.length)) * sz := by simp [Builtin.zeroCells, hz, hsize]
 have hb : Below w.heap.size w (w.drew.alloc (.cells (olds ++ news ++ Builtin.zeroCells z.cells (gc - (xs.length + ys.length))) e)) := (Below.drew (Below.refl _ _)).alloc (Nat.le_refl _) _
 have hsz : (olds ++ news ++ Builtin.zeroCells z.cells (gc - (xs.length + ys.length))).size = gc * sz := by
  simp only [Array.size_append, hol, hnl, hzl]
  rw [← Nat.add_mul, ← Nat.add_mul]
  congr 1
  omega
 have hrow : RowAt E (fun o => (olds ++ news ++ Builtin.zeroCells z.cells (gc - (xs.length + ys.length)))[o]?) sz (xs ++ ys) := by
  refine ho.append hn (fun o hlt => ?_) (fun o hlt => ?_)
  ·show (olds ++ news ++ _)[o]? = _
   rw [Array.append_assoc, Array.getElem?_append_left (by omega)]
  ·show (olds ++ news ++ _)[_ + o]? = _
   rw [Array.append_assoc, Array.getElem?_append_right (by omega), hol, Nat.add_sub_cancel_left, Array.getElem?_append_left (by omega)]
 have := enter_tok (fr := (0, 0)) r hk hfree hb (heap_alloc_new _ _) (.inl rfl) hsz (by rw [List.length_append]; exact hgc) hrow e'
 rw [List.length_append] at this
 exact this
theorem app_fits {xs ys : List AV} {t g b0 c : Nat} {e' e'' : TypeId} {news : Array Value} {sz : Nat} (r : Rel B w0 E h w) (hk : h[key]? = some .dead) (hfree : E.ρ key = none) (ht : h[t]? = some (.tok sz xs.length e')) (hx : Rd E (.slice (some ⟨g, b0, none⟩) xs.length c) (.list sz xs (.tok t)))
  (hn : RowAt E (fun o => news[o]?) sz ys) (hnl : news.size = ys.length * sz) (hpos : 0 < sz) (hfit : xs.length + ys.length ≤ c) :
  ∃ w' E', (storeCells ⟨g, b0 + xs.length * sz, none⟩ news.toList).run P w = .ok () w' ∧ E.le E' ∧ (∀ b, b ≠ key → E'.ρ b = E.ρ b) ∧ Rel B w0 E' ((h.set t .dead).set key (.tok sz (xs.length + ys.length) e'')) w' ∧ Rd E' (.slice (some ⟨g, b0, none⟩) (xs.length + ys.length) c) (.list sz (xs ++ ys) (.tok key)) := by
 obtain ⟨ol, o1, _, o3, o4, _, _⟩ := list_cells (P := P) hx r (.inl rfl)
 cases hx with
 | list _ _ _ _ _ _ g' b' vs k1 k2 k3 k4 k5 k6 k7 =>
  obtain ⟨g2, b2, hg2, hρ⟩ := k7
  have : g2 = g ∧ b2 = b0 := by injection hg2 with hg2; injection hg2 with hg2 hg3; exact ⟨hg2.symm, hg3.symm⟩
  obtain ⟨rfl, rfl⟩ := this
  obtain ⟨g3, c3, q1, q2⟩ := r.live t _ ht (by simp)
  rw [hρ] at q1
  injection q1 with q1; injection q1 with q1 q1'; subst q1; subst q1'
  obtain ⟨hB, o0, c0, hcap, ⟨cur, ty, fr, hcur, hsz, hnc, hf⟩, hC⟩ := q2
  obtain ⟨rfl, rfl⟩ := capE_inj hcap
  have hmul : (xs.length + ys.length) * sz ≤ c * sz := Nat.mul_le_mul_right _ hfit
  rw [Nat.add_mul] at hmul
  obtain ⟨w', s1, s2, s3⟩ := run_storeCells' P g2 (b2 + xs.length * sz) ty fr news.toList 0 cur w hcur (by simp; omega) (fun u hu => by
   obtain ⟨o, ho⟩ := List.mem_iff_getElem?.1 hu
   have ho' : news[o]? = some u := by simpa using ho
   have hlt : o < ys.length * sz := by
    have := (List.getElem?_eq_some_iff.1 ho).1
    simp at this
    omega
   exact (hn.flat hpos).one_cell ho' (by rw [flat_lenA ys (fun v hv => (hn.1 v hv).1)]; exact hlt)) hf
  have hnew : ∀ o, (cur.toList.take (b2 + xs.length * sz + 0) ++ news.toList ++ cur.toList.drop (b2 + xs.length * sz + 0 + news.toList.length)).toArray[o]? = if o < b2 + xs.length * sz then cur[o]? else if o < b2 + (xs.length + ys.length) * sz then news[o - (b2 + xs.length * sz)]? else cur[o]? := by
   intro o
   simp only [Nat.add_zero, List.append_assoc, List.getElem?_toArray, List.getElem?_append, List.length_take, Array.length_toList, List.getElem?_take, List.getElem?_drop, hnl]
   have e1 : min (b2 + xs.length * sz) cur.size = b2 + xs.length * sz := by omega
   rw [e1, Nat.add_mul]
   by_cases h1 : o < b2 + xs.length * sz
   ·simp [h1]
   ·by_cases h2 : o < b2 + (xs.length * sz + ys.length * sz)
    ·rw [if_neg h1, if_pos (by omega), if_neg h1, if_pos h2]
     simp
    ·rw [if_neg h1, if_neg (by omega), if_neg h1, if_neg h2]
     simp only [Array.getElem?_toList]
     congr 1
     omega
  have hsz' : (cur.toList.take (b2 + xs.length * sz + 0) ++ news.toList ++ cur.toList.drop (b2 + xs.length * sz + 0 + news.toList.length)).toArray.size = cur.size := by simp; omega
  generalize hcur' : (cur.toList.take (b2 + xs.length * sz + 0) ++ news.toList ++ cur.toList.drop (b2 + xs.length * sz + 0 + news.toList.length)).toArray = cur' at *
  have hno : ∀ b e, (h.set t .dead)[b]? = some e → e ≠ .dead → ∀ g' c', E.ρ b = some (g', c') → g' ≠ g2 := by
   intro b e he hd g' c' hρ'
   rw [List.getElem?_set] at he
   split at he
   ·split at he
    ·injection he with he; exact absurd he.symm hd
    ·cases he
   ·rename_i hne
    exact r.uniq b t e _ (fun hh => hne hh.symm) he hd ht (by simp) g' c' g2 _ hρ' hρ
  -- what is protected lies ahead of what is written, or behind it
  have hlow : ∀ o v, E.C g2 o = some v → o < b2 + xs.length * sz ∨ b2 + (xs.length + ys.length) * sz ≤ o := by
   intro o v hv
   rw [Nat.add_mul]
   rcases Nat.lt_or_ge o (b2 + xs.length * sz) with h' | h'
   ·exact .inl h'
   ·refine .inr (Nat.le_of_not_lt fun h'' => ?_)
    rw [hC o h' (by omega)] at hv; cases hv
  have r2 : Rel B w0 E (h.set t .dead) w' := (r.kill t).scribble g2 hB s2 hno (fun o v hv => by
   have h1 := r.prot g2 o v hv
   rw [cell_of_block hcur] at h1
   rw [cell_of_block s3, hnew o]
   rcases hlow o v hv with hl | hl
   ·rw [if_pos hl]
    exact h1
   ·rw [if_neg (by rw [Nat.add_mul] at hl; omega), if_neg (by omega)]
    exact h1)
  let C' : Nat → Nat → Option Value := fun g o => if g = g2 ∧ b2 + xs.length * sz ≤ o ∧ o < b2 + (xs.length + ys.length) * sz then cur'[o]? else E.C g o
  have hk2 : (h.set t .dead)[key]? = some .dead := kill_dead hk (.tok t)
  obtain ⟨hle, r3⟩ := r2.enter key hk2 hfree g2 (capE b2 c) (.tok sz (xs.length + ys.length) e'') C'
   (fun g o v hv => by
    show (if _ then _ else _) = _
    rw [if_neg]
    ·exact hv
    ·rintro ⟨rfl, h1, _⟩
     have := hlow o v hv
     omega)
   (fun g o v hv => by
    have hv' : (if g = g2 ∧ b2 + xs.length * sz ≤ o ∧ o < b2 + (xs.length + ys.length) * sz then cur'[o]? else E.C g o) = some v := hv
    split at hv'
    ·rename_i hh
     obtain ⟨rfl, _⟩ := hh
     rw [cell_of_block s3]; exact hv'
    ·exact r2.prot g o v hv')
   (fun b e he hd g' c' hρ' => ⟨hno b e he hd g' c' hρ', fun o => if_neg (fun hh => hno b e he hd g' c' hρ' hh.1)⟩)
   ⟨hB, b2, c, rfl, ⟨cur', ty, fr, s3, by omega, hfit, by rw [hsz']; exact hf⟩, fun o ho ho2 => by
    show (if _ then _ else _) = _
    rw [if_neg (by omega)]
    exact hC o (by rw [Nat.add_mul] at ho; omega) ho2⟩
  refine ⟨w', _, s1, hle, fun b hb => by dsimp only; rw [if_neg hb], r3, ?_⟩
  rw [← List.length_append]
  refine rd_listB (cur := fun o => cur'[b2 + o]?) hle (by rw [List.length_append]; exact hfit) ?_ (fun o u ho hu => ?_) ⟨g2, b2, rfl, by simp⟩
  ·refine RowAt.append (c1 := fun o => cur[b2 + o]?) (c2 := fun o => news[o]?) ⟨k4, fun i x j y hx hy => ?_⟩ hn (fun o ho => ?_) (fun o ho => ?_)
   ·have hi : i < xs.length := (List.getElem?_eq_some_iff.1 hx).1
    have hj : j < sz := by rw [← (k4 x (List.mem_of_getElem? hx)).1]; exact (List.getElem?_eq_some_iff.1 hy).1
    have hA := k3 (by omega)
    injection hA with hA; injection hA with hA1 hA2
    subst hA1; subst hA2
    have := r.prot _ _ _ (k5 i j hi hj)
    rw [cell_of_block hcur] at this
    exact ⟨_, this, k6 i x j y hx hy⟩
   ·show cur'[_]? = _
    rw [hnew, if_pos (by omega)]
   ·show cur'[_]? = _
    rw [hnew, if_neg (by omega), if_pos (by rw [Nat.add_mul]; omega)]
    congr 1
    omega
  ·show (if _ then _ else _) = _
   rw [List.length_append] at ho
   by_cases h1 : xs.length * sz ≤ o
   ·rw [if_pos ⟨rfl, by omega, by omega⟩]; exact hu
   ·rw [if_neg (by omega)]
    have hpos' : 0 < xs.length := by
     rcases Nat.eq_zero_or_pos xs.length with h0 | h0
     ·rw [h0] at h1; omega
     ·exact h0
    have hA := k3 hpos'
    injection hA with hA; injection hA with hA1 hA2
    subst hA1; subst hA2
    have d1 : o / sz < xs.length := (Nat.div_lt_iff_lt_mul hpos).2 (by omega)
    have d2 : o % sz < sz := Nat.mod_lt _ hpos
    have q := k5 _ _ d1 d2
    rw [show o / sz * sz + o % sz = o from by rw [Nat.mul_comm]; exact Nat.div_add_mod o sz] at q
    have q2 := r.prot _ _ _ q
    rw [cell_of_block hcur] at q2
    have hu' : cur'[b2 + o]? = some u := hu
    rw [hnew, if_pos (by omega), q2] at hu'
    rw [q]
    exact hu'
theorem grow_fits {b n g c : Nat} {cs ys : List AV} {news : Array Value} {sz : Nat} (r : Rel B w0 E h w) (hk : h[key]? = some .dead) (hfree : E.ρ key = none) (hb : h[b]? = some (.grow sz cs)) (hρ : E.ρ b = some (g, c)) (hle : n * sz ≤ cs.length)
  (hn : RowAt E (fun o => news[o]?) sz ys) (hnl : news.size = ys.length * sz) (hpos : 0 < sz) (hfit : n + ys.length ≤ c) :
  ∃ w' E', (storeCells ⟨g, n * sz, none⟩ news.toList).run P w = .ok () w' ∧ E.le E' ∧ (∀ b, b ≠ key → E'.ρ b = E.ρ b) ∧ Rel B w0 E' ((h.set b .dead).set key (.grow sz (cs.take (n * sz) ++ ys.flatMap AV.cells))) w' ∧ Rd E' (.slice (some ⟨g, 0, none⟩) (n + ys.length) c) (.gl sz key (n + ys.length)) := by
 obtain ⟨g3, c3, q1, q2⟩ := r.live b _ hb (by simp)
 rw [hρ] at q1
 injection q1 with q1; injection q1 with q1 q1'; subst q1; subst q1'
 obtain ⟨hB, ⟨cur, ty, fr, hcur, hlc, hsz, hrd, hf⟩, hC⟩ := q2
 have hmul : (n + ys.length) * sz ≤ c * sz := Nat.mul_le_mul_right _ hfit
 rw [Nat.add_mul] at hmul
 have hfl := flat_lenA ys (fun v hv => (hn.1 v hv).1)
 have hnr := hn.flat hpos
 obtain ⟨w', s1, s2, s3⟩ := run_storeCells' P g (n * sz) ty fr news.toList 0 cur w hcur (by simp; omega) (fun u hu => by
  obtain ⟨o, ho⟩ := List.mem_iff_getElem?.1 hu
  have ho' : news[o]? = some u := by simpa using ho
  have hlt : o < ys.length * sz := by
   have := (List.getElem?_eq_some_iff.1 ho).1
   simp at this
   omega
  exact hnr.one_cell ho' (by rw [hfl]; exact hlt)) hf
 have hsz' : (cur.toList.take (n * sz + 0) ++ news.toList ++ cur.toList.drop (n * sz + 0 + news.toList.length)).toArray.size = cur.size := by simp; omega
 have hrd' : RdCells E (cur.toList.take (n * sz + 0) ++ news.toList ++ cur.toList.drop (n * sz + 0 + news.toList.length)).toArray (cs.take (n * sz) ++ ys.flatMap AV.cells) := by
  refine ⟨fun y hy => ?_, fun o u y hu hy => ?_⟩
  ·rcases List.mem_append.1 hy with hy | hy
   ·exact hrd.1 y (List.mem_of_mem_take hy)
   ·exact hnr.1 y hy
  ·simp only [Nat.add_zero, List.append_assoc, List.getElem?_toArray, List.getElem?_append, List.length_take, Array.length_toList, List.getElem?_take] at hu hy
   have e1 : min (n * sz) cur.size = n * sz := by omega
   have e2 : min (n * sz) cs.length = n * sz := by omega
   rw [e1] at hu
   rw [e2] at hy
   by_cases h1 : o < n * sz
   ·simp only [h1, if_true] at hu hy
    exact hrd.2 o u y (by simpa using hu) hy
   ·rw [if_neg h1] at hu hy
    have hlt : o - n * sz < ys.length * sz := by
     have := (List.getElem?_eq_some_iff.1 hy).1
     rw [hfl] at this
     exact this
    rw [if_pos (by omega)] at hu
    exact hnr.2 _ u y (by simpa using hu) hy
 have hno : ∀ b' e, (h.set b .dead)[b']? = some e → e ≠ .dead → ∀ g' c', E.ρ b' = some (g', c') → g' ≠ g := by
  intro b' e he hd g' c' hρ'
  rw [List.getElem?_set] at he
  split at he
  ·split at he
   ·injection he with he; exact absurd he.symm hd
   ·cases he
  ·rename_i hne
   exact r.uniq b' b e _ (fun hh => hne hh.symm) he hd hb (by simp) g' c' g c hρ' hρ
 have r2 : Rel B w0 E (h.set b .dead) w' := (r.kill b).scribble g hB s2 hno (fun o v hv => by rw [hC] at hv; cases hv)
 have hk2 : (h.set b .dead)[key]? = some .dead := kill_dead hk (.tok b)
 have hle' : E.le ⟨E.C, fun b => if b = key then some (g, c) else E.ρ b⟩ := ⟨fun _ _ _ h => h, fun b x hx => by
  dsimp only; split
  ·rename_i e; subst e; rw [hfree] at hx; cases hx
  ·exact hx⟩
 obtain ⟨_, r3⟩ := r2.enter key hk2 hfree g c (.grow sz (cs.take (n * sz) ++ ys.flatMap AV.cells)) E.C (fun _ _ _ h => h) r2.prot
  (fun b e he hd g' c' hρ' => ⟨hno b e he hd g' c' hρ', fun _ => rfl⟩)
  ⟨hB, ⟨_, ty, fr, s3, by rw [List.length_append, List.length_take, hfl, hsz']; omega, by rw [hsz']; exact hsz, ⟨hrd'.1, fun o u x hu hx => (hrd'.2 o u x hu hx).mono hle'⟩, by rw [hsz']; exact hf⟩, hC⟩
 exact ⟨w', _, s1, hle', fun b hb => by dsimp only; rw [if_neg hb], r3, .gl _ _ _ g c (by simp) hfit⟩
theorem append_sound {c : Call} {s x : Operand} {t u e : TypeId} {p q : AX} {i : TypeInfo} {zs : List AV} {d : TypeDesc} (ho : o.op = .call c) (hb : c.callee = .builtin .append) (ha : c.args = #[s, x]) (ht : c.argTypes = #[t, u]) (hu : P.underlying t = some (.slice e)) (hi : P.info? e = some i) (hz : zeroA P e = some zs) (hzl : zs.length = i.size) (hpos : 0 < i.size) (hposb : 0 < i.bytes)
  (hd : P.underlying u = some d) (hd' : (∃ e, d = .slice e) ∨ d = .string) (h1 : cx P t s = some p) (h2 : cx P u x = some q) (hs : SR E a σ) (r : Rel B w0 E h w) (hk : h[key]? = some .dead) (hfree : E.ρ key = none) (hex : aop O σ h key (.append i.size i.bytes e p q) = some (v, h')) : Out P B w0 E h' key a o w v := by
 have hss := cx_sound h1 hs
 have hx := cx_sound h2 hs
 obtain ⟨i', zv, hi', hiz, hl, hsi, _⟩ := zeroA_sound (E := E) hz
 rw [hi] at hi'
 injection hi' with hi'
 subst hi'
 have hut : (∃ e, P.underlying u = some (.slice e)) ∨ P.underlying u = some .string := by
  rcases hd' with ⟨e, rfl⟩ | rfl
  ·exact .inl ⟨e, hd⟩
  ·exact .inr hd
 have hout : ∀ {val w' E'}, (Builtin.append_ #[t, u] o.type #[a.eval s, a.eval x]).run P w = .ok val w' → E.le E' → (∀ b, b ≠ key → E'.ρ b = E.ρ b) → Rel B w0 E' h' w' → Rd E' val v → Out P B w0 E h' key a o w v := by
  intro val w' E' hrun k1 k2 k3 k4
  refine ⟨val, w', E', .inl ?_, k1, k2, k3, k4⟩
  rw [run_builtin ho hb, ha, ht]
  simp only [List.map_toArray, List.map_cons, List.map_nil]
  exact run_v hrun
 simp only [aop, appA] at hex
 generalize hsv : a.eval s = sv at hss hout
 generalize hxv : a.eval x = xv at hx hout
 split at hex
 ·rename_i s' xs rt he
  rw [he] at hss
  split at hex
  ·rename_i ys hsrc
   obtain ⟨news, n1, n2, n3⟩ := src_sound hut hx hsrc r
   split at hex
   ·rename_i hnil
    simp only [Option.some.injEq, Prod.mk.injEq] at hex
    obtain ⟨rfl, rfl⟩ := hex
    subst hnil
    cases sv <;> try (cases hss; done)
    rename_i A n cc
    have hnc : n ≤ cc := by cases hss; assumption
    exact hout (run_append_none hu hi hnc n1) E.le_refl (fun _ _ => rfl) r (by rw [he]; exact hss)
   ·rename_i hnil
    split at hex
    ·rename_i hcond
     obtain ⟨c1, c2, c3, c4⟩ := hcond
     simp only [Option.some.injEq, Prod.mk.injEq] at hex
     obtain ⟨rfl, rfl⟩ := hex
     have hyl : 0 < ys.length := by cases ys with | nil => exact absurd rfl hnil | cons _ _ => simp
     cases sv <;> try (cases hss; done)
     rename_i A n cc
     obtain ⟨olds, o1, o2, o3, o4, o5, o6⟩ := list_cells (P := P) hss r c1
     subst o5
     have realloc : cc < xs.length + ys.length → Out P B w0 E ((kill h rt).set key (.tok i.size (xs.length + ys.length) e)) key a o w (.list i.size (xs ++ ys) (.tok key)) := by
      intro hgrow
      have hrun := run_append_realloc (P := P) (w := w) (ty := o.type) hu hi hiz (A := A) o2 n2 hgrow c3 c4 hposb
      obtain ⟨E', k1, k2, k3, k4⟩ := app_realloc (key := key) (e := e) (i := i) (z := zv) (A := A) (c := cc) (rel_kills r rt) (kill_dead hk rt) hfree rfl (by omega) o4 o3 n3 n1.size (grownCap w (xs.length + ys.length) cc e) (grownCap_ge _ _ _ _) e
      exact hout hrun k1 k2 k3 k4
     cases rt with
     | no => exact c2.elim
     | full =>
      refine realloc ?_
      have : cc = xs.length := by
       cases hss with
       | list _ _ _ _ _ _ g b vs k1 k2 k3 k4 k5 k6 k7 => exact k7
      omega
     | tok t' =>
      have hst : s' = i.size ∨ xs = [] := c1
      by_cases hfit : xs.length + ys.length ≤ cc
      ·have hA : ∃ g b0, A = some ⟨g, b0, none⟩ ∧ E.ρ t' = some (g, capE b0 cc) := by
        cases hss with
        | list _ _ _ _ _ _ g b vs k1 k2 k3 k4 k5 k6 k7 => exact k7
       obtain ⟨g, b0, rfl, hρ⟩ := hA
       have hss' : Rd E (.slice (some ⟨g, b0, none⟩) xs.length cc) (.list i.size xs (.tok t')) := by
        rcases hst with rfl | hx0
        ·exact hss
        ·subst hx0
         exact .list _ _ _ _ [] _ 0 0 (fun _ _ => undef) rfl (Nat.zero_le _) (fun h => absurd h (by simp)) (by simp) (fun i j hi => absurd hi (by simp)) (by simp) ⟨g, b0, rfl, hρ⟩
       obtain ⟨w', E', k0, k1, k2, k3, k4⟩ := app_fits (P := P) (e'' := e) r hk hfree c2 hss' n3 n1.size hpos hfit
       exact hout (run_append_fitsB (P := P) hu hi hiz n1 hfit k0) k1 k2 k3 k4
      ·exact realloc (by omega)
    ·cases hex
  ·cases hex
 ·rename_i s' b n he
  rw [he] at hss
  split at hex
  ·rename_i ys s'' cs hsrc hbb
   obtain ⟨news, n1, n2, n3⟩ := src_sound hut hx hsrc r
   split at hex
   ·rename_i hcond
    obtain ⟨rfl, rfl, c1, c3, c4⟩ := hcond
    simp only [Option.some.injEq, Prod.mk.injEq] at hex
    obtain ⟨rfl, rfl⟩ := hex
    cases hss with
    | gl _ _ _ g cc hρ hncc =>
     by_cases hfit : n + ys.length ≤ cc
     ·obtain ⟨w', E', k0, k1, k2, k3, k4⟩ := grow_fits (P := P) r hk hfree hbb hρ c1 n3 n1.size hpos hfit
      exact hout (run_append_fits (P := P) hu hi hiz n1 hfit k0) k1 k2 k3 k4
     ·obtain ⟨g3, c3', q1, q2⟩ := r.live b _ hbb (by simp)
      rw [hρ] at q1
      injection q1 with q1; injection q1 with q1 q1'; subst q1; subst q1'
      obtain ⟨hB, ⟨cur, tyy, fr, hcur, hlc, hszc, hrd, hf⟩, hC⟩ := q2
      have holds : (Builtin.firstCells i.size n (.slice (some ⟨g, 0, none⟩) n cc)).run P w.drew = .ok ((List.range (n * i.size)).map fun o => cur.getD o undef).toArray w.drew := by
       simp only [Builtin.firstCells]
       refine run_loadCells (P := P) w.drew ⟨g, 0, none⟩ (n * i.size) (fun o => cur.getD o undef) (fun j hj => ?_)
       rw [add_plain, Nat.zero_add]
       show w.cell? _ = _
       have hlt : j < cur.size := by omega
       rw [cell_of_block hcur]
       simp [Array.getD_eq_getD_getElem?, Array.getElem?_eq_getElem hlt]
      have hrun := run_append_realloc (P := P) (w := w) (ty := o.type) hu hi hiz holds n2 (by omega) c3 c4 hposb
      have hgc := grownCap_ge w (n + ys.length) cc e
      have hfl := flat_lenA ys (fun v hv => (n3.1 v hv).1)
      have hnr := n3.flat hpos
      have hol : ((List.range (n * i.size)).map fun o => cur.getD o undef).toArray.size = n * i.size := by simp
      have hzl2 : (Builtin.zeroCells zv.cells (grownCap w (n + ys.length) cc e - (n + ys.length))).size = (grownCap w (n + ys.length) cc e - (n + ys.length)) * i.size := by simp [Builtin.zeroCells, hl, hsi]
      generalize holdsv : ((List.range (n * i.size)).map fun o => cur.getD o undef).toArray = olds at *
      have hns := n1.size
      have hsz : (olds ++ news ++ Builtin.zeroCells zv.cells (grownCap w (n + ys.length) cc e - (n + ys.length))).size = grownCap w (n + ys.length) cc e * i.size := by
       simp only [Array.size_append, hol, hns, hzl2]
       rw [← Nat.add_mul, ← Nat.add_mul]
       congr 1
       omega
      have hmulgc : (n + ys.length) * i.size ≤ grownCap w (n + ys.length) cc e * i.size := Nat.mul_le_mul_right _ hgc
      rw [Nat.add_mul] at hmulgc
      have hrc : RdCells E (olds ++ news ++ Builtin.zeroCells zv.cells (grownCap w (n + ys.length) cc e - (n + ys.length))) (cs.take (n * i.size) ++ ys.flatMap AV.cells) := by
       refine ⟨fun y hy => ?_, fun k uu y hu' hy => ?_⟩
       ·rcases List.mem_append.1 hy with hy | hy
        ·exact hrd.1 y (List.mem_of_mem_take hy)
        ·exact hnr.1 y hy
       ·rw [List.getElem?_append, List.length_take] at hy
        have e2 : min (n * i.size) cs.length = n * i.size := by omega
        rw [e2] at hy
        split at hy
        ·rename_i h1'
         rw [Array.append_assoc, Array.getElem?_append_left (by omega)] at hu'
         rw [List.getElem?_take_of_lt h1'] at hy
         have hlt : k < cur.size := by omega
         have : uu = cur[k] := by
          rw [← holdsv] at hu'
          simp [h1', Array.getD_eq_getD_getElem?, Array.getElem?_eq_getElem hlt] at hu'
          exact hu'.symm
         subst this
         exact hrd.2 k _ y (Array.getElem?_eq_getElem hlt) hy
        ·rename_i h1'
         have hlt : k - n * i.size < ys.length * i.size := by
          have := (List.getElem?_eq_some_iff.1 hy).1
          rw [hfl] at this
          exact this
         rw [Array.append_assoc, Array.getElem?_append_right (by omega), hol, Array.getElem?_append_left (by omega)] at hu'
         exact hnr.2 _ uu y hu' hy
      have hbw : Below w.heap.size w (w.drew.alloc (.cells (olds ++ news ++ Builtin.zeroCells zv.cells (grownCap w (n + ys.length) cc e - (n + ys.length))) e)) := (Below.drew (Below.refl _ _)).alloc (Nat.le_refl _) _
      obtain ⟨E', k1, k2, k3, k4⟩ := enter_grow (key := key) (fr := (0, 0)) (n := n + ys.length) (r.kill b) (kill_dead hk (.tok b)) hfree hbw (heap_alloc_new _ _) (.inl rfl) hsz (cs := cs.take (n * i.size) ++ ys.flatMap AV.cells) (by rw [List.length_append, List.length_take, hfl, hsz]; omega) hgc hrc
      exact hout hrun k1 k2 k3 k4
   ·cases hex
  ·cases hex
 ·cases hex
end
end Go.Am
/-
 The mark of a conversion's row; copies; maps; a text's runes one by one.
-/
namespace Go.Am
open Go Go.RowKit
section
variable {P : Program} {B : Nat} {w0 : World} {E : Env} {h h' : Heap} {a : Act} {w : World} {σ : Slots} {o : Oper} {key : Nat} {O : CallO} {v : AV} {ty : TypeId}
theorem heap_freeze {g n : Nat} {cur : Array Value} {t : TypeId} {fr : Nat × Nat} (hg : w.heap[g]? = some (.cells cur t fr)) :
  w.grownBy (w.freeze ⟨g, n, none⟩ 1) (some g) ∧ (w.freeze ⟨g, n, none⟩ 1).heap[g]? = some (.cells cur t (if fr.1 == fr.2 then (n, n + 1) else (min fr.1 n, max fr.2 (n + 1)))) := by
 have hne : ¬ (1 = 0) := by decide
 refine ⟨⟨by simp [World.freeze], by simp [World.freeze], by simp [World.freeze], by simp [World.freeze], fun k hk hn => ?_⟩, ?_⟩
 ·have : k ≠ g := by simpa using hn
  simp [World.freeze, Array.getElem?_modify, Ne.symm this]
 ·simp only [World.freeze, hne, if_false, Array.getElem?_modify, hg, if_true, Option.map_some]
theorem cvMark_sound {s e : TypeId} {x : Operand} {y : AX} (ho : o.op = .convert s s x) (hus : P.underlying s = some (.slice e)) (hue : P.underlying e = some (.int .u8)) (hc : cx P s x = some y) (hs : SR E a σ) (r : Rel B w0 E h w) (hex : aop O σ h key (.cvMark y) = some (v, h')) : Out P B w0 E h' key a o w v := by
 have hx := cx_sound hc hs
 simp only [aop] at hex
 split at hex
 ·rename_i sz xs t he
  rw [he] at hx
  split at hex
  ·rename_i sz' n e' hb
   simp only [Option.some.injEq, Prod.mk.injEq] at hex
   obtain ⟨rfl, rfl⟩ := hex
   generalize hv : a.eval x = av at hx
   have hx0 := hx
   cases hx with
   | list A m c _ _ _ g b vs k1 k2 k3 k4 k5 k6 k7 =>
    obtain ⟨g2, o2, rfl, hρ⟩ := k7
    obtain ⟨g3, c3, q1, q2⟩ := r.live t _ hb (by simp)
    rw [hρ] at q1
    injection q1 with q1; injection q1 with q1 q1'; subst q1; subst q1'
    obtain ⟨hB, o0, c0, hcap, ⟨cur, tt, fr, hcur, hsz, hnc, hf⟩, hC⟩ := q2
    obtain ⟨f1, f2⟩ := heap_freeze (w := w) (n := cur.size) hcur
    have hsh : w.shape? g2 = some (tt, cur.size) := by simp [World.shape?, hcur]
    have hrun : (convert s s (.slice (some ⟨g2, o2, none⟩) m c)).run P w = .ok (.slice (some ⟨g2, o2, none⟩) m c) (w.freeze ⟨g2, cur.size, none⟩ 1) := by
     simp [convert, run_underlying hus, run_underlying hue, markStringish, hsh]
    refine ⟨_, w.freeze ⟨g2, cur.size, none⟩ 1, E, .inl ?_, E.le_refl, fun _ _ => rfl, ?_, hx0⟩
    ·unfold execOp; rw [ho]; dsimp only; rw [hv]
     exact run_v hrun
    ·have hst : h.set t (.tok sz' n e') = h := by
      apply List.ext_getElem?
      intro i
      rw [List.getElem?_set]
      split
      ·rename_i hi
       subst hi
       rw [hb, if_pos (List.getElem?_eq_some_iff.1 hb).1]
      ·rfl
     have := r.turn t g2 (capE o2 c) (.tok sz' n e') (.tok sz' n e') hb (by simp) (by simp) hρ hB f1 (fun o v hv => by
      have := r.prot g2 o v hv
      rw [cell_of_block hcur] at this
      rw [cell_of_block f2]
      exact this) ⟨hB, o0, c0, hcap, ⟨cur, tt, _, f2, hsz, hnc, by
       rcases hf with hf | hf
       ·rw [if_pos (by simpa using hf)]; exact .inr (Nat.le_refl _)
       ·by_cases he : fr.1 = fr.2
        ·rw [if_pos (by simpa using he)]; exact .inr (Nat.le_refl _)
        ·rw [if_neg (by simpa using he)]; exact .inr (by simp; omega)⟩, hC⟩
     rw [hst] at this
     exact this
  ·cases hex
 ·cases hex
/-! ### A text's runes -/
theorem heap_alloc_obj (w : World) (o : Obj) : (w.alloc o).heap[w.heap.size]? = some o := by
 unfold World.alloc
 simp
theorem putObj_grown (w : World) (r : Nat) (o : Obj) : w.grownBy { w with heap := w.heap.setIfInBounds r o } (some r) :=
 ⟨rfl, rfl, rfl, by simp, fun k hk hn => by
  have : k ≠ r := by simpa using hn
  simp [Array.getElem?_setIfInBounds, Ne.symm this]⟩
theorem rangeS_sound {t : TypeId} {x : Operand} {y : AX} (ho : o.op = .range t x) (hu : P.underlying t = some .string) (hc : cx P t x = some y) (hs : SR E a σ) (r : Rel B w0 E h w) (hk : h[key]? = some .dead) (hfree : E.ρ key = none) (hex : aop O σ h key (.rangeS y) = some (v, h')) : Out P B w0 E h' key a o w v := by
 have hx := cx_sound hc hs
 simp only [aop] at hex
 split at hex
 ·rename_i l he
  simp only [Option.some.injEq, Prod.mk.injEq] at hex
  obtain ⟨rfl, rfl⟩ := hex
  rw [he] at hx
  have hrun : (Instr.range t (.string ⟨⟨l⟩⟩)).run P w = .ok (.pointer (some ⟨w.heap.size, 0, none⟩)) (w.alloc (.stringIter ⟨⟨l⟩⟩ 0)) := by
   simp [Instr.range, run_underlying hu]
  have r1 : Rel B w0 E h (w.alloc (.stringIter ⟨⟨l⟩⟩ 0)) := r.world ((Below.refl _ _).alloc (Nat.le_refl _) _)
  obtain ⟨h1, h2⟩ := r1.enter key hk hfree w.heap.size 0 (.siter l 0) E.C (fun _ _ _ h => h) r1.prot
   (fun b e' he hd g' c' hρ => by
    obtain ⟨g1, c1, k1, k2⟩ := r.live b e' he hd
    rw [hρ] at k1; injection k1 with k1; injection k1 with k1 _; subst k1
    exact ⟨Nat.ne_of_lt (k2.lt hd).1, fun _ => rfl⟩)
   (by exact ⟨r.bsz, heap_alloc_obj w _⟩)
  refine ⟨_, _, _, .inl ?_, h1, fun b hb => by dsimp only; rw [if_neg hb], h2, .it key w.heap.size 0 (by simp)⟩
  unfold execOp; rw [ho]; dsimp only; rw [hx.inv_str]
  exact run_v hrun
 ·cases hex
theorem next_sound {x : Operand} {y : AX} (ho : o.op = .next x true) (hc : cx P 0 x = some y) (hs : SR E a σ) (r : Rel B w0 E h w) (hex : aop O σ h key (.next y) = some (v, h')) : Out P B w0 E h' key a o w v := by
 have hx := cx_sound hc hs
 simp only [aop] at hex
 split at hex
 ·rename_i b he
  rw [he] at hx
  split at hex
  ·rename_i l p hb
   generalize hv : a.eval x = av at hx
   cases hx with
   | it _ g c hρ =>
    obtain ⟨g1, c1, q1, q2⟩ := r.live b _ hb (by simp)
    rw [hρ] at q1
    injection q1 with q1; injection q1 with q1 q1'; subst q1; subst q1'
    obtain ⟨hB, hg⟩ := q2
    have hsz : (⟨⟨l⟩⟩ : ByteArray).size = l.length := rfl
    split at hex
    ·rename_i hlt
     simp only [Option.some.injEq, Prod.mk.injEq] at hex
     obtain ⟨rfl, rfl⟩ := hex
     have hrun : (Instr.next (.pointer (some ⟨g, 0, none⟩)) true o.type).run P w = .ok (.tuple #[.bool true, .int .i64 p, .int .i32 (Utf8.decode ⟨⟨l⟩⟩ p).1]) { w with heap := w.heap.setIfInBounds g (.stringIter ⟨⟨l⟩⟩ (p + (Utf8.decode ⟨⟨l⟩⟩ p).2)) } := by
      simp [Instr.next, getObj, setObj, Sem.run, hg, hsz, hlt, goInt]
     have hlt2 : g < w.heap.size := (Array.getElem?_eq_some_iff.1 hg).1
     have := r.turn b g c (.siter l p) (.siter l (p + (Utf8.decode ⟨⟨l⟩⟩ p).2)) hb (by simp) (by simp) hρ hB (putObj_grown w g _) (fun o v hv => by
      have := r.prot g o v hv
      simp [World.cell?, hg] at this) (show LiveAt B E { w with heap := w.heap.setIfInBounds g (.stringIter ⟨⟨l⟩⟩ (p + (Utf8.decode ⟨⟨l⟩⟩ p).2)) } g c _ from ⟨hB, by simp [hlt2]⟩)
     refine ⟨_, _, E, .inl ?_, E.le_refl, fun _ _ => rfl, this, .tup #[.bool true, .int .i64 p, .int .i32 (Utf8.decode ⟨⟨l⟩⟩ p).1] _ rfl fun i u z hu hz => ?_⟩
     ·unfold execOp; rw [ho]; dsimp only; rw [hv]
      exact run_v hrun
     ·match i with
      | 0 => simp at hu hz; subst hu; subst hz; exact .bool _
      | 1 => simp at hu hz; subst hu; subst hz; exact .int _ _
      | 2 => simp at hu hz; subst hu; subst hz; exact .int _ _
      | i + 3 => simp at hu
    ·rename_i hlt
     simp only [Option.some.injEq, Prod.mk.injEq] at hex
     obtain ⟨rfl, rfl⟩ := hex
     have hrun : (Instr.next (.pointer (some ⟨g, 0, none⟩)) true o.type).run P w = .ok (.tuple #[.bool false]) w := by
      simp [Instr.next, getObj, Sem.run, hg, hsz, hlt]
     refine Out.quiet r (.tuple #[.bool false]) ?_ (.tup _ _ rfl fun i u z hu hz => ?_)
     ·unfold execOp; rw [ho]; dsimp only; rw [hv]
      exact run_v hrun
     ·match i with
      | 0 => simp at hu hz; subst hu; subst hz; exact .bool _
      | i + 1 => simp at hu
  ·cases hex
 ·cases hex
end
end Go.Am
/-
 What an operation hangs on: the slots that it names, and the places of the heap that it looks at; two operations that don't meet may change places.
-/
namespace Go.Am
open Go
def Agree (l : List Nat) (σ τ : Slots) : Prop := ∀ t ∈ l, σ t = τ t
theorem ev_agree {σ τ : Slots} {x : AX} (h : Agree x.tmps σ τ) : x.ev σ = x.ev τ := by
 cases x with
 | t i => exact h i (by simp [AX.tmps])
 | c v => rfl
theorem evs_agree {σ τ : Slots} {xs : List AX} (h : Agree (tmpsL xs) σ τ) : xs.map (·.ev σ) = xs.map (·.ev τ) := by
 apply List.map_congr_left
 intro x hx
 exact ev_agree fun t ht => h t (List.mem_flatMap.2 ⟨x, hx, ht⟩)
theorem Agree.left {a b : List Nat} {σ τ : Slots} (h : Agree (a ++ b) σ τ) : Agree a σ τ := fun t ht => h t (List.mem_append_left _ ht)
theorem Agree.right {a b : List Nat} {σ τ : Slots} (h : Agree (a ++ b) σ τ) : Agree b σ τ := fun t ht => h t (List.mem_append_right _ ht)
theorem bnd_agree {σ τ : Slots} {x : Option AX} (h : Agree (tmpsO x) σ τ) (y d : Nat) : bnd σ x y d = bnd τ x y d := by
 cases x with
 | none => rfl
 | some x => simp only [bnd, ev_agree (x := x) h]
theorem aop_agree (O : CallO) {σ τ : Slots} (h : Heap) (key : Nat) {op : AOp} (ha : Agree op.tmps σ τ) : aop O σ h key op = aop O τ h key op := by
 cases op <;> simp only [AOp.tmps] at ha <;> (try simp only [aop]) <;> first
  | rfl
  | (simp only [ev_agree ha]; done)
  | (simp only [ev_agree ha.left, ev_agree ha.right]; done)
  | (simp only [ev_agree ha.left.left, ev_agree ha.left.right, ev_agree ha.right]; done)
  | (simp only [evs_agree ha]; done)
  | (simp only [sliceTA, ev_agree ha.left, bnd_agree (x := some _) (show Agree (tmpsO (some _)) σ τ from ha.right)]; done)
  | (simp only [ev_agree ha.left, evs_agree ha.right]; done)
  | skip
 case build zs ps =>
  have : (ps.map fun p => (p.1, p.2.1, p.2.2.ev σ)) = ps.map fun p => (p.1, p.2.1, p.2.2.ev τ) := by
   apply List.map_congr_left
   intro p hp
   rw [ev_agree (x := p.2.2) fun t ht => ha t (List.mem_flatMap.2 ⟨p, hp, ht⟩)]
  rw [this]
 case bslice sz xs =>
  have e : ∀ x ∈ xs, x.ev σ = x.ev τ := fun x hx => ev_agree fun t ht => ha t (List.mem_flatMap.2 ⟨x, hx, ht⟩)
  have e1 : (∀ p ∈ xs, (p.ev σ).cells.length = sz) ↔ ∀ p ∈ xs, (p.ev τ).cells.length = sz := ⟨fun hh p hp => by rw [← e p hp]; exact hh p hp, fun hh p hp => by rw [e p hp]; exact hh p hp⟩
  rw [evs_agree ha]
  by_cases hc : ∀ p ∈ xs, (p.ev σ).cells.length = sz
  ·rw [if_pos hc, if_pos (e1.1 hc)]
  ·rw [if_neg hc, if_neg (fun hh => hc (e1.2 hh))]
 case bsliceM sz xs =>
  have e : ∀ x ∈ xs, x.ev σ = x.ev τ := fun x hx => ev_agree fun t ht => ha t (List.mem_flatMap.2 ⟨x, hx, ht⟩)
  have e1 : (∀ p ∈ xs, (p.ev σ).cells.length = sz) ↔ ∀ p ∈ xs, (p.ev τ).cells.length = sz := ⟨fun hh p hp => by rw [← e p hp]; exact hh p hp, fun hh p hp => by rw [e p hp]; exact hh p hp⟩
  have e2 : (xs.flatMap fun p => (p.ev σ).cells) = xs.flatMap fun p => (p.ev τ).cells := by
   rw [List.flatMap_def, List.flatMap_def]
   congr 1
   apply List.map_congr_left
   intro p hp
   rw [e p hp]
  rw [e2]
  by_cases hc : ∀ p ∈ xs, (p.ev σ).cells.length = sz
  ·rw [if_pos hc, if_pos (e1.1 hc)]
  ·rw [if_neg hc, if_neg (fun hh => hc (e1.2 hh))]
 case bsliceG sz xs =>
  have e : ∀ x ∈ xs, x.ev σ = x.ev τ := fun x hx => ev_agree fun t ht => ha t (List.mem_flatMap.2 ⟨x, hx, ht⟩)
  have e1 : (∀ p ∈ xs, (p.ev σ).cells.length = sz) ↔ ∀ p ∈ xs, (p.ev τ).cells.length = sz := ⟨fun hh p hp => by rw [← e p hp]; exact hh p hp, fun hh p hp => by rw [e p hp]; exact hh p hp⟩
  have e2 : (xs.flatMap fun p => (p.ev σ).cells) = xs.flatMap fun p => (p.ev τ).cells := by
   rw [List.flatMap_def, List.flatMap_def]
   congr 1
   apply List.map_congr_left
   intro p hp
   rw [e p hp]
  rw [e2]
  by_cases hc : ∀ p ∈ xs, (p.ev σ).cells.length = sz
  ·rw [if_pos hc, if_pos (e1.1 hc)]
  ·rw [if_neg hc, if_neg (fun hh => hc (e1.2 hh))]
 case sliceS x lo hi =>
  unfold asliceS
  simp only [ev_agree ha.left.left, bnd_agree ha.left.right, bnd_agree ha.right]
 case slice sz x lo hi mx =>
  unfold aslice
  simp only [ev_agree ha.left.left.left, bnd_agree ha.left.left.right, bnd_agree ha.left.right, bnd_agree ha.right]
 case sliceA sz n x lo hi =>
  simp only [ev_agree ha.left.left, bnd_agree ha.left.right, bnd_agree ha.right]
theorem foot_agree {σ τ : Slots} (h h' : Heap) (key : Nat) {op : AOp} (ha : Agree op.tmps σ τ) : foot σ h h' key op = foot τ h h' key op := by
 cases op <;> simp only [AOp.tmps] at ha <;> (try simp only [foot]) <;> first
  | rfl
  | (simp only [ev_agree ha]; done)
  | (simp only [ev_agree ha.left]; done)
  | (simp only [ev_agree ha.left.left]; done)
/-! ### What it asks of the heap, and what it turns there -/
def sets (h : Heap) : List (Nat × AE) → Heap
 | [] => h
 | p :: ps => sets (h.set p.1 p.2) ps
open Classical in
noncomputable def req (σ : Slots) (key : Nat) : AOp → List Nat × (List (Option AE) → Option (AV × List (Nat × AE)))
 | .alloc zs => ([], fun _ => some (.ptr key 0, [(key, .cells zs)]))
 | .box n x => ([], fun _ => if (x.ev σ).cells.length = n then some (.ptr key 0, [(key, .cells (x.ev σ).cells)]) else none)
 | .bsliceM sz parts => ([], fun _ => if ∀ p ∈ parts, (p.ev σ).cells.length = sz then some (.sl sz key 0 parts.length parts.length, [(key, .cells (parts.flatMap fun p => (p.ev σ).cells))]) else none)
 | .bsliceG sz parts => ([], fun _ => if ∀ p ∈ parts, (p.ev σ).cells.length = sz then some (.gl sz key parts.length, [(key, .grow sz (parts.flatMap fun p => (p.ev σ).cells))]) else none)
 | .load sz x =>
  match x.ev σ with
  | .ptr b o => ([b], fun l => match l with | [some (.cells cs)] => (loadA sz cs o).map (·, []) | [some (.grow _ cs)] => (loadA sz cs o).map (·, []) | _ => none)
  | .eptr cs => ([], fun _ => (loadA sz cs 0).map (·, []))
  | _ => ([], fun _ => none)
 | .store sz a x =>
  match a.ev σ with
  | .ptr b o => ([b], fun l => match l with
   | [some (.cells cs)] => if (x.ev σ).cells.length = sz ∧ o + sz ≤ cs.length then some (.junk, [(b, .cells (cs.take o ++ (x.ev σ).cells ++ cs.drop (o + sz)))]) else none
   | [some (.grow s cs)] => if (x.ev σ).cells.length = sz ∧ o + sz ≤ cs.length then some (.junk, [(b, .grow s (cs.take o ++ (x.ev σ).cells ++ cs.drop (o + sz)))]) else none
   | _ => none)
  | _ => ([], fun _ => none)
 | .cvStrBytes e x => ([], fun _ => match x.ev σ with | .str l => some (.list 1 (ofBytes l) (.tok key), [(key, .tok 1 l.length e)]) | _ => none)
 | .cvStrBytesM x => ([], fun _ => match x.ev σ with | .str l => some (.gl 1 key l.length, [(key, .grow 1 (ofBytes l))]) | _ => none)
 | .cvMark x =>
  match x.ev σ with
  | .list sz xs (.tok t) => ([t], fun l => match l with | [some (.tok _ _ _)] => some (.list sz xs (.tok t), []) | _ => none)
  | _ => ([], fun _ => none)
 | .cvBytesStr x =>
  match x.ev σ with
  | .list s xs _ => ([], fun _ => if s = 1 ∨ xs = [] then (asBytes xs).map fun l => (.str l, []) else none)
  | .sl s b o len _ => ([b], fun l => match l with | [some (.cells cs)] => if s = 1 ∧ o + len ≤ cs.length then (asBytes ((cs.drop o).take len)).map fun l => (.str l, []) else none | _ => none)
  | .gl s b n => ([b], fun l => match l with | [some (.grow _ cs)] => if s = 1 ∧ n ≤ cs.length then (asBytes (cs.take n)).map fun l => (.str l, []) else none | _ => none)
  | _ => ([], fun _ => none)
 | .mkslice z sz bytes e len cap => ([], fun _ =>
  match len.ev σ, cap.ev σ with
  | .int .i64 n, .int .i64 c =>
   if 0 ≤ n ∧ n ≤ c ∧ c * bytes ≤ 70368744177664 ∧ c ≤ 70368744177664 then
    if n = c then some (.list sz (List.replicate n.toNat z) .full, [])
    else some (.list sz (List.replicate n.toNat z) (.tok key), [(key, .tok sz n.toNat e)])
   else none
  | _, _ => none)
 | .mksliceM zs sz bytes len cap => ([], fun _ =>
  match len.ev σ, cap.ev σ with
  | .int .i64 n, .int .i64 c =>
   if 0 ≤ n ∧ n ≤ c ∧ c * bytes ≤ 70368744177664 ∧ c ≤ 70368744177664 then
    some (.sl sz key 0 n.toNat c.toNat, [(key, .cells (List.replicate c.toNat zs).flatten)])
   else none
  | _, _ => none)
 | .appendM sz bytes e s x =>
  match s.ev σ with
  | .list _ [] .full => ([], fun _ => match srcOf sz (x.ev σ) with | some ys => if ys ≠ [] ∧ ys.length * bytes ≤ 70368744177664 ∧ ys.length ≤ 70368744177664 then some (.gl sz key ys.length, [(key, .grow sz (ys.flatMap AV.cells))]) else none | none => none)
  | .gl s' b n => ([b], fun l =>
   match srcOf sz (x.ev σ), l with
   | some ys, [some (.grow s'' cs)] =>
    if s' = sz ∧ s'' = sz ∧ n * sz ≤ cs.length ∧ (n + ys.length) * bytes ≤ 70368744177664 ∧ n + ys.length ≤ 70368744177664 then
     some (.gl sz key (n + ys.length), [(b, .dead), (key, .grow sz (cs.take (n * sz) ++ ys.flatMap AV.cells))])
    else none
   | _, _ => none)
  | _ => ([], fun _ => none)
 | .frz sz e x =>
  match x.ev σ with
  | .list s xs r => ([], fun _ => some (.list s xs r, []))
  | .gl s b n => ([b], fun l => match l with
   | [some (.grow s' cs)] => if s = sz ∧ s' = sz ∧ 1 < sz ∧ n * sz ≤ cs.length then some (.list sz (elems true sz cs n) (.tok key), [(b, .dead), (key, .tok sz n e)]) else none
   | _ => none)
  | _ => ([], fun _ => none)
 | .sliceT sz x lo =>
  match x.ev σ with
  | .list s xs r =>
   match bnd σ (some lo) xs.length 0 with
   | some l =>
    if s = sz then
     match r with
     | .tok t => ([t], fun q => match q with
      | [some (.tok s' n e)] => if s' = sz ∧ n = xs.length then some (.list sz (xs.drop l) (.tok key), [(t, .dead), (key, .tok sz (xs.length - l) e)]) else none
      | _ => none)
     | .full => ([], fun _ => some (.list sz (xs.drop l) .full, []))
     | .no => ([], fun _ => some (.list sz (xs.drop l) .no, []))
    else ([], fun _ => none)
   | none => ([], fun _ => none)
  | _ => ([], fun _ => none)
 | .append sz bytes e s x =>
  match s.ev σ with
  | .list s' xs r =>
   match srcOf sz (x.ev σ) with
   | some ys =>
    match r with
    | .no => ([], fun _ => if ys = [] then some (.list s' xs .no, []) else none)
    | .full => ([], fun _ => if ys = [] then some (.list s' xs .full, []) else if (s' = sz ∨ xs = []) ∧ (xs.length + ys.length) * bytes ≤ 70368744177664 ∧ xs.length + ys.length ≤ 70368744177664 then some (.list sz (xs ++ ys) (.tok key), [(key, .tok sz (xs.length + ys.length) e)]) else none)
    | .tok t => ([t], fun l => if ys = [] then some (.list s' xs (.tok t), []) else if (s' = sz ∨ xs = []) ∧ l = [some (.tok sz xs.length e)] ∧ (xs.length + ys.length) * bytes ≤ 70368744177664 ∧ xs.length + ys.length ≤ 70368744177664 then some (.list sz (xs ++ ys) (.tok key), [(t, .dead), (key, .tok sz (xs.length + ys.length) e)]) else none)
   | none => ([], fun _ => none)
  | .gl s' b n => ([b], fun l =>
   match srcOf sz (x.ev σ), l with
   | some ys, [some (.grow s'' cs)] =>
    if s' = sz ∧ s'' = sz ∧ n * sz ≤ cs.length ∧ (n + ys.length) * bytes ≤ 70368744177664 ∧ n + ys.length ≤ 70368744177664 then
     some (.gl sz key (n + ys.length), [(b, .dead), (key, .grow sz (cs.take (n * sz) ++ ys.flatMap AV.cells))])
    else none
   | _, _ => none)
  | _ => ([], fun _ => none)
 | .lenM x =>
  match x.ev σ with
  | .nilm => ([], fun _ => some (.int .i64 0, []))
  | .map b => ([b], fun l => match l with | [some (.amap es)] => some (.int .i64 es.length, []) | _ => none)
  | _ => ([], fun _ => none)
 | .mkmap => ([], fun _ => some (.map key, [(key, .amap [])]))
 | .lookup s z ok m k =>
  match m.ev σ with
  | .map b => ([b], fun l => match l with
   | [some (.amap es)] =>
    match mapFindK s (k.ev σ) es with
    | some (some (_, v)) => some (if ok then .tup [v, .bool true] else v, [])
    | some none => some (if ok then .tup [z, .bool false] else z, [])
    | none => none
   | _ => none)
  | .nilm => ([], fun _ => some (if ok then .tup [z, .bool false] else z, []))
  | _ => ([], fun _ => none)
 | .update s m k v =>
  match m.ev σ with
  | .map b => ([b], fun l => match l with
   | [some (.amap es)] =>
    match mapFindK s (k.ev σ) es with
    | some (some (i, _)) => some (.junk, [(b, .amap (es.set i (k.ev σ, v.ev σ)))])
    | some none => some (.junk, [(b, .amap (es ++ [(k.ev σ, v.ev σ)]))])
    | none => none
   | _ => none)
  | _ => ([], fun _ => none)
 | .rangeS x => ([], fun _ => match x.ev σ with | .str l => some (.it key, [(key, .siter l 0)]) | _ => none)
 | .next x =>
  match x.ev σ with
  | .it b => ([b], fun q => match q with
   | [some (.siter l p)] =>
    if p < l.length then some (.tup [.bool true, .int .i64 p, .int .i32 (Utf8.decode ⟨⟨l⟩⟩ p).1], [(b, .siter l (p + (Utf8.decode ⟨⟨l⟩⟩ p).2))])
    else some (.tup [.bool false], [])
   | _ => none)
  | _ => ([], fun _ => none)
 | .copy sz d s =>
  match d.ev σ with
  | .sl s' b o len _ => ([b], fun l =>
   match srcOf sz (s.ev σ), l with
   | some ys, [some (.cells cs)] =>
    if s' = sz ∧ o + len * sz ≤ cs.length then
     some (.int .i64 (Nat.min ys.length len : Nat), [(b, .cells (cs.take o ++ (ys.take len).flatMap AV.cells ++ cs.drop (o + (Nat.min ys.length len) * sz)))])
    else none
   | _, _ => none)
  | _ => ([], fun _ => none)
 | op => ([], fun _ => (aop (fun _ _ _ => none) σ [] key op).map fun x => (x.1, []))
def AOp.isCall : AOp → Bool
 | .call _ _ => true
 | _ => false
def back (h : Heap) (x : Option (AV × List (Nat × AE))) : Option (AV × Heap) := x.map fun p => (p.1, sets h p.2)
@[simp] theorem back_none (h : Heap) : back h none = none := rfl
@[simp] theorem back_some (h : Heap) (v : AV) (ws : List (Nat × AE)) : back h (some (v, ws)) = some (v, sets h ws) := rfl
theorem aop_req (O : CallO) (σ : Slots) (h : Heap) (key : Nat) (op : AOp) (hc : op.isCall = false) :
  aop O σ h key op = back h ((req σ key op).2 ((req σ key op).1.map fun k => h[k]?)) := by
 cases op
 case call => simp [AOp.isCall] at hc
 case alloc => rfl
 case box n x => simp only [aop, req]; split <;> rfl
 case bsliceM sz xs => simp only [aop, req]; split <;> rfl
 case bsliceG sz xs => simp only [aop, req]; split <;> rfl
 case mv x => rfl
 case nilchk x => simp only [aop, req]; split <;> rfl
 case pick c a b => simp only [aop, req]; split <;> rfl
 case build zs ps => simp only [aop, req]; split <;> rfl
 case bslice sz ps => simp only [aop, req]; split <;> rfl
 case bin op x y => simp only [aop, req]; generalize abin op _ _ = u; cases u <;> rfl
 case eq ng ag offs x y => simp only [aop, req]; generalize eqV ag offs _ _ = u; cases u <;> rfl
 case load sz x =>
  cases hu : x.ev σ <;> simp [aop, req, hu, back]
  ·rename_i b o
   rcases h[b]? with _ | e
   ·rfl
   ·cases e <;> simp [sets, Option.map_map, Function.comp_def]
  ·simp [sets, Option.map_map, Function.comp_def]
 case store sz a x =>
  cases hu : a.ev σ <;> simp [aop, req, hu, back]
  rename_i b o
  rcases h[b]? with _ | e
  ·rfl
  ·cases e <;> try rfl
   all_goals (dsimp only; split <;> rfl)
 case cvStrBytes e x => cases hu : x.ev σ <;> simp [aop, req, hu, back, sets]
 case cvStrBytesM x => cases hu : x.ev σ <;> simp [aop, req, hu, back, sets]
 case rangeS x => cases hu : x.ev σ <;> simp [aop, req, hu, back, sets]
 case cvBytesStr x =>
  cases hu : x.ev σ <;> simp [aop, req, hu, back]
  ·split
   ·rename_i xs _ _; cases asBytes xs <;> rfl
   ·rfl
  ·rename_i sz b o n c
   rcases h[b]? with _ | e
   ·rfl
   ·cases e <;> try rfl
    dsimp only
    split
    ·cases asBytes _ <;> rfl
    ·rfl
  ·rename_i sz b n
   rcases h[b]? with _ | e
   ·rfl
   ·cases e <;> try rfl
    dsimp only
    split
    ·cases asBytes _ <;> rfl
    ·rfl
 case cvMark x =>
  cases hu : x.ev σ <;> simp [aop, req, hu, back]
  rename_i sz xs r
  cases r <;> simp
  rename_i t
  rcases h[t]? with _ | e
  ·rfl
  ·cases e <;> rfl
 case mkslice z sz bytes e len cap =>
  simp only [aop, req, List.map_nil]
  generalize len.ev σ = a1
  generalize cap.ev σ = a2
  cases a1 <;> try rfl
  rename_i k1 n
  cases a2 <;> (try (cases k1 <;> rfl; done))
  rename_i k2 c
  cases k1 <;> (try rfl) <;> cases k2 <;> (try rfl)
  dsimp only
  split
  ·split <;> rfl
  ·rfl
 case mksliceM zs sz bytes len cap =>
  simp only [aop, req, List.map_nil]
  generalize len.ev σ = a1
  generalize cap.ev σ = a2
  cases a1 <;> try rfl
  rename_i k1 n
  cases a2 <;> (try (cases k1 <;> rfl; done))
  rename_i k2 c
  cases k1 <;> (try rfl) <;> cases k2 <;> (try rfl)
  dsimp only
  split <;> rfl
 case sliceS x lo hi => simp only [aop, req, List.map_nil]; cases asliceS σ (x.ev σ) lo hi <;> rfl
 case slice sz x lo hi mx => simp only [aop, req, List.map_nil]; cases aslice σ sz (x.ev σ) lo hi mx <;> rfl
 case sliceA sz n x lo hi =>
  simp only [aop, req, List.map_nil]
  split
  ·split
   ·split <;> rfl
   ·rfl
  ·rfl
 case field o sz x =>
  simp only [aop, req, List.map_nil]
  split
  ·cases loadA sz _ o <;> rfl
  ·rfl
 case indexA sz esz n x i =>
  simp only [aop, req, List.map_nil]
  split
  ·split
   ·cases loadA sz _ _ <;> rfl
   ·rfl
  ·rfl
 case ext x i =>
  simp only [aop, req, List.map_nil]
  split
  ·rename_i vs _; cases vs[i]? <;> rfl
  ·rfl
 case lenM x =>
  cases hu : x.ev σ <;> simp [aop, req, hu, back, sets]
  rename_i b
  rcases h[b]? with _ | e
  ·rfl
  ·cases e <;> rfl
 case lookup s z ok m k =>
  cases hu : m.ev σ <;> simp [aop, req, hu, back, sets]
  rename_i b
  rcases h[b]? with _ | e
  ·rfl
  ·cases e <;> try rfl
   dsimp only
   rcases mapFindK s (k.ev σ) _ with _ | (_ | ⟨i, v⟩) <;> rfl
 case update s m k v =>
  cases hu : m.ev σ <;> simp [aop, req, hu, back]
  rename_i b
  rcases h[b]? with _ | e
  ·rfl
  ·cases e <;> try rfl
   dsimp only
   rcases mapFindK s (k.ev σ) _ with _ | (_ | ⟨i, v⟩) <;> rfl
 case next x =>
  cases hu : x.ev σ <;> simp [aop, req, hu, back]
  rename_i b
  rcases h[b]? with _ | e
  ·rfl
  ·cases e <;> try rfl
   dsimp only
   split <;> rfl
 case copy sz d s =>
  cases hu : d.ev σ <;> simp [aop, req, hu, back]
  rename_i s' b o n c
  rcases srcOf sz (s.ev σ) with _ | ys
  ·rfl
  ·rcases h[b]? with _ | e
   ·rfl
   ·cases e <;> try rfl
    dsimp only
    split <;> rfl
 case appendM sz bytes e s x =>
  simp only [aop, req]
  cases hu : s.ev σ <;> (try rfl)
  ·rename_i s' xs r
   cases xs with
   | nil =>
    cases r with
    | full =>
     simp only [appM, back, List.map_nil]
     rcases srcOf sz (x.ev σ) with _ | ys
     ·rfl
     ·dsimp only
      split <;> rfl
    | _ => rfl
   | cons y l => rfl
  ·rename_i s' b n
   simp only [appM, appA, back]
   rcases srcOf sz (x.ev σ) with _ | ys
   ·rfl
   ·simp only [List.map_cons, List.map_nil]
    rcases h[b]? with _ | e
    ·rfl
    ·cases e <;> try rfl
     dsimp only
     split <;> rfl
 case frz sz e x =>
  simp only [aop, req]
  cases hu : x.ev σ <;> (try rfl)
  rename_i s b n
  simp only [frzA, back, List.map_cons, List.map_nil]
  rcases h[b]? with _ | e
  ·rfl
  ·cases e <;> try rfl
   dsimp only
   split <;> rfl
 case sliceT sz x lo =>
  simp only [aop, req]
  cases hu : x.ev σ <;> (try rfl)
  rename_i s xs r
  simp only [sliceTA, back]
  rcases bnd σ (some lo) xs.length 0 with _ | l
  ·rfl
  ·dsimp only
   by_cases hs : s = sz
   ·simp only [hs, if_true]
    cases r with
    | no => rfl
    | full => rfl
    | tok t =>
     simp only [List.map_cons, List.map_nil]
     rcases h[t]? with _ | e
     ·rfl
     ·cases e <;> try rfl
      dsimp only
      split <;> rfl
   ·simp only [hs, if_false]
    rfl
 case append sz bytes e s x =>
  simp only [aop, req]
  cases hu : s.ev σ <;> simp [appA, back]
  ·rename_i s' xs r
   rcases srcOf sz (x.ev σ) with _ | ys
   ·rfl
   ·cases r with
    | no =>
     by_cases hy : ys = [] <;> simp [hy, own, sets]
    | full =>
     by_cases hy : ys = [] <;> simp [hy, own, sets, kill]
    | tok t =>
     by_cases hy : ys = [] <;> simp [hy, own, sets, kill]
     have e1 : (List.map (fun k => h[k]?) [t] = [some (AE.tok sz xs.length e)]) = (h[t]? = some (AE.tok sz xs.length e)) := by simp
     by_cases hc2 : h[t]? = some (AE.tok sz xs.length e)
     ·simp only [e1, hc2]
     ·simp only [e1, hc2, false_and, and_false, if_false]
  ·rename_i s' b n
   rcases srcOf sz (x.ev σ) with _ | ys
   ·rfl
   ·rcases h[b]? with _ | e
    ·rfl
    ·cases e <;> try rfl
     dsimp only
     split <;> rfl
 all_goals (simp only [aop, req, List.map_nil]; first
  | rfl
  | (split <;> rfl; done)
  | (split <;> (try split) <;> rfl; done)
  | (split <;> (try split) <;> (try split) <;> rfl; done))
end Go.Am
/-
 Maps: new ones, reading, writing, how many.
-/
namespace Go.Am
open Go Go.RowKit
section
variable {P : Program} {B : Nat} {w0 : World} {E : Env} {h : Heap} {a : Act} {w : World} {σ : Slots} {O : CallO} {v : AV} {h' : Heap} {key : Nat} {o : Oper}
theorem keyU_spec {t : TypeId} {s : Bool} (h : keyU P t = some s) : ∃ d, P.underlying t = some d ∧ ((s = true ∧ d = .string) ∨ (s = false ∧ ∃ k, d = .int k)) := by
 unfold keyU at h
 split at h
 ·rename_i k hu; cases h; exact ⟨_, hu, .inr ⟨rfl, k, rfl⟩⟩
 ·rename_i hu; cases h; exact ⟨_, hu, .inl ⟨rfl, rfl⟩⟩
 ·cases h
theorem bytes_beq_am (a b : List UInt8) : ((⟨⟨a⟩⟩ : ByteArray) == ⟨⟨b⟩⟩) = (a == b) := by
 show ((⟨a⟩ : Array UInt8) == ⟨b⟩) = (a == b)
 simp
theorem key_now {s : Bool} {d : TypeDesc} (hd : (s = true ∧ d = .string) ∨ (s = false ∧ ∃ k, d = .int k)) {u v : Value} {x y : AV} {b : Bool} (hx : Rd E u x) (hy : Rd E v y) (hk : keyOk s x = true) (he : keyEq x y = some b) : Instr.sameNow d u v = some b := by
 cases x <;> simp only [keyOk] at hk <;> try (cases hk; done)
 ·rename_i k n
  cases hx
  cases y <;> simp only [keyEq] at he <;> try (cases he; done)
  rename_i k' n'
  cases hy
  rcases hd with ⟨rfl, rfl⟩ | ⟨rfl, q, rfl⟩
  ·cases hk
  ·split at he
   ·rename_i e
    subst e
    simpa [Instr.sameNow] using he
   ·cases he
 ·rename_i l
  cases hx
  cases y <;> simp only [keyEq] at he <;> try (cases he; done)
  rename_i l'
  cases hy
  rcases hd with ⟨rfl, rfl⟩ | ⟨rfl, q, rfl⟩
  ·simp only [Instr.sameNow, bytes_beq_am]
   exact he
  ·cases hk
def RdEs (E : Env) (ms : List MapEntry) (es : List (AV × AV)) : Prop := ms.length = es.length ∧ ∀ (i : Nat) (m : MapEntry) (e : AV × AV), ms[i]? = some m → es[i]? = some e → Rd E m.key e.1 ∧ Rd E m.val e.2
theorem RdEs.cons {m : MapEntry} {e : AV × AV} {ms : List MapEntry} {es : List (AV × AV)} (h : RdEs E (m :: ms) (e :: es)) : Rd E m.key e.1 ∧ Rd E m.val e.2 ∧ RdEs E ms es :=
 ⟨(h.2 0 m e rfl rfl).1, (h.2 0 m e rfl rfl).2, by simpa using h.1, fun i m' e' h1 h2 => h.2 (i + 1) m' e' (by simpa using h1) (by simpa using h2)⟩
theorem find_now {s : Bool} {d : TypeDesc} (hd : (s = true ∧ d = .string) ∨ (s = false ∧ ∃ k, d = .int k)) {u : Value} {x : AV} (hx : Rd E u x) (hk : keyOk s x = true) : ∀ (es : List (AV × AV)) (ms : List MapEntry) (i : Nat) (r : Option (Nat × AV)), RdEs E ms es → mapFind x es i = some r →
  match r with
  | none => Instr.findNow d u ms i = some none
  | some (j, y) => ∃ v, Instr.findNow d u ms i = some (some (j, v)) ∧ Rd E v y ∧ i ≤ j ∧ j - i < es.length ∧ ∃ e, es[j - i]? = some e ∧ keyEq x e.1 = some true
 | [], [], i, r, _, h => by simp only [mapFind, Option.some.injEq] at h; subst h; rfl
 | [], m :: ms, i, r, hl, _ => by simp [RdEs] at hl
 | e :: es, [], i, r, hl, _ => by simp [RdEs] at hl
 | e :: es, m :: ms, i, r, hl, h => by
  obtain ⟨h1, h2, h3⟩ := hl.cons
  simp only [mapFind] at h
  split at h
  ·rename_i he
   have := key_now hd hx h1 hk he
   injection h with h
   subst h
   exact ⟨m.val, by simp [Instr.findNow, this], h2, Nat.le_refl _, by simp, e, by simp, he⟩
  ·rename_i he
   have := key_now hd hx h1 hk he
   have ih := find_now hd hx hk es ms (i + 1) r h3 h
   match r, ih with
   | none, ih => simp [Instr.findNow, this]; exact ih
   | some (j, y), ih =>
    obtain ⟨v, k1, k2, k3, k4, q, k5, k6⟩ := ih
    refine ⟨v, by simp [Instr.findNow, this, k1], k2, by omega, by simp; omega, q, ?_, k6⟩
    rw [show j - i = (j - (i + 1)) + 1 by omega]
    simpa using k5
  ·cases h
theorem find_nowK {s : Bool} {d : TypeDesc} (hd : (s = true ∧ d = .string) ∨ (s = false ∧ ∃ k, d = .int k)) {u : Value} {x : AV} (hx : Rd E u x) {es : List (AV × AV)} {ms : List MapEntry} {r : Option (Nat × AV)} (hl : RdEs E ms es) (h : mapFindK s x es = some r) :
  keyOk s x = true ∧ match r with
  | none => Instr.findNow d u ms 0 = some none
  | some (j, y) => ∃ v, Instr.findNow d u ms 0 = some (some (j, v)) ∧ Rd E v y ∧ j < es.length ∧ ∃ e, es[j]? = some e ∧ keyEq x e.1 = some true := by
 unfold mapFindK at h
 split at h
 ·rename_i hk
  refine ⟨hk, ?_⟩
  have := find_now hd hx hk es ms 0 r hl h
  match r, this with
  | none, this => exact this
  | some (j, y), this =>
   obtain ⟨v, k1, k2, _, k3, e, k4, k5⟩ := this
   exact ⟨v, k1, k2, k3, e, k4, k5⟩
 ·cases h
theorem run_checkKey_am {kt : TypeId} {s : Bool} {d : TypeDesc} (hu : P.underlying kt = some d) (hd : (s = true ∧ d = .string) ∨ (s = false ∧ ∃ k, d = .int k)) (u : Value) (e : Bool) (n : Nat) : (Instr.checkKey e (n + 1) kt u).run P w = .ok () w := by
 unfold Instr.checkKey
 simp only [Sem.run_bind, run_underlying hu, Result.andThen]
 rcases hd with ⟨_, rfl⟩ | ⟨_, k, rfl⟩ <;> rfl
theorem run_findKey_am {kt : TypeId} {d : TypeDesc} {k : Value} {l : List MapEntry} {a : Option (Nat × Value)} (hd : P.underlying kt = some d) (h : Instr.findNow d k l 0 = some a) : (Instr.findKey kt k l).run P w = .ok a w := by
 simp [Instr.findKey, run_underlying hd, Result.andThen, h]
theorem run_getObj_am {r : Nat} {es : Array MapEntry} {clock : Nat} (hb : w.heap[r]? = some (.map es clock)) : (getObj r).run P w = .ok (.map es clock) w := by
 simp [getObj, Sem.run, hb]
theorem run_setObj_am {r : Nat} {es : Array MapEntry} {clock : Nat} (o : Obj) (hb : w.heap[r]? = some (.map es clock)) : (setObj r o).run P w = .ok () { w with heap := w.heap.setIfInBounds r o } := by
 simp [setObj, Sem.run, hb]
theorem zeroVal_sound {t : TypeId} {z : AV} (hv : zeroV P t = some z) (hsh : zeroShape P t = true) : ∃ i zv, P.info? t = some i ∧ i.zero = some zv ∧ ∀ E, Rd E zv z := by
 unfold zeroV at hv
 split at hv
 ·rename_i x y e1 e2
  injection hv with hv
  subst hv
  obtain ⟨i, zv, hi, hiz, hl, _, _⟩ := zeroA_sound (E := ⟨fun _ _ => none, fun _ => none⟩) e2
  refine ⟨i, zv, hi, hiz, fun E => ?_⟩
  obtain ⟨i', zv', hi', hiz', hl', _, hr⟩ := zeroA_sound (E := E) e2
  rw [hi] at hi'; injection hi' with hi'; subst hi'
  rw [hiz] at hiz'; injection hiz' with hiz'; subst hiz'
  have hs : zv.cells = #[zv] := by
   unfold zeroShape at hsh
   rw [hi] at hsh
   simp only [Option.bind_some, hiz, e1] at hsh
   cases zv <;> first | rfl | (simp at hsh; done)
  exact hr.2 0 zv y (by rw [hs]; rfl) rfl
 ·rename_i n as e1 e2
  split at hv
  ·injection hv with hv
   subst hv
   obtain ⟨i, zv, hi, hiz, hl, _, _⟩ := zeroA_sound (E := ⟨fun _ _ => none, fun _ => none⟩) e2
   refine ⟨i, zv, hi, hiz, fun E => ?_⟩
   obtain ⟨i', zv', hi', hiz', hl', _, hr⟩ := zeroA_sound (E := E) e2
   rw [hi] at hi'; injection hi' with hi'; subst hi'
   rw [hiz] at hiz'; injection hiz' with hiz'; subst hiz'
   unfold zeroShape at hsh
   rw [hi] at hsh
   simp only [Option.bind_some, hiz, e1] at hsh
   cases zv with
   | agg cs => exact .agg cs as hl' hr.1 hr.2
   | _ => simp at hsh
  ·cases hv
 ·cases hv
theorem mkmap_sound {t : TypeId} (ho : o.op = .makeMap t none) (r : Rel B w0 E h w) (hk : h[key]? = some .dead) (hfree : E.ρ key = none) (hex : aop O σ h key .mkmap = some (v, h')) : Out P B w0 E h' key a o w v := by
 simp only [aop, Option.some.injEq, Prod.mk.injEq] at hex
 obtain ⟨rfl, rfl⟩ := hex
 have hrun : (Instr.makeMap t none).run P w = .ok (.map (some w.heap.size)) (w.alloc (.map #[] 0)) := by
  simp [Instr.makeMap]
 have r1 : Rel B w0 E h (w.alloc (.map #[] 0)) := r.world ((Below.refl _ _).alloc (Nat.le_refl _) _)
 obtain ⟨h1, h2⟩ := r1.enter key hk hfree w.heap.size 0 (.amap []) E.C (fun _ _ _ h => h) r1.prot
  (fun b e' he hd g' c' hρ => by
   obtain ⟨g1, c1, k1, k2⟩ := r.live b e' he hd
   rw [hρ] at k1; injection k1 with k1; injection k1 with k1 _; subst k1
   exact ⟨Nat.ne_of_lt (k2.lt hd).1, fun _ => rfl⟩)
  (by exact ⟨r.bsz, #[], 0, heap_alloc_obj w _, rfl, fun i m e hm => by simp at hm⟩)
 refine ⟨_, _, _, .inl ?_, h1, fun b hb => by dsimp only; rw [if_neg hb], h2, .map key w.heap.size 0 (by simp)⟩
 unfold execOp; rw [ho]
 exact run_v hrun
theorem amap_at (r : Rel B w0 E h w) {b g c : Nat} {es : List (AV × AV)} (hρ : E.ρ b = some (g, c)) (hb : h[b]? = some (.amap es)) : B ≤ g ∧ ∃ mes clock, w.heap[g]? = some (.map mes clock) ∧ RdEs E mes.toList es := by
 obtain ⟨g1, c1, q1, q2⟩ := r.live b _ hb (by simp)
 rw [hρ] at q1
 injection q1 with q1; injection q1 with q1 q1'; subst q1; subst q1'
 obtain ⟨hB, mes, clock, h1, h2, h3⟩ := q2
 exact ⟨hB, mes, clock, h1, by simpa using h2, fun i m e hm he => h3 i m e (by simpa using hm) he⟩
theorem lookup_sound {t kt et : TypeId} {m k : Operand} {ok s : Bool} {x y : AX} {z : AV} (ho : o.op = .lookup t m k ok) (hu : P.underlying t = some (.map kt et)) (hz : zeroV P et = some z) (hsh : zeroShape P et = true) (hm : cx P t m = some x) (hc : cx P kt k = some y) (hks : keyU P kt = some s)
  (hs : SR E a σ) (r : Rel B w0 E h w) (hex : aop O σ h key (.lookup s z ok x y) = some (v, h')) : Out P B w0 E h' key a o w v := by
 have hx := cx_sound hm hs
 have hy := cx_sound hc hs
 obtain ⟨d, hd, hds⟩ := keyU_spec hks
 obtain ⟨i, zv, hi, hiz, hzr⟩ := zeroVal_sound hz hsh
 have hzv : (zeroValue et).run P w = .ok zv w := by simp [zeroValue, typeInfo, hi, hiz]
 have fin : ∀ (u : Value) (q : AV) (b : Bool), Rd E u q → (Instr.lookup t (a.eval m) (a.eval k) ok).run P w = .ok (if ok then .tuple #[u, .bool b] else u) w → v = (if ok then .tup [q, .bool b] else q) → h = h' → Out P B w0 E h' key a o w v := by
  intro u q b hq hr e1 e2
  subst e2
  refine Out.quiet r (if ok then .tuple #[u, .bool b] else u) ?_ ?_
  ·unfold execOp; rw [ho]
   exact run_v hr
  ·rw [e1]
   cases ok with
   | true =>
    simp only [if_true]
    refine .tup _ _ rfl fun j u' z' hu' hz' => ?_
    match j with
    | 0 => simp at hu' hz'; subst hu'; subst hz'; exact hq
    | 1 => simp at hu' hz'; subst hu'; subst hz'; exact .bool _
    | j + 2 => simp at hu'
   | false => simpa using hq
 simp only [aop] at hex
 split at hex
 ·rename_i b he
  rw [he] at hx
  split at hex
  ·rename_i es hb
   generalize hv : a.eval m = av at hx
   cases hx with
   | map _ g c hρ =>
    obtain ⟨hB, mes, clock, hg, hE⟩ := amap_at r hρ hb
    split at hex
    ·rename_i j q hf
     simp only [Option.some.injEq, Prod.mk.injEq] at hex
     obtain ⟨e1, e2⟩ := hex
     obtain ⟨hko, u, k1, k2, _⟩ := find_nowK hds hy hE hf
     refine fin u q true k2 ?_ e1.symm e2
     rw [hv]
     cases ok <;> simp [Instr.lookup, run_underlying hu, run_getObj_am hg, run_checkKey_am hd hds, run_findKey_am hd k1]
    ·rename_i hf
     simp only [Option.some.injEq, Prod.mk.injEq] at hex
     obtain ⟨e1, e2⟩ := hex
     obtain ⟨hko, k1⟩ := find_nowK hds hy hE hf
     refine fin zv z false (hzr E) ?_ e1.symm e2
     rw [hv]
     cases ok <;> simp [Instr.lookup, run_underlying hu, run_getObj_am hg, run_checkKey_am hd hds, run_findKey_am hd k1, hzv]
    ·cases hex
  ·cases hex
 ·rename_i he
  rw [he] at hx
  simp only [Option.some.injEq, Prod.mk.injEq] at hex
  obtain ⟨e1, e2⟩ := hex
  refine fin zv z false (hzr E) ?_ e1.symm e2
  generalize hv : a.eval m = av at hx
  cases hx
  have k1 : Instr.findNow d (a.eval k) [] 0 = some none := rfl
  cases ok <;> simp [Instr.lookup, run_underlying hu, run_checkKey_am hd hds, run_findKey_am hd k1, hzv]
 ·cases hex
theorem sameBits_key {u v : Value} {x y : AV} {s : Bool} {n : Nat} (hx : Rd E u x) (hy : Rd E v y) (hk : keyOk s x = true) (he : keyEq x y = some true) : Instr.sameBits n v u = true := by
 cases x <;> simp only [keyOk] at hk <;> try (cases hk; done)
 ·rename_i k i
  cases hx
  cases y <;> simp only [keyEq] at he <;> try (cases he; done)
  rename_i k' i'
  cases hy
  split at he
  ·rename_i e
   subst e
   simp only [Option.some.injEq, beq_iff_eq] at he
   subst he
   simp [Instr.sameBits]
  ·cases he
 ·rename_i l
  cases hx
  cases y <;> simp only [keyEq] at he <;> try (cases he; done)
  rename_i l'
  cases hy
  simp only [Option.some.injEq, beq_iff_eq] at he
  subst he
  simp [Instr.sameBits, bytes_beq_am]
theorem update_sound {t kt et : TypeId} {m k u : Operand} {s : Bool} {x y q : AX} (ho : o.op = .mapUpdate t m k u ∨ o.op = .insert t m k u) (hu : P.underlying t = some (.map kt et)) (hm : cx P t m = some x) (hc : cx P kt k = some y) (hq : cx P et u = some q) (hks : keyU P kt = some s)
  (hs : SR E a σ) (r : Rel B w0 E h w) (hex : aop O σ h key (.update s x y q) = some (v, h')) : Out P B w0 E h' key a o w v := by
 have hx := cx_sound hm hs
 have hy := cx_sound hc hs
 have hz := cx_sound hq hs
 obtain ⟨d, hd, hds⟩ := keyU_spec hks
 have fin : ∀ (w' : World), (Instr.mapUpdate t (a.eval m) (a.eval k) (a.eval u)).run P w = .ok () w' → v = .junk → Rel B w0 E h' w' → Out P B w0 E h' key a o w v := by
  intro w' hr e1 r'
  subst e1
  refine ⟨undef, w', E, .inr ⟨?_, rfl⟩, E.le_refl, fun _ _ => rfl, r', .junk _⟩
  unfold execOp
  rcases ho with ho | ho <;> rw [ho] <;> dsimp only <;> rw [Sem.run_bind, hr] <;> rfl
 simp only [aop] at hex
 split at hex
 ·rename_i b he
  rw [he] at hx
  split at hex
  ·rename_i es hb
   generalize hv : a.eval m = av at hx fin
   cases hx with
   | map _ g c hρ =>
    obtain ⟨hB, mes, clock, hg, hE⟩ := amap_at r hρ hb
    have hlt : g < w.heap.size := (Array.getElem?_eq_some_iff.1 hg).1
    have turn : ∀ (es' : List (AV × AV)) (mes' : Array MapEntry) (clock' : Nat), RdEs E mes'.toList es' → Rel B w0 E (h.set b (.amap es')) { w with heap := w.heap.setIfInBounds g (.map mes' clock') } := by
     intro es' mes' clock' hE'
     refine r.turn b g c (.amap es) (.amap es') hb (by simp) (by simp) hρ hB (putObj_grown w g _) (fun o v hv => ?_) ⟨hB, mes', clock', by simp [hlt], by simpa using hE'.1, fun i m e hm he => hE'.2 i m e (by simpa using hm) he⟩
     have := r.prot g o v hv
     simp [World.cell?, hg] at this
    split at hex
    ·rename_i j q' hf
     simp only [Option.some.injEq, Prod.mk.injEq] at hex
     obtain ⟨rfl, rfl⟩ := hex
     obtain ⟨hko, u', k1, k2, k3, e, k4, k5⟩ := find_nowK hds hy hE hf
     have hml : mes.size = es.length := by simpa using hE.1
     obtain ⟨me, hme⟩ : ∃ me, mes[j]? = some me := ⟨_, Array.getElem?_eq_getElem (by omega)⟩
     have hmk := (hE.2 j me e (by simpa using hme) k4).1
     have hsb : Instr.sameBits 10000 me.key (a.eval k) = true := sameBits_key hy hmk hko k5
     refine fin { w with heap := w.heap.setIfInBounds g (.map (mes.modify j fun e => { e with key := a.eval k, val := a.eval u }) clock) } ?_ rfl (turn _ _ _ ⟨by simpa using hml, fun i m1 e1 hm1 he1 => ?_⟩)
     ·simp [Instr.mapUpdate, run_underlying hu, run_getObj_am hg, run_checkKey_am hd hds, run_findKey_am hd k1, Instr.keyThatStays, hme, hsb, run_setObj_am _ hg]
     ·simp only [Array.toList_modify, List.getElem?_modify] at hm1
      rw [List.getElem?_set] at he1
      by_cases hji : j = i
      ·subst hji
       have : mes.toList[j]? = some me := by simpa using hme
       simp only [this, if_true, Option.map_eq_map, Option.map_some, Option.some.injEq] at hm1
       subst hm1
       rw [if_pos rfl, if_pos (by omega)] at he1
       injection he1 with he1
       subst he1
       exact ⟨hy, hz⟩
      ·rw [if_neg hji] at he1
       simp only [hji, if_false, Option.map_id_fun', id] at hm1
       exact hE.2 i m1 e1 (by simpa using hm1) he1
    ·rename_i hf
     simp only [Option.some.injEq, Prod.mk.injEq] at hex
     obtain ⟨rfl, rfl⟩ := hex
     obtain ⟨hko, k1⟩ := find_nowK hds hy hE hf
     refine fin { w with heap := w.heap.setIfInBounds g (.map (mes.push { key := a.eval k, val := a.eval u, born := clock }) (clock + 1)) } ?_ rfl (turn _ _ _ ⟨by have := hE.1; simp at this ⊢; exact this, fun i m1 e1 hm1 he1 => ?_⟩)
     ·simp [Instr.mapUpdate, run_underlying hu, run_getObj_am hg, run_checkKey_am hd hds, run_findKey_am hd k1, run_setObj_am _ hg]
     ·have hml : mes.toList.length = es.length := hE.1
      simp only [Array.toList_push] at hm1
      rw [List.getElem?_append] at hm1 he1
      split at hm1
      ·rename_i h1
       rw [if_pos (by omega)] at he1
       exact hE.2 i m1 e1 hm1 he1
      ·rename_i h1
       rw [if_neg (by omega)] at he1
       have : i - mes.toList.length = 0 := by
        have := (List.getElem?_eq_some_iff.1 hm1).1
        simp at this
        simp
        omega
       rw [this] at hm1
       rw [← hml, this] at he1
       simp at hm1 he1
       subst hm1
       subst he1
       exact ⟨hy, hz⟩
    ·cases hex
  ·cases hex
 ·cases hex
theorem lenM_sound {c : Call} {x : Operand} {t kt et : TypeId} {y : AX} (ho : o.op = .call c) (hb : c.callee = .builtin .len) (ha : c.args = #[x]) (ht : c.argTypes = #[t]) (hu : P.underlying t = some (.map kt et)) (hc : cx P t x = some y) (hs : SR E a σ) (r : Rel B w0 E h w) (hex : aop O σ h key (.lenM y) = some (v, h')) : Out P B w0 E h' key a o w v := by
 have hx := cx_sound hc hs
 have fin : ∀ (n : Nat), (Builtin.len_ #[t] o.type #[a.eval x]).run P w = .ok (.int .i64 n) w → v = .int .i64 n → h = h' → Out P B w0 E h' key a o w v := by
  intro n h1 h2 h3
  subst h3
  rw [h2]
  refine Out.quiet r _ ?_ (.int _ _)
  rw [run_builtin ho hb, ha, ht]
  simp only [List.map_toArray, List.map_cons, List.map_nil]
  exact run_v h1
 simp only [aop] at hex
 split at hex
 ·rename_i he
  rw [he] at hx
  simp only [Option.some.injEq, Prod.mk.injEq] at hex
  obtain ⟨e1, e2⟩ := hex
  refine fin 0 ?_ (by rw [← e1]; rfl) e2
  generalize hv : a.eval x = av at hx
  cases hx
  simp [Builtin.len_, run_underlying hu, goInt]
 ·rename_i b he
  rw [he] at hx
  split at hex
  ·rename_i es hb'
   simp only [Option.some.injEq, Prod.mk.injEq] at hex
   obtain ⟨e1, e2⟩ := hex
   refine fin es.length ?_ e1.symm e2
   generalize hv : a.eval x = av at hx
   cases hx with
   | map _ g cc hρ =>
    obtain ⟨hB, mes, clock, hg, hE⟩ := amap_at r hρ hb'
    have : mes.size = es.length := by simpa using hE.1
    simp [Builtin.len_, run_underlying hu, run_getObj_am hg, goInt, this]
  ·cases hex
 ·cases hex
theorem sliceT_sound {t e : TypeId} {x lo : Operand} {y q : AX} {sz : Nat} (ho : o.op = .slice t x (some lo) none none) (hu : P.underlying t = some (.slice e)) (hsz : size? P e = some sz) (hc : cx P t x = some y) (h1 : optX P (some lo) = some (some q)) (hs : SR E a σ) (r : Rel B w0 E h w)
  (hk : h[key]? = some .dead) (hfree : E.ρ key = none) (hex : aop O σ h key (.sliceT sz y q) = some (v, h')) : Out P B w0 E h' key a o w v := by
 have hx := cx_sound hc hs
 simp only [aop, sliceTA] at hex
 split at hex
 ·rename_i s xs rt he
  rw [he] at hx
  split at hex
  ·rename_i l hb
   split at hex
   ·rename_i hss
    subst hss
    generalize hv : a.eval x = av at hx
    cases hx with
    | list A n c _ _ _ g b vs k1 k2 k3 k4 k5 k6 k7 =>
     subst k1
     obtain ⟨m', hrun, e1, _, hle⟩ := run_sliceBounds (P := P) (w := w) (lo := some lo) (hi := none) (mx := none) (hi' := none) (mx' := none) h1 rfl rfl hs (.inl rfl) (n := xs.length) (N := xs.length) (cap := c) k2 rfl rfl hb true
     obtain rfl := e1 rfl
     have hval : (execOp a.eval o).run P w = .ok (.value (.slice (if m' = l then A else A.map (·.add (l * s))) (xs.length - l) (m' - l))) w := by
      unfold execOp; rw [ho]; dsimp only; rw [hv]
      exact run_v (run_sliceAt hu hsz hrun)
     have mk : ∀ (E' : Env) (rt' : Rt), E.le E' → RtOk E' rt' (if m' = l then A else A.map (·.add (l * s))) (xs.length - l) (m' - l) → Rd E' (.slice (if m' = l then A else A.map (·.add (l * s))) (xs.length - l) (m' - l)) (.list s (xs.drop l) rt') := by
      intro E' rt' hE hrt
      refine .list _ _ _ _ _ _ g (b + l * s) (fun i j => vs (i + l) j) (by simp) (by omega) (fun hp => ?_) (fun q hq => k4 q (List.mem_of_mem_drop hq)) (fun i j hi hj => ?_) (fun i q j y' hq hy => ?_) hrt
      ·rw [if_neg (by omega), k3 (by omega)]
       simp [add_plain]
      ·have := k5 (i + l) j (by omega) hj
       rw [Nat.add_mul] at this
       rw [show b + l * s + (i * s + j) = b + (i * s + l * s + j) by omega]
       exact hE.C _ _ _ this
      ·rw [List.getElem?_drop] at hq
       rw [Nat.add_comm i l]
       exact (k6 _ q j y' hq hy).mono hE
     cases rt with
     | no =>
      simp only [Option.some.injEq, Prod.mk.injEq] at hex
      obtain ⟨rfl, rfl⟩ := hex
      exact Out.quiet r _ hval (mk E .no E.le_refl trivial)
     | full =>
      simp only [Option.some.injEq, Prod.mk.injEq] at hex
      obtain ⟨rfl, rfl⟩ := hex
      refine Out.quiet r _ hval (mk E .full E.le_refl ?_)
      have k7 : m' = xs.length := k7
      show m' - l = xs.length - l
      omega
     | tok t1 =>
      simp only at hex
      split at hex
      ·rename_i s' n e' ht
       split at hex
       ·rename_i hcond
        obtain ⟨rfl, rfl⟩ := hcond
        simp only [Option.some.injEq, Prod.mk.injEq] at hex
        obtain ⟨rfl, rfl⟩ := hex
        obtain ⟨g2, o2, rfl, hρ⟩ := k7
        obtain ⟨g3, c3, q1, q2⟩ := r.live t1 _ ht (by simp)
        rw [hρ] at q1
        injection q1 with q1; injection q1 with q1 q1'; subst q1; subst q1'
        obtain ⟨hB, o0, c0, hcap, ⟨cur, ty, fr, hcur, hsz', hnc, hf⟩, hC⟩ := q2
        obtain ⟨rfl, rfl⟩ := capE_inj hcap
        obtain ⟨o', ho', hlen, hun⟩ : ∃ o', (if m' = l then (some ⟨g2, o2, none⟩ : Option Addr) else (some ⟨g2, o2, none⟩ : Option Addr).map (·.add (l * s'))) = some ⟨g2, o', none⟩ ∧ o' + (m' - l) * s' ≤ cur.size ∧ ∀ k, o' + (xs.length - l) * s' ≤ k → k < o' + (m' - l) * s' → E.C g2 k = none := by
         by_cases hml : m' = l
         ·refine ⟨o2, by rw [if_pos hml], ?_, ?_⟩
          ·rw [hml]; simp; omega
          ·intro k h1 h2; rw [hml] at h2; simp at h2; omega
         ·refine ⟨o2 + l * s', by rw [if_neg hml]; simp [add_plain], ?_, ?_⟩
          ·have : l * s' + (m' - l) * s' = m' * s' := by rw [← Nat.add_mul]; congr 1; omega
           omega
          ·intro k h1 h2
           have e1 : l * s' + (m' - l) * s' = m' * s' := by rw [← Nat.add_mul]; congr 1; omega
           have e2 : l * s' + (xs.length - l) * s' = xs.length * s' := by rw [← Nat.add_mul]; congr 1; omega
           exact hC k (by omega) (by omega)
        have hno : ∀ b e, (h.set t1 .dead)[b]? = some e → e ≠ .dead → ∀ g' c', E.ρ b = some (g', c') → g' ≠ g2 := by
         intro b e he hd g' c' hρ'
         rw [List.getElem?_set] at he
         split at he
         ·split at he
          ·injection he with he; exact absurd he.symm hd
          ·cases he
         ·rename_i hne
          exact r.uniq b t1 e _ (fun hh => hne hh.symm) he hd ht (by simp) g' c' g2 _ hρ' hρ
        obtain ⟨hE, r2⟩ := (r.kill t1).enter key (kill_dead hk (.tok t1)) hfree g2 (capE o' (m' - l)) (.tok s' (xs.length - l) e') E.C (fun _ _ _ h => h) r.prot
         (fun b e he hd g' c' hρ' => ⟨hno b e he hd g' c' hρ', fun _ => rfl⟩)
         ⟨hB, o', m' - l, rfl, ⟨cur, ty, fr, hcur, hlen, by omega, hf⟩, hun⟩
        exact ⟨_, w, _, .inl hval, hE, fun b hb => by dsimp only; rw [if_neg hb], r2, mk _ (.tok key) hE ⟨g2, o', ho', by simp⟩⟩
       ·cases hex
      ·cases hex
   ·cases hex
  ·cases hex
 ·cases hex
theorem elems_length (agg : Bool) (sz : Nat) : ∀ (n : Nat) (cs : List AV), (elems agg sz cs n).length = n
 | 0, _ => rfl
 | n + 1, cs => by simp [elems, elems_length agg sz n]
theorem elems_one : ∀ (n : Nat) (cs : List AV) (i : Nat), i < n → i < cs.length → (elems false 1 cs n)[i]? = cs[i]?
 | 0, _, i, h, _ => by omega
 | n + 1, cs, 0, _, hl => by
  cases cs with
  | nil => simp at hl
  | cons c cs => simp [elems]
 | n + 1, cs, i + 1, h, hl => by
  simp only [elems, List.getElem?_cons_succ]
  rw [elems_one n (cs.drop 1) i (by omega) (by simp; omega), List.getElem?_drop, Nat.add_comm 1 i]
theorem elems_agg (sz : Nat) : ∀ (n : Nat) (cs : List AV) (i : Nat), i < n → (elems true sz cs n)[i]? = some (.agg ((cs.drop (i * sz)).take sz))
 | 0, _, i, h => by omega
 | n + 1, cs, 0, _ => by simp [elems]
 | n + 1, cs, i + 1, h => by
  simp only [elems, List.getElem?_cons_succ]
  rw [elems_agg sz n (cs.drop sz) i (by omega), List.drop_drop]
  congr 3
  congr 1
  rw [Nat.add_mul]; omega
theorem bsliceG_sound {t e : TypeId} {len sz : Nat} {parts : Array (Nat × Operand)} {z : List AV} {xs : List AX} (ho : o.op = .buildSlice t len parts) (hu : P.underlying t = some (.slice e)) (hz : zeroA P e = some z) (hzl : z.length = sz) (hpos : 0 < sz) (hsmall : len * sz ≤ 16777216)
  (hidx : parts.toList.map (·.1) = List.range len) (hc : cxs P e (parts.toList.map (·.2)) = some xs) (hs : SR E a σ) (r : Rel B w0 E h w) (hk : h[key]? = some .dead) (hfree : E.ρ key = none) (hex : aop O σ h key (.bsliceG sz xs) = some (v, h')) : Out P B w0 E h' key a o w v := by
 simp only [aop] at hex
 split at hex
 ·rename_i hcl
  simp only [Option.some.injEq, Prod.mk.injEq] at hex
  obtain ⟨rfl, rfl⟩ := hex
  obtain ⟨k1, k2⟩ := cxs_sound hc hs
  have hlen : (parts.toList.map (·.2)).length = len := by have := congrArg List.length hidx; simpa using this
  have hr0 : ∀ (i : Nat) (u : Value) (x : AV), ((parts.toList.map (·.2)).map a.eval)[i]? = some u → (xs.map (·.ev σ))[i]? = some x → Rd E u x := fun i u x e1 e2 => by
   rw [List.getElem?_map, Option.map_eq_some_iff] at e1 e2
   obtain ⟨p, p1, rfl⟩ := e1
   obtain ⟨q, q1, rfl⟩ := e2
   exact k2 i p q p1 q1
  have hx0 : ∀ x ∈ xs.map (·.ev σ), x.cells.length = sz := fun x hx => by
   rw [List.mem_map] at hx
   obtain ⟨q, q1, rfl⟩ := hx
   exact hcl q q1
  obtain ⟨g1, _⟩ := rowAt_flat (E := E) hpos (us := (parts.toList.map (·.2)).map a.eval) (xs := xs.map (·.ev σ)) (by simpa using k1) hr0 hx0
  obtain ⟨f1, f2⟩ := flat_cells (E := E) hpos (us := (parts.toList.map (·.2)).map a.eval) (xs := xs.map (·.ev σ)) (by simpa using k1) hr0 hx0
  have hrun := run_bslice (P := P) (w := w) hu hz hzl hpos hsmall (parts_us hidx a.eval) (by simpa using hlen) g1
  have hfm : ((xs.map (·.ev σ)).flatMap AV.cells) = xs.flatMap fun p => (p.ev σ).cells := by rw [List.flatMap_map]
  have hfl := flat_lenA (xs.map (·.ev σ)) hx0
  rw [hfm] at f1 f2 hfl
  have hxl : xs.length = len := by rw [← k1, hlen]
  rw [List.length_map, hxl] at hfl
  obtain ⟨E', h1, h2, h3, h4⟩ := enter_grow (key := key) (fr := (0, 0)) (n := len) (c := len) (sz := sz) (t := e) r hk hfree (Below.alloc (Below.refl _ _) (Nat.le_refl _) _) (heap_alloc_new _ _) (.inl rfl) (by rw [f1, hfl]) (cs := xs.flatMap fun p => (p.ev σ).cells) (by rw [f1]; exact Nat.le_refl _) (Nat.le_refl _) f2
  rw [hxl]
  exact ⟨_, _, E', .inl (by unfold execOp; rw [ho]; exact run_v hrun), h1, h2, h3, h4⟩
 ·cases hex
theorem frz_enter (r : Rel B w0 E h w) (hk : h[key]? = some .dead) (hfree : E.ρ key = none) {b g c sz n : Nat} {cs : List AV} (hb : h[b]? = some (.grow sz cs)) (hρ : E.ρ b = some (g, c)) (h1 : 1 < sz) (hn : n * sz ≤ cs.length) (hnc : n ≤ c) (e : TypeId) :
  ∃ E', E.le E' ∧ (∀ b, b ≠ key → E'.ρ b = E.ρ b) ∧ Rel B w0 E' ((h.set b .dead).set key (.tok sz n e)) w ∧ Rd E' (.slice (some ⟨g, 0, none⟩) n c) (.list sz (elems true sz cs n) (.tok key)) := by
 obtain ⟨g2, c2, q1, q2⟩ := r.live b _ hb (by simp)
 rw [hρ] at q1
 injection q1 with q1; injection q1 with q1 q1'; subst q1; subst q1'
 obtain ⟨hB, ⟨cur, t, fr, hcur, hcl, hsz, hr, hf⟩, hC⟩ := q2
 have hlen := elems_length true sz n cs
 have hrow : RowAt E (fun o => cur[o]?) sz (elems true sz cs n) := by
  have hat : ∀ (i : Nat) (x : AV), (elems true sz cs n)[i]? = some x → i < n ∧ x = .agg ((cs.drop (i * sz)).take sz) := fun i x hx => by
   have hi : i < n := by rw [← hlen]; exact (List.getElem?_eq_some_iff.1 hx).1
   rw [elems_agg sz n cs i hi] at hx
   exact ⟨hi, (Option.some.inj hx).symm⟩
  have hle : ∀ i, i < n → i * sz + sz ≤ cs.length := fun i hi => by
   have : (i + 1) * sz ≤ n * sz := Nat.mul_le_mul_right _ hi
   rw [Nat.add_mul] at this
   omega
  refine ⟨fun x hx => ?_, fun i x j y hx hy => ?_⟩
  ·obtain ⟨i, hi⟩ := List.getElem?_of_mem hx
   obtain ⟨hin, rfl⟩ := hat i x hi
   have := hle i hin
   refine ⟨by simp [AV.cells]; omega, fun y hy => hr.1 y (List.mem_of_mem_drop (List.mem_of_mem_take (by simpa [AV.cells] using hy)))⟩
  ·obtain ⟨hin, rfl⟩ := hat i x hx
   have hl := hle i hin
   have hjl : j < sz := by
    have := (List.getElem?_eq_some_iff.1 hy).1
    simp [AV.cells] at this
    omega
   have hy' : cs[i * sz + j]? = some y := by
    have hy2 : ((cs.drop (i * sz)).take sz)[j]? = some y := hy
    rw [List.getElem?_take_of_lt hjl, List.getElem?_drop] at hy2
    exact hy2
   have hlt : i * sz + j < cur.size := by omega
   exact ⟨cur[i * sz + j], by simp [hlt], hr.2 _ _ y (Array.getElem?_eq_getElem hlt) hy'⟩
 let C' : Nat → Nat → Option Value := fun g' o => if g' = g ∧ o < (elems true sz cs n).length * sz then cur[o]? else E.C g' o
 have hC1 : ∀ g' o v, E.C g' o = some v → C' g' o = some v := by
  intro g' o v hv
  show (if _ then _ else _) = _
  rw [if_neg]
  ·exact hv
  ·rintro ⟨rfl, _⟩; rw [hC] at hv; cases hv
 have hold : ∀ b' e', (h.set b .dead)[b']? = some e' → e' ≠ .dead → ∀ g' c', E.ρ b' = some (g', c') → g' ≠ g ∧ ∀ o, C' g' o = E.C g' o := by
  intro b' e' he hd g' c' hρ'
  rw [List.getElem?_set] at he
  split at he
  ·split at he
   ·injection he with he; exact absurd he.symm hd
   ·cases he
  ·rename_i hne
   have hg := r.uniq b' b e' _ (fun hh => hne hh.symm) he hd hb (by simp) g' c' g _ hρ' hρ
   exact ⟨hg, fun o => if_neg (fun hh => hg hh.1)⟩
 have hnz : (elems true sz cs n).length * sz ≤ c * sz := by rw [hlen]; exact Nat.mul_le_mul_right _ hnc
 obtain ⟨hle, h2⟩ := (r.kill b).enter key (kill_dead hk (.tok b)) hfree g (capE 0 c) (.tok sz n e) C' hC1
  (fun g' o v hv => by
   have hv' : (if g' = g ∧ o < (elems true sz cs n).length * sz then cur[o]? else E.C g' o) = some v := hv
   split at hv'
   ·rename_i hh
    obtain ⟨rfl, _⟩ := hh
    rw [cell_of_block hcur]; exact hv'
   ·exact r.prot g' o v hv')
  hold
  (by
   refine ⟨hB, 0, c, rfl, ⟨cur, t, fr, hcur, by omega, hnc, hf⟩, fun o ho _ => ?_⟩
   show (if _ then _ else _) = _
   rw [hlen, if_neg (by omega)]
   exact hC o)
 refine ⟨_, hle, fun b hb => by dsimp only; rw [if_neg hb], h2, ?_⟩
 have := rd_list (rt := .tok key) (c := c) hle (by rw [hlen]; exact hnc) hrow (fun o u ho hu => by
  show (if _ then _ else _) = _
  rw [if_pos ⟨rfl, ho⟩]
  exact hu) ⟨g, 0, rfl, by simp⟩
 rw [hlen] at this
 exact this
theorem frzOf_some {t : TypeId} {y : Option AX} {op : AOp} (h : frzOf P t y = some op) : ∃ e s a, P.underlying t = some (.slice e) ∧ y = some a ∧ op = .frz s e a := by
 unfold frzOf at h
 split at h
 ·rename_i e a hu
  split at h
  ·rename_i s hs
   injection h with h
   exact ⟨e, s, a, hu, rfl, h.symm⟩
  ·cases h
 ·cases h
theorem frz_sound {x : Operand} {y : AX} {sz : Nat} {e : TypeId} (ho : o.op = .move x ∨ o.op = .assign x) {t : TypeId} (hc : cx P t x = some y) (hs : SR E a σ) (r : Rel B w0 E h w) (hk : h[key]? = some .dead) (hfree : E.ρ key = none) (hex : aop O σ h key (.frz sz e y) = some (v, h')) : Out P B w0 E h' key a o w v := by
 have hx := cx_sound hc hs
 have hrun : (execOp a.eval o).run P w = .ok (.value (a.eval x)) w := by
  unfold execOp
  rcases ho with ho | ho <;> rw [ho] <;> rfl
 simp only [aop] at hex
 generalize y.ev σ = yv at *
 cases yv <;> simp only [frzA] at hex <;> try (cases hex; done)
 ·rename_i s xs rt
  simp only [Option.some.injEq, Prod.mk.injEq] at hex
  obtain ⟨rfl, rfl⟩ := hex
  exact Out.quiet r _ hrun hx
 ·rename_i s b n
  split at hex
  ·rename_i s' cs hb
   split at hex
   ·rename_i hcond
    obtain ⟨rfl, rfl, h1, hn⟩ := hcond
    simp only [Option.some.injEq, Prod.mk.injEq] at hex
    obtain ⟨rfl, rfl⟩ := hex
    generalize a.eval x = xv at *
    cases hx with
    | gl _ _ _ g c hρ hnc =>
     obtain ⟨E', k1, k2, k3, k4⟩ := frz_enter r hk hfree hb hρ h1 hn hnc e
     exact ⟨_, w, E', .inl hrun, k1, k2, k3, k4⟩
   ·cases hex
  ·cases hex
theorem appendM_sound {c : Call} {s x : Operand} {t u e : TypeId} {p q : AX} {i : TypeInfo} {zs : List AV} {d : TypeDesc} (ho : o.op = .call c) (hb : c.callee = .builtin .append) (ha : c.args = #[s, x]) (ht : c.argTypes = #[t, u]) (hu : P.underlying t = some (.slice e)) (hi : P.info? e = some i) (hz : zeroA P e = some zs) (hzl : zs.length = i.size) (hpos : 0 < i.size) (hposb : 0 < i.bytes)
  (hd : P.underlying u = some d) (hd' : (∃ e, d = .slice e) ∨ d = .string) (h1 : cx P t s = some p) (h2 : cx P u x = some q) (hs : SR E a σ) (r : Rel B w0 E h w) (hk : h[key]? = some .dead) (hfree : E.ρ key = none) (hex : aop O σ h key (.appendM i.size i.bytes e p q) = some (v, h')) : Out P B w0 E h' key a o w v := by
 have hss := cx_sound h1 hs
 have hx := cx_sound h2 hs
 simp only [aop, appM] at hex
 split at hex
 ·rename_i s' he
  obtain ⟨i', zv, hi', hiz, hl, hsi, _⟩ := zeroA_sound (E := E) hz
  rw [hi] at hi'
  injection hi' with hi'
  subst hi'
  have hut : (∃ e, P.underlying u = some (.slice e)) ∨ P.underlying u = some .string := by
   rcases hd' with ⟨e, rfl⟩ | rfl
   ·exact .inl ⟨e, hd⟩
   ·exact .inr hd
  rw [he] at hss
  generalize hsv : a.eval s = sv at hss
  generalize hxv : a.eval x = xv at hx
  split at hex
  ·rename_i ys hsrc
   obtain ⟨news, n1, n2, n3⟩ := src_sound hut hx hsrc r
   split at hex
   ·rename_i hcond
    obtain ⟨hnil, c3, c4⟩ := hcond
    simp only [Option.some.injEq, Prod.mk.injEq] at hex
    obtain ⟨rfl, rfl⟩ := hex
    have hyl : 0 < ys.length := by cases ys with | nil => exact absurd rfl hnil | cons _ _ => simp
    cases sv <;> try (cases hss; done)
    rename_i A n cc
    obtain ⟨olds, o1, o2, o3, o4, o5, o6⟩ := list_cells (P := P) hss r (size := i.size) (.inr rfl)
    simp only [List.length_nil] at o5
    subst o5
    have hcc : cc = 0 := by
     cases hss with
     | list _ _ _ _ _ _ g b vs k1 k2 k3 k4 k5 k6 k7 => exact k7
    subst hcc
    have hrun := run_append_realloc (P := P) (w := w) (ty := o.type) hu hi hiz (A := A) o2 n2 (by omega) (by simpa using c3) (by omega) hposb
    simp only [Nat.zero_add] at hrun
    have hgc := grownCap_ge w ys.length 0 e
    have hfl := flat_lenA ys (fun v hv => (n3.1 v hv).1)
    have hnr := n3.flat hpos
    have hol : olds.size = 0 := by simpa using o3
    have hzl2 : (Builtin.zeroCells zv.cells (grownCap w ys.length 0 e - ys.length)).size = (grownCap w ys.length 0 e - ys.length) * i.size := by simp [Builtin.zeroCells, hl, hsi]
    have hns := n1.size
    have hsz : (olds ++ news ++ Builtin.zeroCells zv.cells (grownCap w ys.length 0 e - ys.length)).size = grownCap w ys.length 0 e * i.size := by
     simp only [Array.size_append, hol, hns, hzl2, Nat.zero_add]
     rw [← Nat.add_mul]
     congr 1
     omega
    have hmulgc : ys.length * i.size ≤ grownCap w ys.length 0 e * i.size := Nat.mul_le_mul_right _ hgc
    have hrc : RdCells E (olds ++ news ++ Builtin.zeroCells zv.cells (grownCap w ys.length 0 e - ys.length)) (ys.flatMap AV.cells) := by
     refine ⟨hnr.1, fun k uu y hu' hy => ?_⟩
     have hlt : k < ys.length * i.size := by
      have := (List.getElem?_eq_some_iff.1 hy).1
      rw [hfl] at this
      exact this
     rw [Array.append_assoc, Array.getElem?_append_right (by omega), hol, Nat.sub_zero, Array.getElem?_append_left (by omega)] at hu'
     exact hnr.2 _ uu y hu' hy
    have hbw : Below w.heap.size w (w.drew.alloc (.cells (olds ++ news ++ Builtin.zeroCells zv.cells (grownCap w ys.length 0 e - ys.length)) e)) := (Below.drew (Below.refl _ _)).alloc (Nat.le_refl _) _
    obtain ⟨E', k1, k2, k3, k4⟩ := enter_grow (key := key) (fr := (0, 0)) (n := ys.length) r hk hfree hbw (heap_alloc_new _ _) (.inl rfl) hsz (cs := ys.flatMap AV.cells) (by rw [hfl, hsz]; omega) hgc hrc
    refine ⟨_, _, E', .inl ?_, k1, k2, k3, k4⟩
    rw [run_builtin ho hb, ha, ht]
    simp only [List.map_toArray, List.map_cons, List.map_nil, hsv, hxv]
    exact run_v hrun
   ·cases hex
  ·cases hex
 ·rename_i s' b n he
  exact append_sound (O := O) ho hb ha ht hu hi hz hzl hpos hposb hd hd' h1 h2 hs r hk hfree (by simp only [aop]; rw [he]; exact hex)
 ·cases hex
end
end Go.Am
/-
 Every operation that is no call: what the abstract machine computes, the model's machine does.
-/
namespace Go.Am
open Go Go.RowKit
section
variable {P : Program} {B : Nat} {w0 : World} {E : Env} {h : Heap} {a : Act} {w : World} {σ : Slots} {O : CallO} {v : AV} {h' : Heap} {key : Nat} {o : Oper} {op : AOp}
theorem arr1 {α : Type} {xs : Array α} {x : α} (h : xs.toList = [x]) : xs = #[x] := by
 cases xs; simp_all
theorem arr2 {α : Type} {xs : Array α} {x y : α} (h : xs.toList = [x, y]) : xs = #[x, y] := by
 cases xs; simp_all
theorem isU8_spec {e : TypeId} (h : isU8 P e = true) : P.underlying e = some (.int .u8) := by
 unfold isU8 at h
 split at h
 ·assumption
 ·cases h
theorem Rd.weak {v : Value} {x : AV} (k : Rd E v x) : Rd E v (weakV x) := by
 cases k with
 | list A n c sz xs r g o vs h1 h2 h3 h4 h5 h6 h7 => exact .list A n c sz xs .no g o vs h1 h2 h3 h4 h5 h6 trivial
 | junk v => exact .junk v
 | int k n => exact .int k n
 | bool b => exact .bool b
 | str l => exact .str l
 | nilp => exact .nilp
 | nili => exact .nili
 | nilf => exact .nilf
 | nilm => exact .nilm
 | iface t v a h => exact .iface t v a h
 | agg cs as h1 h2 h3 => exact .agg cs as h1 h2 h3
 | tup cs as h1 h2 => exact .tup cs as h1 h2
 | ptr b off g c h => exact .ptr b off g c h
 | sl sz b off len cap g c h1 h2 => exact .sl sz b off len cap g c h1 h2
 | gl sz b n g c h1 h2 => exact .gl sz b n g c h1 h2
 | eptr g o cs vs h1 h2 h3 => exact .eptr g o cs vs h1 h2 h3
 | fn f cs as h1 h2 => exact .fn f cs as h1 h2
 | map b g c h => exact .map b g c h
 | it b g c h => exact .it b g c h
 | yv l => exact .yv l
theorem mvW_sound {x : Operand} {y : AX} (ho : o.op = .move x ∨ o.op = .assign x) {t : TypeId} (hc : cx P t x = some y) (hs : SR E a σ) (r : Rel B w0 E h w) (hex : aop O σ h key (.mvW y) = some (v, h')) : Out P B w0 E h' key a o w v := by
 simp only [aop, Option.some.injEq, Prod.mk.injEq] at hex
 obtain ⟨rfl, rfl⟩ := hex
 rcases ho with ho | ho <;> exact Out.quiet r _ (by unfold execOp; rw [ho]; rfl) (cx_sound hc hs).weak
theorem call_sound {c : Call} {type : TypeId} (ho : o.op = .call c) (hco : compileCall P type c = some op) (hp : op.proved = true) (hcl : op.isCall = false) (hs : SR E a σ) (r : Rel B w0 E h w) (hk : op.isAlloc = true → h[key]? = some .dead ∧ E.ρ key = none) (hex : aop O σ h key op = some (v, h')) : Out P B w0 E h' key a o w v := by
 unfold compileCall at hco
 split at hco
 ·split at hco
  ·injection hco with hco; subst hco; cases hcl
  ·cases hco
 ·cases hco
 ·rename_i hb
  split at hco
  ·rename_i x t ha ht
   split at hco
   ·rename_i hu
    simp only [Option.map_eq_some_iff] at hco
    obtain ⟨y, hy, rfl⟩ := hco
    exact lenS_sound ho hb (arr1 ha) (arr1 ht) hu hy hs r hex
   ·rename_i e hu
    simp only [Option.map_eq_some_iff] at hco
    obtain ⟨y, hy, rfl⟩ := hco
    exact len_sound ho hb (arr1 ha) (arr1 ht) hu hy hs r hex
   ·rename_i kt et hu
    simp only [Option.map_eq_some_iff] at hco
    obtain ⟨y, hy, rfl⟩ := hco
    exact lenM_sound ho hb (arr1 ha) (arr1 ht) hu hy hs r hex
   ·rename_i n e hu
    injection hco with hco; subst hco
    refine mvc_sound (u := .int .i64 n) ?_ (.int _ _) r hex
    rw [run_builtin ho hb, arr1 ha, arr1 ht]
    simp only [List.map_toArray, List.map_cons, List.map_nil]
    refine run_v ?_
    simp only [Builtin.len_]
    show (underlying t >>= _ : Sem Value).run P w = _
    rw [Sem.run_bind, run_underlying hu]
    rfl
   ·rename_i t2 hu
    split at hco
    ·rename_i n e hu2
     injection hco with hco; subst hco
     refine mvc_sound (u := .int .i64 n) ?_ (.int _ _) r hex
     rw [run_builtin ho hb, arr1 ha, arr1 ht]
     simp only [List.map_toArray, List.map_cons, List.map_nil]
     refine run_v ?_
     simp only [Builtin.len_]
     show (underlying t >>= _ : Sem Value).run P w = _
     rw [Sem.run_bind, run_underlying hu]
     show (underlying t2 >>= _ : Sem Value).run P w = _
     rw [Sem.run_bind, run_underlying hu2]
     rfl
    ·cases hco
   ·cases hco
  ·cases hco
 ·rename_i hb
  split at hco
  ·rename_i x y ha
   split at hco
   ·rename_i p q hp1 hq1
    injection hco with hco; subst hco
    exact minmax_sound (b := .min) (.inl rfl) ho hb (arr2 ha) hp1 hq1 hs r hex
   ·cases hco
  ·cases hco
 ·rename_i hb
  split at hco
  ·rename_i x y ha
   split at hco
   ·rename_i p q hp1 hq1
    injection hco with hco; subst hco
    exact minmax_sound (b := .max) (.inr rfl) ho hb (arr2 ha) hp1 hq1 hs r hex
   ·cases hco
  ·cases hco
 ·rename_i hb
  split at hco
  ·rename_i s x t u ha ht
   split at hco
   ·rename_i e hu
    split at hco
    ·rename_i i z p q d hi hz h1 h2 hd
     split at hco
     ·rename_i hg
      split at hco
      ·injection hco with hco; subst hco
       exact append_sound ho hb (arr2 ha) (arr2 ht) hu hi hz hg.1 hg.2.1 hg.2.2.1 hd (.inl ⟨_, rfl⟩) h1 h2 hs r (hk rfl).1 (hk rfl).2 hex
      ·split at hco
       ·injection hco with hco; subst hco
        exact append_sound ho hb (arr2 ha) (arr2 ht) hu hi hz hg.1 hg.2.1 hg.2.2.1 hd (.inr rfl) h1 h2 hs r (hk rfl).1 (hk rfl).2 hex
       ·cases hco
      ·cases hco
     ·cases hco
    ·cases hco
   ·cases hco
  ·cases hco
 ·split at hco
  ·split at hco
   ·split at hco
    ·split at hco
     ·injection hco with hco; subst hco; cases hp
     ·split at hco
      ·injection hco with hco; subst hco; cases hp
      ·cases hco
     ·cases hco
    ·cases hco
   ·cases hco
  ·cases hco
 ·cases hco
theorem callM_sound {c : Call} {type : TypeId} {sz bytes : Nat} {e0 : TypeId} {x0 y0 : AX} (ho : o.op = .call c) (hco : compileCall P type c = some (.append sz bytes e0 x0 y0)) (hs : SR E a σ) (r : Rel B w0 E h w) (hk : h[key]? = some .dead ∧ E.ρ key = none) (hex : aop O σ h key (.appendM sz bytes e0 x0 y0) = some (v, h')) : Out P B w0 E h' key a o w v := by
 unfold compileCall at hco
 split at hco
 ·split at hco
  ·cases hco
  ·cases hco
 ·cases hco
 ·split at hco
  ·split at hco <;> first
    | (simp only [Option.map_eq_some_iff] at hco; obtain ⟨_, _, hco⟩ := hco; cases hco; done)
    | (cases hco; done)
    | (split at hco <;> cases hco; done)
  ·cases hco
 ·split at hco
  ·split at hco <;> cases hco
  ·cases hco
 ·split at hco
  ·split at hco <;> cases hco
  ·cases hco
 ·rename_i hb
  split at hco
  ·rename_i s x t u ha ht
   split at hco
   ·rename_i e hu
    split at hco
    ·rename_i i z p q d hi hz h1 h2 hd
     split at hco
     ·rename_i hg
      split at hco
      ·injection hco with hco; injection hco with e1 e2 e3 e4 e5
       subst e1; subst e2; subst e3; subst e4; subst e5
       exact appendM_sound ho hb (arr2 ha) (arr2 ht) hu hi hz hg.1 hg.2.1 hg.2.2.1 hd (.inl ⟨_, rfl⟩) h1 h2 hs r hk.1 hk.2 hex
      ·split at hco
       ·injection hco with hco; injection hco with e1 e2 e3 e4 e5
        subst e1; subst e2; subst e3; subst e4; subst e5
        exact appendM_sound ho hb (arr2 ha) (arr2 ht) hu hi hz hg.1 hg.2.1 hg.2.2.1 hd (.inr rfl) h1 h2 hs r hk.1 hk.2 hex
       ·cases hco
      ·cases hco
     ·cases hco
    ·cases hco
   ·cases hco
  ·cases hco
 ·split at hco
  ·split at hco
   ·split at hco
    ·split at hco
     ·cases hco
     ·split at hco <;> cases hco
     ·cases hco
    ·cases hco
   ·cases hco
  ·cases hco
 ·cases hco
theorem op_sound {mt : List String} (hco : compileOp P mt o = some op) (hp : op.proved = true) (hcl : op.isCall = false) (hs : SR E a σ) (r : Rel B w0 E h w) (hk : op.isAlloc = true → h[key]? = some .dead ∧ E.ρ key = none) (hex : aop O σ h key op = some (v, h')) : Out P B w0 E h' key a o w v := by
 cases hop : o.op <;> simp only [compileOp, hop] at hco <;> try (cases hco; done)
 case move x =>
  split at hco
  ·obtain ⟨e, s, y, hu, hy, rfl⟩ := frzOf_some hco
   exact frz_sound (.inl hop) hy hs r (hk rfl).1 (hk rfl).2 hex
  simp only [Option.map_eq_some_iff] at hco
  obtain ⟨y, hy, rfl⟩ := hco
  split at hex
  ·exact mvW_sound (.inl hop) hy hs r hex
  ·exact mv_sound (.inl hop) hy hs r hex
 case assign x =>
  split at hco
  ·obtain ⟨e, s, y, hu, hy, rfl⟩ := frzOf_some hco
   exact frz_sound (.inr hop) hy hs r (hk rfl).1 (hk rfl).2 hex
  simp only [Option.map_eq_some_iff] at hco
  obtain ⟨y, hy, rfl⟩ := hco
  split at hex
  ·exact mvW_sound (.inr hop) hy hs r hex
  ·exact mv_sound (.inr hop) hy hs r hex
 case nilCheck x =>
  simp only [Option.map_eq_some_iff] at hco
  obtain ⟨y, hy, rfl⟩ := hco
  exact nilchk_sound hop hy hs r hex
 case pick c x y =>
  split at hco
  ·rename_i h1 h2 h3
   injection hco with hco; subst hco
   exact pick_sound hop h1 h2 h3 hs r hex
  ·cases hco
 case alloc t =>
  simp only [Option.map_eq_some_iff] at hco
  obtain ⟨y, hy, rfl⟩ := hco
  exact alloc_sound hop hy r key (hk rfl).1 (hk rfl).2 hex
 case box t x =>
  split at hco
  ·split at hco
   ·rename_i n y hn hy hpos
    injection hco with hco; subst hco
    exact box_sound hop hpos hy hs r key (hk rfl).1 (hk rfl).2 hex
   ·cases hco
  ·cases hco
 case build t parts =>
  split at hco
  ·rename_i z fs hz hu
   split at hco
   ·rename_i hf
    simp only [Option.map_eq_some_iff] at hco
    obtain ⟨y, hy, rfl⟩ := hco
    exact build_sound hop hz (.inl ⟨_, hu, hf, hy⟩) hs r hex
   ·cases hco
  ·rename_i z n e hz hu
   split at hco
   ·rename_i s hsz
    simp only [Option.map_eq_some_iff] at hco
    obtain ⟨y, hy, rfl⟩ := hco
    exact build_sound hop hz (.inr ⟨_, _, _, hu, hsz, hy⟩) hs r hex
   ·cases hco
  ·cases hco
 case buildSlice t len parts =>
  split at hco
  ·rename_i e hu
   split at hco
   ·rename_i s z xs hsz hz hxs
    split at hco
    ·rename_i hg
     injection hco with hco; subst hco
     by_cases hm : (mt.contains o.pos && !mt.contains ("=" ++ o.pos)) = true
     ·rw [if_pos hm] at hk hex
      by_cases h10 : s = 1 ∧ xs.isEmpty = true
      ·rw [if_pos h10] at hk hex
       exact gl0_sound hop hu hz hg.2.2.2 hg.2.2.1 hg.2.1 hg.1 hxs hs r (hk rfl).1 (hk rfl).2 h10.1 h10.2 hex
      ·rw [if_neg h10] at hk hex
       by_cases hG : mt.contains ("g" ++ o.pos) = true
       ·rw [if_pos hG] at hk hex
        exact bsliceG_sound hop hu hz hg.2.2.2 hg.2.2.1 hg.2.1 hg.1 hxs hs r (hk rfl).1 (hk rfl).2 hex
       ·rw [if_neg hG] at hk hex
        exact bsliceM_sound hop hu hz hg.2.2.2 hg.2.2.1 hg.2.1 hg.1 hxs hs r (hk rfl).1 (hk rfl).2 hex
     ·rw [if_neg hm] at hk hp hcl hex
      split at hex
      ·rename_i l hl
       rw [hl] at hk
       split at hl
       ·rename_i hs1
        obtain ⟨rfl, hu8⟩ := hs1
        exact bsliceT_sound hop hu hz hg.2.2.2 hg.2.1 hg.1 hxs hl hs r (hk rfl).1 (hk rfl).2 hex
       ·cases hl
      ·exact bslice_sound hop hu hz hg.2.2.2 hg.2.2.1 hg.2.1 hg.1 hxs hs r hex
    ·cases hco
   ·cases hco
  ·cases hco
 case load t x =>
  split at hco
  ·rename_i h1 h2
   injection hco with hco; subst hco
   exact load_sound hop h1 h2 hs r key hex
  ·cases hco
 case store t p x =>
  split at hco
  ·split at hco
   ·rename_i h1 h2 h3 hpos
    injection hco with hco; subst hco
    exact store_sound hop h1 hpos h2 h3 hs r key hex
   ·cases hco
  ·cases hco
 case binOp bop t x y u =>
  split at hco
  ·rename_i p q h1 h2
   split at hco
   ·rename_i hbop
    split at hco
    ·injection hco with hco; subst hco
     exact bin_sound hop h1 h2 hs r hex
    ·rename_i hsc
     split at hco
     ·cases hco
     ·rename_i hgd
      split at hco
      ·rename_i offs hoffs
       simp only [Option.map_eq_some_iff] at hco
       obtain ⟨s, hl, rfl⟩ := hco
       refine eq_sound hop hbop (by simpa using hsc) ?_ hoffs hl h1 h2 hs r key hex
       rw [hl] at hgd
       cases hg : P.eqGuardType P.depth t
       ·exact .inl rfl
       ·rw [hg] at hgd
        refine .inr ?_
        cases s with
        | none =>
         refine ⟨rfl, ?_⟩
         cases hx : isK x
         ·exact .inr (by simpa [hx] using hgd)
         ·exact .inl rfl
        | some n => simp at hgd
      ·cases hco
   ·injection hco with hco; subst hco
    exact bin_sound hop h1 h2 hs r hex
  ·cases hco
 case unOp uop t x =>
  split at hco
  ·rename_i h1
   injection hco with hco; subst hco
   exact neg_sound hop h1 hs r hex
  ·rename_i h1
   injection hco with hco; subst hco
   exact not_sound hop h1 hs r hex
  ·cases hco
 case convert s d x =>
  split at hco
  ·rename_i sd dd y hus hud hc
   split at hco
   ·injection hco with hco; subst hco
    exact cvInt_sound hop hus hud hc hs r hex
   ·injection hco with hco; subst hco
    exact cvIntStr_sound hop hus hud hc hs r hex
   ·injection hco with hco; subst hco
    exact cvStr_sound hop hus hud hc hs r hex
   ·split at hco
    ·rename_i e hg
     simp only [Bool.and_eq_true] at hg
     injection hco with hco; subst hco
     split at hex
     ·rename_i hm
      rw [if_pos hm] at hk
      exact cvStrBytesM_sound hop hus (isU8_spec hg.1.1) hud hc hs r (hk rfl).1 (hk rfl).2 hex
     ·rename_i hm
      rw [if_neg hm] at hk
      exact cvStrBytes_sound hop hus (isU8_spec hg.1.1) hud hc hs r (hk rfl).1 (hk rfl).2 hex
    ·cases hco
   ·split at hco
    ·rename_i e1 e hg
     simp only [Bool.and_eq_true, beq_iff_eq] at hg
     obtain ⟨rfl, hg⟩ := hg
     injection hco with hco; subst hco
     exact cvMark_sound hop hud (isU8_spec hg) hc hs r hex
    ·cases hco
   ·split at hco
    ·rename_i e hg
     injection hco with hco; subst hco
     exact cvBytesStr_sound hop hus (isU8_spec hg) hud hc hs r hex
    ·cases hco
   ·cases hco
  ·cases hco
 case makeFunc f first caps =>
  split at hco
  ·rename_i g xs hf hxs
   injection hco with hco; subst hco
   exact mkfn_sound hop hf hxs hs r hex
  ·cases hco
 case makeSlice t l c =>
  split at hco
  ·rename_i e hu
   split at hco
   ·rename_i i zs z p q hi hz hzv h1 h2
    split at hco
    ·rename_i hg
     injection hco with hco; subst hco
     split at hex
     ·rename_i hm
      rw [if_pos hm] at hk
      exact mksliceM_sound hop hu hi hz hg.1 hg.2 hzv h1 h2 hs r (hk rfl).1 (hk rfl).2 hex
     ·rename_i hm
      rw [if_neg hm] at hk
      exact mkslice_sound hop hu hi hz hg.1 hg.2 hzv h1 h2 hs r (hk rfl).1 (hk rfl).2 hex
    ·cases hco
   ·cases hco
  ·cases hco
 case slice t x lo hi mx =>
  split at hco
  ·rename_i n e p l hh hu hc h1 h2 h3
   split at hco
   ·rename_i s hsz
    injection hco with hco; subst hco
    have : mx = none := by
     cases mx with
     | none => rfl
     | some m => simp [optX] at h3
    subst this
    exact sliceA_sound hop hu hsz hc h1 h2 hs r hex
   ·cases hco
  ·rename_i p l hh hu hc h1 h2 h3
   injection hco with hco; subst hco
   have : mx = none := by
    cases mx with
    | none => rfl
    | some m => simp [optX] at h3
   subst this
   exact sliceS_sound hop hu hc h1 h2 hs r hex
  ·rename_i e p l hh m hu hc h1 h2 h3
   split at hco
   ·rename_i s hsz
    split at hco
    ·rename_i hg
     have hpl : op = .slice s p l hh m → Out P B w0 E h' key a o w v := by
      intro hco
      subst hco
      refine slice_sound hop hu hsz hc h1 h2 h3 ?_ hs r hex
      cases m with
      | none => exact .inl rfl
      | some m =>
       refine .inr ?_
       cases hh with
       | none => simp at hg
       | some q => simp
     injection hco with hco
     split at hco
     ·split at hco
      ·rename_i q
       subst hco
       have e1 : hi = none := by
        cases hi with
        | none => rfl
        | some m => simp [optX] at h2
       have e2 : mx = none := by
        cases mx with
        | none => rfl
        | some m => simp [optX] at h3
       subst e1
       subst e2
       cases lo with
       | none => simp [optX] at h1
       | some lo => exact sliceT_sound hop hu hsz hc h1 hs r (hk rfl).1 (hk rfl).2 hex
      ·exact hpl hco.symm
     ·exact hpl hco.symm
    ·cases hco
   ·cases hco
  ·cases hco
 case fieldAddr t x f =>
  split at hco
  ·rename_i fs y hu hc
   split at hco
   ·rename_i fd hf
    split at hco
    ·rename_i n hn
     split at hco
     ·rename_i hpos
      injection hco with hco; subst hco
      exact off_sound hop hu hf hn hpos hc hs r hex
     ·cases hco
    ·cases hco
   ·cases hco
  ·cases hco
 case indexAddr t x i =>
  split at hco
  ·rename_i e y j hu h1 h2
   simp only [Option.map_eq_some_iff] at hco
   obtain ⟨s, hsz, rfl⟩ := hco
   exact idx_sound hop hu hsz h1 h2 hs r hex
  ·rename_i n e y j hu h1 h2
   split at hco
   ·rename_i hn
    simp only [Option.map_eq_some_iff] at hco
    obtain ⟨s, hsz, rfl⟩ := hco
    exact idxA_sound hop hu hsz hn h1 h2 hs r hex
   ·cases hco
  ·cases hco
 case field t x f =>
  split at hco
  ·rename_i fs y hu hc
   split at hco
   ·rename_i fd hf
    simp only [Option.map_eq_some_iff] at hco
    obtain ⟨s, hl, rfl⟩ := hco
    exact field_sound hop hu hf hl hc hs r hex
   ·cases hco
  ·cases hco
 case index t x i =>
  split at hco
  ·rename_i y j hu h1 h2
   injection hco with hco; subst hco
   exact indexS_sound hop hu h1 h2 hs r hex
  ·rename_i n e y j hu h1 h2
   split at hco
   ·rename_i s l hsz hl
    injection hco with hco; subst hco
    exact indexA_sound hop hu hsz hl h1 h2 hs r hex
   ·cases hco
  ·cases hco
 case makeInterface t x =>
  split at hco
  ·rename_i d hu
   split at hco
   ·cases hco
   ·rename_i hni
    simp only [Option.map_eq_some_iff] at hco
    obtain ⟨y, hy, rfl⟩ := hco
    exact mkiface_sound hop hu (fun ms e => hni ms e) hy hs r hex
  ·cases hco
 case extract x i =>
  simp only [Option.map_eq_some_iff] at hco
  obtain ⟨y, hy, rfl⟩ := hco
  exact ext_sound hop hy hs r hex
 case call c =>
  obtain ⟨op0, hco0, he⟩ := Option.map_eq_some_iff.1 hco
  by_cases hap : ∃ sz b e x y, op0 = .append sz b e x y
  ·obtain ⟨sz, b, e, x, y, rfl⟩ := hap
   simp only [markApp] at he
   split at he
   ·subst he
    exact callM_sound hop hco0 hs r (hk rfl) hex
   ·subst he
    exact call_sound hop hco0 hp hcl hs r hk hex
  ·have : op0 = op := by
    cases op0 <;> first | exact he | exact absurd ⟨_, _, _, _, _, rfl⟩ hap
   subst this
   exact call_sound hop hco0 hp hcl hs r hk hex
 case lookup t m k ok =>
  split at hco
  ·rename_i kt et hu
   split at hco
   ·rename_i z p q u hz h1 h2 h3
    split at hco
    ·rename_i hsh
     injection hco with hco; subst hco
     exact lookup_sound hop hu hz hsh h1 h2 h3 hs r hex
    ·cases hco
   ·cases hco
  ·cases hco
 case mapUpdate t m k x =>
  split at hco
  ·rename_i kt et hu
   split at hco
   ·rename_i p q z u h1 h2 h3 h4
    injection hco with hco; subst hco
    exact update_sound (.inl hop) hu h1 h2 h3 h4 hs r hex
   ·cases hco
  ·cases hco
 case insert t m k x =>
  split at hco
  ·rename_i kt et hu
   split at hco
   ·rename_i p q z u h1 h2 h3 h4
    injection hco with hco; subst hco
    exact update_sound (.inr hop) hu h1 h2 h3 h4 hs r hex
   ·cases hco
  ·cases hco
 case range t x =>
  split at hco
  ·rename_i hu
   simp only [Option.map_eq_some_iff] at hco
   obtain ⟨y, hy, rfl⟩ := hco
   exact rangeS_sound hop hu hy hs r (hk rfl).1 (hk rfl).2 hex
  ·cases hco
 case makeMap t rr =>
  cases rr with
  | some x => cases hco
  | none =>
   injection hco with hco; subst hco
   exact mkmap_sound hop r (hk rfl).1 (hk rfl).2 hex
 case next x ok =>
  cases ok <;> simp only at hco
  ·cases hco
  ·simp only [Option.map_eq_some_iff] at hco
   obtain ⟨y, hy, rfl⟩ := hco
   exact next_sound hop hy hs r hex
end
end Go.Am
/-
 Operations that don't meet change places: the same values, the same heap.
-/
namespace Go.Am
open Go
def memF : Option (List Nat) → Nat → Prop
 | none, _ => True
 | some l, k => k ∈ l
theorem meet_false {a b : Option (List Nat)} (h : meet a b = false) (k : Nat) (h1 : memF a k) (h2 : memF b k) : False := by
 unfold meet at h
 split at h
 ·simp [memF] at h1
 ·simp [memF] at h2
 ·simp only [memF] at h1 h2
  rw [List.any_eq_false] at h
  exact h k h1 (List.contains_iff_mem.2 h2)
 ·cases h
theorem meet_none_left {b : Option (List Nat)} (h : meet none b = false) : b = some [] := by
 rcases b with _ | (_ | ⟨x, l⟩) <;> first | rfl | cases h
theorem meet_none_right {b : Option (List Nat)} (h : meet b none = false) : b = some [] := by
 rcases b with _ | (_ | ⟨x, l⟩) <;> first | rfl | cases h
theorem sets_get {h : Heap} {ws : List (Nat × AE)} {k : Nat} (hn : ∀ p ∈ ws, p.1 ≠ k) : (sets h ws)[k]? = h[k]? := by
 induction ws generalizing h with
 | nil => rfl
 | cons p ws ih =>
  simp only [sets]
  rw [ih (fun q hq => hn q (List.mem_cons_of_mem _ hq)), List.getElem?_set_ne (hn p List.mem_cons_self)]
theorem sets_set {h : Heap} {ws : List (Nat × AE)} {k : Nat} {e : AE} (hn : ∀ p ∈ ws, p.1 ≠ k) : sets (h.set k e) ws = (sets h ws).set k e := by
 induction ws generalizing h with
 | nil => rfl
 | cons p ws ih =>
  simp only [sets]
  rw [← ih (fun q hq => hn q (List.mem_cons_of_mem _ hq)), List.set_comm _ _ (hn p List.mem_cons_self).symm]
theorem sets_comm {h : Heap} {ws us : List (Nat × AE)} (hn : ∀ p ∈ ws, ∀ q ∈ us, p.1 ≠ q.1) : sets (sets h ws) us = sets (sets h us) ws := by
 induction ws generalizing h with
 | nil => rfl
 | cons p ws ih =>
  simp only [sets]
  rw [ih (fun q hq => hn q (List.mem_cons_of_mem _ hq)), sets_set (fun q hq => (hn p List.mem_cons_self q hq).symm)]
theorem foot_noncall {σ : Slots} {h h' g g' : Heap} {key : Nat} {op : AOp} (hc : op.isCall = false) : foot σ h h' key op = foot σ g g' key op := by
 cases op <;> first | rfl | cases hc
theorem foot_req {σ : Slots} {h h' : Heap} {key : Nat} {op : AOp} (hc : op.isCall = false) {l : List (Option AE)} {v : AV} {ws : List (Nat × AE)} (hr : (req σ key op).2 l = some (v, ws)) :
  (∀ k ∈ (req σ key op).1, memF (foot σ h h' key op).R k) ∧ ∀ p ∈ ws, memF (foot σ h h' key op).W p.1 := by
 have kmap : ∀ {α : Type} {x : Option α} {f : α → AV}, (x.map fun a => (f a, ([] : List (Nat × AE)))) = some (v, ws) → ws = [] := by
  intro α x f hh
  cases x <;> simp_all
 have kif : ∀ {c : Prop} {d : Decidable c} {x : AV} {us : List (Nat × AE)}, (@ite _ c d (some (x, us)) none) = some (v, ws) → ws = us := by
  intro c d x us hh
  split at hh <;> simp_all
 cases op
 case call => cases hc
 case alloc zs => simp only [req, Option.some.injEq, Prod.mk.injEq] at hr; obtain ⟨-, rfl⟩ := hr; simp [req, foot, memF]
 case box n x => simp only [req] at hr; obtain rfl := kif hr; simp [req, foot, memF]
 case bsliceM sz xs => simp only [req] at hr; obtain rfl := kif hr; simp [req, foot, memF]
 case bsliceG sz xs => simp only [req] at hr; obtain rfl := kif hr; simp [req, foot, memF]
 case load sz x =>
  cases hu : x.ev σ <;> simp only [req, hu] at hr ⊢ <;> (try (cases hr; done)) <;> simp only [foot, hu, memF]
  ·split at hr
   ·obtain rfl := kmap (f := id) hr; simp
   ·obtain rfl := kmap (f := id) hr; simp
   ·cases hr
  ·obtain rfl := kmap (f := id) hr; simp
 case store sz a x =>
  cases hu : a.ev σ <;> simp only [req, hu] at hr ⊢ <;> (try (cases hr; done)) <;> simp only [foot, hu, memF]
  split at hr
  ·obtain rfl := kif hr; simp
  ·obtain rfl := kif hr; simp
  ·cases hr
 case cvStrBytes e x =>
  cases hu : x.ev σ <;> simp only [req, hu] at hr ⊢ <;> (try (cases hr; done)) <;> simp only [foot, memF]
  simp only [Option.some.injEq, Prod.mk.injEq] at hr
  obtain ⟨-, rfl⟩ := hr
  simp
 case cvStrBytesM x =>
  cases hu : x.ev σ <;> simp only [req, hu] at hr ⊢ <;> (try (cases hr; done)) <;> simp only [foot, memF]
  simp only [Option.some.injEq, Prod.mk.injEq] at hr
  obtain ⟨-, rfl⟩ := hr
  simp
 case rangeS x =>
  cases hu : x.ev σ <;> simp only [req, hu] at hr ⊢ <;> (try (cases hr; done)) <;> simp only [foot, memF]
  simp only [Option.some.injEq, Prod.mk.injEq] at hr
  obtain ⟨-, rfl⟩ := hr
  simp
 case mkmap => simp only [req, Option.some.injEq, Prod.mk.injEq] at hr; obtain ⟨-, rfl⟩ := hr; simp [req, foot, memF]
 case cvMark x =>
  cases hu : x.ev σ <;> simp only [req, hu] at hr ⊢ <;> (try (cases hr; done))
  rename_i sz xs r
  cases r <;> simp only at hr ⊢ <;> (try (cases hr; done))
  simp only [foot, hu, memF, rtKeys]
  split at hr
  ·simp only [Option.some.injEq, Prod.mk.injEq] at hr; obtain ⟨-, rfl⟩ := hr; simp
  ·cases hr
 case cvBytesStr x =>
  cases hu : x.ev σ <;> simp only [req, hu] at hr ⊢ <;> (try (cases hr; done)) <;> simp only [foot, hu, memF]
  ·split at hr
   ·obtain rfl := kmap (f := AV.str) hr; simp
   ·cases hr
  ·split at hr
   ·split at hr
    ·obtain rfl := kmap (f := AV.str) hr; simp
    ·cases hr
   ·cases hr
  ·split at hr
   ·split at hr
    ·obtain rfl := kmap (f := AV.str) hr; simp
    ·cases hr
   ·cases hr
 case mkslice z sz bytes e len cap =>
  simp only [req] at hr
  split at hr
  ·split at hr
   ·split at hr <;> simp only [Option.some.injEq, Prod.mk.injEq] at hr <;> obtain ⟨-, rfl⟩ := hr <;> simp [req, foot, memF]
   ·cases hr
  ·cases hr
 case mksliceM zs sz bytes len cap =>
  simp only [req] at hr
  split at hr
  ·obtain rfl := kif hr; simp [req, foot, memF]
  ·cases hr
 case lenM x =>
  cases hu : x.ev σ <;> simp only [req, hu] at hr ⊢ <;> (try (cases hr; done)) <;> simp only [foot, hu, memF]
  ·simp only [Option.some.injEq, Prod.mk.injEq] at hr; obtain ⟨-, rfl⟩ := hr; simp
  ·split at hr
   ·simp only [Option.some.injEq, Prod.mk.injEq] at hr; obtain ⟨-, rfl⟩ := hr; simp
   ·cases hr
 case lookup s z ok m k =>
  cases hu : m.ev σ <;> simp only [req, hu] at hr ⊢ <;> (try (cases hr; done)) <;> simp only [foot, hu, memF]
  ·simp only [Option.some.injEq, Prod.mk.injEq] at hr; obtain ⟨-, rfl⟩ := hr; simp
  ·split at hr
   ·split at hr
    ·simp only [Option.some.injEq, Prod.mk.injEq] at hr; obtain ⟨-, rfl⟩ := hr; simp
    ·simp only [Option.some.injEq, Prod.mk.injEq] at hr; obtain ⟨-, rfl⟩ := hr; simp
    ·cases hr
   ·cases hr
 case update s m k x =>
  cases hu : m.ev σ <;> simp only [req, hu] at hr ⊢ <;> (try (cases hr; done)) <;> simp only [foot, hu, memF]
  split at hr
  ·split at hr
   ·simp only [Option.some.injEq, Prod.mk.injEq] at hr; obtain ⟨-, rfl⟩ := hr; simp
   ·simp only [Option.some.injEq, Prod.mk.injEq] at hr; obtain ⟨-, rfl⟩ := hr; simp
   ·cases hr
  ·cases hr
 case next x =>
  cases hu : x.ev σ <;> simp only [req, hu] at hr ⊢ <;> (try (cases hr; done)) <;> simp only [foot, hu, memF]
  split at hr
  ·split at hr <;> simp only [Option.some.injEq, Prod.mk.injEq] at hr <;> obtain ⟨-, rfl⟩ := hr <;> simp
  ·cases hr
 case copy sz d s =>
  cases hu : d.ev σ <;> simp only [req, hu] at hr ⊢ <;> (try (cases hr; done)) <;> simp only [foot, hu, memF]
  split at hr
  ·obtain rfl := kif hr; simp
  ·cases hr
 case appendM sz bytes e s x =>
  cases hu : s.ev σ <;> simp only [req, hu] at hr ⊢ <;> (try (cases hr; done)) <;> simp only [foot, hu, memF]
  ·rename_i s' xs r
   cases xs with
   | nil =>
    cases r with
    | full =>
     simp only at hr ⊢
     split at hr
     ·obtain rfl := kif hr; simp
     ·cases hr
    | _ => cases hr
   | cons y l => cases hr
  ·split at hr
   ·obtain rfl := kif hr; simp
   ·cases hr
 case frz sz e x =>
  cases hu : x.ev σ <;> simp only [req, hu] at hr ⊢ <;> (try (cases hr; done)) <;> simp only [foot, hu, memF]
  ·simp only [Option.some.injEq, Prod.mk.injEq] at hr; obtain ⟨-, rfl⟩ := hr; simp
  ·split at hr
   ·obtain rfl := kif hr; simp
   ·cases hr
 case sliceT sz x lo =>
  cases hu : x.ev σ <;> simp only [req, hu] at hr ⊢ <;> (try (cases hr; done)) <;> simp only [foot, hu, memF]
  rename_i s xs r
  rcases hb : bnd σ (some lo) xs.length 0 with _ | l
  ·rw [hb] at hr; cases hr
  ·rw [hb] at hr
   simp only at hr ⊢
   by_cases hs : s = sz
   ·simp only [hs, if_true] at hr ⊢
    cases r with
    | no => simp only [Option.some.injEq, Prod.mk.injEq] at hr; obtain ⟨-, rfl⟩ := hr; simp
    | full => simp only [Option.some.injEq, Prod.mk.injEq] at hr; obtain ⟨-, rfl⟩ := hr; simp
    | tok t =>
     simp only at hr
     split at hr
     ·obtain rfl := kif hr; simp [rtKeys]
     ·cases hr
   ·simp only [hs, if_false] at hr
    cases hr
 case append sz bytes e s x =>
  cases hu : s.ev σ <;> simp only [req, hu] at hr ⊢ <;> (try (cases hr; done)) <;> simp only [foot, hu, memF]
  ·rename_i s' xs r
   rcases hs : srcOf sz (x.ev σ) with _ | ys
   ·rw [hs] at hr; cases hr
   ·rw [hs] at hr
    cases r with
    | no => simp only at hr; obtain rfl := kif hr; simp
    | full =>
     simp only at hr
     split at hr
     ·simp only [Option.some.injEq, Prod.mk.injEq] at hr; obtain ⟨-, rfl⟩ := hr; simp
     ·obtain rfl := kif hr; simp
    | tok t =>
     simp only at hr
     split at hr
     ·simp only [Option.some.injEq, Prod.mk.injEq] at hr; obtain ⟨-, rfl⟩ := hr; simp [rtKeys]
     ·obtain rfl := kif hr; simp [rtKeys]
  ·split at hr
   ·obtain rfl := kif hr; simp
   ·cases hr
 all_goals (
  simp only [req, Option.map_eq_some_iff, Prod.mk.injEq] at hr
  obtain ⟨_, _, _, rfl⟩ := hr
  simp [req])
theorem changed_not {h h' : Heap} {k : Nat} (hn : ¬ k ∈ changed h h') : h'[k]? = h[k]? := by
 rcases Nat.lt_or_ge k (Nat.max h.length h'.length) with hk | hk
 ·refine Classical.byContradiction fun e => hn ?_
  unfold changed
  exact List.mem_filter.2 ⟨List.mem_range.2 hk, by simpa using e⟩
 ·rw [List.getElem?_eq_none (Nat.le_trans (Nat.le_max_right _ _) hk), List.getElem?_eq_none (Nat.le_trans (Nat.le_max_left _ _) hk)]
theorem changed_nil {h h' : Heap} (hn : changed h h' = []) : h' = h := by
 apply List.ext_getElem?
 intro i
 exact changed_not (by rw [hn]; exact List.not_mem_nil)
theorem foot_call {σ : Slots} {h h' : Heap} {key : Nat} {f : AX} {xs : List AX} : (h' = h ∧ foot σ h h' key (.call f xs) = ⟨none, some [], none, sameC h h'⟩) ∨ (h' ≠ h ∧ foot σ h h' key (.call f xs) = ⟨none, some (changed h h'), none, sameC h h'⟩) := by
 by_cases e : h' = h
 ·exact .inl ⟨e, by simp [foot, e]⟩
 ·exact .inr ⟨e, by simp [foot, e]⟩
theorem changed_set {h h' : Heap} {k : Nat} (e : AE) (hk : h[k]? = some .dead) (hk' : h'[k]? = some .dead ∨ h'.length ≤ k) : changed (h.set k e) (h'.set k e) = changed h h' := by
 unfold changed
 simp only [List.length_set]
 refine List.filter_congr fun i _ => ?_
 have hlt : k < h.length := (List.getElem?_eq_some_iff.1 hk).1
 by_cases hi : i = k
 ·subst hi
  rcases hk' with hk' | hk'
  ·have hlt' : i < h'.length := (List.getElem?_eq_some_iff.1 hk').1
   rw [List.getElem?_set_self hlt', List.getElem?_set_self hlt, hk, hk']
   simp
  ·rw [List.getElem?_set_self hlt, hk, List.set_eq_of_length_le hk', List.getElem?_eq_none hk']
   simp
 ·rw [List.getElem?_set_ne (Ne.symm hi), List.getElem?_set_ne (Ne.symm hi)]
theorem cellOf_set {h : Heap} {k b o : Nat} {e : AE} (hb : b ≠ k) : cellOf (h.set k e) b o = cellOf h b o := by
 unfold cellOf
 rw [List.getElem?_set_ne (Ne.symm hb)]
theorem sameC_set {h h' : Heap} {k : Nat} (e : AE) (hk : h[k]? = some .dead) (hk' : h'[k]? = some .dead ∨ h'.length ≤ k) : sameC (h.set k e) (h'.set k e) = sameC h h' := by
 funext b o
 unfold sameC
 simp only [List.length_set, decide_eq_decide]
 by_cases hb : b = k
 ·subst hb
  have hlt : b < h.length := (List.getElem?_eq_some_iff.1 hk).1
  rcases hk' with hk' | hk'
  ·have hlt' : b < h'.length := (List.getElem?_eq_some_iff.1 hk').1
   refine and_congr_right fun _ => ?_
   unfold cellOf
   rw [List.getElem?_set_self hlt, List.getElem?_set_self hlt', hk, hk']
   simp
  ·exact ⟨fun q => absurd q.1 (by omega), fun q => absurd q.1 (by omega)⟩
 ·rw [cellOf_set hb, cellOf_set hb]
theorem foot_call_set {σ : Slots} {h h' : Heap} {key k : Nat} {f : AX} {xs : List AX} (e : AE) (hk : h[k]? = some .dead) (hk' : h'[k]? = some .dead ∨ h'.length ≤ k) : foot σ (h.set k e) (h'.set k e) key (.call f xs) = foot σ h h' key (.call f xs) := by
 have hc := changed_set e hk hk'
 have hiff : (h'.set k e = h.set k e) ↔ h' = h := by
  constructor
  ·intro q
   apply changed_nil
   rw [← hc, q]
   unfold changed
   simp
  ·intro q; rw [q]
 simp only [foot]
 rw [sameC_set e hk hk']
 by_cases hh : h' = h
 ·rw [if_pos hh, if_pos (hiff.2 hh)]
 ·rw [if_neg hh, if_neg (fun q => hh (hiff.1 q)), hc]
theorem clash_parts {a b : Foot} (h : a.clash b = false) : (a.quiet = true ∧ b.fresh = true) ∨ (a.spares b = true ∨ b.spares a = true) ∨ (meet a.W b.R = false ∧ meet a.W b.W = false ∧ meet a.R b.W = false) := by
 simp only [Foot.clash, Bool.and_eq_false_iff, Bool.not_eq_false', Bool.and_eq_true, Bool.or_eq_false_iff] at h
 rcases h with ((h | h) | h) | h
 ·exact .inl h
 ·exact .inr (.inl (.inl h))
 ·exact .inr (.inl (.inr h))
 ·exact .inr (.inr ⟨h.1.1, h.1.2, h.2⟩)
theorem spares_load {σ τ : Slots} {h h' g g' : Heap} {k1 k2 : Nat} {op1 op2 : AOp} (hs : (foot σ h h' k1 op1).spares (foot τ g g' k2 op2) = true) : ∃ x b o f xs, op1 = .load none x ∧ x.ev σ = .ptr b o ∧ op2 = .call f xs ∧ b < g'.length ∧ cellOf g b o = cellOf g' b o := by
 unfold Foot.spares at hs
 rcases e : (foot σ h h' k1 op1).L with _ | ⟨p, o⟩
 ·rw [e] at hs; cases hs
 ·rw [e] at hs
  simp only at hs
  have h1 : ∃ x, op1 = .load none x ∧ x.ev σ = .ptr p o := by
   cases op1 <;> simp only [foot] at e <;> (try (cases e; done)) <;> (try (split at e <;> cases e; done))
   rename_i sz x
   split at e
   ·rename_i b o' hx
    cases sz with
    | none =>
     simp only [Option.isNone_none, if_true, Option.some.injEq, Prod.mk.injEq] at e
     obtain ⟨rfl, rfl⟩ := e
     exact ⟨x, rfl, hx⟩
    | some n => simp at e
   ·cases e
  have h2 : ∃ f xs, op2 = .call f xs := by
   cases op2 <;> simp only [foot] at hs <;> (try (cases hs; done)) <;> (try (split at hs <;> cases hs; done))
   exact ⟨_, _, rfl⟩
  obtain ⟨x, rfl, hx⟩ := h1
  obtain ⟨f, xs, rfl⟩ := h2
  have h3 : sameC g g' p o = true := by
   rcases foot_call (σ := τ) (h := g) (h' := g') (key := k2) (f := f) (xs := xs) with ⟨_, e'⟩ | ⟨_, e'⟩ <;> rw [e'] at hs <;> exact hs
  unfold sameC at h3
  have h4 := of_decide_eq_true h3
  exact ⟨x, p, o, f, xs, rfl, hx, rfl, h4.1, h4.2⟩
theorem aop_load1 {O : CallO} {σ : Slots} {h : Heap} {k : Nat} {x : AX} {b o : Nat} (hx : x.ev σ = .ptr b o) : aop O σ h k (.load none x) = (cellOf h b o).map (·, h) := by
 simp only [aop, hx, cellOf]
 cases h[b]? with
 | none => rfl
 | some e => cases e <;> rfl
theorem noncall_R {σ : Slots} {h h' : Heap} {key : Nat} {op : AOp} (hc : op.isCall = false) (hw : (foot σ h h' key op).W.isSome = true) : (foot σ h h' key op).R ≠ none := by
 cases op <;> simp only [foot] at hw ⊢ <;> (try (split at hw)) <;> simp_all [AOp.isCall]
def FrO (O : CallO) : Prop := ∀ f a h r h' k e, O f a h = some (r, h') → h[k]? = some AE.dead → O f a (h.set k e) = some (r, h'.set k e)
theorem req_fresh {σ : Slots} {h h' : Heap} {key : Nat} {op : AOp} (hc : op.isCall = false) {l : List (Option AE)} {v : AV} {ws : List (Nat × AE)} (hf : (foot σ h h' key op).R = some []) (hr : (req σ key op).2 l = some (v, ws)) :
  ws = [] ∨ ∃ e, op.isAlloc = true ∧ ws = [(key, e)] := by
 have kmap : ∀ {α : Type} {x : Option α} {f : α → AV}, (x.map fun a => (f a, ([] : List (Nat × AE)))) = some (v, ws) → ws = [] := by
  intro α x f hh
  cases x <;> simp_all
 have kif : ∀ {c : Prop} {d : Decidable c} {x : AV} {us : List (Nat × AE)}, (@ite _ c d (some (x, us)) none) = some (v, ws) → ws = us := by
  intro c d x us hh
  split at hh <;> simp_all
 cases op
 case alloc zs => simp only [req, Option.some.injEq, Prod.mk.injEq] at hr; obtain ⟨-, rfl⟩ := hr; simp [AOp.isAlloc]
 case box n x => simp only [req] at hr; obtain rfl := kif hr; simp [AOp.isAlloc]
 case bsliceM sz xs => simp only [req] at hr; obtain rfl := kif hr; simp [AOp.isAlloc]
 case bsliceG sz xs => simp only [req] at hr; obtain rfl := kif hr; simp [AOp.isAlloc]
 case mkmap => simp only [req, Option.some.injEq, Prod.mk.injEq] at hr; obtain ⟨-, rfl⟩ := hr; simp [AOp.isAlloc]
 case cvStrBytes e x =>
  cases hu : x.ev σ <;> simp only [req, hu] at hr <;> (try (cases hr; done))
  simp only [Option.some.injEq, Prod.mk.injEq] at hr
  obtain ⟨-, rfl⟩ := hr
  simp [AOp.isAlloc]
 case cvStrBytesM x =>
  cases hu : x.ev σ <;> simp only [req, hu] at hr <;> (try (cases hr; done))
  simp only [Option.some.injEq, Prod.mk.injEq] at hr
  obtain ⟨-, rfl⟩ := hr
  simp [AOp.isAlloc]
 case rangeS x =>
  cases hu : x.ev σ <;> simp only [req, hu] at hr <;> (try (cases hr; done))
  simp only [Option.some.injEq, Prod.mk.injEq] at hr
  obtain ⟨-, rfl⟩ := hr
  simp [AOp.isAlloc]
 case mkslice z sz bytes e len cap =>
  simp only [req] at hr
  split at hr
  ·split at hr
   ·split at hr <;> simp only [Option.some.injEq, Prod.mk.injEq] at hr <;> obtain ⟨-, rfl⟩ := hr <;> simp [AOp.isAlloc]
   ·cases hr
  ·cases hr
 case mksliceM zs sz bytes len cap =>
  simp only [req] at hr
  split at hr
  ·obtain rfl := kif hr; simp [AOp.isAlloc]
  ·cases hr
 case load sz x =>
  cases hu : x.ev σ <;> simp only [req, hu] at hr <;> (try (cases hr; done))
  ·simp [foot, hu] at hf
  ·obtain rfl := kmap (f := id) hr; simp
 case store sz a x =>
  cases hu : a.ev σ <;> simp only [req, hu] at hr <;> (try (cases hr; done))
  simp [foot, hu] at hf
 case cvMark x =>
  cases hu : x.ev σ <;> simp only [req, hu] at hr <;> (try (cases hr; done))
  rename_i sz xs r
  cases r <;> simp only at hr <;> (try (cases hr; done))
  simp [foot, hu, rtKeys] at hf
 case cvBytesStr x =>
  cases hu : x.ev σ <;> simp only [req, hu] at hr <;> (try (cases hr; done))
  ·split at hr
   ·obtain rfl := kmap (f := AV.str) hr; simp
   ·cases hr
  ·simp [foot, hu] at hf
  ·simp [foot, hu] at hf
 case lenM x =>
  cases hu : x.ev σ <;> simp only [req, hu] at hr <;> (try (cases hr; done))
  ·simp only [Option.some.injEq, Prod.mk.injEq] at hr; obtain ⟨-, rfl⟩ := hr; simp
  ·simp [foot, hu] at hf
 case lookup s z ok m k =>
  cases hu : m.ev σ <;> simp only [req, hu] at hr <;> (try (cases hr; done))
  ·simp only [Option.some.injEq, Prod.mk.injEq] at hr; obtain ⟨-, rfl⟩ := hr; simp
  ·simp [foot, hu] at hf
 case update s m k x =>
  cases hu : m.ev σ <;> simp only [req, hu] at hr <;> (try (cases hr; done))
  simp [foot, hu] at hf
 case next x =>
  cases hu : x.ev σ <;> simp only [req, hu] at hr <;> (try (cases hr; done))
  simp [foot, hu] at hf
 case copy sz d s =>
  cases hu : d.ev σ <;> simp only [req, hu] at hr <;> (try (cases hr; done))
  simp [foot, hu] at hf
 case appendM sz bytes e s x =>
  cases hu : s.ev σ <;> simp only [req, hu] at hr <;> (try (cases hr; done))
  ·rename_i s' xs r
   cases xs with
   | nil =>
    cases r with
    | full =>
     simp only at hr
     split at hr
     ·obtain rfl := kif hr; simp [AOp.isAlloc]
     ·cases hr
    | _ => cases hr
   | cons y l => cases hr
  ·simp [foot, hu] at hf
 case frz sz e x =>
  cases hu : x.ev σ <;> simp only [req, hu] at hr <;> (try (cases hr; done))
  ·simp only [Option.some.injEq, Prod.mk.injEq] at hr; obtain ⟨-, rfl⟩ := hr; exact .inl rfl
  ·simp [foot, hu] at hf
 case sliceT sz x lo =>
  cases hu : x.ev σ <;> simp only [req, hu] at hr <;> (try (cases hr; done))
  rename_i s xs r
  rcases hb : bnd σ (some lo) xs.length 0 with _ | l
  ·rw [hb] at hr; cases hr
  ·rw [hb] at hr
   simp only at hr
   by_cases hs : s = sz
   ·simp only [hs, if_true] at hr
    cases r with
    | no => simp only [Option.some.injEq, Prod.mk.injEq] at hr; obtain ⟨-, rfl⟩ := hr; exact .inl rfl
    | full => simp only [Option.some.injEq, Prod.mk.injEq] at hr; obtain ⟨-, rfl⟩ := hr; exact .inl rfl
    | tok t => simp [foot, hu, rtKeys] at hf
   ·simp only [hs, if_false] at hr
    cases hr
 case append sz bytes e s x =>
  cases hu : s.ev σ <;> simp only [req, hu] at hr <;> (try (cases hr; done))
  ·rename_i s' xs r
   rcases hs : srcOf sz (x.ev σ) with _ | ys
   ·rw [hs] at hr; cases hr
   ·rw [hs] at hr
    cases r with
    | no => simp only at hr; obtain rfl := kif hr; simp
    | full =>
     simp only at hr
     split at hr
     ·simp only [Option.some.injEq, Prod.mk.injEq] at hr; obtain ⟨-, rfl⟩ := hr; simp
     ·obtain rfl := kif hr; simp [AOp.isAlloc]
    | tok t => simp [foot, hu, rtKeys] at hf
  ·simp [foot, hu] at hf
 all_goals (
  simp only [req, Option.map_eq_some_iff, Prod.mk.injEq] at hr
  obtain ⟨_, _, _, rfl⟩ := hr
  exact .inl rfl)
theorem aop_still {O : CallO} {σ : Slots} {h ha : Heap} {k : Nat} {op : AOp} {v : AV} (hc : op.isCall = false) (h1 : aop O σ h k op = some (v, ha)) (hw : (foot σ h ha k op).W = some []) : ha = h := by
 rw [aop_req O σ h k op hc] at h1
 rcases hr : (req σ k op).2 ((req σ k op).1.map fun k => h[k]?) with _ | ⟨v', ws⟩
 ·rw [hr] at h1; cases h1
 ·rw [hr] at h1
  simp only [back_some, Option.some.injEq, Prod.mk.injEq] at h1
  obtain ⟨rfl, rfl⟩ := h1
  have := (foot_req (h := h) (h' := sets h ws) hc hr).2
  rw [hw] at this
  cases ws with
  | nil => rfl
  | cons p ws => exact absurd (this p List.mem_cons_self) (by simp [memF])
theorem aop_same {O : CallO} {σ : Slots} {h ha g : Heap} {k : Nat} {op : AOp} {v : AV} (hc : op.isCall = false) (h1 : aop O σ h k op = some (v, ha)) (hw : (foot σ h ha k op).W = some []) (hg : ∀ i, memF (foot σ h ha k op).R i → g[i]? = h[i]?) : aop O σ g k op = some (v, g) := by
 rw [aop_req O σ h k op hc] at h1
 rw [aop_req O σ g k op hc]
 rcases hr : (req σ k op).2 ((req σ k op).1.map fun k => h[k]?) with _ | ⟨v', ws⟩
 ·rw [hr] at h1; cases h1
 ·rw [hr] at h1
  simp only [back_some, Option.some.injEq, Prod.mk.injEq] at h1
  obtain ⟨rfl, rfl⟩ := h1
  have := foot_req (h := h) (h' := sets h ws) hc hr
  have e2 : ws = [] := by
   cases ws with
   | nil => rfl
   | cons p ws => exact absurd (this.2 p List.mem_cons_self) (by rw [hw]; simp [memF])
  subst e2
  have e1 : ((req σ k op).1.map fun k => g[k]?) = (req σ k op).1.map fun k => h[k]? := by
   apply List.map_congr_left
   intro i hi
   exact hg i (this.1 i hi)
  rw [e1, hr]; rfl
noncomputable def O_call (O : CallO) (σ : Slots) (h : Heap) (f : AX) (xs : List AX) : Option (AV × Heap) := aop O σ h 0 (.call f xs)
theorem O_call_fr {O : CallO} (hF : FrO O) {σ : Slots} {h ha : Heap} {f : AX} {xs : List AX} {v : AV} {k : Nat} {e : AE} (h1 : O_call O σ h f xs = some (v, ha)) (hd : h[k]? = some .dead) : O_call O σ (h.set k e) f xs = some (v, ha.set k e) := by
 simp only [O_call, aop] at h1 ⊢
 split at h1
 ·exact hF _ _ _ _ _ _ _ h1 hd
 ·cases h1
theorem aop_commute (O : CallO) {σ τ : Slots} {h ha hb : Heap} {k1 k2 : Nat} {op1 op2 : AOp} {v1 v2 : AV} (h1 : aop O σ h k1 op1 = some (v1, ha)) (h2 : aop O τ ha k2 op2 = some (v2, hb))
  (hF : FrO O) (hd : op2.isAlloc = true → h[k2]? = some .dead) (hn : (foot σ h ha k1 op1).clash (foot τ ha hb k2 op2) = false) :
  ∃ hc, aop O τ h k2 op2 = some (v2, hc) ∧ aop O σ hc k1 op1 = some (v1, hb) ∧ foot τ h hc k2 op2 = foot τ ha hb k2 op2 ∧ foot σ hc hb k1 op1 = foot σ h ha k1 op1 := by
 rcases clash_parts hn with ⟨q1, q2⟩ | hs | ⟨n1, n2, n3⟩
 ·simp only [Foot.quiet, Foot.fresh, Bool.and_eq_true, beq_iff_eq] at q1 q2
  have c2 : op2.isCall = false := by
   cases c2 : op2.isCall
   ·rfl
   ·obtain ⟨f, xs, rfl⟩ : ∃ f xs, op2 = .call f xs := by cases op2 <;> first | exact ⟨_, _, rfl⟩ | cases c2
    rcases foot_call (σ := τ) (h := ha) (h' := hb) (key := k2) (f := f) (xs := xs) with ⟨_, e⟩ | ⟨_, e⟩ <;> rw [e] at q2 <;> cases q2
  cases c1 : op1.isCall
  ·exact absurd q1.1 (noncall_R c1 q1.2)
  ·obtain ⟨f, xs, rfl⟩ : ∃ f xs, op1 = .call f xs := by cases op1 <;> first | exact ⟨_, _, rfl⟩ | cases c1
   have h2' := h2
   rw [aop_req O τ ha k2 op2 c2] at h2'
   rcases r2 : (req τ k2 op2).2 ((req τ k2 op2).1.map fun k => ha[k]?) with _ | ⟨v'', us⟩
   ·rw [r2] at h2'; cases h2'
   ·have hfr := foot_req (h := ha) (h' := hb) c2 r2
    have ereq : (req τ k2 op2).1 = [] := by
     cases e : (req τ k2 op2).1 with
     | nil => rfl
     | cons p l => exact absurd (hfr.1 p (by rw [e]; exact List.mem_cons_self)) (by rw [q2]; simp [memF])
    have all : ∀ g : Heap, aop O τ g k2 op2 = some (v'', sets g us) := by
     intro g
     rw [aop_req O τ g k2 op2 c2, ereq]
     rw [ereq] at r2
     simp only [List.map_nil] at r2 ⊢
     rw [r2]; rfl
    rw [r2] at h2'
    simp only [back_some, Option.some.injEq, Prod.mk.injEq] at h2'
    obtain ⟨rfl, rfl⟩ := h2'
    rcases req_fresh c2 q2 r2 with rfl | ⟨e, hal, rfl⟩
    ·exact ⟨h, all h, h1, foot_noncall c2, rfl⟩
    ·simp only [sets] at all ⊢
     have hdd := hd hal
     have h1' : O_call O σ h f xs = some (v1, ha) := h1
     have hset := O_call_fr hF (e := e) h1' hdd
     have hdk : ha[k2]? = some .dead ∨ ha.length ≤ k2 := by
      have hs0 := O_call_fr hF (e := .dead) h1' hdd
      have eh : h.set k2 .dead = h := by
       have hlt := (List.getElem?_eq_some_iff.1 hdd)
       apply List.ext_getElem?
       intro i
       by_cases hi : i = k2
       ·subst hi; rw [List.getElem?_set_self hlt.1, hdd]
       ·rw [List.getElem?_set_ne (Ne.symm hi)]
      rw [eh, h1'] at hs0
      simp only [Option.some.injEq, Prod.mk.injEq, true_and] at hs0
      rcases Nat.lt_or_ge k2 ha.length with hl | hl
      ·left
       rw [hs0, List.getElem?_set_self hl]
      ·exact .inr hl
     exact ⟨_, all h, hset, foot_noncall c2, foot_call_set e hdd hdk⟩
 ·rcases hs with hs | hs
  ·obtain ⟨x, b, o, f, xs, rfl, hx, rfl, hlt, hc⟩ := spares_load hs
   rw [aop_load1 hx] at h1
   rcases e1 : cellOf h b o with _ | v
   ·rw [e1] at h1; cases h1
   ·rw [e1] at h1
    simp only [Option.map_some, Option.some.injEq, Prod.mk.injEq] at h1
    obtain ⟨rfl, rfl⟩ := h1
    refine ⟨hb, h2, ?_, rfl, foot_noncall rfl⟩
    rw [aop_load1 hx, ← hc, e1]
    rfl
  ·obtain ⟨x, b, o, f, xs, rfl, hx, rfl, hlt, hc⟩ := spares_load hs
   rw [aop_load1 hx] at h2
   rcases e1 : cellOf ha b o with _ | v
   ·rw [e1] at h2; cases h2
   ·rw [e1] at h2
    simp only [Option.map_some, Option.some.injEq, Prod.mk.injEq] at h2
    obtain ⟨rfl, rfl⟩ := h2
    refine ⟨h, ?_, h1, foot_noncall rfl, rfl⟩
    rw [aop_load1 hx, hc, e1]
    rfl
 cases c1 : op1.isCall
 ·cases c2 : op2.isCall
  ·have q1 := h1
   have q2 := h2
   rw [aop_req O σ h k1 op1 c1] at h1
   rw [aop_req O τ ha k2 op2 c2] at h2
   rcases r1 : (req σ k1 op1).2 ((req σ k1 op1).1.map fun k => h[k]?) with _ | ⟨v', ws⟩
   ·rw [r1] at h1; cases h1
   ·rw [r1] at h1
    simp only [back_some, Option.some.injEq, Prod.mk.injEq] at h1
    obtain ⟨rfl, rfl⟩ := h1
    rcases r2 : (req τ k2 op2).2 ((req τ k2 op2).1.map fun k => (sets h ws)[k]?) with _ | ⟨v'', us⟩
    ·rw [r2] at h2; cases h2
    ·rw [r2] at h2
     simp only [back_some, Option.some.injEq, Prod.mk.injEq] at h2
     obtain ⟨rfl, rfl⟩ := h2
     have f1 := foot_req (h := h) (h' := sets h ws) c1 r1
     have f2 := foot_req (h := sets h ws) (h' := sets (sets h ws) us) c2 r2
     have e2 : ((req τ k2 op2).1.map fun k => (sets h ws)[k]?) = (req τ k2 op2).1.map fun k => h[k]? := by
      apply List.map_congr_left
      intro k hk
      exact sets_get fun p hp e => meet_false n1 k (by rw [← e]; exact f1.2 p hp) (f2.1 k hk)
     rw [e2] at r2
     have e1 : ((req σ k1 op1).1.map fun k => (sets h us)[k]?) = (req σ k1 op1).1.map fun k => h[k]? := by
      apply List.map_congr_left
      intro k hk
      exact sets_get fun p hp e => meet_false n3 k (f1.1 k hk) (by rw [← e]; exact f2.2 p hp)
     refine ⟨sets h us, ?_, ?_, foot_noncall c2, foot_noncall c1⟩
     ·rw [aop_req O τ h k2 op2 c2, r2]; rfl
     ·rw [aop_req O σ _ k1 op1 c1, e1, r1]
      simp only [back_some]
      rw [sets_comm fun p hp q hq e => meet_false n2 q.1 (by rw [← e]; exact f1.2 p hp) (f2.2 q hq)]
  ·obtain ⟨f, xs, rfl⟩ : ∃ f xs, op2 = .call f xs := by cases op2 <;> first | exact ⟨_, _, rfl⟩ | cases c2
   rcases foot_call (σ := τ) (h := ha) (h' := hb) (key := k2) (f := f) (xs := xs) with ⟨rfl, e⟩ | ⟨hne, e⟩
   ·rw [e] at n1 n2 n3
    have hw := meet_none_right n1
    obtain rfl := aop_still c1 h1 hw
    exact ⟨hb, h2, h1, rfl, rfl⟩
   ·rw [e] at n1 n2 n3
    have hw := meet_none_right n1
    obtain rfl := aop_still c1 h1 hw
    refine ⟨hb, h2, aop_same c1 h1 hw fun i hi => changed_not fun hm => meet_false n3 i hi hm, rfl, foot_noncall c1⟩
 ·obtain ⟨f, xs, rfl⟩ : ∃ f xs, op1 = .call f xs := by cases op1 <;> first | exact ⟨_, _, rfl⟩ | cases c1
  rcases foot_call (σ := σ) (h := h) (h' := ha) (key := k1) (f := f) (xs := xs) with ⟨rfl, e⟩ | ⟨hne, e⟩
  ·rw [e] at n1 n2 n3
   have hw := meet_none_left n3
   cases c2 : op2.isCall
   ·obtain rfl := aop_still c2 h2 hw
    exact ⟨hb, h2, h1, rfl, rfl⟩
   ·obtain ⟨f', xs', rfl⟩ : ∃ f xs, op2 = .call f xs := by cases op2 <;> first | exact ⟨_, _, rfl⟩ | cases c2
    rcases foot_call (σ := τ) (h := ha) (h' := hb) (key := k2) (f := f') (xs := xs') with ⟨rfl, e'⟩ | ⟨hne', e'⟩
    ·exact ⟨hb, h2, h1, rfl, rfl⟩
    ·rw [e'] at hw
     simp only [Option.some.injEq] at hw
     exact absurd (changed_nil hw) hne'
  ·rw [e] at n1 n2 n3
   have hw := meet_none_left n3
   cases c2 : op2.isCall
   ·obtain rfl := aop_still c2 h2 hw
    refine ⟨h, aop_same c2 h2 hw fun i hi => ?_, h1, foot_noncall c2, rfl⟩
    exact (changed_not fun hm => meet_false n1 i hm hi).symm
   ·obtain ⟨f', xs', rfl⟩ : ∃ f xs, op2 = .call f xs := by cases op2 <;> first | exact ⟨_, _, rfl⟩ | cases c2
    have hch : changed h ha = [] := by
     have : (foot τ ha hb k2 (.call f' xs')).R = none := by
      rcases foot_call (σ := τ) (h := ha) (h' := hb) (key := k2) (f := f') (xs := xs') with ⟨_, e'⟩ | ⟨_, e'⟩ <;> rw [e']
     rw [this] at n1
     simpa using meet_none_right n1
    exact absurd (changed_nil hch) hne
end Go.Am
/-
 Regions whose order is drawn: what can be done now may be done first.
-/
namespace Go.Am
open Go
theorem apartA_spec {x y : AO} (h : apartA x y = true) : (∀ d, x.dst = some d → d ∉ y.reads) ∧ (∀ d, x.dst = some d → y.dst ≠ some d) ∧ (∀ d, y.dst = some d → d ∉ x.reads) := by
 refine ⟨fun d hd => ?_, fun d hd => ?_, fun d hd => ?_⟩ <;> simp [apartA, hd] at h
 ·exact h.1.1
 ·exact h.1.2
 ·exact h.2
theorem agree_put {l : List Nat} {σ : Slots} {d : Option Nat} {v : AV} (h : ∀ x, d = some x → x ∉ l) : Agree l (put σ d v) σ := by
 cases d with
 | none => exact fun _ _ => rfl
 | some d =>
  intro t ht
  have : t ≠ d := fun e => h d rfl (e ▸ ht)
  simp [put, upd, this]
theorem put_comm {σ : Slots} {d e : Option Nat} {v u : AV} (h : ∀ x, d = some x → e ≠ some x) : put (put σ d v) e u = put (put σ e u) d v := by
 cases d with
 | none => rfl
 | some d =>
  cases e with
  | none => rfl
  | some e =>
   have hne : e ≠ d := fun x => h d rfl (by rw [x])
   funext t
   simp only [put, upd]
   by_cases h1 : t = e
   ·subst h1; simp [hne]
   ·simp [h1]
theorem passed_agree {σ τ : Slots} {g : Option (Nat × Bool)} (h : Agree (match g with | some (g, _) => [g] | none => []) σ τ) : passed σ g = passed τ g := by
 cases g with
 | none => rfl
 | some p =>
  obtain ⟨g, w⟩ := p
  have := h g (by simp)
  simp only [passed, this]
noncomputable def stepA (O : CallO) (k0 : Nat) (o : AO) (σ : Slots) (h : Heap) : Option (Slots × Heap × Foot) :=
 match passed σ o.guard with
 | some true => some (put σ o.dst (.tup []), h, ⟨some [], some [], none, noS⟩)
 | some false =>
  match aop O σ h (k0 + o.key) o.op with
  | some (v, h') => some (put σ o.dst v, h', foot σ h h' (k0 + o.key) o.op)
  | none => none
 | none => none
theorem stepA_cases {O : CallO} {k0 : Nat} {o : AO} {σ : Slots} {h : Heap} {s : Slots × Heap × Foot} (hs : stepA O k0 o σ h = some s) :
  (passed σ o.guard = some true ∧ s = (put σ o.dst (.tup []), h, ⟨some [], some [], none, noS⟩)) ∨ (passed σ o.guard = some false ∧ ∃ v h', aop O σ h (k0 + o.key) o.op = some (v, h') ∧ s = (put σ o.dst v, h', foot σ h h' (k0 + o.key) o.op)) := by
 unfold stepA at hs
 split at hs
 ·rename_i hp
  injection hs with hs
  exact .inl ⟨hp, hs.symm⟩
 ·rename_i hp
  split at hs
  ·rename_i v h' ha
   injection hs with hs
   exact .inr ⟨hp, v, h', ha, hs.symm⟩
  ·cases hs
 ·cases hs
theorem stepA_pass {O : CallO} {k0 : Nat} {o : AO} {σ : Slots} {h : Heap} (hp : passed σ o.guard = some true) : stepA O k0 o σ h = some (put σ o.dst (.tup []), h, ⟨some [], some [], none, noS⟩) := by simp [stepA, hp]
theorem stepA_do {O : CallO} {k0 : Nat} {o : AO} {σ : Slots} {h h' : Heap} {v : AV} (hp : passed σ o.guard = some false) (ha : aop O σ h (k0 + o.key) o.op = some (v, h')) : stepA O k0 o σ h = some (put σ o.dst v, h', foot σ h h' (k0 + o.key) o.op) := by simp [stepA, hp, ha]
theorem stepA_commute (O : CallO) {k0 : Nat} {o1 o2 : AO} {σ σ1 σ2 : Slots} {h h1 h2 : Heap} {f1 f2 : Foot} (hs1 : stepA O k0 o1 σ h = some (σ1, h1, f1)) (hs2 : stepA O k0 o2 σ1 h1 = some (σ2, h2, f2))
  (hF : FrO O) (hd : o2.op.isAlloc = true → h[k0 + o2.key]? = some .dead) (ha : apartA o1 o2 = true) (hn : f1.clash f2 = false) : ∃ σ' h', stepA O k0 o2 σ h = some (σ', h', f2) ∧ stepA O k0 o1 σ' h' = some (σ2, h2, f1) := by
 obtain ⟨a1, a2, a3⟩ := apartA_spec ha
 have g2 : ∀ v, passed (put σ o1.dst v) o2.guard = passed σ o2.guard := fun v => passed_agree (agree_put fun x hx hm => a1 x hx (by unfold AO.reads; exact List.mem_append_right _ hm))
 have g1 : ∀ v, passed (put σ o2.dst v) o1.guard = passed σ o1.guard := fun v => passed_agree (agree_put fun x hx hm => a3 x hx (by unfold AO.reads; exact List.mem_append_right _ hm))
 have t2 : ∀ v, Agree o2.op.tmps (put σ o1.dst v) σ := fun v => agree_put fun x hx hm => a1 x hx (by unfold AO.reads; exact List.mem_append_left _ hm)
 have t1 : ∀ v, Agree o1.op.tmps (put σ o2.dst v) σ := fun v => agree_put fun x hx hm => a3 x hx (by unfold AO.reads; exact List.mem_append_left _ hm)
 rcases stepA_cases hs1 with ⟨p1, e⟩ | ⟨p1, v1, h1', ao1, e⟩
 ·injection e with e1 e2; injection e2 with e2 e3; subst e1; subst e2; subst e3
  rcases stepA_cases hs2 with ⟨p2, e⟩ | ⟨p2, v2, h2', ao2, e⟩
  ·injection e with e1 e2; injection e2 with e2 e3; subst e1; subst e2; subst e3
   rw [g2] at p2
   exact ⟨_, _, stepA_pass p2, by rw [stepA_pass (by rw [g1]; exact p1), put_comm a2]⟩
  ·injection e with e1 e2; injection e2 with e2 e3; subst e1; subst e2; subst e3
   rw [g2] at p2
   rw [aop_agree O _ _ (t2 _)] at ao2
   exact ⟨_, _, by rw [stepA_do p2 ao2, foot_agree _ _ _ (t2 _)], by rw [stepA_pass (by rw [g1]; exact p1), put_comm a2]⟩
 ·injection e with e1 e2; injection e2 with e2 e3; subst e1; subst e2; subst e3
  rcases stepA_cases hs2 with ⟨p2, e⟩ | ⟨p2, v2, h2', ao2, e⟩
  ·injection e with e1 e2; injection e2 with e2 e3; subst e1; subst e2; subst e3
   rw [g2] at p2
   exact ⟨_, _, stepA_pass p2, by rw [stepA_do (by rw [g1]; exact p1) (by rw [aop_agree O _ _ (t1 _)]; exact ao1), foot_agree _ _ _ (t1 _), put_comm a2]⟩
  ·injection e with e1 e2; injection e2 with e2 e3; subst e1; subst e2; subst e3
   rw [g2] at p2
   rw [aop_agree O _ _ (t2 _)] at ao2
   rw [foot_agree _ _ _ (t2 _)] at hn
   obtain ⟨hc, b1, b2, b3, b4⟩ := aop_commute O ao1 ao2 hF hd hn
   refine ⟨_, hc, by rw [stepA_do p2 b1, b3, foot_agree _ _ _ (t2 _)], ?_⟩
   rw [stepA_do (by rw [g1]; exact p1) (by rw [aop_agree O _ _ (t1 _)]; exact b2), foot_agree _ _ _ (t1 _), put_comm a2, b4]
noncomputable def runL (O : CallO) (k0 : Nat) (as : List AO) : List Nat → Slots → Heap → Option (Slots × Heap × List (Nat × Foot))
 | [], σ, h => some (σ, h, [])
 | i :: r, σ, h =>
  match as[i]? with
  | some o =>
   match stepA O k0 o σ h with
   | some (σ1, h1, f) => (runL O k0 as r σ1 h1).map fun x => (x.1, x.2.1, (i, f) :: x.2.2)
   | none => none
  | none => none
theorem runL_cons {O : CallO} {k0 : Nat} {as : List AO} {i : Nat} {r : List Nat} {σ σ' : Slots} {h h' : Heap} {T : List (Nat × Foot)} (hr : runL O k0 as (i :: r) σ h = some (σ', h', T)) :
  ∃ o σ1 h1 f T', as[i]? = some o ∧ stepA O k0 o σ h = some (σ1, h1, f) ∧ runL O k0 as r σ1 h1 = some (σ', h', T') ∧ T = (i, f) :: T' := by
 simp only [runL] at hr
 split at hr
 ·rename_i o ho
  split at hr
  ·rename_i σ1 h1 f hs
   simp only [Option.map_eq_some_iff] at hr
   obtain ⟨⟨x1, x2, x3⟩, hx, e⟩ := hr
   simp only [Prod.mk.injEq] at e
   obtain ⟨rfl, rfl, rfl⟩ := e
   exact ⟨o, σ1, h1, f, x3, ho, hs, hx, rfl⟩
  ·cases hr
 ·cases hr
theorem runL_of {O : CallO} {k0 : Nat} {as : List AO} {i : Nat} {r : List Nat} {σ σ' σ1 : Slots} {h h' h1 : Heap} {T : List (Nat × Foot)} {o : AO} {f : Foot} (ho : as[i]? = some o) (hs : stepA O k0 o σ h = some (σ1, h1, f)) (hr : runL O k0 as r σ1 h1 = some (σ', h', T)) :
  runL O k0 as (i :: r) σ h = some (σ', h', (i, f) :: T) := by
 simp only [runL, ho, hs, hr, Option.map_some]
theorem runL_trace {O : CallO} {k0 : Nat} {as : List AO} : ∀ {l : List Nat} {σ σ' : Slots} {h h' : Heap} {T : List (Nat × Foot)}, runL O k0 as l σ h = some (σ', h', T) → T.map (·.1) = l
 | [], σ, σ', h, h', T, hr => by simp only [runL, Option.some.injEq, Prod.mk.injEq] at hr; obtain ⟨-, -, rfl⟩ := hr; rfl
 | i :: l, σ, σ', h, h', T, hr => by
  obtain ⟨o, σ1, h1, f, T', ho, hs, hr', rfl⟩ := runL_cons hr
  simp [runL_trace hr']
theorem runL_front (O : CallO) {k0 : Nat} {as : List AO} {i : Nat} {oi : AO} (hoi : as[i]? = some oi) {R : Nat × Foot → Nat × Foot → Prop} {post : List Nat} : ∀ (pre : List Nat) {σ σ' : Slots} {h h' : Heap} {T : List (Nat × Foot)},
  runL O k0 as (pre ++ i :: post) σ h = some (σ', h', T) → T.Pairwise R →
  (∀ k ∈ pre, (∀ o, as[k]? = some o → apartA o oi = true) ∧ ∀ f g, R (k, f) (i, g) → f.clash g = false) →
  FrO O → (oi.op.isAlloc = true → h[k0 + oi.key]? = some .dead) → (∀ k ∈ pre, ∀ o, as[k]? = some o → ∀ σ h σ1 h1 f, stepA O k0 o σ h = some (σ1, h1, f) → oi.op.isAlloc = true → h[k0 + oi.key]? = some .dead → h1[k0 + oi.key]? = some .dead) →
  ∃ σ1 h1 f T', stepA O k0 oi σ h = some (σ1, h1, f) ∧ runL O k0 as (pre ++ post) σ1 h1 = some (σ', h', T') ∧ T'.Pairwise R ∧ (i, f) ∈ T ∧ ∀ x ∈ T', x ∈ T
 | [], σ, σ', h, h', T, hr, hp, hk, hF, hd, hst => by
  obtain ⟨o, σ1, h1, f, T', ho, hs, hr', rfl⟩ := runL_cons hr
  rw [hoi] at ho; injection ho with ho; subst ho
  exact ⟨σ1, h1, f, T', hs, hr', (List.pairwise_cons.1 hp).2, List.mem_cons_self, fun x hx => List.mem_cons_of_mem _ hx⟩
 | k :: pre, σ, σ', h, h', T, hr, hp, hk, hF, hd, hst => by
  obtain ⟨o, σ1, h1, f, T', ho, hs, hr', rfl⟩ := runL_cons hr
  have hp' := List.pairwise_cons.1 hp
  obtain ⟨σ2, h2, fi, T2, s2, r2, p2, m2, sub⟩ := runL_front O hoi pre hr' hp'.2 (fun k hk' => hk k (List.mem_cons_of_mem _ hk')) hF (fun hal => hst k List.mem_cons_self o ho _ _ _ _ _ hs hal (hd hal)) (fun k hk' => hst k (List.mem_cons_of_mem _ hk'))
  have hkk := hk k List.mem_cons_self
  obtain ⟨σ3, h3, c1, c2⟩ := stepA_commute O hs s2 hF hd (hkk.1 o ho) (hkk.2 f fi (hp'.1 _ m2))
  refine ⟨σ3, h3, fi, (k, f) :: T2, c1, runL_of ho c2 r2, List.pairwise_cons.2 ⟨fun x hx => hp'.1 x (sub x hx), p2⟩, List.mem_cons_of_mem _ m2, fun x hx => ?_⟩
  rcases List.mem_cons.1 hx with rfl | hx
  ·exact List.mem_cons_self
  ·exact List.mem_cons_of_mem _ (sub x hx)
/-! ### The region in text order -/
theorem opsRunF_cons {O : CallO} {k0 : Nat} {o : AO} {r : List AO} {σ : Slots} {h : Heap} : opsRunF O k0 (o :: r) σ h = (match stepA O k0 o σ h with | some (σ1, h1, f) => (opsRunF O k0 r σ1 h1).map fun x => (x.1, x.2.1, f :: x.2.2) | none => none) := by
 simp only [opsRunF, stepA]
 rcases passed σ o.guard with _ | (_ | _)
 ·rfl
 ·dsimp only
  rcases aop O σ h (k0 + o.key) o.op with _ | ⟨v, h'⟩ <;> rfl
 ·rfl
theorem opsRunF_runL {O : CallO} {k0 : Nat} : ∀ {rest pre : List AO} {σ σ' : Slots} {h h' : Heap} {fs : List Foot}, opsRunF O k0 rest σ h = some (σ', h', fs) →
  fs.length = rest.length ∧ runL O k0 (pre ++ rest) (List.range' pre.length rest.length) σ h = some (σ', h', (List.range' pre.length rest.length).zip fs)
 | [], pre, σ, σ', h, h', fs, hr => by
  simp only [opsRunF, Option.some.injEq, Prod.mk.injEq] at hr
  obtain ⟨rfl, rfl, rfl⟩ := hr
  exact ⟨rfl, rfl⟩
 | o :: rest, pre, σ, σ', h, h', fs, hr => by
  rw [opsRunF_cons] at hr
  split at hr
  ·rename_i σ1 h1 f hs
   simp only [Option.map_eq_some_iff] at hr
   obtain ⟨⟨x1, x2, x3⟩, hx, e⟩ := hr
   simp only [Prod.mk.injEq] at e
   obtain ⟨rfl, rfl, rfl⟩ := e
   obtain ⟨e1, e2⟩ := opsRunF_runL (pre := pre ++ [o]) hx
   refine ⟨by simp [e1], ?_⟩
   simp only [List.length_cons, List.range'_succ, List.zip_cons_cons]
   refine runL_of (o := o) (by simp) hs ?_
   simpa using e2
  ·cases hr
theorem foot_untouchy {σ : Slots} {h h' : Heap} {key : Nat} {op : AOp} (ht : op.touchy = false) : foot σ h h' key op = ⟨some [], some [], none, noS⟩ := by
 cases op <;> first | rfl | cases ht
theorem foot_turns {σ : Slots} {h h' : Heap} {key : Nat} {op : AOp} (ht : op.turns = false) : (foot σ h h' key op).W = some [] := by
 cases op <;> first | (cases ht; done) | (simp only [foot]; split <;> rfl)
theorem meet_nil_r (x : Option (List Nat)) : meet x (some []) = false := by rcases x with _ | (_ | _) <;> rfl
theorem clash_none_left {f : Foot} : (⟨some [], some [], none, noS⟩ : Foot).clash f = false := by
 simp [Foot.clash, meet]
theorem clash_none_right {f : Foot} : f.clash ⟨some [], some [], none, noS⟩ = false := by
 simp [Foot.clash, meet_nil_r]
theorem clash_quiet {f g : Foot} (h1 : f.W = some []) (h2 : g.W = some []) : f.clash g = false := by
 have m1 : ∀ x : Option (List Nat), meet (some []) x = false := fun _ => rfl
 simp [Foot.clash, h1, h2, m1, meet_nil_r]
theorem stepA_foot {O : CallO} {k0 : Nat} {o : AO} {σ σ1 : Slots} {h h1 : Heap} {f : Foot} (hs : stepA O k0 o σ h = some (σ1, h1, f)) : (o.op.touchy = false → f = ⟨some [], some [], none, noS⟩) ∧ (o.op.turns = false → f.W = some []) := by
 rcases stepA_cases hs with ⟨_, e⟩ | ⟨_, v, h', _, e⟩
 ·injection e with e1 e2; injection e2 with e2 e3; subst e3
  exact ⟨fun _ => rfl, fun _ => rfl⟩
 ·injection e with e1 e2; injection e2 with e2 e3; subst e3
  exact ⟨fun ht => foot_untouchy ht, fun ht => foot_turns ht⟩
theorem runL_foot {O : CallO} {k0 : Nat} {as : List AO} : ∀ {l : List Nat} {σ σ' : Slots} {h h' : Heap} {T : List (Nat × Foot)}, runL O k0 as l σ h = some (σ', h', T) → ∀ x ∈ T, ∃ o, as[x.1]? = some o ∧ (o.op.touchy = false → x.2 = ⟨some [], some [], none, noS⟩) ∧ (o.op.turns = false → x.2.W = some [])
 | [], σ, σ', h, h', T, hr => by simp only [runL, Option.some.injEq, Prod.mk.injEq] at hr; obtain ⟨-, -, rfl⟩ := hr; simp
 | i :: l, σ, σ', h, h', T, hr => by
  obtain ⟨o, σ1, h1, f, T', ho, hs, hr', rfl⟩ := runL_cons hr
  intro x hx
  rcases List.mem_cons.1 hx with rfl | hx
  ·exact ⟨o, ho, stepA_foot hs⟩
  ·exact runL_foot hr' x hx
def fixed (ops : Array Oper) (i j : Nat) : Bool := ((Region.before ops).getD j 0).testBit i
theorem edgesOk_spec {ops : Array Oper} {as : List AO} (h : slotsOk ops as = true) {i : Nat} {o : Oper} (ho : ops[i]? = some o) {e : Edge} (he : e ∈ o.after) (hb : Region.binds .any e = true) : e.on < i := by
 simp only [slotsOk, Bool.and_eq_true, edgesOk, List.all_eq_true] at h
 have h1 := h.1 (o, i) (by rw [List.mem_zipIdx_iff_getElem?]; simpa using ho) e (by simpa using he)
 simpa [hb] using h1
theorem slotsOk_spec {ops : Array Oper} {as : List AO} (h : slotsOk ops as = true) {i j : Nat} (hij : i < j) {x y : AO} (hx : as[i]? = some x) (hy : as[j]? = some y) (hf : fixed ops i j = false) : apartA x y = true := by
 simp only [slotsOk, Bool.and_eq_true, List.all_eq_true, List.mem_range, Bool.or_eq_true] at h
 replace h := h.2
 have hj : j < as.length := (List.getElem?_eq_some_iff.1 hy).1
 rcases h j hj i hij with h | h
 ·unfold fixed at hf; rw [h] at hf; cases hf
 ·rw [List.getD_eq_getElem?_getD, List.getD_eq_getElem?_getD, hx, hy] at h
  exact h
def RT (ops : Array Oper) (x y : Nat × Foot) : Prop := x.1 < y.1 ∧ (fixed ops x.1 y.1 = false → x.2.clash y.2 = false)
theorem opsRunF_draw {O : CallO} {k0 : Nat} {ops : Array Oper} {as : List AO} {σ σ' : Slots} {h h' : Heap} {fs : List Foot} (hr : opsRunF O k0 as σ h = some (σ', h', fs)) (hp : pairsOk (openPairs ops as) fs = true) :
  ∃ T, runL O k0 as (List.range as.length) σ h = some (σ', h', T) ∧ T.Pairwise (RT ops) := by
 obtain ⟨e1, e2⟩ := opsRunF_runL (pre := []) hr
 simp only [List.nil_append, List.length_nil] at e2
 rw [← List.range_eq_range'] at e2
 refine ⟨_, e2, List.pairwise_iff_getElem.2 fun i j hi hj hij => ?_⟩
 have hl : ((List.range as.length).zip fs).length = as.length := by simp [e1]
 have gi : ∀ k (hk : k < ((List.range as.length).zip fs).length), ((List.range as.length).zip fs)[k] = (k, fs[k]'(by rw [hl] at hk; omega)) := by
  intro k hk
  simp
 have hi' : i < as.length := by omega
 have hj' : j < as.length := by omega
 obtain ⟨oi, hoi, ti, ui⟩ := runL_foot e2 _ (List.getElem_mem hi)
 obtain ⟨oj, hoj, tj, uj⟩ := runL_foot e2 _ (List.getElem_mem hj)
 rw [gi i hi] at hoi ti ui ⊢
 rw [gi j hj] at hoj tj uj ⊢
 refine ⟨hij, fun hf => ?_⟩
 simp only at hoi hoj ti ui tj uj hf ⊢
 by_cases t1 : oi.op.touchy = true
 case neg => rw [ti (by simpa using t1)]; exact clash_none_left
 by_cases t2 : oj.op.touchy = true
 case neg => rw [tj (by simpa using t2)]; exact clash_none_right
 by_cases u : (oi.op.turns || oj.op.turns) = true
 case neg =>
  simp only [Bool.or_eq_true, not_or, Bool.not_eq_true] at u
  exact clash_quiet (ui u.1) (uj u.2)
 have hm : (i, j) ∈ openPairs ops as := by
  unfold openPairs
  refine List.mem_flatMap.2 ⟨j, List.mem_range.2 hj', List.mem_filterMap.2 ⟨i, List.mem_range.2 hij, ?_⟩⟩
  have hf' : ((Region.before ops).getD j 0).testBit i = false := hf
  rw [List.getD_eq_getElem?_getD, List.getD_eq_getElem?_getD, hoi, hoj]
  simp only [Option.getD_some, t1, t2, u, Bool.true_and, Bool.and_true, hf', Bool.not_false, if_true]
 have := (List.all_eq_true.1 hp) (i, j) hm
 simp only [Bool.not_eq_true'] at this
 rw [List.getD_eq_getElem?_getD, List.getD_eq_getElem?_getD, List.getElem?_eq_getElem (by omega : i < fs.length), List.getElem?_eq_getElem (by omega : j < fs.length)] at this
 exact this
/-! ### What comes before what -/
theorem before_fold (acc : Array Nat) : ∀ (l : List Edge) (s : Nat) (k : Nat), (l.foldl (fun s e => if Region.binds .any e then s ||| 2 ^ e.on ||| acc.getD e.on 0 else s) s).testBit k = true →
  s.testBit k = true ∨ ∃ e ∈ l, Region.binds .any e = true ∧ (k = e.on ∨ (acc.getD e.on 0).testBit k = true)
 | [], s, k, h => .inl h
 | e :: l, s, k, h => by
  simp only [List.foldl_cons] at h
  rcases before_fold acc l _ k h with h | ⟨e', he', hb⟩
  ·split at h
   ·rename_i hb
    simp only [Nat.testBit_or, Bool.or_eq_true] at h
    rcases h with (h | h) | h
    ·exact .inl h
    ·refine .inr ⟨e, List.mem_cons_self, hb, .inl ?_⟩
     rw [Nat.testBit_two_pow] at h
     simpa [eq_comm] using h
    ·exact .inr ⟨e, List.mem_cons_self, hb, .inr h⟩
   ·exact .inl h
  ·exact .inr ⟨e', List.mem_cons_of_mem _ he', hb⟩
def befG (acc : Array Nat) (o : Oper) : Nat := o.after.foldl (fun s e => if Region.binds .any e then s ||| 2 ^ e.on ||| acc.getD e.on 0 else s) 0
theorem befF_keep : ∀ (l : List Oper) (acc : Array Nat), (∀ x, x < acc.size → (l.foldl (fun acc o => acc.push (befG acc o)) acc).getD x 0 = acc.getD x 0) ∧ acc.size ≤ (l.foldl (fun acc o => acc.push (befG acc o)) acc).size
 | [], acc => ⟨fun x _ => rfl, Nat.le_refl _⟩
 | o :: l, acc => by
  obtain ⟨h1, h2⟩ := befF_keep l (acc.push (befG acc o))
  simp only [List.foldl_cons]
  refine ⟨fun x hx => ?_, by simp only [Array.size_push] at h2; omega⟩
  rw [h1 x (by simp; omega)]
  simp only [Array.getD_eq_getD_getElem?]
  rw [Array.getElem?_push_lt hx, Array.getElem?_eq_getElem hx]
theorem befF_at : ∀ (l : List Oper) (acc : Array Nat) (i : Nat) (o : Oper), l[i]? = some o → ∃ acc' : Array Nat, acc'.size = acc.size + i ∧ (∀ x, x < acc'.size → acc'.getD x 0 = (l.foldl (fun acc o => acc.push (befG acc o)) acc).getD x 0) ∧
  (l.foldl (fun acc o => acc.push (befG acc o)) acc).getD (acc.size + i) 0 = befG acc' o
 | [], acc, i, o, h => by simp at h
 | p :: l, acc, 0, o, h => by
  simp only [List.getElem?_cons_zero, Option.some.injEq] at h
  subst h
  refine ⟨acc, by simp, fun x hx => ((befF_keep (p :: l) acc).1 x hx).symm, ?_⟩
  simp only [List.foldl_cons, Nat.add_zero]
  rw [(befF_keep l (acc.push (befG acc p))).1 acc.size (by simp)]
  simp [Array.getD_eq_getD_getElem?]
 | p :: l, acc, i + 1, o, h => by
  simp only [List.getElem?_cons_succ] at h
  obtain ⟨acc', h1, h2, h3⟩ := befF_at l (acc.push (befG acc p)) i o h
  simp only [Array.size_push] at h1 h3
  simp only [List.foldl_cons]
  exact ⟨acc', by omega, h2, by rw [← h3]; congr 1; omega⟩
theorem before_eq (ops : Array Oper) : Region.before ops = ops.toList.foldl (fun acc o => acc.push (befG acc o)) #[] := by
 unfold Region.before
 rw [← Array.foldl_toList]
 rfl
theorem before_spec {ops : Array Oper} {k j : Nat} (h : fixed ops k j = true) : ∃ o, ops[j]? = some o ∧ ∃ e ∈ o.after, Region.binds .any e = true ∧ (k = e.on ∨ (e.on < j ∧ fixed ops k e.on = true)) := by
 unfold fixed at h ⊢
 rw [before_eq] at h ⊢
 cases ho : ops[j]? with
 | none =>
  exfalso
  have hs : (ops.toList.foldl (fun acc o => acc.push (befG acc o)) #[]).size = ops.size := by
   have : ∀ (l : List Oper) (acc : Array Nat), (l.foldl (fun acc o => acc.push (befG acc o)) acc).size = acc.size + l.length := by
    intro l
    induction l with
    | nil => intro acc; rfl
    | cons o l ih => intro acc; simp only [List.foldl_cons, ih, Array.size_push, List.length_cons]; omega
   rw [this]; simp
  have hj : ops.size ≤ j := by
   rcases Nat.lt_or_ge j ops.size with hh | hh
   ·rw [Array.getElem?_eq_getElem hh] at ho; cases ho
   ·exact hh
  rw [Array.getD_eq_getD_getElem?, Array.getElem?_eq_none (by rw [hs]; exact hj)] at h
  simp at h
 | some o =>
  obtain ⟨acc', h1, h2, h3⟩ := befF_at ops.toList #[] j o (by simpa using ho)
  simp only [List.size_toArray, List.length_nil, Nat.zero_add] at h1 h3
  rw [h3] at h
  unfold befG at h
  rw [← Array.foldl_toList] at h
  rcases before_fold acc' _ _ _ h with h | ⟨e, he, hb, hk⟩
  ·simp at h
  ·refine ⟨o, rfl, e, by simpa using he, hb, ?_⟩
   rcases hk with hk | hk
   ·exact .inl hk
   ·by_cases hlt : e.on < acc'.size
    ·exact .inr ⟨by omega, by rw [← h2 _ hlt]; exact hk⟩
    ·rw [Array.getD_eq_getD_getElem?, Array.getElem?_eq_none (by omega)] at hk
     simp at hk
def Closed (ops : Array Oper) (L : Array Bool) : Prop := ∀ i o, L.getD i false = true → ops[i]? = some o → ∀ e ∈ o.after, Region.binds .any e = true → L.getD e.on false = true
theorem fixed_listed {ops : Array Oper} {L : Array Bool} (hc : Closed ops L) : ∀ {j k : Nat}, L.getD j false = true → fixed ops k j = true → L.getD k false = true := by
 intro j
 induction j using Nat.strongRecOn with
 | _ j ih =>
  intro k hj hf
  obtain ⟨o, ho, e, he, hb, hk⟩ := before_spec hf
  have h1 := hc j o hj ho e he hb
  rcases hk with rfl | ⟨hlt, hk⟩
  ·exact h1
  ·exact ih e.on hlt h1 hk
theorem ready_fixed {ops : Array Oper} {L : Array Bool} (hc : Closed ops L) {i : Nat} (hi : i ∈ Region.ready .any ops L) {k : Nat} (hf : fixed ops k i = true) : L.getD k false = true := by
 obtain ⟨_, o, ho, hall⟩ := mem_ready.1 hi
 obtain ⟨o', ho', e, he, hb, hk⟩ := before_spec hf
 rw [ho] at ho'; injection ho' with ho'; subst ho'
 have h1 := hall e he hb
 rcases hk with rfl | ⟨hlt, hk⟩
 ·exact h1
 ·exact fixed_listed hc h1 hk
theorem Closed.set {ops : Array Oper} {L : Array Bool} (hc : Closed ops L) {i : Nat} (hi : i ∈ Region.ready .any ops L) : Closed ops (L.setIfInBounds i true) := by
 intro j o hj ho e he hb
 by_cases hji : i = j
 ·subst hji
  obtain ⟨_, o', ho', hall⟩ := mem_ready.1 hi
  rw [ho] at ho'; injection ho' with ho'; subst ho'
  exact getD_set_true (hall e he hb)
 ·rw [getD_set_ne false hji] at hj
  exact getD_set_true (hc j o hj ho e he hb)
end Go.Am
/-
 One operation of a region, calls among them.
-/
namespace Go.Am
open Go
def Fires (P : Program) (f : FuncId) (vs : Array Value) (w : World) (R : Value → World → Prop) : Prop :=
 match (callFunc f vs).run P w with
 | .ok (.value v) w' => R v w'
 | .ok (.enter g xs) w' => Calls P g xs w' fun | .returned v, w'' => R v w'' | _, _ => False
 | _ => False
def Good (P : Program) (f : FuncId) (args : List AV) (h : Heap) (r : AV) (h' : Heap) : Prop :=
 h.length ≤ h'.length ∧ (∀ k : Nat, h[k]? = some AE.dead → h'[k]? = some AE.dead) ∧
 ∀ B w0 E w (vs : Array Value), Rel B w0 E h w → vs.size = args.length → (∀ (i : Nat) (u : Value) (x : AV), vs[i]? = some u → args[i]? = some x → Rd E u x) →
  Fires P f vs w fun v w' => ∃ E', E.le E' ∧ (∀ b, b < h.length → E'.ρ b = E.ρ b) ∧ Rel B w0 E' h' w' ∧ Rd E' v r
def CallOk (P : Program) (O : CallO) : Prop := ∀ f args h r h', O f args h = some (r, h') → Good P f args h r h'
/-! ### The heap's dead places stay dead -/
theorem sets_length {ws : List (Nat × AE)} {h : Heap} : (sets h ws).length = h.length := by
 induction ws generalizing h with
 | nil => rfl
 | cons p ws ih => simp only [sets]; rw [ih, List.length_set]
theorem sets_dead {ws : List (Nat × AE)} {h : Heap} {k : Nat} (hk : h[k]? = some .dead) (hw : ∀ p ∈ ws, p.1 ≠ k ∨ p.2 = .dead) : (sets h ws)[k]? = some .dead := by
 induction ws generalizing h with
 | nil => exact hk
 | cons p ws ih =>
  simp only [sets]
  refine ih ?_ fun q hq => hw q (List.mem_cons_of_mem _ hq)
  rcases hw p List.mem_cons_self with h1 | h1
  ·rw [List.getElem?_set_ne h1]; exact hk
  ·rw [List.getElem?_set]
   split
   ·rename_i e; subst e
    have : p.1 < h.length := (List.getElem?_eq_some_iff.1 hk).1
    simp [this, h1]
   ·exact hk
theorem req_writes {σ : Slots} {h : Heap} {key : Nat} {op : AOp} {v : AV} {ws : List (Nat × AE)} (hr : (req σ key op).2 ((req σ key op).1.map fun k => h[k]?) = some (v, ws)) :
  ∀ p ∈ ws, (op.isAlloc = true ∧ p.1 = key) ∨ p.2 = .dead ∨ ∃ e, h[p.1]? = some e ∧ e ≠ .dead := by
 have kmap : ∀ {α : Type} {x : Option α} {f : α → AV}, (x.map fun a => (f a, ([] : List (Nat × AE)))) = some (v, ws) → ws = [] := by
  intro α x f hh
  cases x <;> simp_all
 have kif : ∀ {c : Prop} {d : Decidable c} {x : AV} {us : List (Nat × AE)}, (@ite _ c d (some (x, us)) none) = some (v, ws) → ws = us := by
  intro c d x us hh
  split at hh <;> simp_all
 have l1 : ∀ {α : Type} {b : Nat} {g : List (Option AE) → Option α}, True := fun {_ _ _} => trivial
 cases op
 case alloc zs => simp only [req, Option.some.injEq, Prod.mk.injEq] at hr; obtain ⟨-, rfl⟩ := hr; simp [AOp.isAlloc]
 case box n x => simp only [req] at hr; obtain rfl := kif hr; simp [AOp.isAlloc]
 case bsliceM sz xs => simp only [req] at hr; obtain rfl := kif hr; simp [AOp.isAlloc]
 case bsliceG sz xs => simp only [req] at hr; obtain rfl := kif hr; simp [AOp.isAlloc]
 case mkmap => simp only [req, Option.some.injEq, Prod.mk.injEq] at hr; obtain ⟨-, rfl⟩ := hr; simp [AOp.isAlloc]
 case cvStrBytes e x =>
  cases hu : x.ev σ <;> simp only [req, hu] at hr <;> (try (cases hr; done))
  simp only [Option.some.injEq, Prod.mk.injEq] at hr
  obtain ⟨-, rfl⟩ := hr
  simp [AOp.isAlloc]
 case cvStrBytesM x =>
  cases hu : x.ev σ <;> simp only [req, hu] at hr <;> (try (cases hr; done))
  simp only [Option.some.injEq, Prod.mk.injEq] at hr
  obtain ⟨-, rfl⟩ := hr
  simp [AOp.isAlloc]
 case rangeS x =>
  cases hu : x.ev σ <;> simp only [req, hu] at hr <;> (try (cases hr; done))
  simp only [Option.some.injEq, Prod.mk.injEq] at hr
  obtain ⟨-, rfl⟩ := hr
  simp [AOp.isAlloc]
 case mkslice z sz bytes e len cap =>
  simp only [req] at hr
  split at hr
  ·split at hr
   ·split at hr <;> simp only [Option.some.injEq, Prod.mk.injEq] at hr <;> obtain ⟨-, rfl⟩ := hr <;> simp [AOp.isAlloc]
   ·cases hr
  ·cases hr
 case mksliceM zs sz bytes len cap =>
  simp only [req] at hr
  split at hr
  ·obtain rfl := kif hr; simp [AOp.isAlloc]
  ·cases hr
 case load sz x =>
  cases hu : x.ev σ <;> simp only [req, hu] at hr <;> (try (cases hr; done))
  ·split at hr
   ·obtain rfl := kmap (f := id) hr; simp
   ·obtain rfl := kmap (f := id) hr; simp
   ·cases hr
  ·obtain rfl := kmap (f := id) hr; simp
 case store sz a x =>
  cases hu : a.ev σ <;> simp only [req, hu] at hr <;> (try (cases hr; done))
  split at hr
  ·rename_i cs hl
   simp only [List.map_cons, List.map_nil, List.cons.injEq, and_true] at hl
   obtain rfl := kif hr
   intro p hp
   simp only [List.mem_singleton] at hp
   subst hp
   exact .inr (.inr ⟨_, hl, by simp⟩)
  ·rename_i s cs hl
   simp only [List.map_cons, List.map_nil, List.cons.injEq, and_true] at hl
   obtain rfl := kif hr
   intro p hp
   simp only [List.mem_singleton] at hp
   subst hp
   exact .inr (.inr ⟨_, hl, by simp⟩)
  ·cases hr
 case cvMark x =>
  cases hu : x.ev σ <;> simp only [req, hu] at hr <;> (try (cases hr; done))
  rename_i sz xs r
  cases r <;> simp only at hr <;> (try (cases hr; done))
  split at hr
  ·simp only [Option.some.injEq, Prod.mk.injEq] at hr; obtain ⟨-, rfl⟩ := hr; simp
  ·cases hr
 case cvBytesStr x =>
  cases hu : x.ev σ <;> simp only [req, hu] at hr <;> (try (cases hr; done))
  ·split at hr
   ·obtain rfl := kmap (f := AV.str) hr; simp
   ·cases hr
  ·split at hr
   ·split at hr
    ·obtain rfl := kmap (f := AV.str) hr; simp
    ·cases hr
   ·cases hr
  ·split at hr
   ·split at hr
    ·obtain rfl := kmap (f := AV.str) hr; simp
    ·cases hr
   ·cases hr
 case lenM x =>
  cases hu : x.ev σ <;> simp only [req, hu] at hr <;> (try (cases hr; done))
  ·simp only [Option.some.injEq, Prod.mk.injEq] at hr; obtain ⟨-, rfl⟩ := hr; simp
  ·split at hr
   ·simp only [Option.some.injEq, Prod.mk.injEq] at hr; obtain ⟨-, rfl⟩ := hr; simp
   ·cases hr
 case lookup s z ok m k =>
  cases hu : m.ev σ <;> simp only [req, hu] at hr <;> (try (cases hr; done))
  ·simp only [Option.some.injEq, Prod.mk.injEq] at hr; obtain ⟨-, rfl⟩ := hr; simp
  ·split at hr
   ·split at hr
    ·simp only [Option.some.injEq, Prod.mk.injEq] at hr; obtain ⟨-, rfl⟩ := hr; simp
    ·simp only [Option.some.injEq, Prod.mk.injEq] at hr; obtain ⟨-, rfl⟩ := hr; simp
    ·cases hr
   ·cases hr
 case update s m k x =>
  cases hu : m.ev σ <;> simp only [req, hu] at hr <;> (try (cases hr; done))
  split at hr
  ·rename_i es hl
   simp only [List.map_cons, List.map_nil, List.cons.injEq, and_true] at hl
   split at hr
   ·simp only [Option.some.injEq, Prod.mk.injEq] at hr; obtain ⟨-, rfl⟩ := hr
    intro p hp
    simp only [List.mem_singleton] at hp
    subst hp
    exact .inr (.inr ⟨_, hl, by simp⟩)
   ·simp only [Option.some.injEq, Prod.mk.injEq] at hr; obtain ⟨-, rfl⟩ := hr
    intro p hp
    simp only [List.mem_singleton] at hp
    subst hp
    exact .inr (.inr ⟨_, hl, by simp⟩)
   ·cases hr
  ·cases hr
 case next x =>
  cases hu : x.ev σ <;> simp only [req, hu] at hr <;> (try (cases hr; done))
  split at hr
  ·rename_i l q hl
   simp only [List.map_cons, List.map_nil, List.cons.injEq, and_true] at hl
   split at hr <;> simp only [Option.some.injEq, Prod.mk.injEq] at hr <;> obtain ⟨-, rfl⟩ := hr
   ·intro p hp
    simp only [List.mem_singleton] at hp
    subst hp
    exact .inr (.inr ⟨_, hl, by simp⟩)
   ·simp
  ·cases hr
 case copy sz d s =>
  cases hu : d.ev σ <;> simp only [req, hu] at hr <;> (try (cases hr; done))
  split at hr
  ·rename_i ys cs hq hl
   simp only [List.map_cons, List.map_nil, List.cons.injEq, and_true] at hl
   obtain rfl := kif hr
   intro p hp
   simp only [List.mem_singleton] at hp
   subst hp
   exact .inr (.inr ⟨_, hl, by simp⟩)
  ·cases hr
 case appendM sz bytes e s x =>
  cases hu : s.ev σ <;> simp only [req, hu] at hr <;> (try (cases hr; done))
  ·rename_i s' xs r
   cases xs with
   | nil =>
    cases r with
    | full =>
     simp only at hr
     split at hr
     ·obtain rfl := kif hr; simp [AOp.isAlloc]
     ·cases hr
    | _ => cases hr
   | cons y l => cases hr
  ·split at hr
   ·obtain rfl := kif hr; simp [AOp.isAlloc]
   ·cases hr
 case frz sz e x =>
  cases hu : x.ev σ <;> simp only [req, hu] at hr <;> (try (cases hr; done))
  ·simp only [Option.some.injEq, Prod.mk.injEq] at hr; obtain ⟨-, rfl⟩ := hr; simp
  ·split at hr
   ·obtain rfl := kif hr; simp [AOp.isAlloc]
   ·cases hr
 case sliceT sz x lo =>
  cases hu : x.ev σ <;> simp only [req, hu] at hr <;> (try (cases hr; done))
  rename_i s xs r
  rcases hb : bnd σ (some lo) xs.length 0 with _ | l
  ·rw [hb] at hr; cases hr
  ·rw [hb] at hr
   simp only at hr
   by_cases hs : s = sz
   ·simp only [hs, if_true] at hr
    cases r with
    | no => simp only [Option.some.injEq, Prod.mk.injEq] at hr; obtain ⟨-, rfl⟩ := hr; simp
    | full => simp only [Option.some.injEq, Prod.mk.injEq] at hr; obtain ⟨-, rfl⟩ := hr; simp
    | tok t =>
     simp only at hr
     split at hr
     ·obtain rfl := kif hr; simp [AOp.isAlloc]
     ·cases hr
   ·simp only [hs, if_false] at hr
    cases hr
 case append sz bytes e s x =>
  cases hu : s.ev σ <;> simp only [req, hu] at hr <;> (try (cases hr; done))
  ·rename_i s' xs r
   rcases hs : srcOf sz (x.ev σ) with _ | ys
   ·rw [hs] at hr; cases hr
   ·rw [hs] at hr
    cases r with
    | no => simp only at hr; obtain rfl := kif hr; simp
    | full =>
     simp only at hr
     split at hr
     ·simp only [Option.some.injEq, Prod.mk.injEq] at hr; obtain ⟨-, rfl⟩ := hr; simp
     ·obtain rfl := kif hr; simp [AOp.isAlloc]
    | tok t =>
     simp only at hr
     split at hr
     ·simp only [Option.some.injEq, Prod.mk.injEq] at hr; obtain ⟨-, rfl⟩ := hr; simp
     ·obtain rfl := kif hr; simp [AOp.isAlloc]
  ·split at hr
   ·obtain rfl := kif hr; simp [AOp.isAlloc]
   ·cases hr
 all_goals (
  simp only [req, Option.map_eq_some_iff, Prod.mk.injEq] at hr
  obtain ⟨_, _, _, rfl⟩ := hr
  simp)
theorem aop_dead {P : Program} {O : CallO} (hO : CallOk P O) {σ : Slots} {h h' : Heap} {key : Nat} {op : AOp} {v : AV} (ha : aop O σ h key op = some (v, h')) :
  h.length ≤ h'.length ∧ ∀ k, h[k]? = some .dead → (op.isAlloc = true → k ≠ key) → h'[k]? = some .dead := by
 cases c : op.isCall
 ·rw [aop_req O σ h key op c] at ha
  rcases hr : (req σ key op).2 ((req σ key op).1.map fun k => h[k]?) with _ | ⟨v', ws⟩
  ·rw [hr] at ha; cases ha
  ·rw [hr] at ha
   simp only [back_some, Option.some.injEq, Prod.mk.injEq] at ha
   obtain ⟨rfl, rfl⟩ := ha
   refine ⟨by rw [sets_length]; exact Nat.le_refl _, fun k hk hne => sets_dead hk fun p hp => ?_⟩
   rcases req_writes hr p hp with ⟨h1, h2⟩ | h1 | ⟨e, h1, h2⟩
   ·exact .inl fun e => hne h1 (by rw [← e, h2])
   ·exact .inr h1
   ·refine .inl fun e' => ?_
    rw [e', hk] at h1
    injection h1 with h1
    exact h2 h1.symm
 ·obtain ⟨f, xs, rfl⟩ : ∃ f xs, op = .call f xs := by cases op <;> first | exact ⟨_, _, rfl⟩ | cases c
  simp only [aop] at ha
  split at ha
  ·obtain ⟨h1, h2, _⟩ := hO _ _ _ _ _ ha
   exact ⟨h1, fun k hk _ => h2 k hk⟩
  ·cases ha
theorem req_dead {σ : Slots} {h : Heap} {key : Nat} {op : AOp} {v : AV} {ws : List (Nat × AE)} (hc : op.isCall = false) (hr : (req σ key op).2 ((req σ key op).1.map fun k => h[k]?) = some (v, ws)) :
  ((∀ b ∈ (req σ key op).1, h[b]? ≠ some .dead) ∨ ∀ l, (req σ key op).2 l = some (v, ws)) ∧ ∀ p ∈ ws, p.1 = key ∨ h[p.1]? ≠ some .dead := by
 have kmap : ∀ {α : Type} {x : Option α} {f : α → AV}, (x.map fun a => (f a, ([] : List (Nat × AE)))) = some (v, ws) → ws = [] := by
  intro α x f hh
  cases x <;> simp_all
 have kif : ∀ {c : Prop} {d : Decidable c} {x : AV} {us : List (Nat × AE)}, (@ite _ c d (some (x, us)) none) = some (v, ws) → ws = us := by
  intro c d x us hh
  split at hh <;> simp_all
 cases op
 case alloc zs => exact ⟨.inl (by simp [req]), by simp only [req, Option.some.injEq, Prod.mk.injEq] at hr; obtain ⟨-, rfl⟩ := hr; simp⟩
 case box n x => exact ⟨.inl (by simp [req]), by simp only [req] at hr; obtain rfl := kif hr; simp⟩
 case bsliceM sz xs => exact ⟨.inl (by simp [req]), by simp only [req] at hr; obtain rfl := kif hr; simp⟩
 case bsliceG sz xs => exact ⟨.inl (by simp [req]), by simp only [req] at hr; obtain rfl := kif hr; simp⟩
 case mkmap => exact ⟨.inl (by simp [req]), by simp only [req, Option.some.injEq, Prod.mk.injEq] at hr; obtain ⟨-, rfl⟩ := hr; simp⟩
 case cvStrBytes e x =>
  refine ⟨.inl (by simp [req]), ?_⟩
  cases hu : x.ev σ <;> simp only [req, hu] at hr <;> (try (cases hr; done))
  simp only [Option.some.injEq, Prod.mk.injEq] at hr
  obtain ⟨-, rfl⟩ := hr
  simp
 case cvStrBytesM x =>
  refine ⟨.inl (by simp [req]), ?_⟩
  cases hu : x.ev σ <;> simp only [req, hu] at hr <;> (try (cases hr; done))
  simp only [Option.some.injEq, Prod.mk.injEq] at hr
  obtain ⟨-, rfl⟩ := hr
  simp
 case rangeS x =>
  refine ⟨.inl (by simp [req]), ?_⟩
  cases hu : x.ev σ <;> simp only [req, hu] at hr <;> (try (cases hr; done))
  simp only [Option.some.injEq, Prod.mk.injEq] at hr
  obtain ⟨-, rfl⟩ := hr
  simp
 case mkslice z sz bytes e len cap =>
  refine ⟨.inl (by simp [req]), ?_⟩
  simp only [req] at hr
  split at hr
  ·split at hr
   ·split at hr <;> simp only [Option.some.injEq, Prod.mk.injEq] at hr <;> obtain ⟨-, rfl⟩ := hr <;> simp
   ·cases hr
  ·cases hr
 case mksliceM zs sz bytes len cap =>
  refine ⟨.inl (by simp [req]), ?_⟩
  simp only [req] at hr
  split at hr
  ·obtain rfl := kif hr; simp
  ·cases hr
 case load sz x =>
  cases hu : x.ev σ <;> simp only [req, hu] at hr ⊢ <;> (try (cases hr; done))
  ·split at hr
   ·rename_i cs hl
    simp only [List.map_cons, List.map_nil, List.cons.injEq, and_true] at hl
    obtain rfl := kmap (f := id) hr
    exact ⟨.inl (by simp [hl]), by simp⟩
   ·rename_i s cs hl
    simp only [List.map_cons, List.map_nil, List.cons.injEq, and_true] at hl
    obtain rfl := kmap (f := id) hr
    exact ⟨.inl (by simp [hl]), by simp⟩
   ·cases hr
  ·obtain rfl := kmap (f := id) hr
   exact ⟨.inl (by simp), by simp⟩
 case store sz a x =>
  cases hu : a.ev σ <;> simp only [req, hu] at hr ⊢ <;> (try (cases hr; done))
  split at hr
  ·rename_i cs hl
   simp only [List.map_cons, List.map_nil, List.cons.injEq, and_true] at hl
   obtain rfl := kif hr
   exact ⟨.inl (by simp [hl]), by simp [hl]⟩
  ·rename_i s cs hl
   simp only [List.map_cons, List.map_nil, List.cons.injEq, and_true] at hl
   obtain rfl := kif hr
   exact ⟨.inl (by simp [hl]), by simp [hl]⟩
  ·cases hr
 case cvMark x =>
  cases hu : x.ev σ <;> simp only [req, hu] at hr ⊢ <;> (try (cases hr; done))
  rename_i sz xs r
  cases r <;> simp only at hr ⊢ <;> (try (cases hr; done))
  split at hr
  ·rename_i a b c hl
   simp only [List.map_cons, List.map_nil, List.cons.injEq, and_true] at hl
   simp only [Option.some.injEq, Prod.mk.injEq] at hr; obtain ⟨-, rfl⟩ := hr
   exact ⟨.inl (by simp [hl]), by simp⟩
  ·cases hr
 case cvBytesStr x =>
  cases hu : x.ev σ <;> simp only [req, hu] at hr ⊢ <;> (try (cases hr; done))
  ·split at hr
   ·obtain rfl := kmap (f := AV.str) hr; exact ⟨.inl (by simp), by simp⟩
   ·cases hr
  ·split at hr
   ·rename_i cs hl
    simp only [List.map_cons, List.map_nil, List.cons.injEq, and_true] at hl
    split at hr
    ·obtain rfl := kmap (f := AV.str) hr; exact ⟨.inl (by simp [hl]), by simp⟩
    ·cases hr
   ·cases hr
  ·split at hr
   ·rename_i s cs hl
    simp only [List.map_cons, List.map_nil, List.cons.injEq, and_true] at hl
    split at hr
    ·obtain rfl := kmap (f := AV.str) hr; exact ⟨.inl (by simp [hl]), by simp⟩
    ·cases hr
   ·cases hr
 case lenM x =>
  cases hu : x.ev σ <;> simp only [req, hu] at hr ⊢ <;> (try (cases hr; done))
  ·simp only [Option.some.injEq, Prod.mk.injEq] at hr; obtain ⟨-, rfl⟩ := hr; exact ⟨.inl (by simp), by simp⟩
  ·split at hr
   ·rename_i es hl
    simp only [List.map_cons, List.map_nil, List.cons.injEq, and_true] at hl
    simp only [Option.some.injEq, Prod.mk.injEq] at hr; obtain ⟨-, rfl⟩ := hr; exact ⟨.inl (by simp [hl]), by simp⟩
   ·cases hr
 case lookup s z ok m k =>
  cases hu : m.ev σ <;> simp only [req, hu] at hr ⊢ <;> (try (cases hr; done))
  ·simp only [Option.some.injEq, Prod.mk.injEq] at hr; obtain ⟨-, rfl⟩ := hr; exact ⟨.inl (by simp), by simp⟩
  ·split at hr
   ·rename_i es hl
    simp only [List.map_cons, List.map_nil, List.cons.injEq, and_true] at hl
    split at hr
    ·simp only [Option.some.injEq, Prod.mk.injEq] at hr; obtain ⟨-, rfl⟩ := hr; exact ⟨.inl (by simp [hl]), by simp⟩
    ·simp only [Option.some.injEq, Prod.mk.injEq] at hr; obtain ⟨-, rfl⟩ := hr; exact ⟨.inl (by simp [hl]), by simp⟩
    ·cases hr
   ·cases hr
 case update s m k x =>
  cases hu : m.ev σ <;> simp only [req, hu] at hr ⊢ <;> (try (cases hr; done))
  split at hr
  ·rename_i es hl
   simp only [List.map_cons, List.map_nil, List.cons.injEq, and_true] at hl
   split at hr
   ·simp only [Option.some.injEq, Prod.mk.injEq] at hr; obtain ⟨-, rfl⟩ := hr; exact ⟨.inl (by simp [hl]), by simp [hl]⟩
   ·simp only [Option.some.injEq, Prod.mk.injEq] at hr; obtain ⟨-, rfl⟩ := hr; exact ⟨.inl (by simp [hl]), by simp [hl]⟩
   ·cases hr
  ·cases hr
 case next x =>
  cases hu : x.ev σ <;> simp only [req, hu] at hr ⊢ <;> (try (cases hr; done))
  split at hr
  ·rename_i l q hl
   simp only [List.map_cons, List.map_nil, List.cons.injEq, and_true] at hl
   split at hr <;> simp only [Option.some.injEq, Prod.mk.injEq] at hr <;> obtain ⟨-, rfl⟩ := hr
   ·exact ⟨.inl (by simp [hl]), by simp [hl]⟩
   ·exact ⟨.inl (by simp [hl]), by simp⟩
  ·cases hr
 case copy sz d s =>
  cases hu : d.ev σ <;> simp only [req, hu] at hr ⊢ <;> (try (cases hr; done))
  split at hr
  ·rename_i ys cs hq hl
   simp only [List.map_cons, List.map_nil, List.cons.injEq, and_true] at hl
   obtain rfl := kif hr
   exact ⟨.inl (by simp [hl]), by simp [hl]⟩
  ·cases hr
 case appendM sz bytes e s x =>
  cases hu : s.ev σ <;> simp only [req, hu] at hr ⊢ <;> (try (cases hr; done))
  ·rename_i s' xs r
   cases xs with
   | nil =>
    cases r with
    | full =>
     simp only at hr ⊢
     split at hr
     ·obtain rfl := kif hr; exact ⟨.inl (by simp), by simp⟩
     ·cases hr
    | _ => cases hr
   | cons y l => cases hr
  ·split at hr
   ·rename_i ys s'' cs hq hl
    simp only [List.map_cons, List.map_nil, List.cons.injEq, and_true] at hl
    obtain rfl := kif hr
    exact ⟨.inl (by simp [hl]), by simp [hl]⟩
   ·cases hr
 case frz sz e x =>
  cases hu : x.ev σ <;> simp only [req, hu] at hr ⊢ <;> (try (cases hr; done))
  ·simp only [Option.some.injEq, Prod.mk.injEq] at hr; obtain ⟨-, rfl⟩ := hr; exact ⟨.inl (by simp), by simp⟩
  ·split at hr
   ·rename_i s'' cs hl
    simp only [List.map_cons, List.map_nil, List.cons.injEq, and_true] at hl
    obtain rfl := kif hr
    exact ⟨.inl (by simp [hl]), by simp [hl]⟩
   ·cases hr
 case sliceT sz x lo =>
  cases hu : x.ev σ <;> simp only [req, hu] at hr ⊢ <;> (try (cases hr; done))
  rename_i s xs r
  rcases hb : bnd σ (some lo) xs.length 0 with _ | l
  ·rw [hb] at hr; cases hr
  ·rw [hb] at hr
   simp only at hr ⊢
   by_cases hs : s = sz
   ·simp only [hs, if_true] at hr ⊢
    cases r with
    | no => simp only [Option.some.injEq, Prod.mk.injEq] at hr; obtain ⟨-, rfl⟩ := hr; exact ⟨.inl (by simp), by simp⟩
    | full => simp only [Option.some.injEq, Prod.mk.injEq] at hr; obtain ⟨-, rfl⟩ := hr; exact ⟨.inl (by simp), by simp⟩
    | tok t =>
     simp only at hr ⊢
     split at hr
     ·rename_i s' n e hl
      simp only [List.map_cons, List.map_nil, List.cons.injEq, and_true] at hl
      obtain rfl := kif hr
      exact ⟨.inl (by simp [hl]), by simp [hl]⟩
     ·cases hr
   ·simp only [hs, if_false] at hr
    cases hr
 case append sz bytes e s x =>
  cases hu : s.ev σ <;> simp only [req, hu] at hr ⊢ <;> (try (cases hr; done))
  ·rename_i s' xs r
   rcases hs : srcOf sz (x.ev σ) with _ | ys
   ·rw [hs] at hr; cases hr
   ·rw [hs] at hr
    simp only
    cases r with
    | no => simp only at hr ⊢; obtain rfl := kif hr; exact ⟨.inl (by simp), by simp⟩
    | full =>
     simp only at hr ⊢
     split at hr
     ·simp only [Option.some.injEq, Prod.mk.injEq] at hr; obtain ⟨-, rfl⟩ := hr; exact ⟨.inl (by simp), by simp⟩
     ·obtain rfl := kif hr; exact ⟨.inl (by simp), by simp⟩
    | tok t =>
     simp only at hr ⊢
     by_cases hy : ys = []
     ·rw [if_pos hy] at hr
      refine ⟨.inr fun l => by rw [if_pos hy]; exact hr, ?_⟩
      simp only [Option.some.injEq, Prod.mk.injEq] at hr; obtain ⟨-, rfl⟩ := hr; simp
     ·rw [if_neg hy] at hr
      split at hr
      ·rename_i hcond
       have hl := hcond.2.1
       simp only [List.map_cons, List.map_nil, List.cons.injEq, and_true] at hl
       simp only [Option.some.injEq, Prod.mk.injEq] at hr; obtain ⟨-, rfl⟩ := hr
       exact ⟨.inl (by simp [hl]), by simp [hl]⟩
      ·cases hr
  ·split at hr
   ·rename_i ys s'' cs hq hl
    simp only [List.map_cons, List.map_nil, List.cons.injEq, and_true] at hl
    obtain rfl := kif hr
    exact ⟨.inl (by simp [hl]), by simp [hl]⟩
   ·cases hr
 case call f xs => cases hc
 all_goals (
  refine ⟨.inl (by simp [req]), ?_⟩
  simp only [req, Option.map_eq_some_iff, Prod.mk.injEq] at hr
  obtain ⟨_, _, _, rfl⟩ := hr
  simp)
theorem aop_fr {O : CallO} (hF : FrO O) {σ : Slots} {h h' : Heap} {key k : Nat} {op : AOp} {v : AV} (ha : aop O σ h key op = some (v, h')) (hk : h[k]? = some .dead) (hne : k ≠ key) (e : AE) : aop O σ (h.set k e) key op = some (v, h'.set k e) := by
 cases c : op.isCall
 ·rw [aop_req O σ h key op c] at ha
  rw [aop_req O σ _ key op c]
  rcases hr : (req σ key op).2 ((req σ key op).1.map fun k => h[k]?) with _ | ⟨v', ws⟩
  ·rw [hr] at ha; cases ha
  ·rw [hr] at ha
   simp only [back_some, Option.some.injEq, Prod.mk.injEq] at ha
   obtain ⟨rfl, rfl⟩ := ha
   obtain ⟨d1, d2⟩ := req_dead c hr
   have hw : ∀ p ∈ ws, p.1 ≠ k := fun p hp e' => by
    rcases d2 p hp with h1 | h1
    ·exact hne (by rw [← e', h1])
    ·rw [e'] at h1; exact h1 hk
   have he : (req σ key op).2 ((req σ key op).1.map fun b => (h.set k e)[b]?) = some (v', ws) := by
    rcases d1 with d1 | d1
    ·rw [← hr]
     refine congrArg _ (List.map_congr_left fun b hb => ?_)
     rw [List.getElem?_set_ne]
     intro e'; subst e'; exact d1 _ hb hk
    ·exact d1 _
   rw [he]
   simp only [back_some]
   rw [sets_set hw]
 ·obtain ⟨f, xs, rfl⟩ : ∃ f xs, op = .call f xs := by cases op <;> first | exact ⟨_, _, rfl⟩ | cases c
  simp only [aop] at ha ⊢
  split at ha
  ·exact hF _ _ _ _ _ _ _ ha hk
  ·cases ha
theorem foot_fr {σ : Slots} {h h' : Heap} {key k : Nat} {op : AOp} (hk : h[k]? = some .dead) (hk' : h'[k]? = some .dead) (e : AE) : foot σ (h.set k e) (h'.set k e) key op = foot σ h h' key op := by
 cases c : op.isCall
 ·exact foot_noncall c
 ·obtain ⟨f, xs, rfl⟩ : ∃ f xs, op = .call f xs := by cases op <;> first | exact ⟨_, _, rfl⟩ | cases c
  exact foot_call_set e hk (.inl hk')
theorem stepA_dead {P : Program} {O : CallO} (hO : CallOk P O) {k0 : Nat} {o : AO} {σ σ1 : Slots} {h h1 : Heap} {f : Foot} (hs : stepA O k0 o σ h = some (σ1, h1, f)) :
  h.length ≤ h1.length ∧ ∀ k, h[k]? = some .dead → (o.op.isAlloc = true → k ≠ k0 + o.key) → h1[k]? = some .dead := by
 rcases stepA_cases hs with ⟨_, e⟩ | ⟨_, v, h', ha, e⟩
 ·injection e with e1 e2; injection e2 with e2 e3; subst e2
  exact ⟨Nat.le_refl _, fun k hk _ => hk⟩
 ·injection e with e1 e2; injection e2 with e2 e3; subst e2
  exact aop_dead hO ha
theorem aop_nokey {O : CallO} {σ : Slots} {h : Heap} {key key' : Nat} {op : AOp} (hn : op.isAlloc = false) : aop O σ h key op = aop O σ h key' op := by
 cases op <;> first | rfl | cases hn
def Cmp (P : Program) (mt : List String) (nt : Nat) (ops : Array Oper) (o : Oper) (ao : AO) : Prop :=
 ao.dst = o.dst ∧ (∀ d, o.dst = some d → d < nt) ∧ ao.op = compileOp' P mt o ∧
 match o.guard with
 | none => ao.guard = none
 | some (j, w) => ∃ g, (ops[j]?).bind (·.dst) = some g ∧ ao.guard = some (g, w)
section
variable {P : Program} {B : Nat} {w0 : World} {E : Env} {h : Heap} {a : Act} {w : World} {σ : Slots} {O : CallO} {mt : List String} {nt : Nat} {ops : Array Oper} {o : Oper} {ao : AO} {Q : Exit → Act → World → Prop}
theorem wanted_passed (hc : Cmp P mt nt ops o ao) (hs : SR E a σ) {b : Bool} (hp : passed σ ao.guard = some b) : Region.wanted o (yielded ops a.tmps) = !b := by
 obtain ⟨-, -, -, hg⟩ := hc
 unfold Region.wanted
 cases hgd : o.guard with
 | none =>
  rw [hgd] at hg
  simp only at hg
  rw [hg] at hp
  simp only [passed, Option.some.injEq] at hp
  subst hp; rfl
 | some p =>
  obtain ⟨j, want⟩ := p
  rw [hgd] at hg
  simp only at hg
  obtain ⟨g, hg1, hg2⟩ := hg
  rw [hg2] at hp
  simp only [passed] at hp
  split at hp
  ·rename_i c hc
   have h1 := hs.2 g
   rw [hc] at h1
   have h2 := h1.inv_bool
   have h3 : a.tmps[g]? = some (.bool c) := by
    rw [Array.getD_eq_getD_getElem?] at h2
    cases hx : a.tmps[g]? with
    | none => rw [hx] at h2; cases h2
    | some u => rw [hx] at h2; simp only [Option.getD_some] at h2; rw [h2]
   simp only [yielded, hg1, Option.bind_some, h3]
   injection hp with hp
   subst hp
   cases c <;> cases want <;> rfl
  ·rename_i hc
   have h1 := hs.2 g
   rw [hc] at h1
   have h2 : ∀ c, a.tmps[g]? ≠ some (.bool c) := by
    intro c h3
    rw [Array.getD_eq_getD_getElem?, h3] at h1
    cases h1
   have h4 : yielded ops a.tmps j = none := by
    unfold yielded
    rw [hg1, Option.bind_some]
    cases h3 : a.tmps[g]? with
    | none => rfl
    | some v => cases v <;> first | rfl | exact absurd h3 (h2 _)
   simp only [h4]
   injection hp with hp
   subst hp
   rfl
  ·cases hp
theorem step_sim (hO : CallOk P O) (hc : Cmp P mt nt ops o ao) (hs : SR E a σ) (hsz : nt ≤ a.tmps.size) (hdf : a.defers = []) (r : Rel B w0 E h w) {k0 : Nat} (hk : ao.op.isAlloc = true → h[k0 + ao.key]? = some .dead ∧ E.ρ (k0 + ao.key) = none)
  {σ1 : Slots} {h1 : Heap} {f : Foot} (hst : stepA O k0 ao σ h = some (σ1, h1, f)) {i : Nat} (hi : ops[i]? = some o) {K : Act → World → Prop}
  (hK : ∀ a' w' E', SR E' a' σ1 → nt ≤ a'.tmps.size → a'.defers = [] → Rel B w0 E' h1 w' → E.le E' → (∀ b, b < h.length → (ao.op.isAlloc = true → b ≠ k0 + ao.key) → E'.ρ b = E.ρ b) → K a' w') : wpOp P ops Q i K a w := by
 obtain ⟨hd, hdl, hop, hg⟩ := hc
 have hdl' : ∀ x, o.dst = some x → x < a.tmps.size := fun x hx => Nat.lt_of_lt_of_le (hdl x hx) hsz
 unfold wpOp
 simp only [hi]
 rcases stepA_cases hst with ⟨hp, e⟩ | ⟨hp, v, h', ha, e⟩
 ·injection e with e1 e2; injection e2 with e2 e3; subst e1; subst e2
  rw [wanted_passed ⟨hd, hdl, hop, hg⟩ hs hp]
  simp only [Bool.not_true, Bool.false_eq_true, if_false]
  rw [hd] at hK
  exact hK _ _ E (hs.put hdl' (.tup #[] [] rfl fun _ _ _ hu _ => by simp at hu)) (by rw [size_put]; exact hsz) (by rw [defers_put]; exact hdf) r E.le_refl fun _ _ _ => rfl
 ·injection e with e1 e2; injection e2 with e2 e3; subst e1; subst e2
  rw [wanted_passed ⟨hd, hdl, hop, hg⟩ hs hp]
  simp only [Bool.not_false, if_true]
  refine .inl ?_
  rw [hd] at hK
  have hop' := hop
  unfold compileOp' at hop'
  cases hco : compileOp P mt o with
  | none =>
   rw [hco] at hop'
   simp only at hop'
   rw [hop'] at ha
   simp [aop] at ha
  | some op =>
   rw [hco] at hop'
   simp only at hop'
   cases hpv : op.proved with
   | false =>
    rw [hpv] at hop'
    simp only [Bool.false_eq_true, if_false] at hop'
    rw [hop'] at ha
    simp [aop] at ha
   | true =>
    rw [hpv, if_pos rfl] at hop'
    cases hcl : op.isCall with
    | false =>
     obtain ⟨val, w', E', hrun, hle, hρ, hrel, hrd⟩ : ∃ val w' E', ((execOp a.eval o).run P w = .ok (.value val) w' ∨ ((execOp a.eval o).run P w = .ok .skip w' ∧ val = undef)) ∧ E.le E' ∧ (∀ b, b < h.length → (ao.op.isAlloc = true → b ≠ k0 + ao.key) → E'.ρ b = E.ρ b) ∧ Rel B w0 E' h1 w' ∧ Rd E' val v := by
      cases hal : op.isAlloc with
      | true =>
       rw [hop'] at ha hk
       obtain ⟨val, w', E', hrun, hle, hρ, hrel, hrd⟩ := op_sound hco hpv hcl hs r hk ha
       exact ⟨val, w', E', hrun, hle, fun b _ hb => hρ b (hb (by rw [hop']; exact hal)), hrel, hrd⟩
      | false =>
       rw [hop'] at ha
       rw [aop_nokey (key' := h.length) hal] at ha
       obtain ⟨val, w', E', hrun, hle, hρ, hrel, hrd⟩ := op_sound hco hpv hcl hs r (fun hx => by rw [hal] at hx; cases hx) ha
       exact ⟨val, w', E', hrun, hle, fun b hb _ => hρ b (by omega), hrel, hrd⟩
     have hfin := hK (a.put o.dst val) w' E' ((hs.mono hle).put hdl' hrd) (by rw [size_put]; exact hsz) (by rw [defers_put]; exact hdf) hrel hle hρ
     unfold Oper.wp
     rcases hrun with hrun | ⟨hrun, rfl⟩
     ·rw [hrun]; exact hfin
     ·rw [hrun]; exact hfin
    | true =>
     obtain ⟨g, xs, rfl⟩ : ∃ g xs, op = .call g xs := by cases op <;> first | exact ⟨_, _, rfl⟩ | cases hcl
     have hcc : ∃ c, o.op = .call c ∧ compileCall P o.type c = some (.call g xs) := by
      cases hop2 : o.op <;> simp only [compileOp, hop2] at hco <;> first
       | (obtain ⟨_, hq, he⟩ := Option.map_eq_some_iff.1 hco; obtain rfl := markApp_call he; exact ⟨_, rfl, hq⟩)
       | (exfalso
          clear hK hst hp ha hs hk hg hop hop' r
          repeat' (split at hco)
          all_goals first
          | (cases hco; done)
          | (injection hco with hco; cases hco; done)
          | (injection hco with hco; split at hco <;> cases hco; done)
          | (injection hco with hco; (repeat' (split at hco)) <;> cases hco; done)
          | (simp only [Option.map_eq_some_iff] at hco; obtain ⟨_, _, hco⟩ := hco; cases hco; done)
          | (simp only [Option.map_eq_some_iff] at hco; obtain ⟨_, _, hco⟩ := hco; split at hco <;> cases hco; done)
          | (rename_i hq; cases hq; done)
          | (obtain ⟨_, _, _, _, _, hco⟩ := frzOf_some hco; cases hco; done)
          | skip)
     obtain ⟨c, hoc, hcomp⟩ := hcc
     have hcv : ∃ fv gx as, c.callee = .value fv ∧ cx P 0 fv = some gx ∧ cxTs P (c.args.toList.zipIdx.map fun p => (p.1, c.argTypes.getD p.2 0)) = some as ∧ gx = g ∧ as = xs := by
      unfold compileCall at hcomp
      split at hcomp
      ·rename_i fv hcal
       split at hcomp
       ·rename_i gx as h1 h2
        injection hcomp with hcomp
        injection hcomp with e1 e2
        exact ⟨fv, gx, as, hcal, h1, h2, e1, e2⟩
       ·cases hcomp
      all_goals (
       exfalso
       repeat' (split at hcomp)
       all_goals first
        | (cases hcomp; done)
        | (injection hcomp with hcomp; cases hcomp; done)
        | (simp only [Option.map_eq_some_iff] at hcomp; obtain ⟨_, _, hcomp⟩ := hcomp; cases hcomp; done))
     obtain ⟨fv, gx, as, hcal, hfx, hax, rfl, rfl⟩ := hcv
     rw [hop'] at ha
     simp only [aop] at ha
     split at ha
     ·rename_i F caps hgv
      have hF := cx_sound hfx hs
      rw [hgv] at hF
      obtain ⟨cs, hev, hcl1, hcl2⟩ : ∃ cs : Array Value, a.eval fv = .func (.func F) #[] cs ∧ cs.size = caps.length ∧ ∀ (i : Nat) (u : Value) (x : AV), cs[i]? = some u → caps[i]? = some x → Rd E u x := by
       generalize a.eval fv = u at hF
       cases hF with
       | fn _ cs _ h1 h2 => exact ⟨cs, rfl, h1, h2⟩
      obtain ⟨hl1, hl2⟩ := cxTs_sound hax hs
      obtain ⟨g1, g2, g3⟩ := hO _ _ _ _ _ ha
      have hargs := g3 B w0 E w (c.args.map a.eval ++ cs) r (by
        have : c.args.size = as.length := by simpa using hl1
        simp [this, hcl1]) (by
       intro i u x hu hx
       have hsz2 : c.args.size = as.length := by simpa using hl1
       rw [Array.getElem?_append] at hu
       rw [List.getElem?_append] at hx
       simp only [Array.size_map, List.length_map] at hu hx
       by_cases hlt : i < c.args.size
       ·rw [if_pos hlt] at hu
        rw [if_pos (by omega)] at hx
        simp only [Array.getElem?_map, Option.map_eq_some_iff] at hu
        simp only [List.getElem?_map, Option.map_eq_some_iff] at hx
        obtain ⟨p, hp1, rfl⟩ := hu
        obtain ⟨q, hq1, rfl⟩ := hx
        refine hl2 i (p, c.argTypes.getD i 0) q ?_ hq1
        simp only [List.getElem?_map, List.getElem?_zipIdx, Array.getElem?_toList, hp1, Option.map_some, Nat.zero_add]
       ·rw [if_neg hlt] at hu
        rw [if_neg (by omega)] at hx
        rw [hsz2] at hu
        exact hcl2 _ u x hu hx)
      have hrunE : execOp a.eval o = callFunc F (c.args.map a.eval ++ cs) := by
       unfold execOp
       rw [hoc]
       dsimp only
       unfold resolve
       rw [hcal]
       simp only [hev, Deferred.ofValue]
       simp [invoke]
      unfold Oper.wp
      rw [hrunE]
      unfold Fires at hargs
      have hpost : ∀ v' w', (∃ E', E.le E' ∧ (∀ b, b < h.length → E'.ρ b = E.ρ b) ∧ Rel B w0 E' h1 w' ∧ Rd E' v' v) → K (a.put o.dst v') w' := by
       intro v' w' hh
       obtain ⟨E', k1, k2, k3, k4⟩ := hh
       exact hK (a.put o.dst v') w' E' ((hs.mono k1).put hdl' k4) (by rw [size_put]; exact hsz) (by rw [defers_put]; exact hdf) k3 k1 fun b hb _ => k2 b hb
      split at hargs
      ·rename_i v' w' hrun
       rw [hrun]
       exact hpost _ _ hargs
      ·rename_i F' ys w' hrun
       rw [hrun]
       refine Calls.mono hargs fun e w'' he => ?_
       cases e with
       | returned v' => exact hpost _ _ he
       | panicked ch => exact he.elim
       | outgrown => exact he.elim
      ·exact hargs.elim
     ·cases ha
end
end Go.Am
