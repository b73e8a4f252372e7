/-
  Structs and slices that are built; makes; appends.
-/
import Derived.Test.YtiobaboailhafaaAm7
import Derived.Great.FillDense
import Derived.Great.BuildSlice
set_option linter.unusedVariables false
set_option linter.unusedSimpArgs false
namespace Go.Am
open Go Go.RowKit
section
variable {P : Program} {B : Nat} {w0 : World} {E : Env} {h h' : Heap} {a : Act} {w : World} {σ : Slots} {o : Oper} {key : Nat} {O : CallO} {v : AV} {ty : TypeId}

/-! ### build -/
theorem fillA_sound (place : Nat → Option (Nat × Nat)) : ∀ (ps : List (Nat × Value)) (qs : List (Nat × Nat × AV)), ps.length = qs.length →
    (∀ (i : Nat) (p : Nat × Value) (q : Nat × Nat × AV), ps[i]? = some p → qs[i]? = some q → place p.1 = some (q.1, q.2.1) ∧ 0 < q.2.1 ∧ Rd E p.2 q.2.2) →
    ∀ (cur : Array Value) (cs : List AV), cur.size = cs.length → RdCells E cur cs → ∀ cs', fillA cs qs = some cs' → ∃ cur', Instr.fill place cur ps = some cur' ∧ cur'.size = cs'.length ∧ RdCells E cur' cs'
  | [], [], _, _, cur, cs, hl, hr, cs', hf => by
    simp only [fillA, Option.some.injEq] at hf
    subst hf
    exact ⟨cur, rfl, hl, hr⟩
  | p :: ps, q :: qs, hlen, hp, cur, cs, hl, hr, cs', hf => by
    obtain ⟨h1, hpos, h2⟩ := hp 0 p q rfl rfl
    obtain ⟨off, size, x⟩ := q
    simp only [fillA] at hf
    split at hf
    · rename_i hc
      obtain ⟨c1, c2⟩ := hc
      obtain ⟨k1, k2⟩ := h2.cells (by intro e; simp only at e; rw [e] at c1; simp at c1; simp only at hpos; omega)
      simp only at h1 h2 k1 k2 c1 c2 hpos
      obtain ⟨g1, g2⟩ := Great.foldl_set off p.2.cells.toList 0 cur
      have hsz2 : p.2.cells.toList.length = size := by simp; omega
      have hr' : RdCells E ((p.2.cells.toList.zipIdx 0).foldl (fun cs (x : Value × Nat) => cs.setIfInBounds (off + x.2) x.1) cur) (cs.take off ++ x.cells ++ cs.drop (off + size)) := by
        refine ⟨fun y hy => ?_, fun j u y hu hy => ?_⟩
        · simp only [List.mem_append] at hy
          rcases hy with (hy | hy) | hy
          · exact hr.1 y (List.mem_of_mem_take hy)
          · exact k2.1 y hy
          · exact hr.1 y (List.mem_of_mem_drop hy)
        · rw [g2 j] at hu
          simp only [Nat.add_zero, hsz2] at hu
          simp only [List.append_assoc, List.getElem?_append, List.length_take, List.getElem?_drop, List.getElem?_take] at hy
          have e1 : min off cs.length = off := by omega
          simp only [e1] at hy
          split at hu
          · rename_i hj
            rw [if_neg (by omega), if_pos (by omega)] at hy
            exact k2.2 _ u y (by simpa using hu) hy
          · rename_i hj
            by_cases hlt : j < off
            · simp only [hlt, if_true] at hy
              exact hr.2 j u y hu hy
            · have hge : off + size ≤ j := by
                rcases Nat.lt_or_ge j cur.size with h' | h'
                · omega
                · rw [Array.getElem?_eq_none h'] at hu; cases hu
              rw [if_neg hlt, if_neg (by omega)] at hy
              have e2 : off + size + (j - off - x.cells.length) = j := by omega
              rw [e2] at hy
              exact hr.2 j u y hu hy
      obtain ⟨cur', r1, r2, r3⟩ := fillA_sound place ps qs (by simpa using hlen) (fun i p' q' e1 e2 => hp (i + 1) p' q' e1 e2) _ _ (by rw [g1]; simp; omega) hr' cs' hf
      refine ⟨cur', ?_, r2, r3⟩
      unfold Instr.fill
      simp only [h1]
      rw [if_neg (by simp; omega), ← r1]
      congr 1
      rw [← Array.foldl_toList, Array.toList_zipIdx]
    · cases hf

theorem buildParts_sound {place : Nat → Option (Nat × Nat × TypeId)} (hs : SR E a σ) : ∀ {ps : List (Nat × Operand)} {qs : List (Nat × Nat × AX)}, buildParts P place ps = some qs →
    ps.length = qs.length ∧ ∀ (i : Nat) (p : Nat × Operand) (q : Nat × Nat × AX), ps[i]? = some p → qs[i]? = some q → (∃ t, place p.1 = some (q.1, q.2.1, t)) ∧ 0 < q.2.1 ∧ Rd E (a.eval p.2) (q.2.2.ev σ)
  | [], qs, hb => by simp only [buildParts, Option.some.injEq] at hb; subst hb; exact ⟨rfl, by simp⟩
  | (k, x) :: ps, qs, hb => by
    simp only [buildParts] at hb
    split at hb
    · rename_i off sz t hp
      split at hb
      · rename_i y ys h1 h2
        split at hb
        · rename_i hpos
          injection hb with hb
          subst hb
          obtain ⟨k1, k2⟩ := buildParts_sound hs h2
          refine ⟨by simp [k1], fun i p q e1 e2 => ?_⟩
          match i with
          | 0 => simp at e1 e2; subst e1; subst e2; exact ⟨⟨t, hp⟩, hpos, cx_sound h1 hs⟩
          | i + 1 => simp at e1 e2; exact k2 i p q e1 e2
        · cases hb
      · cases hb
    · cases hb

theorem run_mapM_places : ∀ (fs : List Field), (fs.all fun f => (size? P f.type).isSome) = true →
    (fs.mapM fun f => (do pure (f.offset, ← sizeOf f.type) : Sem (Nat × Nat))).run P w = .ok (fs.map fun f => (f.offset, (size? P f.type).getD 0)) w
  | [], _ => by simp
  | f :: fs, h => by
    simp only [List.all_cons, Bool.and_eq_true] at h
    obtain ⟨n, hn⟩ := Option.isSome_iff_exists.1 h.1
    simp only [List.mapM_cons, Sem.run_bind, run_sizeOf' hn, Result.andThen_ok, Sem.run_pure, run_mapM_places fs h.2, hn, List.map_cons, Option.getD_some]

theorem build_sound {t : TypeId} {parts : Array (Nat × Operand)} {zs : List AV} {qs : List (Nat × Nat × AX)} (ho : o.op = .build t parts) (hz : zeroA P t = some zs)
    (hplace : (∃ fs, P.underlying t = some (.struct fs) ∧ fieldsSized P fs = true ∧ buildParts P (fieldPlaceP P fs) parts.toList = some qs) ∨ (∃ n e s, P.underlying t = some (.array n e) ∧ size? P e = some s ∧ buildParts P (fun i => some (i * s, s, e)) parts.toList = some qs))
    (hs : SR E a σ) (r : Rel B w0 E h w) (hex : aop O σ h key (.build zs qs) = some (v, h')) : Out P B w0 E h' key a o w v := by
  simp only [aop] at hex
  split at hex
  · rename_i cs hf
    simp only [Option.some.injEq, Prod.mk.injEq] at hex
    obtain ⟨rfl, rfl⟩ := hex
    obtain ⟨i, z, hi, hiz, hl, _, hr⟩ := zeroA_sound (E := E) hz
    have hzv : (zeroValue t).run P w = .ok z w := by simp [zeroValue, typeInfo, hi, hiz]
    have main : ∃ place, (∀ cur', Instr.fill place z.cells ((parts.map fun (i, x) => (i, a.eval x)).toList) = some cur' → (Instr.build t (parts.map fun (i, x) => (i, a.eval x))).run P w = .ok (.agg cur') w) ∧
        ((parts.map fun (i, x) => (i, a.eval x)).toList.length = qs.length ∧ ∀ (i : Nat) (p : Nat × Value) (q : Nat × Nat × AX), (parts.map fun (i, x) => (i, a.eval x)).toList[i]? = some p → qs[i]? = some q → place p.1 = some (q.1, q.2.1) ∧ 0 < q.2.1 ∧ Rd E p.2 (q.2.2.ev σ)) := by
      have conv : ∀ (i : Nat) (p : Nat × Value), (parts.map fun (i, x) => (i, a.eval x)).toList[i]? = some p → ∃ u, parts.toList[i]? = some u ∧ p = (u.1, a.eval u.2) := by
        intro i p hp
        simp only [Array.toList_map, List.getElem?_map, Option.map_eq_some_iff] at hp
        obtain ⟨u, h1, h2⟩ := hp
        exact ⟨u, h1, h2.symm⟩
      rcases hplace with ⟨fs, hu, hfs, hb⟩ | ⟨n, e, s, hu, hsz, hb⟩
      · obtain ⟨k1, k2⟩ := buildParts_sound hs hb
        refine ⟨fun i => (fs.map fun f => (f.offset, (size? P f.type).getD 0))[i]?, fun cur' hc => ?_, by simpa using k1, fun i p q e1 e2 => ?_⟩
        · have hm : (fs.mapM fun f => (do pure (f.offset, ← sizeOf f.type) : Sem (Nat × Nat))).run P w = .ok (fs.map fun f => (f.offset, (size? P f.type).getD 0)) w := by
            rw [Array.mapM_eq_mapM_toList, Sem.run_map, run_mapM_places fs.toList hfs]
            simp only [Result.andThen_ok]
            congr 1
            exact Array.ext' (by simp)
          simp only [Instr.build, Sem.run_bind, hzv, Result.andThen_ok, run_underlying hu, hm]
          simp only [hc]
          rfl
        · obtain ⟨u, h1, rfl⟩ := conv i p e1
          obtain ⟨⟨t', h2⟩, h3, h4⟩ := k2 i u q h1 e2
          refine ⟨?_, h3, h4⟩
          simp only [fieldPlaceP] at h2
          split at h2
          · rename_i f hf'
            simp only [Option.map_eq_some_iff, Prod.mk.injEq] at h2
            obtain ⟨s', h5, h6, h7, _⟩ := h2
            show (fs.map _)[u.1]? = _
            rw [Array.getElem?_map, hf', Option.map_some, h5, Option.getD_some, h6, h7]
          · cases h2
      · obtain ⟨k1, k2⟩ := buildParts_sound hs hb
        refine ⟨fun i => some (i * s, s), fun cur' hc => ?_, by simpa using k1, fun i p q e1 e2 => ?_⟩
        · simp only [Instr.build, Sem.run_bind, hzv, Result.andThen_ok, run_underlying hu, run_sizeOf' hsz]
          simp only [hc]
          rfl
        · obtain ⟨u, h1, rfl⟩ := conv i p e1
          obtain ⟨⟨t', h2⟩, h3, h4⟩ := k2 i u q h1 e2
          refine ⟨?_, h3, h4⟩
          simp only [Option.some.injEq, Prod.mk.injEq] at h2
          show some (u.1 * s, s) = some (q.1, q.2.1)
          rw [h2.1, ← h2.2.1]
    obtain ⟨place, m1, m2, m3⟩ := main
    obtain ⟨cur', c1, c2, c3⟩ := fillA_sound place (parts.map fun (i, x) => (i, a.eval x)).toList (qs.map fun p => (p.1, p.2.1, p.2.2.ev σ)) (by simpa using m2) (fun i p q e1 e2 => by
      rw [List.getElem?_map, Option.map_eq_some_iff] at e2
      obtain ⟨q', h1, rfl⟩ := e2
      exact m3 i p q' e1 h1) z.cells zs hl hr cs hf
    refine Out.quiet r (.agg cur') ?_ (.agg _ _ c2 c3.1 c3.2)
    unfold execOp; rw [ho]
    exact run_v (m1 cur' c1)
  · cases hex

/-! ### Slice literals -/
theorem rowAt_flat {sz : Nat} (hpos : 0 < sz) {us : List Value} {xs : List AV} (hl : us.length = xs.length) (hr : ∀ (i : Nat) (u : Value) (x : AV), us[i]? = some u → xs[i]? = some x → Rd E u x) (hx : ∀ x ∈ xs, x.cells.length = sz) :
    (∀ u ∈ us, u.cells.size = sz) ∧ RowAt E (fun o => (us.flatMap fun v => v.cells.toList).toArray[o]?) sz xs := by
  have hc : ∀ (i : Nat) (u : Value) (x : AV), us[i]? = some u → xs[i]? = some x → u.cells.size = x.cells.length ∧ RdCells E u.cells x.cells := fun i u x h1 h2 =>
    (hr i u x h1 h2).cells (by intro e; have := hx x (List.mem_of_getElem? h2); rw [e] at this; simp at this; omega)
  have hsz : ∀ u ∈ us, u.cells.size = sz := by
    intro u hu
    obtain ⟨i, hi⟩ := List.mem_iff_getElem?.1 hu
    have hlt : i < xs.length := by have := (List.getElem?_eq_some_iff.1 hi).1; omega
    rw [(hc i u xs[i] hi (List.getElem?_eq_getElem hlt)).1]
    exact hx _ (List.getElem_mem hlt)
  refine ⟨hsz, fun x hm => ⟨hx x hm, ?_⟩, fun i x j y h1 h2 => ?_⟩
  · obtain ⟨i, hi⟩ := List.mem_iff_getElem?.1 hm
    have hlt : i < us.length := by have := (List.getElem?_eq_some_iff.1 hi).1; omega
    exact (hc i us[i] x (List.getElem?_eq_getElem hlt) hi).2.1
  · have hlt : i < us.length := by have := (List.getElem?_eq_some_iff.1 h1).1; omega
    have hj : j < sz := by
      have := (List.getElem?_eq_some_iff.1 h2).1
      rw [hx x (List.mem_of_getElem? h1)] at this
      exact this
    obtain ⟨k1, k2⟩ := hc i us[i] x (List.getElem?_eq_getElem hlt) h1
    have hju : j < us[i].cells.size := by
      rw [hsz _ (List.getElem_mem hlt)]; exact hj
    refine ⟨us[i].cells[j], ?_, k2.2 j _ y (Array.getElem?_eq_getElem hju) h2⟩
    show (us.flatMap fun v => v.cells.toList).toArray[i * sz + j]? = _
    have e := Great.flat_get hpos us hsz (i * sz + j)
    have d1 : (i * sz + j) / sz = i := by
      rw [Nat.mul_comm, Nat.mul_add_div hpos, Nat.div_eq_of_lt hj, Nat.add_zero]
    have d2 : (i * sz + j) % sz = j := by
      rw [Nat.mul_comm, Nat.mul_add_mod, Nat.mod_eq_of_lt hj]
    rw [d1, d2] at e
    rw [List.getElem?_toArray, e, List.getElem?_eq_getElem hlt]
    exact Array.getElem?_eq_getElem hju

theorem run_bslice {t e : TypeId} {len sz : Nat} {us : List Value} {parts : Array (Nat × Value)} (hu : P.underlying t = some (.slice e)) {z : List AV} (hz : zeroA P e = some z) (hzl : z.length = sz) (hpos : 0 < sz) (hsmall : len * sz ≤ 16777216)
    (hparts : parts.toList = (us.zipIdx 0).map fun x => (x.2, x.1)) (hlen : us.length = len) (hsz : ∀ u ∈ us, u.cells.size = sz) :
    (Instr.buildSlice t len parts).run P w = .ok (.slice (some ⟨w.heap.size, 0, none⟩) len len) (w.alloc (.cells (us.flatMap fun v => v.cells.toList).toArray e)) := by
  obtain ⟨i, zv, hi, hiz, hl, hsi, _⟩ := zeroA_sound (E := ⟨fun _ _ => none, fun _ => none⟩) hz
  have hisz : i.size = sz := by omega
  by_cases h0 : len = 0
  · have hus : us = [] := List.eq_nil_of_length_eq_zero (by omega)
    subst h0
    subst hus
    have hp : parts = #[] := by apply Array.ext'; simpa using hparts
    subst hp
    simp [Instr.buildSlice, run_underlying hu, sizeOf, typeInfo, zeroValue, hi, hiz, Instr.fill, newRow]
    have : Array.range 0 = #[] := by apply Array.ext'; simp
    simp [this]
  · refine run_buildSlice w t e len parts _ i zv hu hi hiz (by rw [hisz]; omega) (by rw [hisz]; intro hh; rcases Nat.mul_eq_zero.1 hh with hh | hh <;> omega) ?_
    rw [hparts, hisz]
    exact Great.fill_whole hpos us _ hsz (by simp [hlen])

theorem parts_us {parts : Array (Nat × Operand)} {len : Nat} (hidx : parts.toList.map (·.1) = List.range len) (f : Operand → Value) : (parts.map fun (i, x) => (i, f x)).toList = (((parts.toList.map (·.2)).map f).zipIdx 0).map fun x => (x.2, x.1) := by
  apply List.ext_getElem?
  intro i
  simp only [Array.toList_map, List.getElem?_map, List.getElem?_zipIdx, Nat.zero_add]
  cases hp : parts.toList[i]? with
  | none => simp
  | some p =>
    have h1 : (parts.toList.map (·.1))[i]? = some p.1 := by simp [hp]
    rw [hidx, List.getElem?_range] at h1
    · injection h1 with h1
      simp [h1]
    · have := (List.getElem?_eq_some_iff.1 hp).1
      have hl := congrArg List.length hidx
      simp at hl
      simp at this
      omega

theorem bslice_sound {t e : TypeId} {len sz : Nat} {parts : Array (Nat × Operand)} {z : List AV} {xs : List AX} (ho : o.op = .buildSlice t len parts) (hu : P.underlying t = some (.slice e)) (hz : zeroA P e = some z) (hzl : z.length = sz) (hpos : 0 < sz) (hsmall : len * sz ≤ 16777216)
    (hidx : parts.toList.map (·.1) = List.range len) (hc : cxs P e (parts.toList.map (·.2)) = some xs) (hs : SR E a σ) (r : Rel B w0 E h w) (hex : aop O σ h key (.bslice sz xs) = some (v, h')) : Out P B w0 E h' key a o w v := by
  simp only [aop] at hex
  split at hex
  · rename_i hcl
    simp only [Option.some.injEq, Prod.mk.injEq] at hex
    obtain ⟨rfl, rfl⟩ := hex
    obtain ⟨k1, k2⟩ := cxs_sound hc hs
    have hlen : (parts.toList.map (·.2)).length = len := by have := congrArg List.length hidx; simpa using this
    obtain ⟨g1, g2⟩ := rowAt_flat (E := E) hpos (us := (parts.toList.map (·.2)).map a.eval) (xs := xs.map (·.ev σ)) (by simpa using k1) (fun i u x e1 e2 => by
      rw [List.getElem?_map, Option.map_eq_some_iff] at e1 e2
      obtain ⟨p, p1, rfl⟩ := e1
      obtain ⟨q, q1, rfl⟩ := e2
      exact k2 i p q p1 q1) (fun x hx => by
      rw [List.mem_map] at hx
      obtain ⟨q, q1, rfl⟩ := hx
      exact hcl q q1)
    have hrun := run_bslice (P := P) (w := w) hu hz hzl hpos hsmall (parts_us hidx a.eval) (by simpa using hlen) g1
    obtain ⟨E', h1, h2, h3, h4⟩ := enter_full r ((Below.refl _ _).alloc (Nat.le_refl _) _) (heap_alloc_new w _) g2 (t := e) (fr := (0, 0))
    have hxl : (xs.map (·.ev σ)).length = len := by rw [List.length_map, ← k1, hlen]
    rw [hxl] at h4
    exact ⟨_, _, E', .inl (by unfold execOp; rw [ho]; exact run_v hrun), h1, fun b _ => h2 b, h3, h4⟩
  · cases hex

theorem constBytes_spec : ∀ {xs : List AX} {l : List UInt8}, constBytes xs = some l → xs = l.map fun b => AX.c (.int .u8 b.toNat)
  | [], l, h => by simp [constBytes] at h; simp [h]
  | x :: xs, l, h => by
    unfold constBytes at h
    split at h
    · rename_i hx; cases hx
    · rename_i n r hx
      split at h
      · rename_i l' hl
        split at h
        · rename_i hn
          injection hx with h1 h2
          injection h with h
          subst h; subst h1; subst h2
          rw [constBytes_spec hl, List.map_cons, hn]
        · cases h
      · cases h
    · cases h

/-- A literal of written-out bytes: a row of its own, with a token. -/
theorem bsliceT_sound {t e : TypeId} {len : Nat} {parts : Array (Nat × Operand)} {z : List AV} {xs : List AX} {l : List UInt8} (ho : o.op = .buildSlice t len parts) (hu : P.underlying t = some (.slice e)) (hz : zeroA P e = some z) (hzl : z.length = 1) (hsmall : len * 1 ≤ 16777216)
    (hidx : parts.toList.map (·.1) = List.range len) (hc : cxs P e (parts.toList.map (·.2)) = some xs) (hl : constBytes xs = some l) (hs : SR E a σ) (r : Rel B w0 E h w) (hk : h[key]? = some .dead) (hfree : E.ρ key = none) (hex : aop O σ h key (.cvStrBytes e (.c (.str l))) = some (v, h')) : Out P B w0 E h' key a o w v := by
  simp only [aop, AX.ev] at hex
  simp only [Option.some.injEq, Prod.mk.injEq] at hex
  obtain ⟨rfl, rfl⟩ := hex
  obtain ⟨k1, k2⟩ := cxs_sound hc hs
  have hlen : (parts.toList.map (·.2)).length = len := by have := congrArg List.length hidx; simpa using this
  have hxs : xs.map (·.ev σ) = ofBytes l := by
    rw [constBytes_spec hl, List.map_map]
    rfl
  obtain ⟨g1, g2⟩ := rowAt_flat (E := E) (sz := 1) Nat.one_pos (us := (parts.toList.map (·.2)).map a.eval) (xs := xs.map (·.ev σ)) (by simpa using k1) (fun i u x e1 e2 => by
    rw [List.getElem?_map, Option.map_eq_some_iff] at e1 e2
    obtain ⟨p, p1, rfl⟩ := e1
    obtain ⟨q, q1, rfl⟩ := e2
    exact k2 i p q p1 q1) (fun x hx => by
    rw [hxs] at hx
    simp only [ofBytes, List.mem_map] at hx
    obtain ⟨b, _, rfl⟩ := hx
    rfl)
  have hrun := run_bslice (P := P) (w := w) hu hz hzl Nat.one_pos hsmall (parts_us hidx a.eval) (by simpa using hlen) g1
  have hll : l.length = len := by
    have := congrArg List.length hxs
    simp only [List.length_map, ofBytes] at this
    rw [← this, ← k1, hlen]
  have hol : (ofBytes l).length = len := by simp [ofBytes, hll]
  have hfl : ((((parts.toList.map (·.2)).map a.eval).flatMap fun v => v.cells.toList).toArray).size = len * 1 := by
    rw [List.size_toArray, List.length_flatMap]
    have : ∀ (us : List Value), (∀ u ∈ us, u.cells.size = 1) → (us.map fun v => v.cells.toList.length).sum = us.length := by
      intro us
      induction us with
      | nil => intro _; rfl
      | cons u us ih =>
        intro hu
        simp only [List.map_cons, List.sum_cons, List.length_cons, Array.length_toList]
        rw [hu u List.mem_cons_self]
        have := ih fun x hx => hu x (List.mem_cons_of_mem _ hx)
        simp only [Array.length_toList] at this
        rw [this]; omega
    rw [this _ g1]
    simp at hlen ⊢
    exact hlen
  rw [hxs] at g2
  obtain ⟨E', h1, h2, h3, h4⟩ := enter_tok r hk hfree ((Below.refl _ _).alloc (Nat.le_refl _) _) (heap_alloc_new w _) (t := e) (fr := (0, 0)) (.inl rfl) hfl (by rw [hol]; exact Nat.le_refl _) g2 e
  rw [hol] at h3 h4
  rw [hll]
  exact ⟨_, _, E', .inl (by unfold execOp; rw [ho]; exact run_v hrun), h1, h2, h3, h4⟩

theorem flat_cells {us : List Value} {xs : List AV} {sz : Nat} (hpos : 0 < sz) (hl : us.length = xs.length) (hr : ∀ (i : Nat) (u : Value) (x : AV), us[i]? = some u → xs[i]? = some x → Rd E u x) (hx : ∀ x ∈ xs, x.cells.length = sz) :
    (us.flatMap fun v => v.cells.toList).toArray.size = (xs.flatMap AV.cells).length ∧ RdCells E (us.flatMap fun v => v.cells.toList).toArray (xs.flatMap AV.cells) := by
  induction us generalizing xs with
  | nil =>
    cases xs with
    | nil => exact ⟨rfl, by simp, by simp⟩
    | cons _ _ => simp at hl
  | cons u us ih =>
    cases xs with
    | nil => simp at hl
    | cons x xs =>
      obtain ⟨i1, i2, i3⟩ := ih (xs := xs) (by simpa using hl) (fun i u' x' e1 e2 => hr (i + 1) u' x' e1 e2) (fun y hy => hx y (List.mem_cons_of_mem _ hy))
      obtain ⟨k1, k2, k3⟩ := (hr 0 u x rfl rfl).cells (by intro e; have := hx x List.mem_cons_self; rw [e] at this; simp at this; omega)
      simp only [List.flatMap_cons]
      refine ⟨by simp at i1 ⊢; omega, fun y hy => ?_, fun o u' y hu hy => ?_⟩
      · rcases List.mem_append.1 hy with hy | hy
        · exact k2 y hy
        · exact i2 y hy
      · simp only [List.getElem?_toArray, List.getElem?_append, Array.length_toList, Array.getElem?_toList] at hu
        rw [List.getElem?_append] at hy
        rw [k1] at hu
        split at hu
        · rename_i hlt
          rw [if_pos hlt] at hy
          exact k3 o u' y hu hy
        · rename_i hlt
          rw [if_neg hlt] at hy
          exact i3 _ u' y (by simpa using hu) hy

theorem bsliceM_sound {t e : TypeId} {len sz : Nat} {parts : Array (Nat × Operand)} {z : List AV} {xs : List AX} (ho : o.op = .buildSlice t len parts) (hu : P.underlying t = some (.slice e)) (hz : zeroA P e = some z) (hzl : z.length = sz) (hpos : 0 < sz) (hsmall : len * sz ≤ 16777216)
    (hidx : parts.toList.map (·.1) = List.range len) (hc : cxs P e (parts.toList.map (·.2)) = some xs) (hs : SR E a σ) (r : Rel B w0 E h w) (hk : h[key]? = some .dead) (hfree : E.ρ key = none) (hex : aop O σ h key (.bsliceM sz xs) = some (v, h')) : Out P B w0 E h' key a o w v := by
  simp only [aop] at hex
  split at hex
  · rename_i hcl
    simp only [Option.some.injEq, Prod.mk.injEq] at hex
    obtain ⟨rfl, rfl⟩ := hex
    obtain ⟨k1, k2⟩ := cxs_sound hc hs
    have hlen : (parts.toList.map (·.2)).length = len := by have := congrArg List.length hidx; simpa using this
    have hr0 : ∀ (i : Nat) (u : Value) (x : AV), ((parts.toList.map (·.2)).map a.eval)[i]? = some u → (xs.map (·.ev σ))[i]? = some x → Rd E u x := fun i u x e1 e2 => by
      rw [List.getElem?_map, Option.map_eq_some_iff] at e1 e2
      obtain ⟨p, p1, rfl⟩ := e1
      obtain ⟨q, q1, rfl⟩ := e2
      exact k2 i p q p1 q1
    have hx0 : ∀ x ∈ xs.map (·.ev σ), x.cells.length = sz := fun x hx => by
      rw [List.mem_map] at hx
      obtain ⟨q, q1, rfl⟩ := hx
      exact hcl q q1
    obtain ⟨g1, _⟩ := rowAt_flat (E := E) hpos (us := (parts.toList.map (·.2)).map a.eval) (xs := xs.map (·.ev σ)) (by simpa using k1) hr0 hx0
    obtain ⟨f1, f2⟩ := flat_cells (E := E) hpos (us := (parts.toList.map (·.2)).map a.eval) (xs := xs.map (·.ev σ)) (by simpa using k1) hr0 hx0
    have hrun := run_bslice (P := P) (w := w) hu hz hzl hpos hsmall (parts_us hidx a.eval) (by simpa using hlen) g1
    have hfm : ((xs.map (·.ev σ)).flatMap AV.cells) = xs.flatMap fun p => (p.ev σ).cells := by rw [List.flatMap_map]
    rw [hfm] at f1 f2
    obtain ⟨E', h1, h2, h3, h4⟩ := enter_cells r hk hfree _ e _ f1 f2
    have hxl : xs.length = len := by rw [← k1, hlen]
    rw [hxl]
    exact ⟨_, _, E', .inl (by unfold execOp; rw [ho]; exact run_v hrun), h1, h2, h4, .sl _ _ _ _ _ w.heap.size 0 h3 (Nat.le_refl _)⟩
  · cases hex
end
end Go.Am
