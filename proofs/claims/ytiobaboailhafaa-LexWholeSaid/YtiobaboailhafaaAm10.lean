/-
  Appends, copies: soundness.
-/
import Derived.Test.YtiobaboailhafaaAm9
set_option linter.unusedVariables false
set_option linter.unusedSimpArgs false
namespace Go.Am
open Go Go.RowKit
section
variable {P : Program} {B : Nat} {w0 : World} {E : Env} {h h' : Heap} {a : Act} {w : World} {σ : Slots} {o : Oper} {key : Nat} {O : CallO} {v : AV} {ty : TypeId}

theorem flat_getA {s : Nat} (hs : 0 < s) : ∀ (vs : List AV), (∀ v ∈ vs, v.cells.length = s) → ∀ k, (vs.flatMap AV.cells)[k]? = (vs[k / s]?).bind (fun v => v.cells[k % s]?)
  | [], _, k => by simp
  | v :: vs, hv, k => by
    have hvs : v.cells.length = s := hv v List.mem_cons_self
    rw [List.flatMap_cons]
    by_cases hk : k < s
    · rw [List.getElem?_append_left (by omega), Nat.div_eq_of_lt hk, Nat.mod_eq_of_lt hk]
      simp
    · have h1 : k / s = (k - s) / s + 1 := by
        have := Nat.sub_add_cancel (Nat.le_of_not_lt hk)
        conv => lhs; rw [← this]
        rw [Nat.add_div_right _ hs]
      have h2 : k % s = (k - s) % s := by
        have := Nat.sub_add_cancel (Nat.le_of_not_lt hk)
        conv => lhs; rw [← this]
        rw [Nat.add_mod_right]
      rw [List.getElem?_append_right (by omega), hvs, flat_getA hs vs (fun u hu => hv u (List.mem_cons_of_mem _ hu)) (k - s), h1, h2, List.getElem?_cons_succ]

theorem flat_lenA {s : Nat} : ∀ (vs : List AV), (∀ v ∈ vs, v.cells.length = s) → (vs.flatMap AV.cells).length = vs.length * s
  | [], _ => by simp
  | v :: vs, hv => by
    rw [List.flatMap_cons, List.length_append, hv v List.mem_cons_self, flat_lenA vs (fun u hu => hv u (List.mem_cons_of_mem _ hu)), List.length_cons, Nat.add_mul]
    omega

theorem RowAt.flat {cur : Array Value} {sz : Nat} (hpos : 0 < sz) {ys : List AV} (k : RowAt E (fun o => cur[o]?) sz ys) : RdCells E cur (ys.flatMap AV.cells) := by
  refine ⟨fun y hy => ?_, fun o u y hu hy => ?_⟩
  · rw [List.mem_flatMap] at hy
    obtain ⟨x, hx, hy⟩ := hy
    exact (k.1 x hx).2 y hy
  · rw [flat_getA hpos ys (fun v hv => (k.1 v hv).1), Option.bind_eq_some_iff] at hy
    obtain ⟨x, hx, hy⟩ := hy
    obtain ⟨u', h1, h2⟩ := k.2 _ x _ y hx hy
    have e : o / sz * sz + o % sz = o := by rw [Nat.mul_comm]; exact Nat.div_add_mod o sz
    simp only [e] at h1
    rw [hu] at h1
    injection h1 with h1
    subst h1
    exact h2

theorem RowAt.append {c1 c2 : Nat → Option Value} {sz : Nat} {xs ys : List AV} (k1 : RowAt E c1 sz xs) (k2 : RowAt E c2 sz ys) {cur : Nat → Option Value} (e1 : ∀ o, o < xs.length * sz → cur o = c1 o) (e2 : ∀ o, o < ys.length * sz → cur (xs.length * sz + o) = c2 o) : RowAt E cur sz (xs ++ ys) := by
  refine ⟨fun x hx => ?_, fun i x j y hx hy => ?_⟩
  · rcases List.mem_append.1 hx with hx | hx
    · exact k1.1 x hx
    · exact k2.1 x hx
  · rw [List.getElem?_append] at hx
    split at hx
    · rename_i hi
      have hj : j < sz := by rw [← (k1.1 x (List.mem_of_getElem? hx)).1]; exact (List.getElem?_eq_some_iff.1 hy).1
      obtain ⟨u, h1, h2⟩ := k1.2 i x j y hx hy
      exact ⟨u, by rw [e1 _ (idx_lt hi hj)]; exact h1, h2⟩
    · rename_i hi
      have hj : j < sz := by rw [← (k2.1 x (List.mem_of_getElem? hx)).1]; exact (List.getElem?_eq_some_iff.1 hy).1
      have hi2 : i - xs.length < ys.length := (List.getElem?_eq_some_iff.1 hx).1
      obtain ⟨u, h1, h2⟩ := k2.2 _ x j y hx hy
      refine ⟨u, ?_, h2⟩
      have : i * sz + j = xs.length * sz + ((i - xs.length) * sz + j) := by
        have : i = xs.length + (i - xs.length) := by omega
        conv => lhs; rw [this]
        rw [Nat.add_mul]; omega
      rw [this, e2 _ (idx_lt hi2 hj)]
      exact h1

/-- The cells of a list, as the model loads them (in this world, and in any with the same cells). -/
theorem list_cells {A : Option Addr} {n c sz : Nat} {xs : List AV} {rt : Rt} (hx : Rd E (.slice A n c) (.list sz xs rt)) (r : Rel B w0 E h w) {size : Nat} (hs : sz = size ∨ xs = []) :
    ∃ olds : Array Value, (Builtin.firstCells size n (.slice A n c)).run P w = .ok olds w ∧ (Builtin.firstCells size n (.slice A n c)).run P w.drew = .ok olds w.drew ∧ olds.size = n * size ∧ RowAt E (fun o => olds[o]?) size xs ∧ n = xs.length ∧ n ≤ c := by
  cases hx with
  | list _ _ _ _ _ _ g b vs k1 k2 k3 k4 k5 k6 k7 =>
    rcases Nat.eq_zero_or_pos n with hn | hn
    · subst hn
      have hxs : xs = [] := List.eq_nil_of_length_eq_zero k1
      subst hxs
      refine ⟨#[], ?_, ?_, by simp, ⟨by simp, by simp⟩, rfl, k2⟩
      · cases A <;> simp [Builtin.firstCells, loadCells, loadCellsFrom]
      · cases A <;> simp [Builtin.firstCells, loadCells, loadCellsFrom]
    · have hs' : sz = size := by
        rcases hs with hs | hs
        · exact hs
        · rw [hs] at k1; simp at k1; omega
      subst hs'
      have hA := k3 hn
      subst hA
      have hcell : ∀ o, o < n * sz → w.cell? ⟨g, b + o, none⟩ = some (vs (o / sz) (o % sz)) := by
        intro o ho
        have hpos : 0 < sz := by
          rcases Nat.eq_zero_or_pos sz with h0 | h0
          · subst h0; omega
          · exact h0
        have h1 : o / sz < n := (Nat.div_lt_iff_lt_mul hpos).2 ho
        have h2 : o % sz < sz := Nat.mod_lt _ hpos
        have := r.prot _ _ _ (k5 _ _ h1 h2)
        rw [show o / sz * sz + o % sz = o from by rw [Nat.mul_comm]; exact Nat.div_add_mod o sz] at this
        exact this
      have hrun : ∀ w' : World, (∀ o, o < n * sz → w'.cell? ⟨g, b + o, none⟩ = some (vs (o / sz) (o % sz))) → (Builtin.firstCells sz n (.slice (some ⟨g, b, none⟩) n c)).run P w' = .ok ((List.range (n * sz)).map fun o => vs (o / sz) (o % sz)).toArray w' := by
        intro w' hw'
        simp only [Builtin.firstCells]
        exact run_loadCells (P := P) w' ⟨g, b, none⟩ (n * sz) (fun o => vs (o / sz) (o % sz)) (fun j hj => by rw [add_plain]; exact hw' j hj)
      refine ⟨_, hrun w hcell, hrun w.drew (fun o ho => hcell o ho), by simp, ⟨k4, fun i x j y hx hy => ?_⟩, k1.symm, k2⟩
      have hi : i < n := by have := (List.getElem?_eq_some_iff.1 hx).1; omega
      have hj : j < sz := by rw [← (k4 x (List.mem_of_getElem? hx)).1]; exact (List.getElem?_eq_some_iff.1 hy).1
      refine ⟨vs i j, ?_, k6 i x j y hx hy⟩
      have hlt := idx_lt hi hj
      have d1 : (i * sz + j) / sz = i := by
        rw [Nat.mul_comm, Nat.mul_add_div (by omega), Nat.div_eq_of_lt hj, Nat.add_zero]
      have d2 : (i * sz + j) % sz = j := by
        rw [Nat.mul_comm, Nat.mul_add_mod, Nat.mod_eq_of_lt hj]
      simp [hlt, d1, d2]

/-- What is appended. -/
theorem src_sound {x : AV} {u : Value} {ut : TypeId} {size : Nat} {ys : List AV} (hu : (∃ e, P.underlying ut = some (.slice e)) ∨ P.underlying ut = some .string) (hr : Rd E u x) (hs : srcOf size x = some ys) (r : Rel B w0 E h w) :
    ∃ news, Src P w size ut u ys.length news ∧ Src P w.drew size ut u ys.length news ∧ RowAt E (fun o => news[o]?) size ys := by
  unfold srcOf at hs
  split at hs
  · rename_i s xs rt
    split at hs
    · rename_i hsz
      injection hs with hs
      subst hs
      cases u <;> try (cases hr; done)
      rename_i A n c
      obtain ⟨olds, h1, h2, h3, h4, h5, h6⟩ := list_cells (P := P) hr r hsz
      subst h5
      exact ⟨olds, ⟨hu, fun w' => rfl, h1, h3⟩, ⟨hu, fun w' => rfl, h2, h3⟩, h4⟩
    · cases hs
  · rename_i l
    split at hs
    · rename_i h1
      subst h1
      injection hs with hs
      subst hs
      rw [hr.inv_str]
      have hlen : (ofBytes l).length = l.length := by simp [ofBytes]
      have hx : (((⟨⟨l⟩⟩ : ByteArray).extract 0 l.length).data.map fun b => Value.int .u8 b.toNat).size = l.length := by
        have := Lib.extract_data ⟨⟨l⟩⟩ 0 l.length
        have := congrArg List.length this
        simp at this
        simp [this]
      refine ⟨((⟨⟨l⟩⟩ : ByteArray).extract 0 l.length).data.map fun b => .int .u8 b.toNat, ⟨hu, fun w' => by rw [hlen]; rfl, by rw [hlen]; rfl, by rw [hlen, hx]; omega⟩, ⟨hu, fun w' => by rw [hlen]; rfl, by rw [hlen]; rfl, by rw [hlen, hx]; omega⟩, ⟨fun x hx => ?_, fun i x j y hx hy => ?_⟩⟩
      · simp only [ofBytes, List.mem_map] at hx
        obtain ⟨b, _, rfl⟩ := hx
        simp [AV.cells, AV.one]
      · simp only [ofBytes, List.getElem?_map, Option.map_eq_some_iff] at hx
        obtain ⟨b, hb, rfl⟩ := hx
        match j with
        | 0 =>
          simp [AV.cells] at hy
          subst hy
          refine ⟨.int .u8 b.toNat, ?_, .int _ _⟩
          have e := Lib.extract_data ⟨⟨l⟩⟩ 0 l.length
          have e2 : ((⟨⟨l⟩⟩ : ByteArray).extract 0 l.length).data.toList[i]? = some b := by rw [e]; simpa using hb
          have e3 : ((⟨⟨l⟩⟩ : ByteArray).extract 0 l.length).data[i]? = some b := by simpa using e2
          simp only [Nat.mul_one, Nat.add_zero, Array.getElem?_map, e3, Option.map_some]
        | j + 1 => simp [AV.cells] at hy
    · cases hs
  · cases hs

theorem kill_dead (hk : h[key]? = some .dead) (rt : Rt) : (kill h rt)[key]? = some .dead := by
  cases rt with
  | no => exact hk
  | full => exact hk
  | tok t =>
    simp only [kill, List.getElem?_set]
    split
    · rename_i e
      subst e
      have := (List.getElem?_eq_some_iff.1 hk).1
      simp [this]
    · exact hk

theorem rel_kills (r : Rel B w0 E h w) (rt : Rt) : Rel B w0 E (kill h rt) w := by
  cases rt with
  | no => exact r
  | full => exact r
  | tok t => exact r.kill t

/-- An append that takes a new array. -/
theorem app_realloc {sz : Nat} {xs ys : List AV} {e : TypeId} {i : TypeInfo} {z : Value} {A : Option Addr} {c : Nat} {olds news : Array Value} (r : Rel B w0 E h w) (hk : h[key]? = some .dead) (hfree : E.ρ key = none) (hsize : i.size = sz) (hz : z.cells.size = i.size)
    (ho : RowAt E (fun o => olds[o]?) sz xs) (hol : olds.size = xs.length * sz) (hn : RowAt E (fun o => news[o]?) sz ys) (hnl : news.size = ys.length * sz) (gc : Nat) (hgc : xs.length + ys.length ≤ gc) (e' : TypeId) :
    ∃ E', E.le E' ∧ (∀ b, b ≠ key → E'.ρ b = E.ρ b) ∧ Rel B w0 E' (h.set key (.tok sz (xs.length + ys.length) e')) (w.drew.alloc (.cells (olds ++ news ++ Builtin.zeroCells z.cells (gc - (xs.length + ys.length))) e)) ∧ Rd E' (.slice (some ⟨w.heap.size, 0, none⟩) (xs.length + ys.length) gc) (.list sz (xs ++ ys) (.tok key)) := by
  have hzl : (Builtin.zeroCells z.cells (gc - (xs.length + ys.length))).size = (gc - (xs.length + ys.length)) * sz := by simp [Builtin.zeroCells, hz, hsize]
  have hb : Below w.heap.size w (w.drew.alloc (.cells (olds ++ news ++ Builtin.zeroCells z.cells (gc - (xs.length + ys.length))) e)) := (Below.drew (Below.refl _ _)).alloc (Nat.le_refl _) _
  have hsz : (olds ++ news ++ Builtin.zeroCells z.cells (gc - (xs.length + ys.length))).size = gc * sz := by
    simp only [Array.size_append, hol, hnl, hzl]
    rw [← Nat.add_mul, ← Nat.add_mul]
    congr 1
    omega
  have hrow : RowAt E (fun o => (olds ++ news ++ Builtin.zeroCells z.cells (gc - (xs.length + ys.length)))[o]?) sz (xs ++ ys) := by
    refine ho.append hn (fun o hlt => ?_) (fun o hlt => ?_)
    · show (olds ++ news ++ _)[o]? = _
      rw [Array.append_assoc, Array.getElem?_append_left (by omega)]
    · show (olds ++ news ++ _)[_ + o]? = _
      rw [Array.append_assoc, Array.getElem?_append_right (by omega), hol, Nat.add_sub_cancel_left, Array.getElem?_append_left (by omega)]
  have := enter_tok (fr := (0, 0)) r hk hfree hb (heap_alloc_new _ _) (.inl rfl) hsz (by rw [List.length_append]; exact hgc) hrow e'
  rw [List.length_append] at this
  exact this

/-- An append in place, behind a list that has the token. -/
theorem app_fits {xs ys : List AV} {t g c : Nat} {e' e'' : TypeId} {news : Array Value} {sz : Nat} (r : Rel B w0 E h w) (hk : h[key]? = some .dead) (hfree : E.ρ key = none) (ht : h[t]? = some (.tok sz xs.length e')) (hx : Rd E (.slice (some ⟨g, 0, none⟩) xs.length c) (.list sz xs (.tok t)))
    (hn : RowAt E (fun o => news[o]?) sz ys) (hnl : news.size = ys.length * sz) (hpos : 0 < sz) (hfit : xs.length + ys.length ≤ c) :
    ∃ w' E', (storeCells ⟨g, xs.length * sz, none⟩ news.toList).run P w = .ok () w' ∧ E.le E' ∧ (∀ b, b ≠ key → E'.ρ b = E.ρ b) ∧ Rel B w0 E' ((h.set t .dead).set key (.tok sz (xs.length + ys.length) e'')) w' ∧ Rd E' (.slice (some ⟨g, 0, none⟩) (xs.length + ys.length) c) (.list sz (xs ++ ys) (.tok key)) := by
  obtain ⟨ol, o1, _, o3, o4, _, _⟩ := list_cells (P := P) hx r (.inl rfl)
  cases hx with
  | list _ _ _ _ _ _ g' b' vs k1 k2 k3 k4 k5 k6 k7 =>
    obtain ⟨g2, hg2, hρ⟩ := k7
    have : g2 = g := by injection hg2 with hg2; injection hg2 with hg2; exact hg2.symm
    subst this
    obtain ⟨g3, c3, q1, q2⟩ := r.live t _ ht (by simp)
    rw [hρ] at q1
    injection q1 with q1; injection q1 with q1 q1'; subst q1; subst q1'
    obtain ⟨hB, ⟨cur, ty, fr, hcur, hsz, hnc, hf⟩, hC⟩ := q2
    have hmul : (xs.length + ys.length) * sz ≤ c * sz := Nat.mul_le_mul_right _ hfit
    rw [Nat.add_mul] at hmul
    obtain ⟨w', s1, s2, s3⟩ := run_storeCells' P g2 (xs.length * sz) ty fr news.toList 0 cur w hcur (by simp; omega) (fun u hu => by
      obtain ⟨o, ho⟩ := List.mem_iff_getElem?.1 hu
      have ho' : news[o]? = some u := by simpa using ho
      have hlt : o < ys.length * sz := by
        have := (List.getElem?_eq_some_iff.1 ho).1
        simp at this
        omega
      exact (hn.flat hpos).one_cell ho' (by rw [flat_lenA ys (fun v hv => (hn.1 v hv).1)]; exact hlt)) hf
    have hnew : ∀ o, (cur.toList.take (xs.length * sz + 0) ++ news.toList ++ cur.toList.drop (xs.length * sz + 0 + news.toList.length)).toArray[o]? = if o < xs.length * sz then cur[o]? else if o < (xs.length + ys.length) * sz then news[o - xs.length * sz]? else cur[o]? := by
      intro o
      simp only [Nat.add_zero, List.append_assoc, List.getElem?_toArray, List.getElem?_append, List.length_take, Array.length_toList, List.getElem?_take, List.getElem?_drop, hnl]
      have e1 : min (xs.length * sz) cur.size = xs.length * sz := by omega
      rw [e1, Nat.add_mul]
      by_cases h1 : o < xs.length * sz
      · simp [h1]
      · by_cases h2 : o < xs.length * sz + ys.length * sz
        · rw [if_neg h1, if_pos (by omega), if_neg h1, if_pos h2]
          simp
        · rw [if_neg h1, if_neg (by omega), if_neg h1, if_neg h2]
          simp only [Array.getElem?_toList]
          congr 1
          omega
    have hsz' : (cur.toList.take (xs.length * sz + 0) ++ news.toList ++ cur.toList.drop (xs.length * sz + 0 + news.toList.length)).toArray.size = cur.size := by simp; omega
    generalize hcur' : (cur.toList.take (xs.length * sz + 0) ++ news.toList ++ cur.toList.drop (xs.length * sz + 0 + news.toList.length)).toArray = cur' at *
    have hno : ∀ b e, (h.set t .dead)[b]? = some e → e ≠ .dead → ∀ g' c', E.ρ b = some (g', c') → g' ≠ g2 := by
      intro b e he hd g' c' hρ'
      rw [List.getElem?_set] at he
      split at he
      · split at he
        · injection he with he; exact absurd he.symm hd
        · cases he
      · rename_i hne
        exact r.uniq b t e _ (fun hh => hne hh.symm) he hd ht (by simp) g' c' g2 c hρ' hρ
    have hlow : ∀ o v, E.C g2 o = some v → o < xs.length * sz := by
      intro o v hv
      rcases Nat.lt_or_ge o (xs.length * sz) with h' | h'
      · exact h'
      · rw [hC o h'] at hv; cases hv
    have r2 : Rel B w0 E (h.set t .dead) w' := (r.kill t).scribble g2 hB s2 hno (fun o v hv => by
      have h1 := r.prot g2 o v hv
      rw [cell_of_block hcur] at h1
      rw [cell_of_block s3, hnew o, if_pos (hlow o v hv)]
      exact h1)
    let C' : Nat → Nat → Option Value := fun g o => if g = g2 ∧ xs.length * sz ≤ o ∧ o < (xs.length + ys.length) * sz then cur'[o]? else E.C g o
    have hk2 : (h.set t .dead)[key]? = some .dead := kill_dead hk (.tok t)
    obtain ⟨hle, r3⟩ := r2.enter key hk2 hfree g2 c (.tok sz (xs.length + ys.length) e'') C'
      (fun g o v hv => by
        show (if _ then _ else _) = _
        rw [if_neg]
        · exact hv
        · rintro ⟨rfl, h1, _⟩
          have := hlow o v hv
          omega)
      (fun g o v hv => by
        have hv' : (if g = g2 ∧ xs.length * sz ≤ o ∧ o < (xs.length + ys.length) * sz then cur'[o]? else E.C g o) = some v := hv
        split at hv'
        · rename_i hh
          obtain ⟨rfl, _⟩ := hh
          rw [cell_of_block s3]; exact hv'
        · exact r2.prot g o v hv')
      (fun b e he hd g' c' hρ' => ⟨hno b e he hd g' c' hρ', fun o => if_neg (fun hh => hno b e he hd g' c' hρ' hh.1)⟩)
      ⟨hB, ⟨cur', ty, fr, s3, by omega, hfit, by rw [hsz']; exact hf⟩, fun o ho => by
        show (if _ then _ else _) = _
        rw [if_neg (by omega)]
        exact hC o (by rw [Nat.add_mul] at ho; omega)⟩
    refine ⟨w', _, s1, hle, fun b hb => by dsimp only; rw [if_neg hb], r3, ?_⟩
    rw [← List.length_append]
    refine rd_list (cur := fun o => cur'[o]?) hle (by rw [List.length_append]; exact hfit) ?_ (fun o u ho hu => ?_) ⟨g2, rfl, by simp⟩
    · refine RowAt.append (c1 := fun o => cur[o]?) (c2 := fun o => news[o]?) ⟨k4, fun i x j y hx hy => ?_⟩ hn (fun o ho => ?_) (fun o ho => ?_)
      · have hi : i < xs.length := (List.getElem?_eq_some_iff.1 hx).1
        have hj : j < sz := by rw [← (k4 x (List.mem_of_getElem? hx)).1]; exact (List.getElem?_eq_some_iff.1 hy).1
        have hA := k3 (by omega)
        injection hA with hA; injection hA with hA1 hA2
        subst hA1; subst hA2
        have := r.prot _ _ _ (k5 i j hi hj)
        rw [cell_of_block hcur, Nat.zero_add] at this
        exact ⟨_, this, k6 i x j y hx hy⟩
      · show cur'[o]? = _
        rw [hnew, if_pos ho]
      · show cur'[_]? = _
        rw [hnew, if_neg (by omega), if_pos (by rw [Nat.add_mul]; omega), Nat.add_sub_cancel_left]
    · show (if _ then _ else _) = _
      rw [List.length_append] at ho
      by_cases h1 : xs.length * sz ≤ o
      · rw [if_pos ⟨rfl, h1, ho⟩]; exact hu
      · rw [if_neg (by omega)]
        have hpos' : 0 < xs.length := by
          rcases Nat.eq_zero_or_pos xs.length with h0 | h0
          · rw [h0] at h1; omega
          · exact h0
        have hA := k3 hpos'
        injection hA with hA; injection hA with hA1 hA2
        subst hA1; subst hA2
        have d1 : o / sz < xs.length := (Nat.div_lt_iff_lt_mul hpos).2 (by omega)
        have d2 : o % sz < sz := Nat.mod_lt _ hpos
        have q := k5 _ _ d1 d2
        rw [show o / sz * sz + o % sz = o from by rw [Nat.mul_comm]; exact Nat.div_add_mod o sz, Nat.zero_add] at q
        have q2 := r.prot _ _ _ q
        rw [cell_of_block hcur] at q2
        have hu' : cur'[o]? = some u := hu
        rw [hnew, if_pos (by omega), q2] at hu'
        rw [q]
        exact hu'

/-- An append in place, behind a row that may be written. -/
theorem grow_fits {b n g c : Nat} {cs ys : List AV} {news : Array Value} {sz : Nat} (r : Rel B w0 E h w) (hk : h[key]? = some .dead) (hfree : E.ρ key = none) (hb : h[b]? = some (.grow sz cs)) (hρ : E.ρ b = some (g, c)) (hle : n * sz ≤ cs.length)
    (hn : RowAt E (fun o => news[o]?) sz ys) (hnl : news.size = ys.length * sz) (hpos : 0 < sz) (hfit : n + ys.length ≤ c) :
    ∃ w' E', (storeCells ⟨g, n * sz, none⟩ news.toList).run P w = .ok () w' ∧ E.le E' ∧ (∀ b, b ≠ key → E'.ρ b = E.ρ b) ∧ Rel B w0 E' ((h.set b .dead).set key (.grow sz (cs.take (n * sz) ++ ys.flatMap AV.cells))) w' ∧ Rd E' (.slice (some ⟨g, 0, none⟩) (n + ys.length) c) (.gl sz key (n + ys.length)) := by
  obtain ⟨g3, c3, q1, q2⟩ := r.live b _ hb (by simp)
  rw [hρ] at q1
  injection q1 with q1; injection q1 with q1 q1'; subst q1; subst q1'
  obtain ⟨hB, ⟨cur, ty, fr, hcur, hlc, hsz, hrd, hf⟩, hC⟩ := q2
  have hmul : (n + ys.length) * sz ≤ c * sz := Nat.mul_le_mul_right _ hfit
  rw [Nat.add_mul] at hmul
  have hfl := flat_lenA ys (fun v hv => (hn.1 v hv).1)
  have hnr := hn.flat hpos
  obtain ⟨w', s1, s2, s3⟩ := run_storeCells' P g (n * sz) ty fr news.toList 0 cur w hcur (by simp; omega) (fun u hu => by
    obtain ⟨o, ho⟩ := List.mem_iff_getElem?.1 hu
    have ho' : news[o]? = some u := by simpa using ho
    have hlt : o < ys.length * sz := by
      have := (List.getElem?_eq_some_iff.1 ho).1
      simp at this
      omega
    exact hnr.one_cell ho' (by rw [hfl]; exact hlt)) hf
  have hsz' : (cur.toList.take (n * sz + 0) ++ news.toList ++ cur.toList.drop (n * sz + 0 + news.toList.length)).toArray.size = cur.size := by simp; omega
  have hrd' : RdCells E (cur.toList.take (n * sz + 0) ++ news.toList ++ cur.toList.drop (n * sz + 0 + news.toList.length)).toArray (cs.take (n * sz) ++ ys.flatMap AV.cells) := by
    refine ⟨fun y hy => ?_, fun o u y hu hy => ?_⟩
    · rcases List.mem_append.1 hy with hy | hy
      · exact hrd.1 y (List.mem_of_mem_take hy)
      · exact hnr.1 y hy
    · simp only [Nat.add_zero, List.append_assoc, List.getElem?_toArray, List.getElem?_append, List.length_take, Array.length_toList, List.getElem?_take] at hu hy
      have e1 : min (n * sz) cur.size = n * sz := by omega
      have e2 : min (n * sz) cs.length = n * sz := by omega
      rw [e1] at hu
      rw [e2] at hy
      by_cases h1 : o < n * sz
      · simp only [h1, if_true] at hu hy
        exact hrd.2 o u y (by simpa using hu) hy
      · rw [if_neg h1] at hu hy
        have hlt : o - n * sz < ys.length * sz := by
          have := (List.getElem?_eq_some_iff.1 hy).1
          rw [hfl] at this
          exact this
        rw [if_pos (by omega)] at hu
        exact hnr.2 _ u y (by simpa using hu) hy
  have hno : ∀ b' e, (h.set b .dead)[b']? = some e → e ≠ .dead → ∀ g' c', E.ρ b' = some (g', c') → g' ≠ g := by
    intro b' e he hd g' c' hρ'
    rw [List.getElem?_set] at he
    split at he
    · split at he
      · injection he with he; exact absurd he.symm hd
      · cases he
    · rename_i hne
      exact r.uniq b' b e _ (fun hh => hne hh.symm) he hd hb (by simp) g' c' g c hρ' hρ
  have r2 : Rel B w0 E (h.set b .dead) w' := (r.kill b).scribble g hB s2 hno (fun o v hv => by rw [hC] at hv; cases hv)
  have hk2 : (h.set b .dead)[key]? = some .dead := kill_dead hk (.tok b)
  have hle' : E.le ⟨E.C, fun b => if b = key then some (g, c) else E.ρ b⟩ := ⟨fun _ _ _ h => h, fun b x hx => by
    dsimp only; split
    · rename_i e; subst e; rw [hfree] at hx; cases hx
    · exact hx⟩
  obtain ⟨_, r3⟩ := r2.enter key hk2 hfree g c (.grow sz (cs.take (n * sz) ++ ys.flatMap AV.cells)) E.C (fun _ _ _ h => h) r2.prot
    (fun b e he hd g' c' hρ' => ⟨hno b e he hd g' c' hρ', fun _ => rfl⟩)
    ⟨hB, ⟨_, ty, fr, s3, by rw [List.length_append, List.length_take, hfl, hsz']; omega, by rw [hsz']; exact hsz, ⟨hrd'.1, fun o u x hu hx => (hrd'.2 o u x hu hx).mono hle'⟩, by rw [hsz']; exact hf⟩, hC⟩
  exact ⟨w', _, s1, hle', fun b hb => by dsimp only; rw [if_neg hb], r3, .gl _ _ _ g c (by simp) hfit⟩

theorem append_sound {c : Call} {s x : Operand} {t u e : TypeId} {p q : AX} {i : TypeInfo} {zs : List AV} {d : TypeDesc} (ho : o.op = .call c) (hb : c.callee = .builtin .append) (ha : c.args = #[s, x]) (ht : c.argTypes = #[t, u]) (hu : P.underlying t = some (.slice e)) (hi : P.info? e = some i) (hz : zeroA P e = some zs) (hzl : zs.length = i.size) (hpos : 0 < i.size) (hposb : 0 < i.bytes)
    (hd : P.underlying u = some d) (hd' : (∃ e, d = .slice e) ∨ d = .string) (h1 : cx P t s = some p) (h2 : cx P u x = some q) (hs : SR E a σ) (r : Rel B w0 E h w) (hk : h[key]? = some .dead) (hfree : E.ρ key = none) (hex : aop O σ h key (.append i.size i.bytes e p q) = some (v, h')) : Out P B w0 E h' key a o w v := by
  have hss := cx_sound h1 hs
  have hx := cx_sound h2 hs
  obtain ⟨i', zv, hi', hiz, hl, hsi, _⟩ := zeroA_sound (E := E) hz
  rw [hi] at hi'
  injection hi' with hi'
  subst hi'
  have hut : (∃ e, P.underlying u = some (.slice e)) ∨ P.underlying u = some .string := by
    rcases hd' with ⟨e, rfl⟩ | rfl
    · exact .inl ⟨e, hd⟩
    · exact .inr hd
  have hout : ∀ {val w' E'}, (Builtin.append_ #[t, u] o.type #[a.eval s, a.eval x]).run P w = .ok val w' → E.le E' → (∀ b, b ≠ key → E'.ρ b = E.ρ b) → Rel B w0 E' h' w' → Rd E' val v → Out P B w0 E h' key a o w v := by
    intro val w' E' hrun k1 k2 k3 k4
    refine ⟨val, w', E', .inl ?_, k1, k2, k3, k4⟩
    rw [run_builtin ho hb, ha, ht]
    simp only [List.map_toArray, List.map_cons, List.map_nil]
    exact run_v hrun
  simp only [aop, appA] at hex
  generalize hsv : a.eval s = sv at hss hout
  generalize hxv : a.eval x = xv at hx hout
  split at hex
  · rename_i s' xs rt he
    rw [he] at hss
    split at hex
    · rename_i ys hsrc
      obtain ⟨news, n1, n2, n3⟩ := src_sound hut hx hsrc r
      split at hex
      · rename_i hnil
        simp only [Option.some.injEq, Prod.mk.injEq] at hex
        obtain ⟨rfl, rfl⟩ := hex
        subst hnil
        cases sv <;> try (cases hss; done)
        rename_i A n cc
        have hnc : n ≤ cc := by cases hss; assumption
        exact hout (run_append_none hu hi hnc n1) E.le_refl (fun _ _ => rfl) r (by rw [he]; exact hss)
      · rename_i hnil
        split at hex
        · rename_i hcond
          obtain ⟨c1, c2, c3, c4⟩ := hcond
          simp only [Option.some.injEq, Prod.mk.injEq] at hex
          obtain ⟨rfl, rfl⟩ := hex
          have hyl : 0 < ys.length := by cases ys with | nil => exact absurd rfl hnil | cons _ _ => simp
          cases sv <;> try (cases hss; done)
          rename_i A n cc
          obtain ⟨olds, o1, o2, o3, o4, o5, o6⟩ := list_cells (P := P) hss r c1
          subst o5
          have realloc : cc < xs.length + ys.length → Out P B w0 E ((kill h rt).set key (.tok i.size (xs.length + ys.length) e)) key a o w (.list i.size (xs ++ ys) (.tok key)) := by
            intro hgrow
            have hrun := run_append_realloc (P := P) (w := w) (ty := o.type) hu hi hiz (A := A) o2 n2 hgrow c3 c4 hposb
            obtain ⟨E', k1, k2, k3, k4⟩ := app_realloc (key := key) (e := e) (i := i) (z := zv) (A := A) (c := cc) (rel_kills r rt) (kill_dead hk rt) hfree rfl (by omega) o4 o3 n3 n1.size (grownCap w (xs.length + ys.length) cc e) (grownCap_ge _ _ _ _) e
            exact hout hrun k1 k2 k3 k4
          cases rt with
          | no => exact c2.elim
          | full =>
            refine realloc ?_
            have : cc = xs.length := by
              cases hss with
              | list _ _ _ _ _ _ g b vs k1 k2 k3 k4 k5 k6 k7 => exact k7
            omega
          | tok t' =>
            have hst : s' = i.size ∨ xs = [] := c1
            by_cases hfit : xs.length + ys.length ≤ cc
            · have hA : ∃ g, A = some ⟨g, 0, none⟩ ∧ E.ρ t' = some (g, cc) := by
                cases hss with
                | list _ _ _ _ _ _ g b vs k1 k2 k3 k4 k5 k6 k7 => exact k7
              obtain ⟨g, rfl, hρ⟩ := hA
              have hss' : Rd E (.slice (some ⟨g, 0, none⟩) xs.length cc) (.list i.size xs (.tok t')) := by
                rcases hst with rfl | hx0
                · exact hss
                · subst hx0
                  exact .list _ _ _ _ [] _ 0 0 (fun _ _ => undef) rfl (Nat.zero_le _) (fun h => absurd h (by simp)) (by simp) (fun i j hi => absurd hi (by simp)) (by simp) ⟨g, rfl, hρ⟩
              obtain ⟨w', E', k0, k1, k2, k3, k4⟩ := app_fits (P := P) (e'' := e) r hk hfree c2 hss' n3 n1.size hpos hfit
              exact hout (run_append_fits (P := P) hu hi hiz n1 hfit k0) k1 k2 k3 k4
            · exact realloc (by omega)
        · cases hex
    · cases hex
  · rename_i s' b n he
    rw [he] at hss
    split at hex
    · rename_i ys s'' cs hsrc hbb
      obtain ⟨news, n1, n2, n3⟩ := src_sound hut hx hsrc r
      split at hex
      · rename_i hcond
        obtain ⟨rfl, rfl, c1, c3, c4⟩ := hcond
        simp only [Option.some.injEq, Prod.mk.injEq] at hex
        obtain ⟨rfl, rfl⟩ := hex
        cases hss with
        | gl _ _ _ g cc hρ hncc =>
          by_cases hfit : n + ys.length ≤ cc
          · obtain ⟨w', E', k0, k1, k2, k3, k4⟩ := grow_fits (P := P) r hk hfree hbb hρ c1 n3 n1.size hpos hfit
            exact hout (run_append_fits (P := P) hu hi hiz n1 hfit k0) k1 k2 k3 k4
          · obtain ⟨g3, c3', q1, q2⟩ := r.live b _ hbb (by simp)
            rw [hρ] at q1
            injection q1 with q1; injection q1 with q1 q1'; subst q1; subst q1'
            obtain ⟨hB, ⟨cur, tyy, fr, hcur, hlc, hszc, hrd, hf⟩, hC⟩ := q2
            have holds : (Builtin.firstCells i.size n (.slice (some ⟨g, 0, none⟩) n cc)).run P w.drew = .ok ((List.range (n * i.size)).map fun o => cur.getD o undef).toArray w.drew := by
              simp only [Builtin.firstCells]
              refine run_loadCells (P := P) w.drew ⟨g, 0, none⟩ (n * i.size) (fun o => cur.getD o undef) (fun j hj => ?_)
              rw [add_plain, Nat.zero_add]
              show w.cell? _ = _
              have hlt : j < cur.size := by omega
              rw [cell_of_block hcur]
              simp [Array.getD_eq_getD_getElem?, Array.getElem?_eq_getElem hlt]
            have hrun := run_append_realloc (P := P) (w := w) (ty := o.type) hu hi hiz holds n2 (by omega) c3 c4 hposb
            have hgc := grownCap_ge w (n + ys.length) cc e
            have hfl := flat_lenA ys (fun v hv => (n3.1 v hv).1)
            have hnr := n3.flat hpos
            have hol : ((List.range (n * i.size)).map fun o => cur.getD o undef).toArray.size = n * i.size := by simp
            have hzl2 : (Builtin.zeroCells zv.cells (grownCap w (n + ys.length) cc e - (n + ys.length))).size = (grownCap w (n + ys.length) cc e - (n + ys.length)) * i.size := by simp [Builtin.zeroCells, hl, hsi]
            generalize holdsv : ((List.range (n * i.size)).map fun o => cur.getD o undef).toArray = olds at *
            have hns := n1.size
            have hsz : (olds ++ news ++ Builtin.zeroCells zv.cells (grownCap w (n + ys.length) cc e - (n + ys.length))).size = grownCap w (n + ys.length) cc e * i.size := by
              simp only [Array.size_append, hol, hns, hzl2]
              rw [← Nat.add_mul, ← Nat.add_mul]
              congr 1
              omega
            have hmulgc : (n + ys.length) * i.size ≤ grownCap w (n + ys.length) cc e * i.size := Nat.mul_le_mul_right _ hgc
            rw [Nat.add_mul] at hmulgc
            have hrc : RdCells E (olds ++ news ++ Builtin.zeroCells zv.cells (grownCap w (n + ys.length) cc e - (n + ys.length))) (cs.take (n * i.size) ++ ys.flatMap AV.cells) := by
              refine ⟨fun y hy => ?_, fun k uu y hu' hy => ?_⟩
              · rcases List.mem_append.1 hy with hy | hy
                · exact hrd.1 y (List.mem_of_mem_take hy)
                · exact hnr.1 y hy
              · rw [List.getElem?_append, List.length_take] at hy
                have e2 : min (n * i.size) cs.length = n * i.size := by omega
                rw [e2] at hy
                split at hy
                · rename_i h1'
                  rw [Array.append_assoc, Array.getElem?_append_left (by omega)] at hu'
                  rw [List.getElem?_take_of_lt h1'] at hy
                  have hlt : k < cur.size := by omega
                  have : uu = cur[k] := by
                    rw [← holdsv] at hu'
                    simp [h1', Array.getD_eq_getD_getElem?, Array.getElem?_eq_getElem hlt] at hu'
                    exact hu'.symm
                  subst this
                  exact hrd.2 k _ y (Array.getElem?_eq_getElem hlt) hy
                · rename_i h1'
                  have hlt : k - n * i.size < ys.length * i.size := by
                    have := (List.getElem?_eq_some_iff.1 hy).1
                    rw [hfl] at this
                    exact this
                  rw [Array.append_assoc, Array.getElem?_append_right (by omega), hol, Array.getElem?_append_left (by omega)] at hu'
                  exact hnr.2 _ uu y hu' hy
            have hbw : Below w.heap.size w (w.drew.alloc (.cells (olds ++ news ++ Builtin.zeroCells zv.cells (grownCap w (n + ys.length) cc e - (n + ys.length))) e)) := (Below.drew (Below.refl _ _)).alloc (Nat.le_refl _) _
            obtain ⟨E', k1, k2, k3, k4⟩ := enter_grow (key := key) (fr := (0, 0)) (n := n + ys.length) (r.kill b) (kill_dead hk (.tok b)) hfree hbw (heap_alloc_new _ _) (.inl rfl) hsz (cs := cs.take (n * i.size) ++ ys.flatMap AV.cells) (by rw [List.length_append, List.length_take, hfl, hsz]; omega) hgc hrc
            exact hout hrun k1 k2 k3 k4
      · cases hex
    · cases hex
  · cases hex
end
end Go.Am
