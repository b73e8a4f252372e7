/-
  How the abstract machine's values and heap stand to the model's: values are read off protected cells, which nobody writes any more; each abstract block that lives has a block of its own.
-/
import Derived.Test.YtiobaboailhafaaAm1
set_option linter.unusedVariables false
set_option linter.unusedSimpArgs false
namespace Go.Am
open Go Go.RowKit

/-- What is protected (cells that stay as they are), and where the abstract blocks lie (block, capacity in elements). -/
structure Env where
  C : Nat → Nat → Option Value
  ρ : Nat → Option (Nat × Nat)

structure Env.le (E E' : Env) : Prop where
  C : ∀ g o v, E.C g o = some v → E'.C g o = some v
  ρ : ∀ b x, E.ρ b = some x → E'.ρ b = some x

theorem Env.le_refl (E : Env) : E.le E := ⟨fun _ _ _ h => h, fun _ _ h => h⟩
theorem Env.le_trans {A B C : Env} (h : A.le B) (k : B.le C) : A.le C := ⟨fun g o v x => k.C g o v (h.C g o v x), fun b x y => k.ρ b x (h.ρ b x y)⟩

def RtOk (E : Env) (r : Rt) (A : Option Addr) (n c : Nat) : Prop :=
  match r with
  | .no => True
  | .full => c = n
  | .tok t => ∃ g, A = some ⟨g, 0, none⟩ ∧ E.ρ t = some (g, c)

inductive Rd (E : Env) : Value → AV → Prop
  | junk (v : Value) : Rd E v .junk
  | int (k : IntKind) (n : Int) : Rd E (.int k n) (.int k n)
  | bool (b : Bool) : Rd E (.bool b) (.bool b)
  | str (l : List UInt8) : Rd E (.string ⟨⟨l⟩⟩) (.str l)
  | nilp : Rd E (.pointer none) .nilp
  | nili : Rd E .nilIface .nili
  | nilf : Rd E .nilFunc .nilf
  | nilm : Rd E (.map none) .nilm
  | iface (t : TypeId) (v : Value) (a : AV) : Rd E v a → Rd E (.iface t v) (.iface t a)
  | agg (cs : Array Value) (as : List AV) : cs.size = as.length → (∀ x ∈ as, x.one) → (∀ (i : Nat) (u : Value) (x : AV), cs[i]? = some u → as[i]? = some x → Rd E u x) → Rd E (.agg cs) (.agg as)
  | tup (cs : Array Value) (as : List AV) : cs.size = as.length → (∀ (i : Nat) (u : Value) (x : AV), cs[i]? = some u → as[i]? = some x → Rd E u x) → Rd E (.tuple cs) (.tup as)
  | list (A : Option Addr) (n c sz : Nat) (xs : List AV) (r : Rt) (g o : Nat) (vs : Nat → Nat → Value) :
      xs.length = n → n ≤ c → (0 < n → A = some ⟨g, o, none⟩) → (∀ x ∈ xs, x.cells.length = sz ∧ ∀ y ∈ x.cells, y.one) →
      (∀ i j, i < n → j < sz → E.C g (o + (i * sz + j)) = some (vs i j)) →
      (∀ (i : Nat) (x : AV) (j : Nat) (y : AV), xs[i]? = some x → x.cells[j]? = some y → Rd E (vs i j) y) →
      RtOk E r A n c → Rd E (.slice A n c) (.list sz xs r)
  | ptr (b off g c : Nat) : E.ρ b = some (g, c) → Rd E (.pointer (some ⟨g, off, none⟩)) (.ptr b off)
  | sl (sz b off len cap g c : Nat) : E.ρ b = some (g, c) → len ≤ cap → Rd E (.slice (some ⟨g, off, none⟩) len cap) (.sl sz b off len cap)
  | gl (sz b n g c : Nat) : E.ρ b = some (g, c) → n ≤ c → Rd E (.slice (some ⟨g, 0, none⟩) n c) (.gl sz b n)
  | eptr (g o : Nat) (cs : List AV) (vs : Nat → Value) :
      (∀ y ∈ cs, y.one) → (∀ j, j < cs.length → E.C g (o + j) = some (vs j)) → (∀ (j : Nat) (y : AV), cs[j]? = some y → Rd E (vs j) y) → Rd E (.pointer (some ⟨g, o, none⟩)) (.eptr cs)
  | fn (f : FuncId) (cs : Array Value) (as : List AV) : cs.size = as.length → (∀ (i : Nat) (u : Value) (x : AV), cs[i]? = some u → as[i]? = some x → Rd E u x) → Rd E (.func (.func f) #[] cs) (.fn f as)
  | map (b g c : Nat) : E.ρ b = some (g, c) → Rd E (.map (some g)) (.map b)
  | it (b g c : Nat) : E.ρ b = some (g, c) → Rd E (.pointer (some ⟨g, 0, none⟩)) (.it b)

theorem RtOk.mono {E E' : Env} (h : E.le E') {r : Rt} {A : Option Addr} {n c : Nat} (k : RtOk E r A n c) : RtOk E' r A n c := by
  cases r with
  | no => trivial
  | full => exact k
  | tok t => obtain ⟨g, h1, h2⟩ := k; exact ⟨g, h1, h.ρ _ _ h2⟩

theorem Rd.mono {E E' : Env} (h : E.le E') {v : Value} {a : AV} (k : Rd E v a) : Rd E' v a := by
  induction k with
  | junk v => exact .junk v
  | int k n => exact .int k n
  | bool b => exact .bool b
  | str l => exact .str l
  | nilp => exact .nilp
  | nili => exact .nili
  | nilf => exact .nilf
  | nilm => exact .nilm
  | iface t v a _ ih => exact .iface t v a ih
  | agg cs as hl ho _ ih => exact .agg cs as hl ho ih
  | tup cs as hl _ ih => exact .tup cs as hl ih
  | list A n c sz xs r g o vs h1 h2 h3 h4 h5 h6 h7 ih => exact .list A n c sz xs r g o vs h1 h2 h3 h4 (fun i j hi hj => h.C _ _ _ (h5 i j hi hj)) ih (h7.mono h)
  | ptr b off g c hb => exact .ptr b off g c (h.ρ _ _ hb)
  | sl sz b off len cap g c hb hl => exact .sl sz b off len cap g c (h.ρ _ _ hb) hl
  | gl sz b n g c hb hl => exact .gl sz b n g c (h.ρ _ _ hb) hl
  | eptr g o cs vs ho h1 _ ih => exact .eptr g o cs vs ho (fun j hj => h.C _ _ _ (h1 j hj)) ih
  | fn f cs as hl _ ih => exact .fn f cs as hl ih
  | map b g c hb => exact .map b g c (h.ρ _ _ hb)
  | it b g c hb => exact .it b g c (h.ρ _ _ hb)

/-- The environment without the addresses from n on. -/
def Env.cut (E : Env) (n : Nat) : Env := ⟨E.C, fun b => if b < n then E.ρ b else none⟩
theorem Env.cut_le (E : Env) (n : Nat) : (E.cut n).le E :=
  ⟨fun _ _ _ h => h, fun b x h => by simp only [Env.cut] at h; split at h <;> simp_all⟩

theorem lows_iff {n : Nat} {xs : List AV} : AV.lows n xs ↔ ∀ x ∈ xs, x.low n := by
  induction xs with
  | nil => simp [AV.lows]
  | cons x xs ih => simp [AV.lows, ih]
theorem pures_iff {xs : List AV} : AV.pures xs ↔ ∀ x ∈ xs, x.pure := by
  induction xs with
  | nil => simp [AV.pures]
  | cons x xs ih => simp [AV.pures, ih]

mutual
theorem AV.low_of_pure (n : Nat) : ∀ (a : AV), a.pure → a.low n
  | .agg cs, h => by simp only [AV.pure] at h; simp only [AV.low]; exact AV.lows_of_pures n cs h
  | .tup cs, h => by simp only [AV.pure] at h; simp only [AV.low]; exact AV.lows_of_pures n cs h
  | .eptr cs, h => by simp only [AV.pure] at h; simp only [AV.low]; exact AV.lows_of_pures n cs h
  | .fn _ cs, h => by simp only [AV.pure] at h; simp only [AV.low]; exact AV.lows_of_pures n cs h
  | .iface _ v, h => by simp only [AV.pure] at h; simp only [AV.low]; exact AV.low_of_pure n v h
  | .list _ xs r, h => by
    simp only [AV.pure] at h; simp only [AV.low]
    exact ⟨fun t ht => absurd ht (h.1 t), AV.lows_of_pures n xs h.2⟩
  | .ptr _ _, h => by simp [AV.pure] at h
  | .sl _ _ _ _ _, h => by simp [AV.pure] at h
  | .gl _ _ _, h => by simp [AV.pure] at h
  | .map _, h => by simp [AV.pure] at h
  | .it _, h => by simp [AV.pure] at h
  | .junk, _ => by simp [AV.low]
  | .int _ _, _ => by simp [AV.low]
  | .bool _, _ => by simp [AV.low]
  | .str _, _ => by simp [AV.low]
  | .nilp, _ => by simp [AV.low]
  | .nili, _ => by simp [AV.low]
  | .nilf, _ => by simp [AV.low]
  | .nilm, _ => by simp [AV.low]
theorem AV.lows_of_pures (n : Nat) : ∀ (xs : List AV), AV.pures xs → AV.lows n xs
  | [], _ => by simp [AV.lows]
  | x :: xs, h => by
    simp only [AV.pures] at h; simp only [AV.lows]
    exact ⟨AV.low_of_pure n x h.1, AV.lows_of_pures n xs h.2⟩
end

theorem low_cells {n : Nat} {x y : AV} (h : x.low n) (hy : y ∈ x.cells) : y.low n := by
  cases x <;> simp only [AV.cells, List.mem_singleton, List.not_mem_nil] at hy <;> try (subst hy; exact h)
  rename_i cs
  simp only [AV.low] at h
  exact (lows_iff.1 h) y hy

/-- What has no address from n on reads the same without those. -/
theorem Rd.cut {E : Env} {n : Nat} {v : Value} {a : AV} (k : Rd E v a) : a.low n → Rd (E.cut n) v a := by
  induction k with
  | junk v => exact fun _ => .junk v
  | int k n => exact fun _ => .int k n
  | bool b => exact fun _ => .bool b
  | str l => exact fun _ => .str l
  | nilp => exact fun _ => .nilp
  | nili => exact fun _ => .nili
  | nilf => exact fun _ => .nilf
  | nilm => exact fun _ => .nilm
  | iface t v a _ ih => intro h; simp only [AV.low] at h; exact .iface t v a (ih h)
  | agg cs as hl ho _ ih =>
    intro h; simp only [AV.low] at h
    exact .agg cs as hl ho fun i u x hu hx => ih i u x hu hx (lows_iff.1 h x (List.mem_of_getElem? hx))
  | tup cs as hl _ ih =>
    intro h; simp only [AV.low] at h
    exact .tup cs as hl fun i u x hu hx => ih i u x hu hx (lows_iff.1 h x (List.mem_of_getElem? hx))
  | list A m c sz xs r g o vs h1 h2 h3 h4 h5 h6 h7 ih =>
    intro h; simp only [AV.low] at h
    refine .list A m c sz xs r g o vs h1 h2 h3 h4 h5 (fun i x j y hx hy => ih i x j y hx hy (low_cells (lows_iff.1 h.2 x (List.mem_of_getElem? hx)) (List.mem_of_getElem? hy))) ?_
    cases r with
    | no => trivial
    | full => exact h7
    | tok t =>
      obtain ⟨g', e1, e2⟩ := h7
      exact ⟨g', e1, by simp only [Env.cut]; rw [if_pos (h.1 t rfl)]; exact e2⟩
  | ptr b off g c hb => intro h; simp only [AV.low] at h; exact .ptr b off g c (by simp only [Env.cut]; rw [if_pos h]; exact hb)
  | sl sz b off len cap g c hb hl => intro h; simp only [AV.low] at h; exact .sl sz b off len cap g c (by simp only [Env.cut]; rw [if_pos h]; exact hb) hl
  | gl sz b m g c hb hl => intro h; simp only [AV.low] at h; exact .gl sz b m g c (by simp only [Env.cut]; rw [if_pos h]; exact hb) hl
  | eptr g o cs vs ho h1 _ ih =>
    intro h; simp only [AV.low] at h
    exact .eptr g o cs vs ho h1 fun j y hy => ih j y hy (lows_iff.1 h y (List.mem_of_getElem? hy))
  | fn f cs as hl _ ih =>
    intro h; simp only [AV.low] at h
    exact .fn f cs as hl fun i u x hu hx => ih i u x hu hx (lows_iff.1 h x (List.mem_of_getElem? hx))
  | map b g c hb => intro h; simp only [AV.low] at h; exact .map b g c (by simp only [Env.cut]; rw [if_pos h]; exact hb)
  | it b g c hb => intro h; simp only [AV.low] at h; exact .it b g c (by simp only [Env.cut]; rw [if_pos h]; exact hb)

/-! ### The heap -/
def Unf (fr : Nat × Nat) (n : Nat) : Prop := fr.1 = fr.2 ∨ n ≤ fr.1
theorem Unf.at {fr : Nat × Nat} {n : Nat} (h : Unf fr n) (o : Nat) (ho : o < n) : (decide (fr.1 ≤ o) && decide (o < fr.2)) = false := by
  rcases h with h | h
  · by_cases h1 : fr.1 ≤ o
    · have : ¬ o < fr.2 := by omega
      simp [this]
    · simp [h1]
  · have : ¬ fr.1 ≤ o := by omega
    simp [this]

def RdCells (E : Env) (cur : Array Value) (cs : List AV) : Prop := (∀ y ∈ cs, y.one) ∧ ∀ (o : Nat) (u : Value) (x : AV), cur[o]? = some u → cs[o]? = some x → Rd E u x

/-- The block of a living entry. -/
def LiveAt (B : Nat) (E : Env) (w : World) (g c : Nat) : AE → Prop
  | .dead => True
  | .cells cs => B ≤ g ∧ (∃ cur t fr, w.heap[g]? = some (.cells cur t fr) ∧ cur.size = cs.length ∧ RdCells E cur cs ∧ Unf fr cur.size) ∧ ∀ o, E.C g o = none
  | .grow sz cs => B ≤ g ∧ (∃ cur t fr, w.heap[g]? = some (.cells cur t fr) ∧ cs.length ≤ cur.size ∧ cur.size = c * sz ∧ RdCells E cur cs ∧ Unf fr cur.size) ∧ ∀ o, E.C g o = none
  | .tok sz n _ => B ≤ g ∧ (∃ cur t fr, w.heap[g]? = some (.cells cur t fr) ∧ cur.size = c * sz ∧ n ≤ c ∧ Unf fr cur.size) ∧ ∀ o, n * sz ≤ o → E.C g o = none
  | .amap es => B ≤ g ∧ ∃ mes clock, w.heap[g]? = some (.map mes clock) ∧ mes.size = es.length ∧ ∀ (i : Nat) (m : MapEntry) (e : AV × AV), mes[i]? = some m → es[i]? = some e → Rd E m.key e.1 ∧ Rd E m.val e.2
  | .siter l p => B ≤ g ∧ w.heap[g]? = some (.stringIter ⟨⟨l⟩⟩ p)

structure Rel (B : Nat) (w0 : World) (E : Env) (h : Heap) (w : World) : Prop where
  below : Below B w0 w
  bsz : B ≤ w.heap.size
  dom : ∀ b x, E.ρ b = some x → b < h.length
  prot : ∀ g o v, E.C g o = some v → w.cell? ⟨g, o, none⟩ = some v
  live : ∀ b e, h[b]? = some e → e ≠ .dead → ∃ g c, E.ρ b = some (g, c) ∧ LiveAt B E w g c e
  uniq : ∀ b b' e e', b ≠ b' → h[b]? = some e → e ≠ .dead → h[b']? = some e' → e' ≠ .dead → ∀ g c g' c', E.ρ b = some (g, c) → E.ρ b' = some (g', c') → g ≠ g'

theorem LiveAt.mono {B : Nat} {E E' : Env} {w : World} {g c : Nat} {e : AE} (h : LiveAt B E w g c e) (hE : E.le E') (hC : ∀ o, E'.C g o = E.C g o) : LiveAt B E' w g c e := by
  cases e with
  | dead => trivial
  | cells cs =>
    obtain ⟨h1, ⟨cur, t, fr, h2, h3, h4, h5⟩, h6⟩ := h
    exact ⟨h1, ⟨cur, t, fr, h2, h3, ⟨h4.1, fun o u x hu hx => (h4.2 o u x hu hx).mono hE⟩, h5⟩, fun o => by rw [hC]; exact h6 o⟩
  | grow sz cs =>
    obtain ⟨h1, ⟨cur, t, fr, h2, h3, h3', h4, h5⟩, h6⟩ := h
    exact ⟨h1, ⟨cur, t, fr, h2, h3, h3', ⟨h4.1, fun o u x hu hx => (h4.2 o u x hu hx).mono hE⟩, h5⟩, fun o => by rw [hC]; exact h6 o⟩
  | tok sz n e =>
    obtain ⟨h1, h2, h6⟩ := h
    exact ⟨h1, h2, fun o ho => by rw [hC]; exact h6 o ho⟩
  | amap es =>
    obtain ⟨h1, mes, clock, h2, h3, h4⟩ := h
    exact ⟨h1, mes, clock, h2, h3, fun i m e hm he => ⟨(h4 i m e hm he).1.mono hE, (h4 i m e hm he).2.mono hE⟩⟩
  | siter l p => exact h

/-- The same block in another world. -/
theorem LiveAt.world {B : Nat} {E : Env} {w w' : World} {g c : Nat} {e : AE} (h : LiveAt B E w g c e) (hg : w'.heap[g]? = w.heap[g]?) : LiveAt B E w' g c e := by
  cases e with
  | dead => trivial
  | cells cs => simpa only [LiveAt, hg] using h
  | grow sz cs => simpa only [LiveAt, hg] using h
  | tok sz n e => simpa only [LiveAt, hg] using h
  | amap es => simpa only [LiveAt, hg] using h
  | siter l p => simpa only [LiveAt, hg] using h

theorem LiveAt.lt {B : Nat} {E : Env} {w : World} {g c : Nat} {e : AE} (h : LiveAt B E w g c e) (he : e ≠ .dead) : g < w.heap.size ∧ B ≤ g := by
  have key : ∀ {o : Obj}, w.heap[g]? = some o → g < w.heap.size := fun h => (Array.getElem?_eq_some_iff.1 h).1
  cases e with
  | dead => exact absurd rfl he
  | cells cs => obtain ⟨h1, ⟨cur, t, fr, h2, _⟩, _⟩ := h; exact ⟨key h2, h1⟩
  | grow sz cs => obtain ⟨h1, ⟨cur, t, fr, h2, _⟩, _⟩ := h; exact ⟨key h2, h1⟩
  | tok sz n e => obtain ⟨h1, ⟨cur, t, fr, h2, _⟩, _⟩ := h; exact ⟨key h2, h1⟩
  | amap es => obtain ⟨h1, mes, clock, h2, _⟩ := h; exact ⟨key h2, h1⟩
  | siter l p => obtain ⟨h1, h2⟩ := h; exact ⟨key h2, h1⟩

/-- A world in which all blocks that were there are as they were. -/
theorem Rel.world {B : Nat} {w0 : World} {E : Env} {h : Heap} {w w' : World} (r : Rel B w0 E h w) (hb : Below w.heap.size w w') : Rel B w0 E h w' where
  below := r.below.trans (hb.mono r.bsz)
  bsz := Nat.le_trans r.bsz hb.size
  dom := r.dom
  prot := fun g o v hv => by
    have h1 := r.prot g o v hv
    exact (hb.cell (World.block_lt_of_cell? w _ h1)).trans h1
  live := fun b e he hd => by
    obtain ⟨g, c, h1, h2⟩ := r.live b e he hd
    exact ⟨g, c, h1, h2.world (hb.block g (h2.lt hd).1)⟩
  uniq := r.uniq

theorem Rel.drew {B : Nat} {w0 : World} {E : Env} {h : Heap} {w : World} (r : Rel B w0 E h w) : Rel B w0 E h w.drew := r.world (Below.drew (Below.refl _ _))

/-- More reserved places. -/
theorem Rel.reserve {B : Nat} {w0 : World} {E : Env} {h : Heap} {w : World} (r : Rel B w0 E h w) (n : Nat) : Rel B w0 E (h ++ List.replicate n .dead) w where
  below := r.below
  bsz := r.bsz
  dom := fun b x hx => by have := r.dom b x hx; simp; omega
  prot := r.prot
  live := fun b e he hd => by
    rw [List.getElem?_append] at he
    split at he
    · exact r.live b e he hd
    · simp [List.getElem?_replicate] at he
      exact absurd he.2.symm hd
  uniq := fun b b' e e' hne he hd he' hd' => by
    have k : ∀ {b : Nat} {e : AE}, (h ++ List.replicate n AE.dead)[b]? = some e → e ≠ .dead → h[b]? = some e := by
      intro b e he hd
      rw [List.getElem?_append] at he
      split at he
      · exact he
      · simp [List.getElem?_replicate] at he
        exact absurd he.2.symm hd
    exact r.uniq b b' e e' hne (k he hd) hd (k he' hd') hd'

/-- A new entry at a reserved place, with a block that is no other one's; cells may be protected besides, if they are no living block's. -/
theorem Rel.enter {B : Nat} {w0 : World} {E : Env} {h : Heap} {w : World} (r : Rel B w0 E h w) (key : Nat) (hk : h[key]? = some .dead) (hfree : E.ρ key = none) (g c : Nat) (e : AE) (C' : Nat → Nat → Option Value)
    (hC : ∀ g o v, E.C g o = some v → C' g o = some v) (hp : ∀ g o v, C' g o = some v → w.cell? ⟨g, o, none⟩ = some v)
    (hold : ∀ b e', h[b]? = some e' → e' ≠ .dead → ∀ g' c', E.ρ b = some (g', c') → g' ≠ g ∧ ∀ o, C' g' o = E.C g' o)
    (hnew : LiveAt B ⟨C', fun b => if b = key then some (g, c) else E.ρ b⟩ w g c e) :
    E.le ⟨C', fun b => if b = key then some (g, c) else E.ρ b⟩ ∧ Rel B w0 ⟨C', fun b => if b = key then some (g, c) else E.ρ b⟩ (h.set key e) w := by
  have hlt : key < h.length := by
    rcases Nat.lt_or_ge key h.length with h' | h'
    · exact h'
    · rw [List.getElem?_eq_none h'] at hk; cases hk
  have hle : E.le ⟨C', fun b => if b = key then some (g, c) else E.ρ b⟩ := by
    refine ⟨hC, fun b x hx => ?_⟩
    dsimp only
    split
    · rename_i e; subst e; rw [hfree] at hx; cases hx
    · exact hx
  have hget : ∀ b e', (h.set key e)[b]? = some e' → (b = key ∧ e' = e) ∨ (b ≠ key ∧ h[b]? = some e') := by
    intro b e' he
    rw [List.getElem?_set] at he
    split at he
    · rename_i hb; subst hb
      exact .inl ⟨rfl, by simp_all⟩
    · rename_i hb
      exact .inr ⟨fun h => hb h.symm, he⟩
  refine ⟨hle, r.below, r.bsz, ?_, hp, ?_, ?_⟩
  · intro b x hx
    dsimp only at hx
    simp only [List.length_set]
    split at hx
    · rename_i e; subst e; exact hlt
    · exact r.dom b x hx
  · intro b e' he hd
    rcases hget b e' he with ⟨rfl, rfl⟩ | ⟨hne, he⟩
    · exact ⟨g, c, if_pos rfl, hnew⟩
    · obtain ⟨g', c', h1, h2⟩ := r.live b e' he hd
      exact ⟨g', c', by dsimp only; rw [if_neg hne]; exact h1, h2.mono hle (hold b e' he hd g' c' h1).2⟩
  · intro b b' e1 e2 hne he1 hd1 he2 hd2 g1 c1 g2 c2 h1 h2
    dsimp only at h1 h2
    rcases hget b e1 he1 with ⟨rfl, rfl⟩ | ⟨hn1, ke1⟩
    · rcases hget b' e2 he2 with ⟨rfl, rfl⟩ | ⟨hn2, ke2⟩
      · exact absurd rfl hne
      · rw [if_pos rfl] at h1
        rw [if_neg hn2] at h2
        have := (hold b' e2 ke2 hd2 g2 c2 h2).1
        injection h1 with h1; injection h1 with h1 _
        subst h1
        exact fun h => this h.symm
    · rcases hget b' e2 he2 with ⟨rfl, rfl⟩ | ⟨hn2, ke2⟩
      · rw [if_pos rfl] at h2
        rw [if_neg hn1] at h1
        have := (hold b e1 ke1 hd1 g1 c1 h1).1
        injection h2 with h2; injection h2 with h2 _
        subst h2
        exact this
      · rw [if_neg hn1] at h1
        rw [if_neg hn2] at h2
        exact r.uniq b b' e1 e2 hne ke1 hd1 ke2 hd2 g1 c1 g2 c2 h1 h2

/-- An entry that dies. -/
theorem Rel.kill {B : Nat} {w0 : World} {E : Env} {h : Heap} {w : World} (r : Rel B w0 E h w) (t : Nat) : Rel B w0 E (h.set t .dead) w where
  below := r.below
  bsz := r.bsz
  dom := fun b x hx => by simp only [List.length_set]; exact r.dom b x hx
  prot := r.prot
  live := fun b e he hd => by
    rw [List.getElem?_set] at he
    split at he
    · split at he
      · injection he with he; exact absurd he.symm hd
      · cases he
    · exact r.live b e he hd
  uniq := fun b b' e e' hne he hd he' hd' => by
    have k : ∀ {b : Nat} {e : AE}, (h.set t AE.dead)[b]? = some e → e ≠ .dead → h[b]? = some e := by
      intro b e he hd
      rw [List.getElem?_set] at he
      split at he
      · split at he
        · injection he with he; exact absurd he.symm hd
        · cases he
      · exact he
    exact r.uniq b b' e e' hne (k he hd) hd (k he' hd') hd'

/-- A living entry is turned, and its block with it (nothing else is). -/
theorem Rel.turn {B : Nat} {w0 : World} {E : Env} {h : Heap} {w w' : World} (r : Rel B w0 E h w) (b g c : Nat) (e e' : AE) (hb : h[b]? = some e) (hd : e ≠ .dead) (hd' : e' ≠ .dead) (hρ : E.ρ b = some (g, c))
    (hB : B ≤ g) (hw : w.grownBy w' (some g)) (hp : ∀ o v, E.C g o = some v → w'.cell? ⟨g, o, none⟩ = some v) (hnew : LiveAt B E w' g c e') : Rel B w0 E (h.set b e') w' := by
  have hlt : b < h.length := by
    rcases Nat.lt_or_ge b h.length with h' | h'
    · exact h'
    · rw [List.getElem?_eq_none h'] at hb; cases hb
  have hget : ∀ b1 e1, (h.set b e')[b1]? = some e1 → (b1 = b ∧ e1 = e') ∨ (b1 ≠ b ∧ h[b1]? = some e1) := by
    intro b1 e1 he
    rw [List.getElem?_set] at he
    split at he
    · rename_i hb; subst hb
      exact .inl ⟨rfl, by simp_all⟩
    · rename_i hb
      exact .inr ⟨fun h => hb h.symm, he⟩
  refine ⟨r.below.grown hw r.bsz (fun k hk => by injection hk with hk; subst hk; exact hB), Nat.le_trans r.bsz hw.size, fun b x hx => by simp only [List.length_set]; exact r.dom b x hx, ?_, ?_, ?_⟩
  · intro g' o v hv
    by_cases e : g' = g
    · subst e; exact hp o v hv
    · exact hw.cell (r.prot g' o v hv) (by simpa using e)
  · intro b1 e1 he1 hd1
    rcases hget b1 e1 he1 with ⟨rfl, rfl⟩ | ⟨hne, he1⟩
    · exact ⟨g, c, hρ, hnew⟩
    · obtain ⟨g1, c1, h1, h2⟩ := r.live b1 e1 he1 hd1
      refine ⟨g1, c1, h1, h2.world (hw.block g1 (h2.lt hd1).1 ?_)⟩
      have := r.uniq b1 b e1 e hne he1 hd1 hb hd g1 c1 g c h1 hρ
      simpa using this
  · intro b1 b2 e1 e2 hne he1 hd1 he2 hd2 g1 c1 g2 c2 h1 h2
    rcases hget b1 e1 he1 with ⟨rfl, rfl⟩ | ⟨hn1, ke1⟩
    · rcases hget b2 e2 he2 with ⟨rfl, rfl⟩ | ⟨hn2, ke2⟩
      · exact absurd rfl hne
      · exact r.uniq b1 b2 e e2 hne hb hd ke2 hd2 g1 c1 g2 c2 h1 h2
    · rcases hget b2 e2 he2 with ⟨rfl, rfl⟩ | ⟨hn2, ke2⟩
      · exact r.uniq b1 b2 e1 e hne ke1 hd1 hb hd g1 c1 g2 c2 h1 h2
      · exact r.uniq b1 b2 e1 e2 hne ke1 hd1 ke2 hd2 g1 c1 g2 c2 h1 h2

/-- Slots. -/
def SR (E : Env) (a : Act) (σ : Slots) : Prop := ∀ t, Rd E (a.tmps.getD t undef) (σ t)
theorem SR.mono {E E' : Env} (h : E.le E') {a : Act} {σ : Slots} (k : SR E a σ) : SR E' a σ := fun t => (k t).mono h

theorem SR.put {E : Env} {a : Act} {σ : Slots} (k : SR E a σ) {d : Option Nat} (hd : ∀ x, d = some x → x < a.tmps.size) {v : Value} {x : AV} (hx : Rd E v x) : SR E (a.put d v) (put σ d x) := by
  cases d with
  | none => exact k
  | some d =>
    intro t
    simp only [Act.put, Am.put, upd]
    by_cases e : t = d
    · subst e
      rw [if_pos rfl]
      have := hd t rfl
      simp [Array.getD_eq_getD_getElem?, Array.getElem?_setIfInBounds, this, hx]
    · rw [if_neg e]
      have h := k t
      simp only [Array.getD_eq_getD_getElem?, Array.getElem?_setIfInBounds] at h ⊢
      rw [if_neg (fun h => e h.symm)]
      exact h

theorem size_put (a : Act) (d : Option Tmp) (v : Value) : (a.put d v).tmps.size = a.tmps.size := by
  cases d <;> simp [Act.put]
theorem defers_put (a : Act) (d : Option Tmp) (v : Value) : (a.put d v).defers = a.defers := by
  cases d <;> rfl

end Go.Am
