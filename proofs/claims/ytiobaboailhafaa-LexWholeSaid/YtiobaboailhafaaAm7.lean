/-
  Rows: fresh slices, appends, texts as bytes and back.
-/
import Derived.Test.YtiobaboailhafaaAm6
import Derived.Laws.BytesArg
import Derived.Lib.ConvBytes
set_option linter.unusedVariables false
set_option linter.unusedSimpArgs false
namespace Go.Am
open Go Go.RowKit
section
variable {P : Program} {B : Nat} {w0 : World} {E : Env} {h h' : Heap} {a : Act} {w : World} {σ : Slots} {o : Oper} {key : Nat} {O : CallO} {v : AV} {ty : TypeId}

/-! ### What is protected grows; a block nobody owns is written -/
theorem Rel.protect (r : Rel B w0 E h w) (C' : Nat → Nat → Option Value) (hC : ∀ g o v, E.C g o = some v → C' g o = some v) (hp : ∀ g o v, C' g o = some v → w.cell? ⟨g, o, none⟩ = some v)
    (hold : ∀ b e, h[b]? = some e → e ≠ .dead → ∀ g c, E.ρ b = some (g, c) → ∀ o, C' g o = E.C g o) : E.le ⟨C', E.ρ⟩ ∧ Rel B w0 ⟨C', E.ρ⟩ h w := by
  have hle : E.le ⟨C', E.ρ⟩ := ⟨hC, fun _ _ h => h⟩
  refine ⟨hle, r.below, r.bsz, r.dom, hp, fun b e he hd => ?_, r.uniq⟩
  obtain ⟨g, c, h1, h2⟩ := r.live b e he hd
  exact ⟨g, c, h1, h2.mono hle (hold b e he hd g c h1)⟩

theorem Rel.scribble {w' : World} (r : Rel B w0 E h w) (g : Nat) (hB : B ≤ g) (hw : w.grownBy w' (some g)) (hno : ∀ b e, h[b]? = some e → e ≠ .dead → ∀ g' c', E.ρ b = some (g', c') → g' ≠ g)
    (hp : ∀ o v, E.C g o = some v → w'.cell? ⟨g, o, none⟩ = some v) : Rel B w0 E h w' where
  below := r.below.grown hw r.bsz (fun k hk => by injection hk with hk; subst hk; exact hB)
  bsz := Nat.le_trans r.bsz hw.size
  dom := r.dom
  prot := fun g' o v hv => by
    by_cases e : g' = g
    · subst e; exact hp o v hv
    · exact hw.cell (r.prot g' o v hv) (by simpa using e)
  live := fun b e he hd => by
    obtain ⟨g1, c1, h1, h2⟩ := r.live b e he hd
    exact ⟨g1, c1, h1, h2.world (hw.block g1 (h2.lt hd).1 (by simpa using hno b e he hd g1 c1 h1))⟩
  uniq := r.uniq

/-- The cells of a row, each element's one behind the other's. -/
def RowAt (E : Env) (cur : Nat → Option Value) (sz : Nat) (xs : List AV) : Prop :=
  (∀ x ∈ xs, x.cells.length = sz ∧ ∀ y ∈ x.cells, y.one) ∧ ∀ (i : Nat) (x : AV) (j : Nat) (y : AV), xs[i]? = some x → x.cells[j]? = some y → ∃ u, cur (i * sz + j) = some u ∧ Rd E u y

theorem RowAt.mono {E E' : Env} (hE : E.le E') {cur : Nat → Option Value} {sz : Nat} {xs : List AV} (k : RowAt E cur sz xs) : RowAt E' cur sz xs :=
  ⟨k.1, fun i x j y hx hy => by obtain ⟨u, h1, h2⟩ := k.2 i x j y hx hy; exact ⟨u, h1, h2.mono hE⟩⟩

theorem idx_lt {i j n sz : Nat} (hi : i < n) (hj : j < sz) : i * sz + j < n * sz := by
  have : (i + 1) * sz ≤ n * sz := Nat.mul_le_mul_right _ hi
  rw [Nat.add_mul] at this
  omega

theorem RowAt.at {cur : Nat → Option Value} {sz : Nat} {xs : List AV} (k : RowAt E cur sz xs) {i j : Nat} (hi : i < xs.length) (hj : j < sz) : ∃ u y, xs[i].cells[j]? = some y ∧ cur (i * sz + j) = some u ∧ Rd E u y := by
  have hm := k.1 xs[i] (List.getElem_mem hi)
  obtain ⟨u, h1, h2⟩ := k.2 i xs[i] j (xs[i].cells[j]'(by omega)) (List.getElem?_eq_getElem hi) (List.getElem?_eq_getElem _)
  exact ⟨u, _, List.getElem?_eq_getElem _, h1, h2⟩

/-- A list over protected cells of block G. -/
theorem rd_list {C' : Nat → Nat → Option Value} {ρ : Nat → Option (Nat × Nat)} {G c sz : Nat} {xs : List AV} {cur : Nat → Option Value} {rt : Rt} (hE : E.le ⟨C', ρ⟩) (hn : xs.length ≤ c) (k : RowAt E cur sz xs) (hC : ∀ o u, o < xs.length * sz → cur o = some u → C' G o = some u)
    (hr : RtOk ⟨C', ρ⟩ rt (some ⟨G, 0, none⟩) xs.length c) : Rd ⟨C', ρ⟩ (.slice (some ⟨G, 0, none⟩) xs.length c) (.list sz xs rt) := by
  refine .list _ _ c sz xs rt G 0 (fun i j => (cur (i * sz + j)).getD undef) rfl hn (fun _ => rfl) k.1 (fun i j hi hj => ?_) (fun i x j y hx hy => ?_) hr
  · obtain ⟨u, y, _, h1, _⟩ := k.at hi hj
    rw [Nat.zero_add, h1]
    exact hC _ u (idx_lt hi hj) h1
  · obtain ⟨u, h1, h2⟩ := k.2 i x j y hx hy
    rw [h1]
    exact h2.mono hE

/-- A fresh row with room behind it: a token goes with it. -/
theorem enter_tok (r : Rel B w0 E h w) (hk : h[key]? = some .dead) (hfree : E.ρ key = none) {w1 : World} (hb : Below w.heap.size w w1) {cur : Array Value} {t : TypeId} {fr : Nat × Nat} (hg : w1.heap[w.heap.size]? = some (.cells cur t fr)) (hf : Unf fr cur.size) {c sz : Nat} (hsz : cur.size = c * sz)
    {xs : List AV} (hn : xs.length ≤ c) (hr : RowAt E (fun o => cur[o]?) sz xs) (e : TypeId) :
    ∃ E', E.le E' ∧ (∀ b, b ≠ key → E'.ρ b = E.ρ b) ∧ Rel B w0 E' (h.set key (.tok sz xs.length e)) w1 ∧ Rd E' (.slice (some ⟨w.heap.size, 0, none⟩) xs.length c) (.list sz xs (.tok key)) := by
  have r1 : Rel B w0 E h w1 := r.world hb
  have hlt : w.heap.size < w1.heap.size := (Array.getElem?_eq_some_iff.1 hg).1
  have hnC : ∀ o, E.C w.heap.size o = none := by
    intro o
    cases hC : E.C w.heap.size o with
    | none => rfl
    | some v => exact absurd (World.block_lt_of_cell? w _ (r.prot _ _ _ hC)) (Nat.lt_irrefl _)
  let C' : Nat → Nat → Option Value := fun g o => if g = w.heap.size ∧ o < xs.length * sz then cur[o]? else E.C g o
  have hC1 : ∀ g o v, E.C g o = some v → C' g o = some v := by
    intro g o v hv
    show (if _ then _ else _) = _
    rw [if_neg]
    · exact hv
    · rintro ⟨rfl, _⟩; rw [hnC] at hv; cases hv
  have hold : ∀ b e', h[b]? = some e' → e' ≠ .dead → ∀ g' c', E.ρ b = some (g', c') → g' ≠ w.heap.size ∧ ∀ o, C' g' o = E.C g' o := by
    intro b e' he hd g' c' hρ
    obtain ⟨g1, c1, k1, k2⟩ := r.live b e' he hd
    rw [hρ] at k1; injection k1 with k1; injection k1 with k1 _; subst k1
    have hne : g' ≠ w.heap.size := Nat.ne_of_lt (k2.lt hd).1
    exact ⟨hne, fun o => if_neg (fun hh => hne hh.1)⟩
  obtain ⟨hle, h2⟩ := r1.enter key hk hfree w.heap.size c (.tok sz xs.length e) C' hC1
    (fun g o v hv => by
      show w1.cell? _ = _
      have hv' : (if g = w.heap.size ∧ o < xs.length * sz then cur[o]? else E.C g o) = some v := hv
      split at hv'
      · rename_i hh
        obtain ⟨rfl, _⟩ := hh
        rw [cell_of_block hg]; exact hv'
      · exact r1.prot g o v hv')
    hold
    (by
      refine ⟨r.bsz, ⟨cur, t, fr, hg, hsz, hn, hf⟩, fun o ho => ?_⟩
      show (if _ then _ else _) = _
      rw [if_neg (by omega)]
      exact hnC o)
  refine ⟨_, hle, fun b hb => by dsimp only; rw [if_neg hb], h2, rd_list hle hn hr (fun o u ho hu => ?_) ⟨w.heap.size, rfl, by simp⟩⟩
  show (if _ then _ else _) = _
  rw [if_pos ⟨rfl, ho⟩]
  exact hu

/-- A fresh row that is full. -/
theorem enter_full (r : Rel B w0 E h w) {w1 : World} (hb : Below w.heap.size w w1) {cur : Array Value} {t : TypeId} {fr : Nat × Nat} (hg : w1.heap[w.heap.size]? = some (.cells cur t fr)) {sz : Nat}
    {xs : List AV} (hr : RowAt E (fun o => cur[o]?) sz xs) :
    ∃ E', E.le E' ∧ (∀ b, E'.ρ b = E.ρ b) ∧ Rel B w0 E' h w1 ∧ Rd E' (.slice (some ⟨w.heap.size, 0, none⟩) xs.length xs.length) (.list sz xs .full) := by
  have r1 : Rel B w0 E h w1 := r.world hb
  have hnC : ∀ o, E.C w.heap.size o = none := by
    intro o
    cases hC : E.C w.heap.size o with
    | none => rfl
    | some v => exact absurd (World.block_lt_of_cell? w _ (r.prot _ _ _ hC)) (Nat.lt_irrefl _)
  let C' : Nat → Nat → Option Value := fun g o => if g = w.heap.size ∧ o < xs.length * sz then cur[o]? else E.C g o
  obtain ⟨hle, h2⟩ := r1.protect C'
    (fun g o v hv => by
      show (if _ then _ else _) = _
      rw [if_neg]
      · exact hv
      · rintro ⟨rfl, _⟩; rw [hnC] at hv; cases hv)
    (fun g o v hv => by
      have hv' : (if g = w.heap.size ∧ o < xs.length * sz then cur[o]? else E.C g o) = some v := hv
      split at hv'
      · rename_i hh
        obtain ⟨rfl, _⟩ := hh
        rw [cell_of_block hg]; exact hv'
      · exact r1.prot g o v hv')
    (fun b e' he hd g' c' hρ o => by
      obtain ⟨g1, c1, k1, k2⟩ := r.live b e' he hd
      rw [hρ] at k1; injection k1 with k1; injection k1 with k1 _; subst k1
      exact if_neg (fun hh => absurd hh.1 (Nat.ne_of_lt (k2.lt hd).1)))
  refine ⟨_, hle, fun _ => rfl, h2, rd_list hle (Nat.le_refl _) hr (fun o u ho hu => ?_) rfl⟩
  show (if _ then _ else _) = _
  rw [if_pos ⟨rfl, ho⟩]
  exact hu

/-- A fresh row that may be written, and grow. -/
theorem enter_grow (r : Rel B w0 E h w) (hk : h[key]? = some .dead) (hfree : E.ρ key = none) {w1 : World} (hb : Below w.heap.size w w1) {cur : Array Value} {t : TypeId} {fr : Nat × Nat} (hg : w1.heap[w.heap.size]? = some (.cells cur t fr)) (hf : Unf fr cur.size) {c sz n : Nat} (hsz : cur.size = c * sz)
    {cs : List AV} (hl : cs.length ≤ cur.size) (hn : n ≤ c) (hr : RdCells E cur cs) :
    ∃ E', E.le E' ∧ (∀ b, b ≠ key → E'.ρ b = E.ρ b) ∧ Rel B w0 E' (h.set key (.grow sz cs)) w1 ∧ Rd E' (.slice (some ⟨w.heap.size, 0, none⟩) n c) (.gl sz key n) := by
  have r1 : Rel B w0 E h w1 := r.world hb
  have hnC : ∀ o, E.C w.heap.size o = none := by
    intro o
    cases hC : E.C w.heap.size o with
    | none => rfl
    | some v => exact absurd (World.block_lt_of_cell? w _ (r.prot _ _ _ hC)) (Nat.lt_irrefl _)
  have hle : E.le ⟨E.C, fun b => if b = key then some (w.heap.size, c) else E.ρ b⟩ := ⟨fun _ _ _ h => h, fun b x hx => by
    dsimp only; split
    · rename_i e; subst e; rw [hfree] at hx; cases hx
    · exact hx⟩
  obtain ⟨_, h2⟩ := r1.enter key hk hfree w.heap.size c (.grow sz cs) E.C (fun _ _ _ h => h) r1.prot
    (fun b e' he hd g' c' hρ => by
      obtain ⟨g1, c1, k1, k2⟩ := r.live b e' he hd
      rw [hρ] at k1; injection k1 with k1; injection k1 with k1 _; subst k1
      exact ⟨Nat.ne_of_lt (k2.lt hd).1, fun _ => rfl⟩)
    ⟨r.bsz, ⟨cur, t, fr, hg, hl, hsz, ⟨hr.1, fun o u x hu hx => (hr.2 o u x hu hx).mono hle⟩, hf⟩, hnC⟩
  exact ⟨_, hle, fun b hb => by dsimp only; rw [if_neg hb], h2, .gl _ _ _ w.heap.size c (by simp) hn⟩

/-! ### Bytes and texts -/
theorem asBytes_nums : ∀ {ys : List AV} {l : List UInt8}, asBytes ys = some l → ∃ ns : List Int, ys = ns.map (AV.int .u8) ∧ l = ns.map fun n => UInt8.ofNat n.toNat
  | [], l, hb => by simp only [asBytes, Option.some.injEq] at hb; subst hb; exact ⟨[], rfl, rfl⟩
  | y :: ys, l, hb => by
    unfold asBytes at hb
    split at hb
    · rename_i hh; cases hh
    · rename_i n r' hh
      injection hh with h1 h2
      subst h1; subst h2
      simp only [Option.map_eq_some_iff] at hb
      obtain ⟨l', h1, rfl⟩ := hb
      obtain ⟨ns, rfl, rfl⟩ := asBytes_nums h1
      exact ⟨n :: ns, rfl, rfl⟩
    · cases hb

theorem nums_str (ns : List Int) : strOfNums ns = ⟨⟨ns.map fun n => UInt8.ofNat n.toNat⟩⟩ := rfl

theorem cvBytesStr_sound {s d e : TypeId} {x : Operand} {y : AX} (ho : o.op = .convert s d x) (hus : P.underlying s = some (.slice e)) (hue : P.underlying e = some (.int .u8)) (hud : P.underlying d = some .string) (hc : cx P s x = some y) (hs : SR E a σ) (r : Rel B w0 E h w) (hex : aop O σ h key (.cvBytesStr y) = some (v, h')) : Out P B w0 E h' key a o w v := by
  have hx := cx_sound hc hs
  have hout : ∀ (g off n cap : Nat) (ns : List Int), a.eval x = .slice (some ⟨g, off, none⟩) n cap → ns.length = n → (∀ i m, ns[i]? = some m → ∃ u, w.cell? ⟨g, off + i, none⟩ = some u ∧ Rd E u (.int .u8 m)) → Out P B w0 E h key a o w (.str (ns.map fun n => UInt8.ofNat n.toNat)) := by
    intro g off n cap ns hv hl hcell
    refine Out.quiet r _ ?_ (.str _)
    unfold execOp; rw [ho]; dsimp only; rw [hv]
    refine run_v ?_
    have := run_convert_bytes_arg (P := P) w s e hus hue g off n cap ns hl (fun i hi => by
      obtain ⟨u, h1, h2⟩ := hcell i (ns[i]'(by omega)) (List.getElem?_eq_getElem _)
      rw [h1, h2.inv_int]
      simp [List.getD, List.getElem?_eq_getElem (show i < ns.length by omega)]) d hud
    rw [this, nums_str]
  simp only [aop] at hex
  generalize hv : a.eval x = av at hx
  split at hex
  · rename_i sz xs rt he
    rw [he] at hx
    split at hex
    · rename_i hsz
      simp only [Option.map_eq_some_iff, Prod.mk.injEq] at hex
      obtain ⟨l, hl, rfl, rfl⟩ := hex
      obtain ⟨ns, rfl, rfl⟩ := asBytes_nums hl
      cases hx with
      | list A n c _ _ _ g b vs k1 k2 k3 k4 k5 k6 k7 =>
        rcases Nat.eq_zero_or_pos n with hn | hn
        · have hnil : ns = [] := by
            cases ns with
            | nil => rfl
            | cons _ _ => simp at k1; omega
          subst hnil
          cases A with
          | none =>
            refine Out.quiet r (.string ⟨⟨[]⟩⟩) ?_ (.str _)
            unfold execOp; rw [ho]; dsimp only; rw [hv]
            exact run_v (run_convert_bytes_nil w s e hus hue _ _ d hud)
          | some ad =>
            have := run_convert_bytes_string w s d e (some ad) n c hus hue hud
            refine Out.quiet r (.string ⟨⟨[]⟩⟩) ?_ (.str _)
            unfold execOp; rw [ho]; dsimp only; rw [hv]
            refine run_v ?_
            rw [this]
            subst hn
            have hl0 : (loadCells ad 0).run P w = .ok (([] : List Int).map (Value.int .u8)).toArray w := by simp [loadCells, loadCellsFrom]
            rw [run_bytesToString w ad 0 c [] hl0]
            rfl
        · have hA := k3 hn
          subst hA
          have hs1 : sz = 1 := by
            rcases hsz with rfl | hh
            · rfl
            · rw [hh] at k1; simp at k1; omega
          subst hs1
          refine hout g b n c ns hv (by simpa using k1) (fun i m hm => ?_)
          have hi : i < n := by have := (List.getElem?_eq_some_iff.1 hm).1; simp at k1; omega
          have e1 : (ns.map (AV.int .u8))[i]? = some (.int .u8 m) := by simp [hm]
          have e2 := k5 i 0 hi (by omega)
          have e3 := k6 i _ 0 (.int .u8 m) e1 (by simp [AV.cells])
          exact ⟨_, r.prot _ _ _ (by simpa using e2), e3⟩
    · cases hex
  · rename_i sz b off len cap he
    rw [he] at hx
    split at hex
    · rename_i cs hb
      split at hex
      · rename_i hcond
        obtain ⟨rfl, hle⟩ := hcond
        simp only [Option.map_eq_some_iff, Prod.mk.injEq] at hex
        obtain ⟨l, hl, rfl, rfl⟩ := hex
        obtain ⟨ns, hns, rfl⟩ := asBytes_nums hl
        cases hx with
        | sl _ _ _ _ _ g c hρ hlc =>
          obtain ⟨g', c', h1, h2⟩ := r.live b _ hb (by simp)
          rw [hρ] at h1
          injection h1 with h1; injection h1 with h1 h1'; subst h1; subst h1'
          have hlen : ns.length = len := by
            have := congrArg List.length hns
            simp at this
            omega
          refine hout g off len cap ns hv hlen (fun i m hm => ?_)
          have hi : i < ns.length := (List.getElem?_eq_some_iff.1 hm).1
          have e1 : ((cs.drop off).take len)[i]? = some (.int .u8 m) := by rw [hns]; simp [hm]
          rw [List.getElem?_take_of_lt (by omega), List.getElem?_drop] at e1
          exact h2.at _ _ e1
      · cases hex
    · cases hex
  · rename_i sz b n he
    rw [he] at hx
    split at hex
    · rename_i sz' cs hb
      split at hex
      · rename_i hcond
        obtain ⟨rfl, hle⟩ := hcond
        simp only [Option.map_eq_some_iff, Prod.mk.injEq] at hex
        obtain ⟨l, hl, rfl, rfl⟩ := hex
        obtain ⟨ns, hns, rfl⟩ := asBytes_nums hl
        cases hx with
        | gl _ _ _ g c hρ hlc =>
          obtain ⟨g', c', h1, h2⟩ := r.live b _ hb (by simp)
          rw [hρ] at h1
          injection h1 with h1; injection h1 with h1 h1'; subst h1; subst h1'
          obtain ⟨_, ⟨cur, t, fr, h2, h3, h3', h4, _⟩, _⟩ := h2
          have hlen : ns.length = n := by
            have := congrArg List.length hns
            simp at this
            omega
          refine hout g 0 n c ns hv hlen (fun i m hm => ?_)
          have hi : i < ns.length := (List.getElem?_eq_some_iff.1 hm).1
          have e1 : (cs.take n)[i]? = some (.int .u8 m) := by rw [hns]; simp [hm]
          rw [List.getElem?_take_of_lt (by omega)] at e1
          have hlt : i < cur.size := by omega
          exact ⟨cur[i], by rw [Nat.zero_add, cell_of_block h2]; exact Array.getElem?_eq_getElem hlt, h4.2 i _ _ (Array.getElem?_eq_getElem hlt) e1⟩
      · cases hex
    · cases hex
  · cases hex

theorem grownCap_ge (w : World) (n m : Nat) (e : TypeId) : n ≤ grownCap w n m e := by
  unfold grownCap
  simp only [Question.cut]
  omega

theorem bytes_row (l : List UInt8) (w : World) (e : TypeId) : (Lib.bytesCells w e ⟨⟨l⟩⟩).size = grownCap w l.length 0 e * 1 ∧ RowAt E (fun o => (Lib.bytesCells w e ⟨⟨l⟩⟩)[o]?) 1 (ofBytes l) := by
  have hsz : (⟨⟨l⟩⟩ : ByteArray).size = l.length := rfl
  have hge := grownCap_ge w l.length 0 e
  refine ⟨by simp [Lib.bytesCells, hsz]; omega, ?_, ?_⟩
  · intro x hx
    simp only [ofBytes, List.mem_map] at hx
    obtain ⟨b, _, rfl⟩ := hx
    simp [AV.cells, AV.one]
  · intro i x j y hx hy
    simp only [ofBytes, List.getElem?_map, Option.map_eq_some_iff] at hx
    obtain ⟨b, hb, rfl⟩ := hx
    simp only [AV.cells] at hy
    match j with
    | 0 =>
      simp at hy
      subst hy
      refine ⟨.int .u8 b.toNat, ?_, .int _ _⟩
      have hlt := (List.getElem?_eq_some_iff.1 hb).1
      have hbe := (List.getElem?_eq_some_iff.1 hb).2
      simp [Lib.bytesCells, Array.getElem?_append, hlt, hbe]
    | j + 1 => simp at hy

theorem below_bytesWorld (w : World) (e : TypeId) (s : ByteArray) : Below w.heap.size w (Lib.bytesWorld w e s) :=
  ⟨rfl, rfl, rfl, by rw [Lib.bytesWorld_size]; omega, fun k hk => Lib.bytesWorld_at_old w e s k hk⟩

theorem cvStrBytes_sound {s d e : TypeId} {x : Operand} {y : AX} (ho : o.op = .convert s d x) (hus : P.underlying s = some .string) (hue : P.underlying e = some (.int .u8)) (hud : P.underlying d = some (.slice e)) (hc : cx P s x = some y) (hs : SR E a σ) (r : Rel B w0 E h w) (hk : h[key]? = some .dead) (hfree : E.ρ key = none) (hex : aop O σ h key (.cvStrBytes e y) = some (v, h')) : Out P B w0 E h' key a o w v := by
  have hx := cx_sound hc hs
  simp only [aop] at hex
  split at hex
  · rename_i l he
    simp only [Option.some.injEq, Prod.mk.injEq] at hex
    obtain ⟨rfl, rfl⟩ := hex
    rw [he] at hx
    have hrun := Lib.run_convert_string_bytes (P := P) w s d e ⟨⟨l⟩⟩ hus hud hue
    obtain ⟨k1, k2⟩ := bytes_row (E := E) l w e
    have hlen : (ofBytes l).length = l.length := by simp [ofBytes]
    obtain ⟨E', h1, h2, h3, h4⟩ := enter_tok r hk hfree (below_bytesWorld w e ⟨⟨l⟩⟩) (Lib.bytesWorld_at_new w e ⟨⟨l⟩⟩) (.inr (Nat.le_refl _)) k1 (by rw [hlen]; exact grownCap_ge w l.length 0 e) k2 e
    rw [hlen] at h3 h4
    refine ⟨_, _, E', .inl ?_, h1, h2, h3, h4⟩
    unfold execOp; rw [ho]; dsimp only; rw [hx.inv_str]
    exact run_v hrun
  · cases hex

theorem cvStrBytesM_sound {s d e : TypeId} {x : Operand} {y : AX} (ho : o.op = .convert s d x) (hus : P.underlying s = some .string) (hue : P.underlying e = some (.int .u8)) (hud : P.underlying d = some (.slice e)) (hc : cx P s x = some y) (hs : SR E a σ) (r : Rel B w0 E h w) (hk : h[key]? = some .dead) (hfree : E.ρ key = none) (hex : aop O σ h key (.cvStrBytesM y) = some (v, h')) : Out P B w0 E h' key a o w v := by
  have hx := cx_sound hc hs
  simp only [aop] at hex
  split at hex
  · rename_i l he
    simp only [Option.some.injEq, Prod.mk.injEq] at hex
    obtain ⟨rfl, rfl⟩ := hex
    rw [he] at hx
    have hrun := Lib.run_convert_string_bytes (P := P) w s d e ⟨⟨l⟩⟩ hus hud hue
    obtain ⟨k1, k2⟩ := bytes_row (E := E) l w e
    have hlen : (ofBytes l).length = l.length := by simp [ofBytes]
    have hge := grownCap_ge w l.length 0 e
    obtain ⟨E', h1, h2, h3, h4⟩ := enter_grow (n := l.length) r hk hfree (below_bytesWorld w e ⟨⟨l⟩⟩) (Lib.bytesWorld_at_new w e ⟨⟨l⟩⟩) (.inr (Nat.le_refl _)) k1 (cs := ofBytes l) (by rw [hlen]; omega) hge
      ⟨fun y hy => by simp only [ofBytes, List.mem_map] at hy; obtain ⟨b, _, rfl⟩ := hy; trivial, fun o u x hu hx => by
        obtain ⟨u', e1, e2⟩ := k2.2 o x 0 x hx (by simp only [ofBytes, List.getElem?_map, Option.map_eq_some_iff] at hx; obtain ⟨b, _, rfl⟩ := hx; rfl)
        simp only [Nat.mul_one, Nat.add_zero] at e1
        rw [hu] at e1
        injection e1 with e1
        subst e1
        exact e2⟩
    refine ⟨_, _, E', .inl ?_, h1, h2, h3, h4⟩
    unfold execOp; rw [ho]; dsimp only; rw [hx.inv_str]
    exact run_v hrun
  · cases hex
end
end Go.Am
