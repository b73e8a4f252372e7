/-
  Results, and what goes out of a call.
-/
import Derived.Test.YtiobaboailhafaaAm18
set_option linter.unusedVariables false
set_option linter.unusedSimpArgs false
namespace Go.Am
open Go

section
variable {P : Program} {B : Nat} {w0 : World} {E : Env} {h : Heap} {a : Act} {w : World} {σ : Slots} {nt : Nat}

/-- One result. -/
def resOne (tmps : Array Value) : ResultVar → Sem Value
  | .tmp t => pure (tmps.getD t undef)
  | .cell b t => do loadVar t (← asAddr (tmps.getD b undef))

theorem resVal_sound (hs : SR E a σ) (r : Rel B w0 E h w) {x : ResultVar} {rv : ARes} {v : AV} (hc : compileR P x = some rv) (hv : resVal σ h rv = some v) :
    ∃ u, (resOne a.tmps x).run P w = .ok u w ∧ Rd E u v := by
  cases x with
  | tmp t =>
    simp only [compileR, Option.some.injEq] at hc
    subst hc
    simp only [resVal, Option.some.injEq] at hv
    subst hv
    exact ⟨_, rfl, hs t⟩
  | cell b t =>
    simp only [compileR, Option.map_eq_some_iff] at hc
    obtain ⟨s, hl, rfl⟩ := hc
    simp only [resVal] at hv
    have hx := hs b
    split at hv
    · rename_i b' off he
      split at hv
      · rename_i cs hb
        rw [he] at hx
        generalize hu : a.tmps.getD b undef = av at hx
        cases hx with
        | ptr _ _ g c hρ =>
          obtain ⟨g', c', h1, h2⟩ := r.live b' _ hb (by simp)
          rw [hρ] at h1
          injection h1 with h1; injection h1 with h1 h1'; subst h1; subst h1'
          have hone : ∀ y ∈ cs, y.one := by obtain ⟨_, ⟨_, _, _, _, _, h4, _⟩, _⟩ := h2; exact h4.1
          obtain ⟨u, hu', hr⟩ := run_load_cells (P := P) (w := w) (E := E) hl g 0 cs off hv hone (fun j y hy => by rw [Nat.zero_add]; exact h2.at j y hy)
          rw [Nat.zero_add] at hu'
          refine ⟨u, ?_, hr⟩
          simp only [resOne, hu, asAddr, pure_bind]
          exact hu'
      · cases hv
    · cases hv

theorem resVals_sound (hs : SR E a σ) (r : Rel B w0 E h w) : ∀ {l : List ResultVar} {rs : List ARes} {vs : List AV}, compileRs P l = some rs → resVals σ h rs = some vs →
    ∃ us : List Value, (l.mapM (resOne a.tmps)).run P w = .ok us w ∧ us.length = vs.length ∧ ∀ (i : Nat) (u : Value) (x : AV), us[i]? = some u → vs[i]? = some x → Rd E u x
  | [], rs, vs, hc, hv => by
    simp only [compileRs, Option.some.injEq] at hc
    subst hc
    simp only [resVals, Option.some.injEq] at hv
    subst hv
    exact ⟨[], by simp, rfl, by simp⟩
  | x :: l, rs, vs, hc, hv => by
    simp only [compileRs] at hc
    split at hc
    · rename_i rv rs' h1 h2
      injection hc with hc; subst hc
      simp only [resVals] at hv
      split at hv
      · rename_i v vs' h3 h4
        injection hv with hv; subst hv
        obtain ⟨u, hu, hru⟩ := resVal_sound hs r h1 h3
        obtain ⟨us, hus, hl, hrus⟩ := resVals_sound hs r h2 h4
        refine ⟨u :: us, ?_, by simp [hl], ?_⟩
        · rw [List.mapM_cons, Sem.run_bind, hu]
          show ((do let r ← l.mapM (resOne a.tmps); pure (u :: r) : Sem (List Value))).run P w = _
          rw [Sem.run_bind, hus]
          rfl
        · intro i u' x' hu' hx'
          cases i with
          | zero => simp at hu' hx'; subst hu'; subst hx'; exact hru
          | succ i => simp at hu' hx'; exact hrus i u' x' hu' hx'
      · cases hv
    · cases hc

theorem results_sound (hs : SR E a σ) (r : Rel B w0 E h w) {fn : Func} {rs : List ARes} {vs : List AV} (hc : compileRs P fn.results.toList = some rs) (hv : resVals σ h rs = some vs) :
    ∃ v, (results fn a.tmps).run P w = .ok v w ∧ Rd E v (oneOf vs) := by
  obtain ⟨us, h1, h2, h3⟩ := resVals_sound hs r hc hv
  refine ⟨if h : us.toArray.size = 1 then us.toArray[0] else .tuple us.toArray, ?_, ?_⟩
  · have e : results fn a.tmps = (do let vs ← fn.results.mapM (resOne a.tmps); pure (if h : vs.size = 1 then vs[0] else .tuple vs)) := by
      unfold results
      congr 1
    rw [e, Sem.run_bind, Array.mapM_eq_mapM_toList]
    rw [map_eq_pure_bind, Sem.run_bind, h1]
    rfl
  · match us, vs, h2, h3 with
    | [], [], _, _ => exact .tup #[] [] rfl (by simp)
    | [u], [x], _, h3 => exact h3 0 u x rfl rfl
    | u :: u' :: us, x :: x' :: xs, h2, h3 =>
      have : ¬ (u :: u' :: us).toArray.size = 1 := by simp
      rw [dif_neg this]
      exact .tup _ _ (by simpa using h2) (fun i v y hv hy => h3 i v y (by simpa using hv) hy)

/-! ### Without the call's own addresses -/
theorem Rd.cut2 {E1 E0 : Env} {n : Nat} (hdom : ∀ b x, E0.ρ b = some x → b < n) {v : Value} {x : AV} (k : Rd E1 v x) : ∀ v0, Rd E0 v0 x → Rd (E1.cut n) v x := by
  have hlow : ∀ b x, E0.ρ b = some x → ∀ y, E1.ρ b = some y → (E1.cut n).ρ b = some y := by
    intro b x h y hy
    simp only [Env.cut]
    rw [if_pos (hdom b x h)]
    exact hy
  induction k with
  | junk v => exact fun _ _ => .junk v
  | int k n => exact fun _ _ => .int k n
  | bool b => exact fun _ _ => .bool b
  | str l => exact fun _ _ => .str l
  | nilp => exact fun _ _ => .nilp
  | nili => exact fun _ _ => .nili
  | nilf => exact fun _ _ => .nilf
  | nilm => exact fun _ _ => .nilm
  | iface t v a _ ih =>
    intro v0 h0
    cases h0 with
    | iface _ v1 _ h1 => exact .iface t v a (ih v1 h1)
  | agg cs as hl ho _ ih =>
    intro v0 h0
    cases h0 with
    | agg cs' _ hl' ho' hc' =>
      refine .agg cs as hl ho fun i u x hu hx => ?_
      have : i < cs'.size := by rw [hl']; exact (List.getElem?_eq_some_iff.1 hx).1
      exact ih i u x hu hx _ (hc' i _ x (Array.getElem?_eq_getElem this) hx)
  | tup cs as hl _ ih =>
    intro v0 h0
    cases h0 with
    | tup cs' _ hl' hc' =>
      refine .tup cs as hl fun i u x hu hx => ?_
      have : i < cs'.size := by rw [hl']; exact (List.getElem?_eq_some_iff.1 hx).1
      exact ih i u x hu hx _ (hc' i _ x (Array.getElem?_eq_getElem this) hx)
  | list A m c sz xs r g o vs h1 h2 h3 h4 h5 h6 h7 ih =>
    intro v0 h0
    cases h0 with
    | list A' m' c' _ _ _ g' o' vs' k1 k2 k3 k4 k5 k6 k7 =>
      refine .list A m c sz xs r g o vs h1 h2 h3 h4 h5 (fun i x j y hx hy => ih i x j y hx hy _ (k6 i x j y hx hy)) ?_
      cases r with
      | no => trivial
      | full => exact h7
      | tok t =>
        obtain ⟨g1, e1, e2⟩ := h7
        obtain ⟨g2, e3, e4⟩ := k7
        exact ⟨g1, e1, hlow t _ e4 _ e2⟩
  | ptr b off g c hb =>
    intro v0 h0
    cases h0 with
    | ptr _ _ g' c' hb' => exact .ptr b off g c (hlow b _ hb' _ hb)
  | sl sz b off len cap g c hb hl =>
    intro v0 h0
    cases h0 with
    | sl _ _ _ _ _ g' c' hb' => exact .sl sz b off len cap g c (hlow b _ hb' _ hb) hl
  | gl sz b m g c hb hl =>
    intro v0 h0
    cases h0 with
    | gl _ _ _ g' c' hb' => exact .gl sz b m g c (hlow b _ hb' _ hb) hl
  | eptr g o cs vs ho h1 _ ih =>
    intro v0 h0
    cases h0 with
    | eptr g' o' _ vs' ho' h1' h2' => exact .eptr g o cs vs ho h1 fun j y hy => ih j y hy _ (h2' j y hy)
  | fn f cs as hl _ ih =>
    intro v0 h0
    cases h0 with
    | fn _ cs' _ hl' hc' =>
      refine .fn f cs as hl fun i u x hu hx => ?_
      have : i < cs'.size := by rw [hl']; exact (List.getElem?_eq_some_iff.1 hx).1
      exact ih i u x hu hx _ (hc' i _ x (Array.getElem?_eq_getElem this) hx)
  | map b g c hb =>
    intro v0 h0
    cases h0 with
    | map _ g' c' hb' => exact .map b g c (hlow b _ hb' _ hb)
  | it b g c hb =>
    intro v0 h0
    cases h0 with
    | it _ g' c' hb' => exact .it b g c (hlow b _ hb' _ hb)

open Classical in
/-- The environment after a call: the call's own addresses are gone; all that nobody writes any more is protected. -/
noncomputable def Env.shut (E : Env) (h : Heap) (n : Nat) (w : World) : Env :=
  ⟨fun g o => if ∃ b e, b < n ∧ h[b]? = some e ∧ e ≠ AE.dead ∧ ∃ c, E.ρ b = some (g, c) then E.C g o else w.cell? ⟨g, o, none⟩, fun b => if b < n then E.ρ b else none⟩

theorem Env.cut_le_shut (r : Rel B w0 E h w) (n : Nat) : (E.cut n).le (E.shut h n w) := by
  refine ⟨fun g o v hv => ?_, fun b x hx => hx⟩
  simp only [Env.shut]
  split
  · exact hv
  · exact r.prot g o v hv

theorem Rel.shut (r : Rel B w0 E h w) (n : Nat) (hlow : ∀ b e, b < n → h[b]? = some e → e ≠ .dead → ∀ g c, LiveAt B E w g c e → LiveAt B (E.cut n) w g c e) : Rel B w0 (E.shut h n w) (h.take n) w := by
  have hget : ∀ b e, (h.take n)[b]? = some e → b < n ∧ h[b]? = some e := by
    intro b e he
    rw [List.getElem?_take] at he
    split at he
    · rename_i hb; exact ⟨hb, he⟩
    · cases he
  refine ⟨r.below, r.bsz, fun b x hx => ?_, fun g o v hv => ?_, fun b e he hd => ?_, fun b b' e e' hne he hd he' hd' g c g' c' hg hg' => ?_⟩
  · simp only [Env.shut] at hx
    split at hx
    · rename_i hb
      have := r.dom b x hx
      simp only [List.length_take]; omega
    · cases hx
  · simp only [Env.shut] at hv
    split at hv
    · exact r.prot g o v hv
    · exact hv
  · obtain ⟨hb, he⟩ := hget b e he
    obtain ⟨g, c, h1, h2⟩ := r.live b e he hd
    refine ⟨g, c, by simp only [Env.shut]; rw [if_pos hb]; exact h1, ?_⟩
    refine (hlow b e hb he hd g c h2).mono (Env.cut_le_shut r n) fun o => ?_
    simp only [Env.shut]
    rw [if_pos ⟨b, e, hb, he, hd, c, h1⟩]
    rfl
  · obtain ⟨hb, he⟩ := hget b e he
    obtain ⟨hb', he'⟩ := hget b' e' he'
    simp only [Env.shut] at hg hg'
    rw [if_pos hb] at hg
    rw [if_pos hb'] at hg'
    exact r.uniq b b' e e' hne he hd he' hd' g c g' c' hg hg'

theorem RdCells.cutLow {cur : Array Value} {cs : List AV} {n : Nat} (k : RdCells E cur cs) (hl : AV.lows n cs) : RdCells (E.cut n) cur cs :=
  ⟨k.1, fun o u x hu hx => (k.2 o u x hu hx).cut (lows_iff.1 hl x (List.mem_of_getElem? hx))⟩

/-- A living entry with low contents. -/
theorem LiveAt.cutLow {g c n : Nat} {e : AE} (hl : LiveAt B E w g c e) (he : e.low n) : LiveAt B (E.cut n) w g c e := by
  cases e with
  | dead => trivial
  | cells cs =>
    obtain ⟨h1, ⟨cur, t, fr, h2, h3, h4, h5⟩, h6⟩ := hl
    exact ⟨h1, ⟨cur, t, fr, h2, h3, h4.cutLow he, h5⟩, h6⟩
  | grow sz cs =>
    obtain ⟨h1, ⟨cur, t, fr, h2, h3, h3', h4, h5⟩, h6⟩ := hl
    exact ⟨h1, ⟨cur, t, fr, h2, h3, h3', h4.cutLow he, h5⟩, h6⟩
  | tok sz n e => exact hl
  | amap es =>
    obtain ⟨h1, mes, clock, h2, h3, h4⟩ := hl
    refine ⟨h1, mes, clock, h2, h3, fun i m e hm hx => ?_⟩
    have := he e (List.mem_of_getElem? hx)
    exact ⟨(h4 i m e hm hx).1.cut this.1, (h4 i m e hm hx).2.cut this.2⟩
  | siter l p => exact hl

/-- A living entry that was there with the same contents. -/
theorem LiveAt.cutOld {B' : Nat} {E0 : Env} {w1 : World} {g c g0 c0 n : Nat} {e : AE} (hdom : ∀ b x, E0.ρ b = some x → b < n) (hl : LiveAt B E w g c e) (h0 : LiveAt B' E0 w1 g0 c0 e) : LiveAt B (E.cut n) w g c e := by
  cases e with
  | dead => trivial
  | cells cs =>
    obtain ⟨h1, ⟨cur, t, fr, h2, h3, h4, h5⟩, h6⟩ := hl
    obtain ⟨_, ⟨cur0, t0, fr0, _, k3, k4, _⟩, _⟩ := h0
    refine ⟨h1, ⟨cur, t, fr, h2, h3, ⟨h4.1, fun o u x hu hx => ?_⟩, h5⟩, h6⟩
    have : o < cur0.size := by have := (List.getElem?_eq_some_iff.1 hx).1; omega
    exact (h4.2 o u x hu hx).cut2 hdom _ (k4.2 o _ x (Array.getElem?_eq_getElem this) hx)
  | grow sz cs =>
    obtain ⟨h1, ⟨cur, t, fr, h2, h3, h3', h4, h5⟩, h6⟩ := hl
    obtain ⟨_, ⟨cur0, t0, fr0, _, k3, _, k4, _⟩, _⟩ := h0
    refine ⟨h1, ⟨cur, t, fr, h2, h3, h3', ⟨h4.1, fun o u x hu hx => ?_⟩, h5⟩, h6⟩
    have : o < cur0.size := by have := (List.getElem?_eq_some_iff.1 hx).1; omega
    exact (h4.2 o u x hu hx).cut2 hdom _ (k4.2 o _ x (Array.getElem?_eq_getElem this) hx)
  | tok sz n e => exact hl
  | amap es =>
    obtain ⟨h1, mes, clock, h2, h3, h4⟩ := hl
    obtain ⟨_, mes0, clock0, _, k3, k4⟩ := h0
    refine ⟨h1, mes, clock, h2, h3, fun i m e hm hx => ?_⟩
    have : i < mes0.size := by have := (List.getElem?_eq_some_iff.1 hx).1; omega
    have k := k4 i _ e (Array.getElem?_eq_getElem this) hx
    exact ⟨(h4 i m e hm hx).1.cut2 hdom _ k.1, (h4 i m e hm hx).2.cut2 hdom _ k.2⟩
  | siter l p => exact hl

/-! ### Results, cleaned -/
theorem elems_length (agg : Bool) (sz : Nat) : ∀ (n : Nat) (cs : List AV), (elems agg sz cs n).length = n
  | 0, _ => rfl
  | n + 1, cs => by simp [elems, elems_length agg sz n]

theorem elems_one : ∀ (n : Nat) (cs : List AV) (i : Nat), i < n → i < cs.length → (elems false 1 cs n)[i]? = cs[i]?
  | 0, _, i, h, _ => by omega
  | n + 1, cs, 0, _, hl => by
    cases cs with
    | nil => simp at hl
    | cons c cs => simp [elems]
  | n + 1, cs, i + 1, h, hl => by
    simp only [elems, List.getElem?_cons_succ]
    rw [elems_one n (cs.drop 1) i (by omega) (by simp; omega), List.getElem?_drop, Nat.add_comm 1 i]

theorem elems_agg (sz : Nat) : ∀ (n : Nat) (cs : List AV) (i : Nat), i < n → (elems true sz cs n)[i]? = some (.agg ((cs.drop (i * sz)).take sz))
  | 0, _, i, h => by omega
  | n + 1, cs, 0, _ => by simp [elems]
  | n + 1, cs, i + 1, h => by
    simp only [elems, List.getElem?_cons_succ]
    rw [elems_agg sz n (cs.drop sz) i (by omega), List.drop_drop]
    congr 3
    congr 1
    rw [Nat.add_mul]; omega

theorem shut_off (r : Rel B w0 E h w) {n b g c : Nat} {e : AE} (hb : n ≤ b) (he : h[b]? = some e) (hd : e ≠ .dead) (hρ : E.ρ b = some (g, c)) (o : Nat) : (E.shut h n w).C g o = w.cell? ⟨g, o, none⟩ := by
  simp only [Env.shut]
  rw [if_neg]
  rintro ⟨b', e', hb', he', hd', c', hρ'⟩
  exact r.uniq b b' e e' (by omega) he hd he' hd' g c g c' hρ hρ' rfl

theorem clean1_sound (r : Rel B w0 E h w) {n : Nat} {v : Value} {x x' : AV} (k : Rd E v x) (hc : clean1 h n x = some x') : Rd (E.shut h n w) v x' ∧ (x.one → x'.one) := by
  have hle := Env.cut_le_shut r n
  have other : (∀ {y : AV} {d : Decidable (y.low n)}, (@ite _ _ d (some y) none) = some x' → Rd E v y → Rd (E.shut h n w) v x' ∧ (y.one → x'.one)) := by
    intro y d hy hk
    split at hy
    · rename_i hl
      injection hy with hy; subst hy
      exact ⟨(hk.cut hl).mono hle, id⟩
    · cases hy
  cases k with
  | list A m c sz xs rt g o vs h1 h2 h3 h4 h5 h6 h7 =>
    simp only [clean1] at hc
    split at hc
    · rename_i hl
      have mk : ∀ rt', RtOk (E.shut h n w) rt' A m c → Rd (E.shut h n w) (.slice A m c) (.list sz xs rt') := fun rt' hrt =>
        .list A m c sz xs rt' g o vs h1 h2 h3 h4 (fun i j hi hj => hle.C _ _ _ (h5 i j hi hj))
          (fun i x j y hx hy => ((h6 i x j y hx hy).cut (low_cells (lows_iff.1 hl x (List.mem_of_getElem? hx)) (List.mem_of_getElem? hy))).mono hle) hrt
      cases rt with
      | no => injection hc with hc; subst hc; exact ⟨mk _ trivial, fun _ => trivial⟩
      | full => injection hc with hc; subst hc; exact ⟨mk _ h7, fun _ => trivial⟩
      | tok t =>
        injection hc with hc; subst hc
        refine ⟨mk _ ?_, fun _ => trivial⟩
        split
        · rename_i ht
          obtain ⟨g', e1, e2⟩ := h7
          exact ⟨g', e1, by simp only [Env.shut]; rw [if_pos ht]; exact e2⟩
        · trivial
    · cases hc
  | sl sz b off len cap g c hb hl =>
    simp only [clean1] at hc
    split at hc
    · rename_i hlt
      injection hc with hc; subst hc
      exact ⟨.sl sz b off len cap g c (by simp only [Env.shut]; rw [if_pos hlt]; exact hb) hl, fun _ => trivial⟩
    · rename_i hge
      split at hc
      · rename_i cs hcs
        obtain ⟨g', c', e1, e2⟩ := r.live b _ hcs (by simp)
        rw [hb] at e1
        injection e1 with e1; injection e1 with e1 e1'; subst e1; subst e1'
        have hoff := shut_off r (n := n) (by omega) hcs (by simp) hb
        obtain ⟨_, ⟨cur, t, fr, hw, hsz, hrd, _⟩, _⟩ := e2
        have hcell : ∀ j y, cs[j]? = some y → y.low n → ∃ u, (E.shut h n w).C g j = some u ∧ Rd (E.shut h n w) u y ∧ y.one := by
          intro j y hy hlow
          have hj := (List.getElem?_eq_some_iff.1 hy).1
          refine ⟨cur[j]'(by omega), ?_, ?_, hrd.1 y (List.mem_of_getElem? hy)⟩
          · rw [hoff, cell_of_block hw]; exact Array.getElem?_eq_getElem (by omega)
          · exact ((hrd.2 j _ y (Array.getElem?_eq_getElem (by omega)) hy).cut hlow).mono hle
        split at hc
        · rename_i hg
          obtain ⟨rfl, hle1, hlow⟩ := hg
          injection hc with hc; subst hc
          refine ⟨.list _ len cap 1 _ .no g off (fun i j => ((E.shut h n w).C g (off + (i * 1 + j))).getD undef) (elems_length _ _ _ _) hl (fun _ => rfl) ?_ ?_ ?_ trivial, fun _ => trivial⟩
          · intro x hx
            obtain ⟨i, hi, rfl⟩ := List.getElem_of_mem hx
            rw [elems_length] at hi
            have h1 := elems_one len (cs.drop off) i hi (by simp; omega)
            rw [List.getElem?_eq_getElem (by rw [elems_length]; exact hi), List.getElem?_drop] at h1
            obtain ⟨u, _, _, hone⟩ := hcell (off + i) _ h1.symm (lows_iff.1 hlow _ (List.mem_of_getElem? h1.symm))
            have := (show ∀ z : AV, z.one → z.cells = [z] from fun z hz => by cases z <;> first | rfl | exact absurd hz (by simp [AV.one])) _ hone
            rw [this]
            exact ⟨rfl, fun y hy => by simp only [List.mem_singleton] at hy; subst hy; exact hone⟩
          · intro i j hi hj
            have hj0 : j = 0 := by omega
            subst hj0
            have h1 : cs[off + i]? = some (cs[off + i]'(by omega)) := List.getElem?_eq_getElem _
            obtain ⟨u, hu, _, _⟩ := hcell (off + i) _ h1 (lows_iff.1 hlow _ (List.getElem_mem _))
            simp only [Nat.mul_one, Nat.add_zero]
            rw [hu]; rfl
          · intro i x j y hx hy
            have hi : i < len := by have := (List.getElem?_eq_some_iff.1 hx).1; rwa [elems_length] at this
            rw [elems_one len (cs.drop off) i hi (by simp; omega), List.getElem?_drop] at hx
            obtain ⟨u, hu, hr, hone⟩ := hcell (off + i) _ hx (lows_iff.1 hlow _ (List.mem_of_getElem? hx))
            have := (show ∀ z : AV, z.one → z.cells = [z] from fun z hz => by cases z <;> first | rfl | exact absurd hz (by simp [AV.one])) _ hone
            rw [this] at hy
            cases j with
            | zero =>
              simp only [List.getElem?_cons_zero, Option.some.injEq] at hy
              subst hy
              simp only [Nat.mul_one, Nat.add_zero, hu, Option.getD_some]
              exact hr
            | succ j => simp at hy
        · split at hc
          · rename_i hg
            obtain ⟨hgt, hle1, hlow⟩ := hg
            injection hc with hc; subst hc
            have hdl : ∀ i, i < len → (((cs.drop off).drop (i * sz)).take sz).length = sz := by
              intro i hi
              simp only [List.length_take, List.length_drop]
              have := idx_lt (sz := sz) hi (show sz - 1 < sz by omega)
              omega
            have hat : ∀ i j, i < len → j < sz → (((cs.drop off).drop (i * sz)).take sz)[j]? = cs[off + (i * sz + j)]? := by
              intro i j hi hj
              rw [List.getElem?_take, if_pos hj, List.getElem?_drop, List.getElem?_drop]
              
            have hin : ∀ i j, i < len → j < sz → off + (i * sz + j) < cs.length := by
              intro i j hi hj
              have := idx_lt hi hj
              omega
            refine ⟨.list _ len cap sz _ .no g off (fun i j => ((E.shut h n w).C g (off + (i * sz + j))).getD undef) (elems_length _ _ _ _) hl (fun _ => rfl) ?_ ?_ ?_ trivial, fun _ => trivial⟩
            · intro x hx
              obtain ⟨i, hi, hx⟩ := List.getElem_of_mem hx
              rw [elems_length] at hi
              have h1 := elems_agg sz len (cs.drop off) i hi
              rw [List.getElem?_eq_getElem (by rw [elems_length]; exact hi)] at h1
              injection h1 with h1
              rw [← hx, h1]
              refine ⟨hdl i hi, fun y hy => ?_⟩
              have hm := List.mem_of_mem_drop (List.mem_of_mem_drop (List.mem_of_mem_take hy))
              exact hrd.1 y hm
            · intro i j hi hj
              obtain ⟨u, hu, _, _⟩ := hcell (off + (i * sz + j)) _ (List.getElem?_eq_getElem (hin i j hi hj)) (lows_iff.1 hlow _ (List.getElem_mem _))
              rw [hu]; rfl
            · intro i x j y hx hy
              have hi : i < len := by have := (List.getElem?_eq_some_iff.1 hx).1; rwa [elems_length] at this
              rw [elems_agg sz len (cs.drop off) i hi] at hx
              injection hx with hx
              subst hx
              simp only [AV.cells] at hy
              have hj : j < sz := by have := (List.getElem?_eq_some_iff.1 hy).1; rwa [hdl i hi] at this
              rw [hat i j hi hj] at hy
              obtain ⟨u, hu, hr, _⟩ := hcell _ _ hy (lows_iff.1 hlow _ (List.mem_of_getElem? hy))
              simp only [hu, Option.getD_some]
              exact hr
          · cases hc
      · cases hc
  | junk v => exact other hc (.junk _)
  | int k n => exact other hc (.int _ _)
  | bool b => exact other hc (.bool _)
  | str l => exact other hc (.str _)
  | nilp => exact other hc .nilp
  | nili => exact other hc .nili
  | nilf => exact other hc .nilf
  | nilm => exact other hc .nilm
  | iface t v a h1 => exact other hc (.iface t v a h1)
  | agg cs as hl ho h1 => exact other hc (.agg cs as hl ho h1)
  | tup cs as hl h1 => exact other hc (.tup cs as hl h1)
  | ptr b off g c hb => exact other hc (.ptr b off g c hb)
  | gl sz b m g c hb hl => exact other hc (.gl sz b m g c hb hl)
  | eptr g o cs vs ho h1 h2 => exact other hc (.eptr g o cs vs ho h1 h2)
  | fn f cs as hl h1 => exact other hc (.fn f cs as hl h1)
  | map b g c hb => exact other hc (.map b g c hb)
  | it b g c hb => exact other hc (.it b g c hb)

theorem cleans_sound (r : Rel B w0 E h w) {n : Nat} : ∀ {vs : List Value} {xs xs' : List AV}, vs.length = xs.length → (∀ (i : Nat) (u : Value) (x : AV), vs[i]? = some u → xs[i]? = some x → Rd E u x) → cleans h n xs = some xs' →
    vs.length = xs'.length ∧ (∀ (i : Nat) (u : Value) (x : AV), vs[i]? = some u → xs'[i]? = some x → Rd (E.shut h n w) u x) ∧ ((∀ x ∈ xs, x.one) → ∀ x ∈ xs', x.one)
  | [], [], xs', _, _, hc => by
    simp only [cleans, Option.some.injEq] at hc
    subst hc
    exact ⟨rfl, by simp, fun h => h⟩
  | v :: vs, x :: xs, xs', hl, hr, hc => by
    simp only [cleans] at hc
    split at hc
    · rename_i y ys h1 h2
      injection hc with hc; subst hc
      obtain ⟨a1, a2⟩ := clean1_sound r (hr 0 v x rfl rfl) h1
      obtain ⟨b1, b2, b3⟩ := cleans_sound r (by simpa using hl) (fun i u x hu hx => hr (i + 1) u x (by simpa using hu) (by simpa using hx)) h2
      refine ⟨by simp [b1], ?_, ?_⟩
      · intro i u z hu hz
        cases i with
        | zero => simp at hu hz; subst hu; subst hz; exact a1
        | succ i => simp at hu hz; exact b2 i u z hu hz
      · intro ho z hz
        rcases List.mem_cons.1 hz with rfl | hz
        · exact a2 (ho x List.mem_cons_self)
        · exact b3 (fun q hq => ho q (List.mem_cons_of_mem _ hq)) z hz
    · cases hc

theorem clean2_sound (r : Rel B w0 E h w) {n : Nat} {v : Value} {x x' : AV} (k : Rd E v x) (hc : clean2 h n x = some x') : Rd (E.shut h n w) v x' := by
  unfold clean2 at hc
  split at hc
  · rename_i cs
    simp only [Option.map_eq_some_iff] at hc
    obtain ⟨ys, hy, rfl⟩ := hc
    cases k with
    | agg vs _ hl ho h1 =>
      obtain ⟨b1, b2, b3⟩ := cleans_sound r (vs := vs.toList) (by simpa using hl) (fun i u x hu hx => h1 i u x (by simpa using hu) hx) hy
      exact .agg vs ys (by simpa using b1) (b3 ho) (fun i u x hu hx => b2 i u x (by simpa using hu) hx)
  · exact (clean1_sound r k hc).1

theorem cleans2_sound (r : Rel B w0 E h w) {n : Nat} : ∀ {vs : List Value} {xs xs' : List AV}, vs.length = xs.length → (∀ (i : Nat) (u : Value) (x : AV), vs[i]? = some u → xs[i]? = some x → Rd E u x) → cleans2 h n xs = some xs' →
    vs.length = xs'.length ∧ (∀ (i : Nat) (u : Value) (x : AV), vs[i]? = some u → xs'[i]? = some x → Rd (E.shut h n w) u x)
  | [], [], xs', _, _, hc => by
    simp only [cleans2, Option.some.injEq] at hc
    subst hc
    exact ⟨rfl, by simp⟩
  | v :: vs, x :: xs, xs', hl, hr, hc => by
    simp only [cleans2] at hc
    split at hc
    · rename_i y ys h1 h2
      injection hc with hc; subst hc
      have a1 := clean2_sound r (hr 0 v x rfl rfl) h1
      obtain ⟨b1, b2⟩ := cleans2_sound r (by simpa using hl) (fun i u x hu hx => hr (i + 1) u x (by simpa using hu) (by simpa using hx)) h2
      refine ⟨by simp [b1], ?_⟩
      intro i u z hu hz
      cases i with
      | zero => simp at hu hz; subst hu; subst hz; exact a1
      | succ i => simp at hu hz; exact b2 i u z hu hz
    · cases hc

theorem clean_sound (r : Rel B w0 E h w) {n : Nat} {v : Value} {x x' : AV} (k : Rd E v x) (hc : clean h n x = some x') : Rd (E.shut h n w) v x' := by
  unfold clean at hc
  split at hc
  · rename_i cs
    simp only [Option.map_eq_some_iff] at hc
    obtain ⟨ys, hy, rfl⟩ := hc
    cases k with
    | tup vs _ hl h1 =>
      obtain ⟨b1, b2⟩ := cleans2_sound r (vs := vs.toList) (by simpa using hl) (fun i u x hu hx => h1 i u x (by simpa using hu) hx) hy
      exact .tup vs ys (by simpa using b1) (fun i u x hu hx => b2 i u x (by simpa using hu) hx)
  · exact clean2_sound r k hc
end
end Go.Am
