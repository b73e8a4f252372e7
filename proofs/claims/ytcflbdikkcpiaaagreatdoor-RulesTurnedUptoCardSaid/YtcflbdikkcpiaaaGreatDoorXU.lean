/-
  What an argument's bulk says of its value: a law's contract that hands the bound on.
-/
import Derived.Test.YtcflbdikkcpiaaaGreatDoorRows
import Derived.Test.YtcflbdikkcpiaaaGreatDoorXC
set_option linter.unusedVariables false
set_option linter.unusedSimpArgs false
namespace Go.Proofs.YtcflbdikkcpiaaaGreatDoor
open Go Go.Am
mutual
def bk : AV → Nat
 | .str l => l.length + 1
 | .list _ xs _ => bks xs + 1
 | .agg xs => bks xs
 | _ => 1
def bks : List AV → Nat
 | [] => 0
 | x :: xs => bk x + bks xs
end
theorem bks_app : ∀ (a b : List AV), bks (a ++ b) = bks a + bks b
 | [], b => by simp [bks]
 | x :: a, b => by simp only [List.cons_append, bks, bks_app a b]; omega
theorem bks_le {H : Type} : ∀ (xs : List AV) (ds : List (DataW H)), xs.length = ds.length → (∀ (i : Nat) x d, xs[i]? = some x → ds[i]? = some d → bk x ≤ Rows.uptoBulk d) → bks xs ≤ Rows.uptoBulkAll ds
 | [], [], _, _ => by simp [bks]
 | x :: xs, d :: ds, hl, h => by
  have h0 := h 0 x d rfl rfl
  have := bks_le xs ds (by simpa using hl) (fun i y e hy he => h (i + 1) y e hy he)
  simp only [bks, Rows.uptoBulkAll]
  omega
 | [], _ :: _, hl, _ => by simp at hl
 | _ :: _, [], hl, _ => by simp at hl
section
variable {P : Program} {w : World} {H : Type} {enc : TypeId × Value → H}
theorem has_of_trodB {L : List TypeId} (hL : L.all (okT P L) = true) : ∀ (n : Nat) (t : TypeId) (cs : List Value) (x : DataW H × List MemPlace), t ∈ L → DataW.trod enc P w 0 (fun _ => true) true n t cs = some x →
  ∃ zs, RdL (Env.of w) cs zs ∧ Has P n t zs ∧ bks zs ≤ Rows.uptoBulk x.1 := by
 intro n
 induction n with
 | zero => intro t cs x _ h; simp [DataW.trod] at h
 | succ n ih =>
  intro t cs x ht h
  have hok := okT_spec hL ht
  unfold okT at hok
  split at hok
  ·rename_i hu
   obtain ⟨b, rfl, rfl⟩ := DataW.trod_bool hu h
   exact ⟨[.bool b], .one trivial (.bool b), by simp only [Has, hu]; exact ⟨b, rfl⟩, by simp [bks, bk, Rows.uptoBulk]⟩
  ·rename_i k hu
   obtain ⟨i, rfl, rfl, hw⟩ := DataW.trod_int hu h
   exact ⟨[.int k i], .one trivial (.int k i), by simp only [Has, hu]; exact ⟨i, rfl, hw⟩, by simp [bks, bk, Rows.uptoBulk]⟩
  ·rename_i hu
   obtain ⟨s, rfl, rfl, hs⟩ := DataW.trod_string hu h
   refine ⟨[.str s.data.toList], .one trivial ?_, by simp only [Has, hu]; exact ⟨_, rfl, hs⟩, by simp [bks, bk, Rows.uptoBulk]⟩
   have : s = ⟨⟨s.data.toList⟩⟩ := by cases s; rfl
   conv => lhs; rw [this]
   exact .str _
  ·rename_i e hu
   simp only [Bool.and_eq_true, decide_eq_true_eq] at hok
   have he : e ∈ L := by simpa using hok.1.1
   have hpos := hok.1.2
   rcases Deep.open_slice hu h with ⟨rfl, rfl⟩ | ⟨a, len, cap, m, n', D, Pl, rfl, hb, hl, hm, hmm, _, hel⟩
   ·refine ⟨[.list (P.cellsOf e) [] .no], .one trivial ?_, by simp only [Has, hu]; exact ⟨[], rfl, by simp, by simp⟩, by simp [bks, bk, Rows.uptoBulk]⟩
    exact .list none 0 0 _ [] .no 0 0 (fun _ _ => .nilIface) rfl (Nat.le_refl _) (fun h => absurd h (Nat.lt_irrefl _)) (by simp) (fun i j hi => absurd hi (Nat.not_lt_zero _)) (by simp) trivial
   ·simp only [if_true] at hmm
    subst hmm
    -- the reading of each element, by the fuel that the slice itself has
    obtain ⟨els, rest, hlen0, hxe, hel'⟩ : ∃ (els : List (DataW H × List MemPlace)) (rest : List (DataW H)), els.length = len ∧ x.1 = .slice (els.map (·.1)) rest ∧ ∀ i, i < len → ∃ cs', w.cells? 0 (a.add (i * P.cellsOf e)) (P.cellsOf e) = some cs' ∧ ∃ y, els[i]? = some y ∧ DataW.trod enc P w 0 (fun _ => true) true n e cs' = some y := by
     unfold DataW.trod at h
     rw [hu] at h
     simp only at h
     split at h
     ·simp only [Option.bind_eq_some_iff] at h
      obtain ⟨elems, h1, hr⟩ := h
      obtain ⟨h0, h2⟩ := mapM_get h1
      simp only [Option.map_eq_some_iff] at hr
      obtain ⟨rest, _, hr⟩ := hr
      refine ⟨elems, rest.map (·.1), by simpa using h0, by rw [← hr], fun i hi => ?_⟩
      obtain ⟨y, h3, h4⟩ := h2 i i (by simp [hi])
      simp only [Option.bind_eq_some_iff] at h4
      obtain ⟨cs', h5, h6⟩ := h4
      exact ⟨cs', h5, y, h3, h6⟩
     ·cases h
    obtain ⟨F, hF⟩ := Deep.choose_lt (α := List Value × List AV) (p := fun i q => w.cells? 0 (a.add (i * P.cellsOf e)) (P.cellsOf e) = some q.1 ∧ RdL (Env.of w) q.1 q.2 ∧ Has P n e q.2 ∧ ∃ y, els[i]? = some y ∧ bks q.2 ≤ Rows.uptoBulk y.1) (n := len) (fun i hi => by
     obtain ⟨cs', h1, y, hy, h2⟩ := hel' i hi
     obtain ⟨zs, h3, h4, h5⟩ := ih e cs' y he h2
     exact ⟨(cs', zs), h1, h3, h4, y, hy, h5⟩)
    have hlenF : ∀ i, i < len → (F i).2.length = P.cellsOf e := fun i hi => by
     obtain ⟨h1, h2, _⟩ := hF i hi
     rw [← h2.1]; exact (cells_at h1).1
    let X : Nat → AV := fun i => if aggT P e then .agg (F i).2 else (F i).2.getD 0 .junk
    have hagg : aggT P e = false → P.cellsOf e = 1 := by
     intro hf
     have hok2 := okT_spec hL he
     unfold okT at hok2
     unfold aggT at hf
     split at hok2
     ·simpa using hok2
     ·simpa using hok2
     ·simpa using hok2
     ·simp only [Bool.and_eq_true] at hok2; simpa using hok2.2
     ·rename_i hh; rw [hh] at hf; cases hf
     ·rename_i hh; rw [hh] at hf; cases hf
     ·cases hok2
    have hXc : ∀ i, i < len → (X i).cells = (F i).2 := by
     intro i hi
     simp only [X]
     split
     ·rfl
     ·rename_i hf
      have h1 := hlenF i hi
      rw [hagg (by simpa using hf)] at h1
      obtain ⟨_, h2, _⟩ := hF i hi
      match hF2 : (F i).2, h1 with
      | [y], _ =>
       have : y.one := h2.2.1 y (by rw [hF2]; simp)
       simp only [List.getD_cons_zero]
       cases y <;> first | rfl | exact absurd this (by simp [AV.one])
    have hspot : 0 < len → a = ⟨a.block, a.off, none⟩ := by
     intro hl0
     obtain ⟨h1, _, _⟩ := hF 0 hl0
     obtain ⟨v, _, h3⟩ := (cells_at h1).2 0 hpos
     have := spot_none h3
     rw [Nat.zero_mul] at this
     simpa [Addr.add] using this
    refine ⟨[.list (P.cellsOf e) ((List.range len).map X) .no], .one trivial ?_, ?_, ?_⟩
    ·refine .list (some a) len m _ _ .no a.block a.off (fun i j => (F i).1.getD j .nilIface) (by simp) hl (fun h0 => by rw [hspot h0]) ?_ ?_ ?_ trivial
     ·intro x hx
      simp only [List.mem_map, List.mem_range] at hx
      obtain ⟨i, hi, rfl⟩ := hx
      rw [hXc i hi]
      exact ⟨hlenF i hi, (hF i hi).2.1.2.1⟩
     ·intro i j hi hj
      obtain ⟨h1, _, _⟩ := hF i hi
      obtain ⟨v, h2, h3⟩ := (cells_at h1).2 j hj
      have hsp := hspot (by omega)
      show w.cell? ⟨a.block, a.off + (i * P.cellsOf e + j), none⟩ = some ((F i).1.getD j .nilIface)
      rw [List.getD_eq_getElem?_getD, h2, Option.getD_some, ← h3, Deep.add_add, hsp]
      congr 1
      unfold Addr.add
      split
      ·rename_i h0; rw [h0]; rfl
      ·rfl
     ·intro i x j y hx hy
      have hi : i < len := by have := (List.getElem?_eq_some_iff.1 hx).1; simpa using this
      simp only [List.getElem?_map, List.getElem?_range hi, Option.map_some, Option.some.injEq] at hx
      subst hx
      rw [hXc i hi] at hy
      obtain ⟨h1, h2, _⟩ := hF i hi
      have hj : j < (F i).1.length := by rw [h2.1]; exact (List.getElem?_eq_some_iff.1 hy).1
      rw [List.getD_eq_getElem?_getD, List.getElem?_eq_getElem hj]
      exact h2.2.2 j _ y (List.getElem?_eq_getElem hj) hy
    ·simp only [Has, hu]
     refine ⟨_, rfl, by simp; omega, fun x hx => ?_⟩
     simp only [List.mem_map, List.mem_range] at hx
     obtain ⟨i, hi, rfl⟩ := hx
     obtain ⟨_, h2, h3, _⟩ := hF i hi
     have hc := hXc i hi
     unfold HasE
     split
     ·rename_i hf
      exact ⟨(F i).2, by simp only [X, if_pos hf], h3⟩
     ·rename_i hf
      have hl1 := hlenF i hi
      rw [hagg (by simpa using hf)] at hl1
      match hF2 : (F i).2, hl1 with
      | [y], _ =>
       rw [hF2] at h3
       simpa [X, hf, hF2] using h3
    ·rw [hxe]
     simp only [bks, bk, Rows.uptoBulk]
     have : bks ((List.range len).map X) ≤ Rows.uptoBulkAll (els.map (·.1)) := bks_le _ _ (by simp [hlen0]) fun i y d hy hd => by
      have hi : i < len := by have := (List.getElem?_eq_some_iff.1 hy).1; simpa using this
      simp only [List.getElem?_map, List.getElem?_range hi, Option.map_some, Option.some.injEq] at hy
      subst hy
      obtain ⟨_, h2, _, y, h4, h5⟩ := hF i hi
      simp only [List.getElem?_map, h4, Option.map_some, Option.some.injEq] at hd
      subst hd
      simp only [X]
      split
      ·simpa only [bk] using h5
      ·rename_i hf
       have hl1 := hlenF i hi
       rw [hagg (by simpa using hf)] at hl1
       match hF2 : (F i).2, hl1 with
       | [y], _ =>
        rw [hF2] at h5
        simp only [bks] at h5
        simp
        omega
     omega
  ·rename_i fs hu
   simp only [Bool.and_eq_true] at hok
   have hall : ∀ f ∈ fs.toList, f.type ∈ L := fun f hf => by simpa using List.all_eq_true.1 hok.1 f hf
   unfold DataW.trod at h
   rw [hu] at h
   simp only at h
   split at h
   ·rename_i hlen
    simp only [Option.map_eq_some_iff] at h
    obtain ⟨ys, h1, hxe⟩ := h
    obtain ⟨h2, h3⟩ := mapM_get h1
    have key : ∀ (gs : List Field) (off k : Nat), gs = fs.toList.drop k → (∀ f ∈ gs, f ∈ fs.toList) → tiles P gs off (P.cellsOf t) = true → off ≤ P.cellsOf t → ∃ zs, RdL (Env.of w) (cs.drop off) zs ∧ HasF (Has P n) gs zs ∧ bks zs ≤ Rows.uptoBulkAll ((ys.drop k).map (·.1)) := by
     intro gs
     induction gs with
     | nil =>
      intro off k _ _ ht' _
      simp only [tiles, beq_iff_eq] at ht'
      refine ⟨[], ?_, rfl, by simp [bks]⟩
      rw [List.drop_of_length_le (by omega)]
      exact .nil
     | cons f gs ih2 =>
      intro off k hgs hsub ht' hoff
      simp only [tiles, Bool.and_eq_true, beq_iff_eq] at ht'
      have hi : fs.toList[k]? = some f := by
       have := congrArg (fun l : List Field => l[0]?) hgs
       simpa using this.symm
      have hgs2 : gs = fs.toList.drop (k + 1) := by
       have := congrArg List.tail hgs
       simpa using this
      obtain ⟨y, hyk, hy⟩ := h3 k f hi
      obtain ⟨a, ha1, ha2, ha3⟩ := ih f.type _ y (hall f (hsub f List.mem_cons_self)) hy
      have hyd : ys.drop k = y :: ys.drop (k + 1) := by
       obtain ⟨q1, q2⟩ := List.getElem?_eq_some_iff.1 hyk
       rw [List.drop_eq_getElem_cons q1, q2]
      have hoff2 : off + P.cellsOf f.type ≤ P.cellsOf t := by
       have : ∀ (gs : List Field) (o : Nat), tiles P gs o (P.cellsOf t) = true → o ≤ P.cellsOf t := by
        intro gs
        induction gs with
        | nil => intro o ho; simp only [tiles, beq_iff_eq] at ho; omega
        | cons g gs ih3 => intro o ho; simp only [tiles, Bool.and_eq_true, beq_iff_eq] at ho; have := ih3 _ ho.2; omega
       exact this gs _ ht'.2
      obtain ⟨b, hb1, hb2, hb3⟩ := ih2 (off + P.cellsOf f.type) (k + 1) hgs2 (fun g hg => hsub g (List.mem_cons_of_mem _ hg)) ht'.2 hoff2
      refine ⟨a ++ b, ?_, ⟨a, b, rfl, ha2, hb2⟩, by rw [hyd, bks_app]; simp only [List.map_cons, Rows.uptoBulkAll]; omega⟩
      have := ha1.append hb1
      rw [ht'.1] at this
      rwa [← List.drop_drop, List.take_append_drop] at this
    obtain ⟨zs, k1, k2, k3⟩ := key fs.toList 0 0 (by simp) (fun _ h => h) hok.2 (Nat.zero_le _)
    refine ⟨zs, by simpa using k1, by simp only [Has, hu]; exact k2, ?_⟩
    rw [← hxe]
    simp only [Rows.uptoBulk]
    simp only [List.drop_zero] at k3
    omega
   ·cases h
  ·rename_i m e hu
   simp only [Bool.and_eq_true, beq_iff_eq] at hok
   have he : e ∈ L := by simpa using hok.1
   unfold DataW.trod at h
   rw [hu] at h
   simp only at h
   split at h
   ·rename_i hlen
    simp only [Option.map_eq_some_iff] at h
    obtain ⟨ys, h1, hxe⟩ := h
    obtain ⟨h2, h3⟩ := mapM_get h1
    have key : ∀ (k i : Nat), i + k = m → ∃ zs, RdL (Env.of w) (cs.drop (i * P.cellsOf e)) zs ∧ HasR (Has P n e) k zs ∧ bks zs ≤ Rows.uptoBulkAll ((ys.drop i).map (·.1)) := by
     intro k
     induction k with
     | zero =>
      intro i hi
      refine ⟨[], ?_, rfl, by simp [bks]⟩
      rw [List.drop_of_length_le (by rw [hlen, hok.2, ← hi]; simp)]
      exact .nil
     | succ k ih2 =>
      intro i hi
      obtain ⟨y, hyk, hy⟩ := h3 i i (by rw [List.getElem?_range (by omega)])
      obtain ⟨a, ha1, ha2, ha3⟩ := ih e _ y he hy
      obtain ⟨b, hb1, hb2, hb3⟩ := ih2 (i + 1) (by omega)
      have hyd : ys.drop i = y :: ys.drop (i + 1) := by
       obtain ⟨q1, q2⟩ := List.getElem?_eq_some_iff.1 hyk
       rw [List.drop_eq_getElem_cons q1, q2]
      refine ⟨a ++ b, ?_, ⟨a, b, rfl, ha2, hb2⟩, by rw [hyd, bks_app]; simp only [List.map_cons, Rows.uptoBulkAll]; omega⟩
      have := ha1.append hb1
      rwa [Nat.add_mul, Nat.one_mul, ← List.drop_drop, List.take_append_drop] at this
    obtain ⟨zs, k1, k2, k3⟩ := key m 0 (by omega)
    refine ⟨zs, by simpa using k1, by simp only [Has, hu]; exact k2, ?_⟩
    rw [← hxe]
    simp only [Rows.uptoBulk]
    simp only [List.drop_zero] at k3
    omega
   ·cases h
  ·cases hok
theorem arg_of_trodB {L : List TypeId} (hL : L.all (okT P L) = true) {t : TypeId} (ht : t ∈ L) {v : Value} {d : DataW H} {ps : List MemPlace} {b0 : Nat} (hval : Value.okWide P w .any b0 t v) (h : DataW.Trod enc P w 0 (fun _ => true) true t v d ps) :
  ∃ a n, Rd (Env.of w) v a ∧ HasE P (Has P n) t a ∧ bk a ≤ Rows.uptoBulk d := by
 obtain ⟨n, h⟩ := h
 obtain ⟨zs, h1, h2, h9⟩ := has_of_trodB hL n t _ _ ht h
 unfold Value.okWide at hval
 unfold HasE aggT
 split at hval
 ·rename_i fs hu
  obtain ⟨cs, rfl, _, _⟩ := hval
  refine ⟨.agg zs, n, ?_, ?_, by simpa only [bk] using h9⟩
  ·exact .agg _ _ (by simpa [Value.cells] using h1.1) h1.2.1 (fun i u x hu hx => h1.2.2 i u x (by simpa [Value.cells] using hu) hx)
  ·rw [hu]; exact ⟨zs, rfl, h2⟩
 ·rename_i m e hu
  obtain ⟨cs, rfl, _, _⟩ := hval
  refine ⟨.agg zs, n, ?_, ?_, by simpa only [bk] using h9⟩
  ·exact .agg _ _ (by simpa [Value.cells] using h1.1) h1.2.1 (fun i u x hu hx => h1.2.2 i u x (by simpa [Value.cells] using hu) hx)
  ·rw [hu]; exact ⟨zs, rfl, h2⟩
 ·rename_i hn1 hn2
  have hok := okT_spec hL ht
  have hone : v.cells = #[v] := by
   unfold Cell.okWide at hval
   unfold okT at hok
   split at hok
   all_goals rename_i hu
   ·rw [hu] at hval; cases v <;> simp_all [Cell.ok, Value.cells]
   ·rw [hu] at hval; cases v <;> simp_all [Cell.ok, Value.cells]
   ·rw [hu] at hval; cases v <;> simp_all [Cell.ok, Value.cells]
   ·rw [hu] at hval; cases v <;> simp_all [Cell.ok, Value.cells]
   ·exact absurd hu (hn1 _)
   ·exact absurd hu (hn2 _ _)
   ·cases hok
  rw [hone] at h1
  match zs, h1, h2, h9 with
  | [x], h1, h2, h9 =>
   refine ⟨x, n, h1.2.2 0 v x rfl rfl, ?_, by simp only [bks] at h9; omega⟩
   rw [if_neg]
   ·exact h2
   ·intro hh
    split at hh
    ·exact absurd (by assumption) (hn1 _)
    ·exact absurd (by assumption) (hn2 _ _)
    ·cases hh
  | [], h1, _, _ => simp [RdL] at h1
  | _ :: _ :: _, h1, _, _ => simp [RdL] at h1
theorem args_of_trodB {L : List TypeId} (hL : L.all (okT P L) = true) {b0 : Nat} : ∀ {ts : List TypeId} {vs : List Value} {ds : List (DataW H)} {ps : List MemPlace}, (∀ t ∈ ts, t ∈ L) → (∀ (j : Nat) t v, ts[j]? = some t → vs[j]? = some v → Value.okWide P w .any b0 t v) →
  DataW.TrodAll enc P w 0 (fun _ => true) true ts vs ds ps → ∃ zs, vs.length = zs.length ∧ (∀ (i : Nat) (u : Value) (x : AV), vs[i]? = some u → zs[i]? = some x → Rd (Env.of w) u x) ∧ HasArgs P ts zs ∧ bks zs ≤ Rows.uptoBulkAll ds
 | [], [], [], _, _, _, _ => ⟨[], rfl, by simp, rfl, by simp [bks]⟩
 | t :: ts, v :: vs, d :: ds, ps, hts, hval, h => by
  obtain ⟨p, q, h1, h2, rfl⟩ := h
  obtain ⟨a, n, k1, k2, k3⟩ := arg_of_trodB hL (hts t List.mem_cons_self) (hval 0 t v rfl rfl) h1
  obtain ⟨zs, m1, m2, m3, m4⟩ := args_of_trodB hL (fun t ht => hts t (List.mem_cons_of_mem _ ht)) (fun j t v e1 e2 => hval (j + 1) t v e1 e2) h2
  refine ⟨a :: zs, by simp [m1], fun i u x hu hx => ?_, ⟨a, zs, n, rfl, k2, m3⟩, by simp only [bks, Rows.uptoBulkAll]; omega⟩
  match i with
  | 0 => simp at hu hx; subst hu; subst hx; exact k1
  | i + 1 => exact m2 i u x hu hx
 | [], [], _ :: _, _, _, _, h => h.elim
 | [], _ :: _, _, _, _, _, h => h.elim
 | _ :: _, [], _, _, _, _, h => h.elim
 | _ :: _, _ :: _, [], _, _, _, h => h.elim
theorem law_contractB {O : CallO} (hO : CallOk P O) {f : FuncId} {fn : Func} {c : Code} (hf : P.funcs[f]? = some fn) (hbody : fn.body = some c) (hname : (fn.name == "runtime.NumGoroutine") = false)
  {L : List TypeId} (hL : L.all (okT P L) = true) (hts : fn.params.toList.all (fun t => L.contains t) = true) (hl : laidOutB P = true) (hrd : fn.params.toList.all (fun t => P.readableRec t && decide (t < P.types.size)) = true)
  {tb : TypeId} (hres : fn.resultTypes.toList = [tb]) (hbt : P.underlying tb = some .bool) (s : ChangeSpec) (hvars : s.vars = []) {G : (H : Type) → List (DataW H) → Prop}
  (hfn : ∀ (ds : List (DataW H)), ds.length = fn.params.size → s.fn H ds = { results := [.lit (.bool true)], args := ds })
  (W : World) (base : Nat) (args : Array Value) (ds gs : List (DataW H)) (before : List MemPlace)
  (hgl : GlOk (Env.of W)) (hz : ZOk W.heap.size W) (hbulk : Rows.uptoBulkAll ds ≤ 1048576) (hcall : ∀ zs, HasArgs P fn.params.toList zs → bks zs ≤ 1048576 → O f zs [] = some (.bool true, []))
  (hval : ∀ (j : Nat) t v, fn.params[j]? = some t → args[j]? = some v → Value.okWide P W .any base t v)
  (hW : DataW.Whole enc P fn.params.toList s.vars false W args.toList ds gs before) :
  Calls P f args W fun e W' => ∃ v, e = .returned v ∧ s.post enc P fn false true false false W args v W' := by
 have hW' := hW
 obtain ⟨p, q, hA, hV, hpq, hfz, hnd⟩ := hW
 rw [hvars] at hV
 have hgs : gs = [] ∧ q = [] := by
  cases gs with
  | nil => exact ⟨rfl, hV⟩
  | cons _ _ => exact hV.elim
 obtain ⟨rfl, rfl⟩ := hgs
 rw [List.append_nil] at hpq
 subst hpq
 obtain ⟨zs, h1, h2, h3, h9⟩ := args_of_trodB hL (b0 := base) (fun t ht => by simpa using List.all_eq_true.1 hts t ht) (fun j t v e1 e2 => hval j t v (by simpa using e1) (by simpa using e2)) hA
 have hg := hO f zs [] _ _ (hcall zs h3 (by omega))
 have hfire := hg.2.2 W.heap.size W (Env.of W) W args (Rel.start W hgl hz) (by simpa using h1) (fun i u x hu hx => h2 i u x (by simpa using hu) hx)
 have hcalls := fires_calls hf hbody hname hfire
 have hdl : ds.length = fn.params.size := by
  have : ∀ {ts : List TypeId} {vs : List Value} {ds : List (DataW H)} {ps : List MemPlace}, DataW.TrodAll enc P W 0 (fun _ => true) true ts vs ds ps → ds.length = ts.length := by
   intro ts
   induction ts with
   | nil => intro vs ds ps h; cases vs <;> cases ds <;> first | rfl | exact h.elim
   | cons t ts ih =>
    intro vs ds ps h
    cases vs with
    | nil => exact h.elim
    | cons v vs =>
     cases ds with
     | nil => exact h.elim
     | cons d ds =>
      obtain ⟨p, q, _, h2, _⟩ := h
      simp [ih h2]
  simpa using this hA
 refine hcalls.mono fun e w' k => ?_
 match e, k with
 | .returned v, ⟨E', _, _, hrel, hrd'⟩ =>
  refine ⟨v, rfl, ds, [], before, [], before, [], hW', ?_, ?_, ?_, hrel.below.frame _, fun h => by cases h⟩
  ·rw [List.append_nil, hfn ds hdl]
   have hv : v = .bool true := hrd'.inv_bool
   subst hv
   have hn : fn.resultTypes.size = 1 := by rw [← Array.length_toList, hres]; rfl
   rw [hres, hn]
   exact ⟨[], [], ⟨1, by simp [DataW.trod, hbt, Value.cells]⟩, rfl, rfl⟩
  ·rw [List.append_nil, hfn ds hdl]
   exact args_again hl hrel.below hrd (fun x hx => hW'.lt x hx) hA
  ·rw [List.append_nil, hfn ds hdl, hvars]
   rfl
end
end Go.Proofs.YtcflbdikkcpiaaaGreatDoor
