/-
  Operations that touch no memory: numbers, texts, comparisons, conversions, parts of values.
-/
import Derived.Test.YtiobaboailhafaaAm3
import Derived.Laws.StructEq
set_option linter.unusedVariables false
set_option linter.unusedSimpArgs false
namespace Go.Am
open Go Go.RowKit
section
variable {P : Program} {B : Nat} {w0 : World} {E : Env} {h : Heap} {a : Act} {w : World} {σ : Slots}

theorem Rd.inv_int {v : Value} {k : IntKind} {n : Int} (r : Rd E v (.int k n)) : v = .int k n := by cases r; rfl
theorem Rd.inv_bool {v : Value} {b : Bool} (r : Rd E v (.bool b)) : v = .bool b := by cases r; rfl
theorem Rd.inv_str {v : Value} {l : List UInt8} (r : Rd E v (.str l)) : v = .string ⟨⟨l⟩⟩ := by cases r; rfl

theorem str_toList (l : List UInt8) : (⟨⟨l⟩⟩ : ByteArray).toList = l := by
  rw [ByteArray.toList_eq]

theorem ibin_sound {t : TypeId} {p q : Operand} {op : BinOp} {k k' : IntKind} {x y : Int} {v : AV} (hk : k = k' ∨ op = .shl ∨ op = .shr) (hb : ibin op k x y = some v) : ∃ u, (do eqGuard op t p q (.int k x) (.int k' y); binOp op t (.int k x) (.int k' y) : Sem Value).run P w = .ok u w ∧ Rd E u v := by
  have hg : (eqGuard op t p q (.int k x) (.int k' y)).run P w = .ok () w := by
    unfold eqGuard
    cases op <;> rfl
  simp only [Sem.run_bind, hg, Result.andThen_ok]
  cases op <;> simp only [ibin, Option.some.injEq] at hb
  case shl =>
    split at hb
    · cases hb
    · rename_i hy; injection hb with hb; subst hb
      exact ⟨_, by simp [binOp, Op.shift, hy], .int _ _⟩
  case shr =>
    split at hb
    · cases hb
    · rename_i hy; injection hb with hb; subst hb
      exact ⟨_, by simp [binOp, Op.shift, hy], .int _ _⟩
  all_goals
    obtain rfl : k = k' := by simpa using hk
  case quo =>
    split at hb
    · cases hb
    · rename_i hy; injection hb with hb; subst hb
      exact ⟨_, by simp [binOp, Op.intDiv, hy], .int _ _⟩
  case rem =>
    split at hb
    · cases hb
    · rename_i hy; injection hb with hb; subst hb
      exact ⟨_, by simp [binOp, Op.intDiv, hy], .int _ _⟩
  all_goals
    subst hb
    first
      | (refine ⟨_, ?_, .int _ _⟩; rfl)
      | (refine ⟨_, ?_, .int _ _⟩; simp [binOp, Op.intArith]; done)
      | (refine ⟨_, ?_, .int _ _⟩; simp [binOp]; rfl)
      | (refine ⟨_, ?_, .bool _⟩; simp [binOp, Op.intCmp]; done)

theorem sbin_sound {t : TypeId} {p q : Operand} {op : BinOp} {x y : List UInt8} {v : AV} (hb : sbin op x y = some v) : ∃ u, (do eqGuard op t p q (.string ⟨⟨x⟩⟩) (.string ⟨⟨y⟩⟩); binOp op t (.string ⟨⟨x⟩⟩) (.string ⟨⟨y⟩⟩) : Sem Value).run P w = .ok u w ∧ Rd E u v := by
  have hg : (eqGuard op t p q (.string ⟨⟨x⟩⟩) (.string ⟨⟨y⟩⟩)).run P w = .ok () w := by
    unfold eqGuard
    cases op <;> rfl
  simp only [Sem.run_bind, hg, Result.andThen_ok]
  cases op <;> simp only [sbin, Option.some.injEq] at hb
  case add =>
    split at hb
    · rename_i hle
      injection hb with hb; subst hb
      have hle' : ¬ (((⟨⟨x⟩⟩ : ByteArray).size + (⟨⟨y⟩⟩ : ByteArray).size : Nat) : Int) > IntKind.i64.max := by
        show ¬ ((((x.length + y.length : Nat) : Int)) > 9223372036854775807)
        omega
      refine ⟨.string ((⟨⟨x⟩⟩ : ByteArray) ++ ⟨⟨y⟩⟩), ?_, ?_⟩
      · simp only [binOp, Op.stringOp]
        rw [if_neg hle']
        rfl
      · have : (⟨⟨x⟩⟩ : ByteArray) ++ ⟨⟨y⟩⟩ = ⟨⟨x ++ y⟩⟩ := by
          apply ByteArray.ext
          simp
        rw [this]
        exact .str _
    · cases hb
  all_goals first
    | (cases hb; done)
    | (subst hb; refine ⟨_, ?_, .bool _⟩; simp [binOp, Op.stringOp, str_toList]; done)
    | (subst hb; refine ⟨_, ?_, .bool _⟩; simp [binOp, Op.stringOp, str_toList, bne]; done)

theorem abin_sound {op : BinOp} {t : TypeId} {p q : Operand} {u1 u2 : Value} {x y v : AV} (h1 : Rd E u1 x) (h2 : Rd E u2 y) (hb : abin op x y = some v) : ∃ u, (do eqGuard op t p q u1 u2; binOp op t u1 u2 : Sem Value).run P w = .ok u w ∧ Rd E u v := by
  unfold abin at hb
  split at hb
  · rename_i k m k' n
    rw [h1.inv_int, h2.inv_int]
    split at hb
    · rename_i hk
      exact ibin_sound hk hb
    · cases hb
  · rw [h1.inv_str, h2.inv_str]
    exact sbin_sound hb
  · cases hb

/-! ### '==' -/
theorem eqLeaf_sound {t : TypeId} {td : TypeDesc} {k : LK} {u v : Value} {x y : AV} {b : Bool} (hu : P.underlying t = some td) (hk : leafK td = some k) (h1 : Rd E u x) (h2 : Rd E v y) (hb : eqLeaf k x y = some b) (D : Nat) :
    (Op.equalIn (D + 1) t u v).run P w = .ok b w := by
  unfold leafK at hk
  split at hk <;> first | cases hk | skip
  all_goals
    cases h1 <;> cases h2 <;> simp only [eqLeaf] at hb <;> first | (cases hb; done) | skip
  all_goals
    first
      | (simp only [Option.some.injEq] at hb; subst hb; simp [Op.equalIn, run_underlying hu, beq_toListBytes, str_toList]; done)
      | (split at hb <;> first | (cases hb; done) | (simp only [Option.some.injEq] at hb; subst hb; simp [Op.equalIn, run_underlying hu, *]; done))

theorem eqOffs_ne {d : Nat} {t : TypeId} {offs : List (Nat × LK)} (h : eqOffs P d t = some offs) : ∃ td, P.underlying t = some td := by
  cases d with
  | zero => cases h
  | succ d =>
    unfold eqOffs at h
    split at h
    · exact ⟨_, ‹_›⟩
    · exact ⟨_, ‹_›⟩
    · cases h

theorem eqs_append {a b : List (Nat × LK)} {xs ys : List AV} {r : Bool} (h : eqs (a ++ b) xs ys = some r) : ∃ p q, eqs a xs ys = some p ∧ eqs b xs ys = some q ∧ r = (p && q) := by
  induction a generalizing r with
  | nil => exact ⟨true, r, rfl, h, by simp⟩
  | cons o a ih =>
    simp only [List.cons_append, eqs] at h
    split at h
    · rename_i x y hx hy
      split at h
      · rename_i p q hp hq
        obtain ⟨p', q', e1, e2, e3⟩ := ih hq
        injection h with h
        refine ⟨p && p', q', by simp only [eqs, hx, hy, hp, e1], e2, ?_⟩
        rw [← h, e3, Bool.and_assoc]
      · cases h
    · cases h

/-- Moved to a part of the cells. -/
theorem eqs_shift {a : List (Nat × LK)} {xs ys : List AV} {off s : Nat} (hs : a.all (·.1 < s) = true) :
    eqs (a.map fun p => (off + p.1, p.2)) xs ys = eqs a ((xs.drop off).take s) ((ys.drop off).take s) := by
  induction a with
  | nil => rfl
  | cons o a ih =>
    simp only [List.all_cons, Bool.and_eq_true, decide_eq_true_eq] at hs
    simp only [List.map_cons, eqs, List.getElem?_take_of_lt hs.1, List.getElem?_drop, ih hs.2]

theorem run_part {t : TypeId} {s : Option Nat} (hl : ld P t = some s) {xs : Array Value} {as : List AV} (hsz : xs.size = as.length) (hr : RdCells E xs as) {off : Nat} {x : AV} (hx : loadA s as off = some x) :
    ∃ u, (part t xs off).run P w = .ok u w ∧ Rd E u x := by
  obtain ⟨d, hd, ⟨hg, n, hn, rfl⟩ | ⟨hg, rfl⟩⟩ := ld_some hl
  · simp only [loadA] at hx
    split at hx
    · rename_i hle
      injection hx with hx; subst hx
      refine ⟨.agg (xs.extract off (off + n)), by simp [part, run_isAgg' hd, hg, run_sizeOf' hn], .agg _ _ (by simp; omega) (fun y hy => hr.1 y (List.mem_of_mem_drop (List.mem_of_mem_take hy))) fun i u y hu hy => ?_⟩
      have hi : i < n := by
        rcases Nat.lt_or_ge i n with h' | h'
        · exact h'
        · rw [List.getElem?_eq_none (by simp; omega)] at hy; cases hy
      rw [List.getElem?_take_of_lt hi, List.getElem?_drop] at hy
      rw [Array.getElem?_extract_of_lt (by omega)] at hu
      exact hr.2 _ u y ((Array.getElem?_eq_getElem (by omega)).trans hu) hy
    · cases hx
  · simp only [loadA] at hx
    have hlt : off < xs.size := by have := (List.getElem?_eq_some_iff.1 hx).1; omega
    refine ⟨xs[off], ?_, hr.2 off _ x (Array.getElem?_eq_getElem hlt) hx⟩
    simp [part, run_isAgg' hd, hg, Array.getElem?_eq_getElem hlt]

theorem eqFields_sound {D : Nat} {d N : Nat} {xs ys : Array Value} {as bs : List AV} (hN1 : as.length = N) (hN2 : bs.length = N) (hx : xs.size = as.length) (hy : ys.size = bs.length) (rx : RdCells E xs as) (ry : RdCells E ys bs)
    (ih : ∀ t offs, eqOffs P d t = some offs → ∀ sz, ld P t = some sz → ∀ u v x y b, Rd E u x → Rd E v y → eqV sz offs x y = some b → (Op.equalIn D t u v).run P w = .ok b w) :
    ∀ (fs : List Field) (offs : List (Nat × LK)), fs.foldr (fun f acc =>
        if f.name = "_" then acc
        else match ld P f.type, size? P f.type, eqOffs P d f.type, acc with
          | some none, some _, some [(0, k)], some b => some ((f.offset, k) :: b)
          | some (some n), some s, some a, some b => if n = s ∧ a.all (·.1 < s) ∧ f.offset + s ≤ N then some (a.map (fun p => (f.offset + p.1, p.2)) ++ b) else none
          | _, _, _, _ => none) (some []) = some offs →
      ∀ b, eqs offs as bs = some b → (Op.eqFields D xs ys fs).run P w = .ok b w
  | [], offs, hf, b, hb => by
    simp only [List.foldr_nil, Option.some.injEq] at hf
    subst hf
    simp only [eqs, Option.some.injEq] at hb
    subst hb
    simp [Op.eqFields]
  | f :: fs, offs, hf, b, hb => by
    simp only [List.foldr_cons] at hf
    split at hf
    · rename_i hn
      simp only [Op.eqFields, hn, ne_eq, not_true_eq_false, if_false]
      exact eqFields_sound hN1 hN2 hx hy rx ry ih fs offs hf b hb
    · rename_i hn
      split at hf
      · rename_i k rest hl hs he hacc
        injection hf with hf
        subst hf
        simp only [eqs] at hb
        split at hb
        · rename_i x y ex ey
          split at hb
          · rename_i p q hp hq
            injection hb with hb
            have hrest := eqFields_sound hN1 hN2 hx hy rx ry ih fs rest hacc q hq
            obtain ⟨u, hu, ru⟩ := run_part (P := P) (w := w) hl hx rx (x := x) (by simpa [loadA] using ex)
            obtain ⟨v, hv, rv⟩ := run_part (P := P) (w := w) hl hy ry (x := y) (by simpa [loadA] using ey)
            have hq2 := ih f.type [(0, k)] he none hl u v x y p ru rv (by simp [eqV, eqs, hp])
            have hn' : f.name ≠ "_" := hn
            simp only [Op.eqFields, if_pos hn', Sem.run_bind, hu, hv, hq2, Result.andThen_ok]
            rw [← hb]
            cases p
            · simp
            · simpa using hrest
          · cases hb
        · cases hb
      · rename_i n s a rest hl hs he hacc
        split at hf
        · rename_i hc
          obtain ⟨rfl, hall, hle⟩ := hc
          injection hf with hf
          subst hf
          obtain ⟨p, q, hp, hq, rfl⟩ := eqs_append hb
          have hrest := eqFields_sound hN1 hN2 hx hy rx ry ih fs rest hacc q hq
          rw [eqs_shift hall] at hp
          obtain ⟨u, hu, ru⟩ := run_part (P := P) (w := w) hl hx rx (off := f.offset) (x := .agg ((as.drop f.offset).take n)) (by simp [loadA]; omega)
          obtain ⟨v, hv, rv⟩ := run_part (P := P) (w := w) hl hy ry (off := f.offset) (x := .agg ((bs.drop f.offset).take n)) (by simp [loadA]; omega)
          have hq2 := ih f.type a he (some n) hl u v _ _ p ru rv (by
            have l1 : ((as.drop f.offset).take n).length = n := by simp; omega
            have l2 : ((bs.drop f.offset).take n).length = n := by simp; omega
            simp only [eqV]
            rw [if_pos ⟨l1, l2⟩]
            exact hp)
          have hn'' : f.name ≠ "_" := hn
          simp only [Op.eqFields, if_pos hn'', Sem.run_bind, hu, hv, hq2, Result.andThen_ok]
          cases p
          · simp
          · simpa using hrest
        · cases hf
      · cases hf

theorem equalIn_sound : ∀ (d : Nat) (t : TypeId) (offs : List (Nat × LK)), eqOffs P d t = some offs → ∀ sz, ld P t = some sz → ∀ u v x y b, Rd E u x → Rd E v y → eqV sz offs x y = some b → ∀ D, d ≤ D → (Op.equalIn D t u v).run P w = .ok b w
  | 0, t, offs, h => by cases h
  | d + 1, t, offs, h => by
    intro sz hl u v x y b hx hy hb D hD
    obtain ⟨D, rfl⟩ : ∃ m, D = m + 1 := ⟨D - 1, by omega⟩
    unfold eqOffs at h
    split at h
    · rename_i fs hu
      split at h
      · cases h
      · rename_i hst
        obtain ⟨td, htd, ⟨hag, n, hn, rfl⟩ | ⟨hag, _⟩⟩ := ld_some hl
        · simp only [eqV] at hb
          split at hb
          · rename_i cs ds
            split at hb
            · rename_i hlen
              cases hx with
              | agg xs _ l1 o1 r1 =>
                cases hy with
                | agg ys _ l2 o2 r2 =>
                  have hf : P.fieldsOf t = fs := by simp [Program.fieldsOf, hu]
                  rw [run_equalIn_struct (P := P) w D t xs ys (by rw [hf]; exact hu) (by simpa using hst), hf]
                  rw [hn] at h
                  exact eqFields_sound (N := n) hlen.1 hlen.2 l1 l2 ⟨o1, r1⟩ ⟨o2, r2⟩ (fun t offs he sz hl u v x y b hx hy hb => equalIn_sound d t offs he sz hl u v x y b hx hy hb D (by omega)) fs.toList offs h b hb
            · cases hb
          · cases hb
        · rw [hu] at htd
          injection htd with htd
          subst htd
          cases hag
    · rename_i td hns hu
      simp only [Option.map_eq_some_iff] at h
      obtain ⟨k, hk, rfl⟩ := h
      obtain ⟨td', htd, ⟨hag, n, hn, rfl⟩ | ⟨hag, rfl⟩⟩ := ld_some hl
      · rw [hu] at htd
        injection htd with htd
        subst htd
        cases td <;> simp_all [leafK, isAggD]
      · simp only [eqV, eqs, List.getElem?_cons_zero] at hb
        split at hb
        · rename_i p q hp hq
          simp only [Option.some.injEq] at hq hb
          have := eqLeaf_sound (P := P) (w := w) hu hk hx hy hp D
          rw [this]
          simp_all
        · cases hb
    · cases h

/-- What '==' of one cell compares (numbers and texts apart). -/
inductive EqSh : AV → AV → Prop
  | bool (p q : Bool) : EqSh (.bool p) (.bool q)
  | pp : EqSh .nilp .nilp
  | pa (b o : Nat) : EqSh .nilp (.ptr b o)
  | ap (b o : Nat) : EqSh (.ptr b o) .nilp
  | pe (cs : List AV) : EqSh .nilp (.eptr cs)
  | ep (cs : List AV) : EqSh (.eptr cs) .nilp
  | ii : EqSh .nili .nili
  | iv (t : TypeId) (v : AV) : EqSh .nili (.iface t v)
  | vi (t : TypeId) (v : AV) : EqSh (.iface t v) .nili
  | nf (f : FuncId) (cs : List AV) : EqSh .nilf (.fn f cs)
  | fn (f : FuncId) (cs : List AV) : EqSh (.fn f cs) .nilf

theorem eqLeaf_inv {k : LK} {x y : AV} {b : Bool} (hk : k ≠ .int ∧ k ≠ .str) (hb : eqLeaf k x y = some b) : EqSh x y := by
  unfold eqLeaf at hb
  split at hb <;> first
    | constructor
    | exact absurd rfl hk.1
    | exact absurd rfl hk.2
    | cases hb

theorem guard_nili_const {op : BinOp} {t : TypeId} {x y : Operand} (hg : isK x = true ∨ isK y = true) : (eqGuard op t x y .nilIface .nilIface).run P w = .ok () w := by
  rcases hg with hg | hg
  · cases x <;> first
      | (cases op <;> rfl)
      | (simp [isK] at hg; done)
  · cases y <;> first
      | (cases x <;> cases op <;> rfl)
      | (simp [isK] at hg; done)

theorem run_eqGuardIn_nili {t : TypeId} {ms : Array (String × TypeId)} (hu : P.underlying t = some (.interface ms)) (d : Nat) : (Op.eqGuardIn (d + 1) t .nilIface .nilIface).run P w = .ok (!ms.isEmpty) w := by
  simp [Op.eqGuardIn, run_underlying hu]

theorem guard_nili_type {op : BinOp} {t : TypeId} {x y : Operand} {ms : Array (String × TypeId)} (hu : P.underlying t = some (.interface ms)) (hm : ms.isEmpty = true) : (eqGuard op t x y .nilIface .nilIface).run P w = .ok () w := by
  by_cases hk : isK x = true ∨ isK y = true
  · exact guard_nili_const hk
  · cases x <;> first | exact absurd (.inl rfl) hk | skip
    all_goals
      cases y <;> first | exact absurd (.inr rfl) hk | skip
      all_goals
        cases op <;> first
          | rfl
          | (change ((Op.eqGuardIn (9999 + 1) t .nilIface .nilIface >>= _ : Sem Unit)).run P w = _
             rw [Sem.run_bind, run_eqGuardIn_nili hu, hm]
             rfl)

theorem eq_sound {op : BinOp} {t u : TypeId} {x y : Operand} {c d : AX} {offs : List (Nat × LK)} {s : Option Nat} {o : Oper} (ho : o.op = .binOp op t x y u) (hop : op = .eql ∨ op = .neq) (hns : isScalarT P t = false) (hg : P.eqGuardType P.depth t = false ∨ (s = none ∧ (isK x = true ∨ isK y = true)))
    (he : eqOffs P 12 t = some offs) (hl : ld P t = some s) (h1 : cx P t x = some c) (h2 : cx P u y = some d) (hs : SR E a σ) (r : Rel B w0 E h w) (key : Nat) {O : CallO} {v : AV} {h' : Heap}
    (hex : aop O σ h key (.eq (op = .neq) s offs c d) = some (v, h')) : Out P B w0 E h' key a o w v := by
  have rx := cx_sound h1 hs
  have ry := cx_sound h2 hs
  simp only [aop, Option.map_eq_some_iff, Prod.mk.injEq] at hex
  obtain ⟨b, hb, rfl, rfl⟩ := hex
  have hrun := equalIn_sound (P := P) (w := w) 12 t offs he s hl _ _ _ _ b rx ry hb 10000 (by decide)
  have hgt : ∀ ms, P.underlying t = some (.interface ms) → P.eqGuardType P.depth t = false → ms.isEmpty = true := by
    intro ms hu hf
    have hd : P.depth = 2 * (P.types.size + Made.depth) + 1 + 1 := rfl
    rw [hd] at hf
    simp only [Program.eqGuardType, hu] at hf
    simpa using hf
  have main : (do eqGuard op t x y (a.eval x) (a.eval y); binOp op t (a.eval x) (a.eval y) : Sem Value).run P w = .ok (.bool (if op = .neq then !b else b)) w := by
    obtain ⟨td, hu, ⟨hag, n, hn, rfl⟩ | ⟨hag, rfl⟩⟩ := ld_some hl
    · simp only [eqV] at hb
      split at hb
      · rename_i cs ds e1 e2
        rw [e1] at rx
        rw [e2] at ry
        generalize a.eval x = vx at *
        generalize a.eval y = vy at *
        cases rx
        cases ry
        have hg' : P.eqGuardType P.depth t = false := by
          rcases hg with hg | ⟨hh, _⟩
          · exact hg
          · cases hh
        rcases hop with rfl | rfl
        · simp only [Sem.run_bind, run_eqGuard_agg w _ t x y _ _ hg', Result.andThen_ok, run_eql_struct, hrun]
          rfl
        · simp only [Sem.run_bind, run_eqGuard_agg w _ t x y _ _ hg', Result.andThen_ok, run_neq_struct, hrun]
          rfl
      · cases hb
    · have hleaf : ∃ k, leafK td = some k ∧ eqLeaf k (c.ev σ) (d.ev σ) = some b := by
        unfold eqOffs at he
        split at he
        · rename_i fs hfs
          rw [hfs] at hu
          injection hu with hu
          subst hu
          cases hag
        · rename_i td' _ hu'
          rw [hu'] at hu
          injection hu with hu
          subst hu
          simp only [Option.map_eq_some_iff] at he
          obtain ⟨k, hk, rfl⟩ := he
          refine ⟨k, hk, ?_⟩
          simp only [eqV, eqs, List.getElem?_cons_zero] at hb
          split at hb
          · rename_i p q hp hq
            simp only [Option.some.injEq] at hb hq
            rw [hp, ← hb, ← hq]
            simp
          · cases hb
        · cases he
      obtain ⟨k, hk, hb⟩ := hleaf
      have hnk : k ≠ .int ∧ k ≠ .str := by
        unfold isScalarT at hns
        rw [hu] at hns
        cases td <;> simp_all [leafK] <;> subst hk <;> simp
      have hsh := eqLeaf_inv hnk hb
      have hgd : (eqGuard op t x y (a.eval x) (a.eval y)).run P w = .ok () w := by
        generalize a.eval x = vx at *
        generalize a.eval y = vy at *
        generalize c.ev σ = xc at *
        generalize d.ev σ = yc at *
        cases hsh <;> cases rx <;> cases ry <;> first
          | (rcases hop with rfl | rfl <;> rfl)
          | skip
        have hui : ∃ ms, P.underlying t = some (.interface ms) := by
          rw [hu]
          unfold leafK at hk
          split at hk <;> first | exact ⟨_, rfl⟩ | (injection hk with hk; subst hk; simp only [eqLeaf] at hb; cases hb) | cases hk
        obtain ⟨ms, hms⟩ := hui
        rcases hg with hg | ⟨_, hg⟩
        · exact guard_nili_type hms (hgt ms hms hg)
        · exact guard_nili_const hg
      have hbo : (binOp op t (a.eval x) (a.eval y)).run P w = .ok (.bool (if op = .neq then !b else b)) w := by
        have e1 : (do pure (.bool (← Op.equal t (a.eval x) (a.eval y))) : Sem Value).run P w = .ok (.bool b) w := by
          show ((Op.equalIn 10000 t (a.eval x) (a.eval y)) >>= fun c => pure (.bool c) : Sem Value).run P w = _
          rw [Sem.run_bind, hrun]
          rfl
        have e2 : (do pure (.bool (!(← Op.equal t (a.eval x) (a.eval y)))) : Sem Value).run P w = .ok (.bool (!b)) w := by
          show ((Op.equalIn 10000 t (a.eval x) (a.eval y)) >>= fun c => pure (.bool (!c)) : Sem Value).run P w = _
          rw [Sem.run_bind, hrun]
          rfl
        generalize a.eval x = vx at *
        generalize a.eval y = vy at *
        generalize c.ev σ = xc at *
        generalize d.ev σ = yc at *
        rcases hop with rfl | rfl
        · rw [if_neg (by simp)]
          cases hsh <;> cases rx <;> cases ry <;> exact e1
        · rw [if_pos rfl]
          cases hsh <;> cases rx <;> cases ry <;> exact e2
      simp only [Sem.run_bind, hgd, Result.andThen_ok, hbo]
  refine Out.quiet r _ (by
    unfold execOp
    rw [ho]
    show ((do eqGuard op t x y (a.eval x) (a.eval y); binOp op t (a.eval x) (a.eval y) : Sem Value) >>= fun z => pure (Next.value z)).run P w = _
    rw [Sem.run_bind, main]
    rfl) ?_
  have : (if op = .neq then !b else b) = (if decide (op = .neq) = true then !b else b) := by
    rcases hop with rfl | rfl <;> rfl
  rw [this]
  exact .bool _
end
end Go.Am
