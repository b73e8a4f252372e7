/-
  More operations that turn no memory: moves, choices, conversions of numbers, parts, lengths, addresses, cuts.
-/
import Derived.Test.YtiobaboailhafaaAm4
set_option linter.unusedVariables false
set_option linter.unusedSimpArgs false
namespace Go.Am
open Go Go.RowKit
section
variable {P : Program} {B : Nat} {w0 : World} {E : Env} {h h' : Heap} {a : Act} {w : World} {σ : Slots} {o : Oper} {ty : TypeId} {key : Nat} {O : CallO} {v : AV}

/-- An operation that is a value's own computation. -/
theorem run_v {s : Sem Value} {u : Value} {w' : World} (hs : s.run P w = .ok u w') : (do pure (Next.value (← s)) : Sem Next).run P w = .ok (.value u) w' := by
  rw [Sem.run_bind, hs]; rfl

theorem mv_sound {x : Operand} {y : AX} (ho : o.op = .move x ∨ o.op = .assign x) {t : TypeId} (hc : cx P t x = some y) (hs : SR E a σ) (r : Rel B w0 E h w) (hex : aop O σ h key (.mv y) = some (v, h')) : Out P B w0 E h' key a o w v := by
  simp only [aop, Option.some.injEq, Prod.mk.injEq] at hex
  obtain ⟨rfl, rfl⟩ := hex
  rcases ho with ho | ho <;> exact Out.quiet r _ (by unfold execOp; rw [ho]; rfl) (cx_sound hc hs)

/-- A constant's move (a length that is known). -/
theorem mvc_sound {c : AV} {u : Value} (hrun : (execOp a.eval o).run P w = .ok (.value u) w) (hu : Rd E u c) (r : Rel B w0 E h w) (hex : aop O σ h key (.mv (.c c)) = some (v, h')) : Out P B w0 E h' key a o w v := by
  simp only [aop, Option.some.injEq, Prod.mk.injEq, AX.ev] at hex
  obtain ⟨rfl, rfl⟩ := hex
  exact Out.quiet r _ hrun hu

theorem nilchk_sound {x : Operand} {y : AX} (ho : o.op = .nilCheck x) {t : TypeId} (hc : cx P t x = some y) (hs : SR E a σ) (r : Rel B w0 E h w) (hex : aop O σ h key (.nilchk y) = some (v, h')) : Out P B w0 E h' key a o w v := by
  have hx := cx_sound hc hs
  simp only [aop] at hex
  have key : ∀ u, Rd E u v → (execOp a.eval o).run P w = .ok (.value u) w → h = h' → Out P B w0 E h' key a o w v := fun u h1 h2 h3 => by subst h3; exact Out.quiet r u h2 h1
  generalize hv : a.eval x = av at hx
  split at hex
  · rename_i b off he
    simp only [Option.some.injEq, Prod.mk.injEq] at hex
    obtain ⟨rfl, rfl⟩ := hex
    rw [he] at hx
    refine key av hx ?_ rfl
    cases hx
    unfold execOp; rw [ho]; dsimp only; rw [hv]; rfl
  · rename_i cs he
    simp only [Option.some.injEq, Prod.mk.injEq] at hex
    obtain ⟨rfl, rfl⟩ := hex
    rw [he] at hx
    refine key av hx ?_ rfl
    cases hx
    unfold execOp; rw [ho]; dsimp only; rw [hv]; rfl
  · rename_i f cs he
    simp only [Option.some.injEq, Prod.mk.injEq] at hex
    obtain ⟨rfl, rfl⟩ := hex
    rw [he] at hx
    refine key av hx ?_ rfl
    cases hx
    unfold execOp; rw [ho]; dsimp only; rw [hv]; rfl
  · cases hex

theorem pick_sound {c x y : Operand} {c' x' y' : AX} (ho : o.op = .pick c x y) {t : TypeId} (h1 : cx P 0 c = some c') (h2 : cx P t x = some x') (h3 : cx P t y = some y') (hs : SR E a σ) (r : Rel B w0 E h w) (hex : aop O σ h key (.pick c' x' y') = some (v, h')) : Out P B w0 E h' key a o w v := by
  have hx := cx_sound h1 hs
  simp only [aop] at hex
  split at hex
  · rename_i b he
    simp only [Option.some.injEq, Prod.mk.injEq] at hex
    obtain ⟨rfl, rfl⟩ := hex
    rw [he] at hx
    refine Out.quiet r (if b then a.eval x else a.eval y) (by unfold execOp; rw [ho]; dsimp only; rw [hx.inv_bool]; rfl) ?_
    cases b
    · exact cx_sound h3 hs
    · exact cx_sound h2 hs
  · cases hex

theorem neg_sound {x : Operand} {y : AX} {t : TypeId} (ho : o.op = .unOp .neg t x) (hc : cx P t x = some y) (hs : SR E a σ) (r : Rel B w0 E h w) (hex : aop O σ h key (.neg y) = some (v, h')) : Out P B w0 E h' key a o w v := by
  have hx := cx_sound hc hs
  simp only [aop] at hex
  split at hex
  · rename_i k n he
    simp only [Option.some.injEq, Prod.mk.injEq] at hex
    obtain ⟨rfl, rfl⟩ := hex
    rw [he] at hx
    exact Out.quiet r _ (by unfold execOp; rw [ho]; dsimp only; rw [hx.inv_int]; rfl) (.int _ _)
  · cases hex

theorem not_sound {x : Operand} {y : AX} {t : TypeId} (ho : o.op = .unOp .not t x) (hc : cx P t x = some y) (hs : SR E a σ) (r : Rel B w0 E h w) (hex : aop O σ h key (.not y) = some (v, h')) : Out P B w0 E h' key a o w v := by
  have hx := cx_sound hc hs
  simp only [aop] at hex
  split at hex
  · rename_i b he
    simp only [Option.some.injEq, Prod.mk.injEq] at hex
    obtain ⟨rfl, rfl⟩ := hex
    rw [he] at hx
    exact Out.quiet r _ (by unfold execOp; rw [ho]; dsimp only; rw [hx.inv_bool]; rfl) (.bool _)
  · cases hex

theorem bin_sound {op : BinOp} {t u : TypeId} {x y : Operand} {c d : AX} (ho : o.op = .binOp op t x y u) (h1 : cx P t x = some c) (h2 : cx P u y = some d) (hs : SR E a σ) (r : Rel B w0 E h w) (hex : aop O σ h key (.bin op c d) = some (v, h')) : Out P B w0 E h' key a o w v := by
  simp only [aop, Option.map_eq_some_iff, Prod.mk.injEq] at hex
  obtain ⟨z, hz, rfl, rfl⟩ := hex
  obtain ⟨q, hq, rq⟩ := abin_sound (P := P) (w := w) (t := t) (p := x) (q := y) (cx_sound h1 hs) (cx_sound h2 hs) hz
  exact Out.quiet r q (by unfold execOp; rw [ho]; exact run_v hq) rq

theorem cvInt_sound {x : Operand} {y : AX} {s d : TypeId} {k : IntKind} {ds : TypeDesc} (ho : o.op = .convert s d x) (hus : P.underlying s = some ds) (hu : P.underlying d = some (.int k)) (hc : cx P s x = some y) (hs : SR E a σ) (r : Rel B w0 E h w) (hex : aop O σ h key (.cvInt k y) = some (v, h')) : Out P B w0 E h' key a o w v := by
  have hx := cx_sound hc hs
  simp only [aop] at hex
  split at hex
  · rename_i k' n he
    simp only [Option.some.injEq, Prod.mk.injEq] at hex
    obtain ⟨rfl, rfl⟩ := hex
    rw [he] at hx
    have hrun : (convert s d (a.eval x)).run P w = .ok (.int k (k.wrap n)) w := by
      rw [hx.inv_int]
      unfold convert
      simp only [Sem.run_bind, run_underlying hus, run_underlying hu, Result.andThen_ok]
      rfl
    exact Out.quiet r _ (by unfold execOp; rw [ho]; exact run_v hrun) (.int _ _)
  · cases hex

theorem cvIntStr_sound {x : Operand} {y : AX} {s d : TypeId} {ks : IntKind} (ho : o.op = .convert s d x) (hus : P.underlying s = some (.int ks)) (hu : P.underlying d = some .string) (hc : cx P s x = some y) (hs : SR E a σ) (r : Rel B w0 E h w) (hex : aop O σ h key (.cvIntStr y) = some (v, h')) : Out P B w0 E h' key a o w v := by
  have hx := cx_sound hc hs
  simp only [aop] at hex
  split at hex
  · rename_i k' n he
    simp only [Option.some.injEq, Prod.mk.injEq] at hex
    obtain ⟨rfl, rfl⟩ := hex
    rw [he] at hx
    have hrun : (convert s d (a.eval x)).run P w = .ok (.string (Utf8.encode n)) w := by
      rw [hx.inv_int]
      unfold convert
      simp only [Sem.run_bind, run_underlying hus, run_underlying hu, Result.andThen_ok]
      rfl
    exact Out.quiet r _ (by unfold execOp; rw [ho]; exact run_v hrun) (.str (Utf8.encode n).data.toList)
  · cases hex

theorem cvStr_sound {x : Operand} {y : AX} {s d : TypeId} (ho : o.op = .convert s d x) (hus : P.underlying s = some .string) (hu : P.underlying d = some .string) (hc : cx P s x = some y) (hs : SR E a σ) (r : Rel B w0 E h w) (hex : aop O σ h key (.cvStr y) = some (v, h')) : Out P B w0 E h' key a o w v := by
  have hx := cx_sound hc hs
  simp only [aop] at hex
  split at hex
  · rename_i l hl
    simp only [Option.some.injEq, Prod.mk.injEq] at hex
    obtain ⟨rfl, rfl⟩ := hex
    rw [hl] at hx
    have hrun : (convert s d (a.eval x)).run P w = .ok (a.eval x) w := by
      rw [hx.inv_str]
      unfold convert
      simp only [Sem.run_bind, run_underlying hus, run_underlying hu, Result.andThen_ok]
      rfl
    exact Out.quiet r _ (by unfold execOp; rw [ho]; exact run_v hrun) hx
  · cases hex

theorem field_sound {x : Operand} {y : AX} {t : TypeId} {f : Nat} {fs : Array Field} {fd : Field} {s : Option Nat} (ho : o.op = .field t x f) (hu : P.underlying t = some (.struct fs)) (hf : fs[f]? = some fd) (hl : ld P fd.type = some s) (hc : cx P t x = some y) (hs : SR E a σ) (r : Rel B w0 E h w) (hex : aop O σ h key (.field fd.offset s y) = some (v, h')) : Out P B w0 E h' key a o w v := by
  have hx := cx_sound hc hs
  simp only [aop] at hex
  split at hex
  · rename_i cs he
    simp only [Option.map_eq_some_iff, Prod.mk.injEq] at hex
    obtain ⟨z, hz, rfl, rfl⟩ := hex
    rw [he] at hx
    generalize hv : a.eval x = av at hx
    cases hx with
    | agg xs _ l1 o1 r1 =>
      obtain ⟨u, hu1, hu2⟩ := run_part (P := P) (w := w) hl l1 ⟨o1, r1⟩ hz
      refine Out.quiet r u ?_ hu2
      unfold execOp; rw [ho]; dsimp only; rw [hv]
      refine run_v ?_
      simp only [Instr.field, Sem.run_bind, run_underlying hu, Result.andThen_ok, hf, asAgg, Sem.run_pure, hu1]
  · cases hex

theorem indexS_sound {x i : Operand} {y j : AX} {t : TypeId} (ho : o.op = .index t x i) (hu : P.underlying t = some .string) (h1 : cx P t x = some y) (h2 : cx P 0 i = some j) (hs : SR E a σ) (r : Rel B w0 E h w) (hex : aop O σ h key (.indexS y j) = some (v, h')) : Out P B w0 E h' key a o w v := by
  have hx := cx_sound h1 hs
  have hj := cx_sound h2 hs
  simp only [aop] at hex
  split at hex
  · rename_i l k n e1 e2
    rw [e1] at hx
    rw [e2] at hj
    split at hex
    · rename_i h0
      split at hex
      · rename_i b hb
        simp only [Option.some.injEq, Prod.mk.injEq] at hex
        obtain ⟨rfl, rfl⟩ := hex
        refine Out.quiet r _ ?_ (.int _ _)
        unfold execOp; rw [ho]; dsimp only; rw [hx.inv_str, hj.inv_int]
        refine run_v ?_
        have hb' : (⟨⟨l⟩⟩ : ByteArray)[n.toNat]? = some b := by
          have := (List.getElem?_eq_some_iff.1 hb)
          obtain ⟨hlt, hbe⟩ := this
          have hl' : n.toNat < (⟨⟨l⟩⟩ : ByteArray).size := hlt
          rw [getElem?_pos (⟨⟨l⟩⟩ : ByteArray) n.toNat hl']
          exact congrArg some hbe
        simp only [Instr.index, Sem.run_bind, asIntOf, Sem.run_pure, Result.andThen_ok, run_underlying hu, if_pos h0, hb']
      · cases hex
    · cases hex
  · cases hex

theorem run_indexVal {t : TypeId} {s : Option Nat} {n esz : Nat} {e : TypeId} (hu : P.underlying t = some (.array n e)) (hsz : size? P e = some esz) (hl : ld P e = some s) {xs : Array Value} {as : List AV} (l1 : xs.size = as.length) (r1 : RdCells E xs as) {k : IntKind} {i : Int} (hi : 0 ≤ i ∧ i < (n : Int)) {x : AV} (hx : loadA s as (i.toNat * esz) = some x) :
    ∃ u, (Instr.index t (.agg xs) (.int k i)).run P w = .ok u w ∧ Rd E u x := by
  obtain ⟨u, hu1, hu2⟩ := run_part (P := P) (w := w) hl l1 r1 hx
  refine ⟨u, ?_, hu2⟩
  simp only [Instr.index, Sem.run_bind, asIntOf, Sem.run_pure, Result.andThen_ok, run_underlying hu, if_pos hi, run_sizeOf' hsz, hu1]

theorem indexA_sound {x i : Operand} {y j : AX} {t e : TypeId} {n esz : Nat} {s : Option Nat} (ho : o.op = .index t x i) (hu : P.underlying t = some (.array n e)) (hsz : size? P e = some esz) (hl : ld P e = some s) (h1 : cx P t x = some y) (h2 : cx P 0 i = some j) (hs : SR E a σ) (r : Rel B w0 E h w) (hex : aop O σ h key (.indexA s esz n y j) = some (v, h')) : Out P B w0 E h' key a o w v := by
  have hx := cx_sound h1 hs
  have hj := cx_sound h2 hs
  simp only [aop] at hex
  split at hex
  · rename_i cs k m e1 e2
    rw [e1] at hx
    rw [e2] at hj
    split at hex
    · rename_i h0
      simp only [Option.map_eq_some_iff, Prod.mk.injEq] at hex
      obtain ⟨z, hz, rfl, rfl⟩ := hex
      generalize hv : a.eval x = av at hx
      cases hx with
      | agg xs _ l1 o1 r1 =>
        obtain ⟨u, hu1, hu2⟩ := run_indexVal (P := P) (w := w) hu hsz hl l1 ⟨o1, r1⟩ (k := k) h0 hz
        refine Out.quiet r u ?_ hu2
        unfold execOp; rw [ho]; dsimp only; rw [hv, hj.inv_int]
        exact run_v hu1
    · cases hex
  · cases hex

theorem ext_sound {x : Operand} {y : AX} {i : Nat} (ho : o.op = .extract x i) (hc : cx P 0 x = some y) (hs : SR E a σ) (r : Rel B w0 E h w) (hex : aop O σ h key (.ext y i) = some (v, h')) : Out P B w0 E h' key a o w v := by
  have hx := cx_sound hc hs
  simp only [aop] at hex
  split at hex
  · rename_i vs he
    simp only [Option.map_eq_some_iff, Prod.mk.injEq] at hex
    obtain ⟨z, hz, rfl, rfl⟩ := hex
    rw [he] at hx
    generalize hv : a.eval x = av at hx
    cases hx with
    | tup cs _ l1 r1 =>
      have hlt : i < cs.size := by have := (List.getElem?_eq_some_iff.1 hz).1; omega
      refine Out.quiet r cs[i] ?_ (r1 i _ z (Array.getElem?_eq_getElem hlt) hz)
      unfold execOp; rw [ho]; dsimp only; rw [hv]
      exact run_v (by simp [Instr.extract, Array.getElem?_eq_getElem hlt])
  · cases hex

/-- A call of a builtin that answers at once. -/
theorem run_builtin {c : Call} {b : Builtin} (ho : o.op = .call c) (hb : c.callee = .builtin b) : (execOp a.eval o) = builtin b c.argTypes o.type (c.args.map fun | .const _ => true | _ => false) (c.args.map a.eval) := by
  unfold execOp; rw [ho]; dsimp only
  unfold resolve
  rw [hb]
  rfl

theorem run_len {t : TypeId} {td : TypeDesc} {u : Value} {n : Nat} (hu : P.underlying t = some td) (h1 : (td = .string ∧ ∃ s : ByteArray, u = .string s ∧ s.size = n) ∨ (∃ e, td = .slice e ∧ ∃ A c, u = .slice A n c)) :
    (Builtin.len_ #[t] ty #[u]).run P w = .ok (.int .i64 n) w := by
  rcases h1 with ⟨rfl, s, rfl, rfl⟩ | ⟨e, rfl, A, c, rfl⟩
  · simp only [Builtin.len_]
    show (underlying t >>= _ : Sem Value).run P w = _
    rw [Sem.run_bind, run_underlying hu]
    rfl
  · simp only [Builtin.len_]
    show (underlying t >>= _ : Sem Value).run P w = _
    rw [Sem.run_bind, run_underlying hu]
    rfl

theorem lenS_sound {c : Call} {x : Operand} {t : TypeId} {y : AX} (ho : o.op = .call c) (hb : c.callee = .builtin .len) (ha : c.args = #[x]) (ht : c.argTypes = #[t]) (hu : P.underlying t = some .string) (hc : cx P t x = some y) (hs : SR E a σ) (r : Rel B w0 E h w) (hex : aop O σ h key (.lenS y) = some (v, h')) : Out P B w0 E h' key a o w v := by
  have hx := cx_sound hc hs
  simp only [aop] at hex
  split at hex
  · rename_i l he
    simp only [Option.some.injEq, Prod.mk.injEq] at hex
    obtain ⟨rfl, rfl⟩ := hex
    rw [he] at hx
    refine Out.quiet r _ ?_ (.int _ _)
    rw [run_builtin ho hb, ha, ht]
    simp only [List.map_toArray, List.map_cons, List.map_nil]
    exact run_v (run_len hu (.inl ⟨rfl, _, hx.inv_str, rfl⟩))
  · cases hex

theorem len_sound {c : Call} {x : Operand} {t e : TypeId} {y : AX} (ho : o.op = .call c) (hb : c.callee = .builtin .len) (ha : c.args = #[x]) (ht : c.argTypes = #[t]) (hu : P.underlying t = some (.slice e)) (hc : cx P t x = some y) (hs : SR E a σ) (r : Rel B w0 E h w) (hex : aop O σ h key (.len y) = some (v, h')) : Out P B w0 E h' key a o w v := by
  have hx := cx_sound hc hs
  have key : ∀ (A : Option Addr) (n cc : Nat), a.eval x = .slice A n cc → v = .int .i64 n → h = h' → Out P B w0 E h' key a o w v := by
    intro A n cc h1 h2 h3
    subst h3
    rw [h2]
    refine Out.quiet r _ ?_ (.int _ _)
    rw [run_builtin ho hb, ha, ht]
    simp only [List.map_toArray, List.map_cons, List.map_nil]
    exact run_v (run_len hu (.inr ⟨e, rfl, A, cc, h1⟩))
  simp only [aop] at hex
  split at hex
  · rename_i s xs rt he
    simp only [Option.some.injEq, Prod.mk.injEq] at hex
    obtain ⟨rfl, rfl⟩ := hex
    rw [he] at hx
    generalize hv : a.eval x = av at hx
    cases hx with
    | list A n cc _ _ _ g o vs h1 => exact key A n cc hv (by rw [h1]) rfl
  · rename_i he
    simp only [Option.some.injEq, Prod.mk.injEq] at hex
    obtain ⟨rfl, rfl⟩ := hex
    rw [he] at hx
    generalize hv : a.eval x = av at hx
    cases hx with
    | sl _ _ _ n cap g cc => exact key _ _ _ hv rfl rfl
  · rename_i he
    simp only [Option.some.injEq, Prod.mk.injEq] at hex
    obtain ⟨rfl, rfl⟩ := hex
    rw [he] at hx
    generalize hv : a.eval x = av at hx
    cases hx with
    | gl _ _ n g cc => exact key _ _ _ hv rfl rfl
  · cases hex

theorem minmax_sound {c : Call} {x y : Operand} {p q : AX} {b : Builtin} (hbb : b = .min ∨ b = .max) (ho : o.op = .call c) (hb : c.callee = .builtin b) (ha : c.args = #[x, y]) (h1 : cx P 0 x = some p) (h2 : cx P 0 y = some q) (hs : SR E a σ) (r : Rel B w0 E h w)
    (hex : aop O σ h key (if b = .min then .min p q else .max p q) = some (v, h')) : Out P B w0 E h' key a o w v := by
  have hx := cx_sound h1 hs
  have hy := cx_sound h2 hs
  rcases hbb with rfl | rfl
  · rw [if_pos rfl] at hex
    simp only [aop] at hex
    split at hex
    · rename_i k m k' n e1 e2
      simp only [Option.some.injEq, Prod.mk.injEq] at hex
      obtain ⟨rfl, rfl⟩ := hex
      rw [e1] at hx
      rw [e2] at hy
      refine Out.quiet r _ ?_ (.int _ _)
      rw [run_builtin ho hb, ha]
      simp only [List.map_toArray, List.map_cons, List.map_nil, hx.inv_int, hy.inv_int]
      exact run_v (by simp [Builtin.min_, Builtin.min2])
    · cases hex
  · rw [if_neg (by decide)] at hex
    simp only [aop] at hex
    split at hex
    · rename_i k m k' n e1 e2
      simp only [Option.some.injEq, Prod.mk.injEq] at hex
      obtain ⟨rfl, rfl⟩ := hex
      rw [e1] at hx
      rw [e2] at hy
      refine Out.quiet r _ ?_ (.int _ _)
      rw [run_builtin ho hb, ha]
      simp only [List.map_toArray, List.map_cons, List.map_nil, hx.inv_int, hy.inv_int]
      exact run_v (by simp [Builtin.max_, Builtin.max2])
    · cases hex

/-- Many operands. -/
theorem cxs_sound {t : TypeId} : ∀ {xs : List Operand} {ys : List AX}, cxs P t xs = some ys → SR E a σ → xs.length = ys.length ∧ ∀ (i : Nat) (x : Operand) (y : AX), xs[i]? = some x → ys[i]? = some y → Rd E (a.eval x) (y.ev σ)
  | [], ys, hc, _ => by simp only [cxs, Option.some.injEq] at hc; subst hc; exact ⟨rfl, by simp⟩
  | x :: xs, ys, hc, hs => by
    simp only [cxs] at hc
    split at hc
    · rename_i y ys' h1 h2
      injection hc with hc; subst hc
      obtain ⟨k1, k2⟩ := cxs_sound h2 hs
      refine ⟨by simp [k1], fun i x' y' hx hy => ?_⟩
      match i with
      | 0 => simp at hx hy; subst hx; subst hy; exact cx_sound h1 hs
      | i + 1 => simp at hx hy; exact k2 i x' y' hx hy
    · cases hc
theorem cxTs_sound : ∀ {xs : List (Operand × TypeId)} {ys : List AX}, cxTs P xs = some ys → SR E a σ → xs.length = ys.length ∧ ∀ (i : Nat) (x : Operand × TypeId) (y : AX), xs[i]? = some x → ys[i]? = some y → Rd E (a.eval x.1) (y.ev σ)
  | [], ys, hc, _ => by simp only [cxTs, Option.some.injEq] at hc; subst hc; exact ⟨rfl, by simp⟩
  | x :: xs, ys, hc, hs => by
    simp only [cxTs] at hc
    split at hc
    · rename_i y ys' h1 h2
      injection hc with hc; subst hc
      obtain ⟨k1, k2⟩ := cxTs_sound h2 hs
      refine ⟨by simp [k1], fun i x' y' hx hy => ?_⟩
      match i with
      | 0 => simp at hx hy; subst hx; subst hy; exact cx_sound h1 hs
      | i + 1 => simp at hx hy; exact k2 i x' y' hx hy
    · cases hc

theorem mkfn_sound {g : FuncId} {first caps : Array Operand} {xs : List AX} (ho : o.op = .makeFunc (.func g) first caps) (hf : first.toList = []) (hc : cxs P 0 caps.toList = some xs) (hs : SR E a σ) (r : Rel B w0 E h w) (hex : aop O σ h key (.mkfn g xs) = some (v, h')) : Out P B w0 E h' key a o w v := by
  simp only [aop, Option.some.injEq, Prod.mk.injEq] at hex
  obtain ⟨rfl, rfl⟩ := hex
  obtain ⟨k1, k2⟩ := cxs_sound hc hs
  have hf' : first = #[] := by apply Array.ext'; simpa using hf
  refine Out.quiet r (.func (.func g) #[] (caps.map a.eval)) (by unfold execOp; rw [ho, hf']; exact run_v (by simp [Instr.makeFunc])) (.fn g _ _ (by simpa using k1) fun i u x hu hx => ?_)
  rw [Array.getElem?_map, Option.map_eq_some_iff] at hu
  rw [List.getElem?_map, Option.map_eq_some_iff] at hx
  obtain ⟨p, hp, rfl⟩ := hu
  obtain ⟨q, hq, rfl⟩ := hx
  exact k2 i p q (by simpa using hp) hq

theorem mkiface_sound {x : Operand} {y : AX} {t : TypeId} {td : TypeDesc} (ho : o.op = .makeInterface t x) (hu : P.underlying t = some td) (hni : ∀ ms, td ≠ .interface ms) (hc : cx P t x = some y) (hs : SR E a σ) (r : Rel B w0 E h w) (hex : aop O σ h key (.mkiface t y) = some (v, h')) : Out P B w0 E h' key a o w v := by
  simp only [aop, Option.some.injEq, Prod.mk.injEq] at hex
  obtain ⟨rfl, rfl⟩ := hex
  refine Out.quiet r (.iface t (a.eval x)) ?_ (.iface _ _ _ (cx_sound hc hs))
  unfold execOp; rw [ho]
  refine run_v ?_
  simp only [Instr.makeInterface, Sem.run_bind, run_underlying hu, Result.andThen_ok]
  rfl

/-! ### Addresses -/
theorem off_sound {x : Operand} {y : AX} {t : TypeId} {f n : Nat} {fs : Array Field} {fd : Field} (ho : o.op = .fieldAddr t x f) (hu : P.underlying t = some (.struct fs)) (hf : fs[f]? = some fd) (hn : size? P fd.type = some n) (hpos : 0 < n) (hc : cx P 0 x = some y) (hs : SR E a σ) (r : Rel B w0 E h w) (hex : aop O σ h key (.off fd.offset y) = some (v, h')) : Out P B w0 E h' key a o w v := by
  have hx := cx_sound hc hs
  have hrun : ∀ g b, a.eval x = .pointer (some ⟨g, b, none⟩) → (execOp a.eval o).run P w = .ok (.value (.pointer (some ⟨g, b + fd.offset, none⟩))) w := by
    intro g b hv
    unfold execOp; rw [ho]; dsimp only; rw [hv]
    refine run_v ?_
    have hn0 : n ≠ 0 := by omega
    simp [Instr.fieldAt, Instr.sureAddr, run_underlying hu, hf, fieldPlace, run_sizeOf' hn, hn0, add_plain]
  simp only [aop] at hex
  generalize hv : a.eval x = av at hx hrun
  split at hex
  · rename_i b o' he
    simp only [Option.some.injEq, Prod.mk.injEq] at hex
    obtain ⟨rfl, rfl⟩ := hex
    rw [he] at hx
    cases hx with
    | ptr _ _ g c hρ => exact Out.quiet r _ (hrun g o' rfl) (.ptr _ _ _ _ hρ)
  · rename_i cs he
    simp only [Option.some.injEq, Prod.mk.injEq] at hex
    obtain ⟨rfl, rfl⟩ := hex
    rw [he] at hx
    cases hx with
    | eptr g o' _ vs hone h1 h2 =>
      refine Out.quiet r _ (hrun g o' rfl) (.eptr _ _ _ (fun j => vs (fd.offset + j)) (fun y hy => hone y (List.mem_of_mem_drop hy)) (fun j hj => ?_) fun j y hy => ?_)
      · simp only [List.length_drop] at hj
        rw [Nat.add_assoc]
        exact h1 _ (by omega)
      · rw [List.getElem?_drop] at hy
        exact h2 _ y hy
  · cases hex

theorem idx_sound {x i : Operand} {y j : AX} {t e : TypeId} {sz : Nat} (ho : o.op = .indexAddr t x i) (hu : P.underlying t = some (.slice e)) (hsz : size? P e = some sz) (h1 : cx P t x = some y) (h2 : cx P 0 i = some j) (hs : SR E a σ) (r : Rel B w0 E h w) (hex : aop O σ h key (.idx sz y j) = some (v, h')) : Out P B w0 E h' key a o w v := by
  have hx := cx_sound h1 hs
  have hj := cx_sound h2 hs
  have hrun : ∀ (g b len cap : Nat) (k : IntKind) (n : Int), a.eval x = .slice (some ⟨g, b, none⟩) len cap → a.eval i = .int k n → 0 ≤ n ∧ n < (len : Int) → (execOp a.eval o).run P w = .ok (.value (.pointer (some ⟨g, b + n.toNat * sz, none⟩))) w := by
    intro g b len cap k n hv hi hn
    unfold execOp; rw [ho]; dsimp only; rw [hv, hi]
    refine run_v ?_
    simp only [Instr.indexAt, asIntOf, Sem.run_bind, Sem.run_pure, Result.andThen_ok, run_underlying hu, if_pos hn, run_sizeOf' hsz, add_plain]
  simp only [aop] at hex
  split at hex
  · rename_i s xs rt k n e1 e2
    split at hex
    · rename_i hcond
      obtain ⟨rfl, h0⟩ := hcond
      split at hex
      · rename_i z hz
        simp only [Option.some.injEq, Prod.mk.injEq] at hex
        obtain ⟨rfl, rfl⟩ := hex
        rw [e1] at hx
        rw [e2] at hj
        generalize hv : a.eval x = av at hx hrun
        cases hx with
        | list A m c _ _ _ g b vs k1 k2 k3 k4 k5 k6 k7 =>
          have hlt := (List.getElem?_eq_some_iff.1 hz).1
          have hA := k3 (by omega)
          subst hA
          have hmem := List.mem_of_getElem? hz
          refine Out.quiet r _ (hrun g b m c k n rfl hj.inv_int ⟨h0, by omega⟩) (.eptr _ _ _ (vs n.toNat) (k4 z hmem).2 (fun q hq => ?_) fun q y' hy => k6 _ _ _ _ hz hy)
          rw [Nat.add_assoc]
          exact k5 _ _ (by omega) (by rw [(k4 z hmem).1] at hq; exact hq)
      · cases hex
    · cases hex
  · rename_i s b o' len cap k n e1 e2
    split at hex
    · rename_i hcond
      obtain ⟨rfl, h0, hlt⟩ := hcond
      simp only [Option.some.injEq, Prod.mk.injEq] at hex
      obtain ⟨rfl, rfl⟩ := hex
      rw [e1] at hx
      rw [e2] at hj
      generalize hv : a.eval x = av at hx hrun
      cases hx with
      | sl _ _ _ _ _ g c hρ hle => exact Out.quiet r _ (hrun g o' len cap k n rfl hj.inv_int ⟨h0, hlt⟩) (.ptr _ _ _ _ hρ)
    · cases hex
  · cases hex

theorem idxA_sound {x i : Operand} {y j : AX} {t e : TypeId} {n sz : Nat} (ho : o.op = .indexAddr t x i) (hu : P.underlying t = some (.array n e)) (hsz : size? P e = some sz) (hn1 : 1 < n) (h1 : cx P t x = some y) (h2 : cx P 0 i = some j) (hs : SR E a σ) (r : Rel B w0 E h w) (hex : aop O σ h key (.idxA sz n y j) = some (v, h')) : Out P B w0 E h' key a o w v := by
  have hx := cx_sound h1 hs
  have hj := cx_sound h2 hs
  have hrun : ∀ (g b : Nat) (k : IntKind) (m : Int), a.eval x = .pointer (some ⟨g, b, none⟩) → a.eval i = .int k m → 0 ≤ m ∧ m < (n : Int) → (execOp a.eval o).run P w = .ok (.value (.pointer (some ⟨g, b + m.toNat * sz, none⟩))) w := by
    intro g b k m hv hi hm
    unfold execOp; rw [ho]; dsimp only; rw [hv, hi]
    refine run_v ?_
    simp only [Instr.indexAt, asIntOf, Instr.sureAddr, Sem.run_bind, Sem.run_pure, Result.andThen_ok, run_underlying hu, if_pos hm, run_sizeOf' hsz, add_plain]
  simp only [aop] at hex
  split at hex
  · rename_i b o' k m e1 e2
    split at hex
    · rename_i h0
      simp only [Option.some.injEq, Prod.mk.injEq] at hex
      obtain ⟨rfl, rfl⟩ := hex
      rw [e1] at hx
      rw [e2] at hj
      generalize hv : a.eval x = av at hx hrun
      cases hx with
      | ptr _ _ g c hρ => exact Out.quiet r _ (hrun g o' k m rfl hj.inv_int h0) (.ptr _ _ _ _ hρ)
    · cases hex
  · rename_i cs k m e1 e2
    split at hex
    · rename_i h0
      simp only [Option.some.injEq, Prod.mk.injEq] at hex
      obtain ⟨rfl, rfl⟩ := hex
      rw [e1] at hx
      rw [e2] at hj
      generalize hv : a.eval x = av at hx hrun
      cases hx with
      | eptr g o' _ vs hone k1 k2 =>
        refine Out.quiet r _ (hrun g o' k m rfl hj.inv_int h0) (.eptr _ _ _ (fun q => vs (m.toNat * sz + q)) (fun y hy => hone y (List.mem_of_mem_drop hy)) (fun q hq => ?_) fun q y' hy => ?_)
        · simp only [List.length_drop] at hq
          rw [Nat.add_assoc]
          exact k1 _ (by omega)
        · rw [List.getElem?_drop] at hy
          exact k2 _ y' hy
    · cases hex
  · cases hex
end
end Go.Am
