/-
  Calls of the program's own functions, and the oracle that answers all that comes to an end.
-/
import Derived.Test.YtiobaboailhafaaAm19
set_option linter.unusedVariables false
set_option linter.unusedSimpArgs false
namespace Go.Am
open Go

section
variable {P : Program} {mt kp : List String}

theorem callF_cases {O : Orc} {F : AF} {args : List AV} {h0 : Heap} {x : AV × Heap} (hc : callF O F args h0 = some x) : ∃ ex σ h1 vs, run O F.body (fun i => args.getD i .junk) h0 = some (ex, σ, h1) ∧ (ex = .normal ∨ ex = .ret) ∧ resVals σ h1 F.res = some vs ∧
    (if F.keep then some (oneOf vs, h1) else finish h0 h1 (oneOf vs)) = some x := by
  unfold callF at hc
  split at hc
  · rename_i σ h1 hr
    split at hc
    · rename_i vs hv
      exact ⟨_, σ, h1, vs, hr, .inl rfl, hv, hc⟩
    · cases hc
  · rename_i σ h1 hr
    split at hc
    · rename_i vs hv
      exact ⟨_, σ, h1, vs, hr, .inr rfl, hv, hc⟩
    · cases hc
  · cases hc

theorem callF_good (hm : P.follows .mixedOrders = true) {O : Orc} (hO : OrcOk P mt O) {f : FuncId} {fn : Func} (hf : P.funcs[f]? = some fn) (hname : (fn.name == "runtime.NumGoroutine") = false) {F : AF} (hF : compileFn P mt kp fn = some F) {args : List AV} {h0 : Heap} {r : AV} {h' : Heap}
    (hc : callF O F args h0 = some (r, h')) : Good P f args h0 r h' := by
  unfold compileFn at hF
  split at hF
  · rename_i c hbody
    split at hF
    · rename_i rs hrs
      injection hF with hF
      obtain ⟨ex, σ, h1, vs, hrun, hex, hvs, hend⟩ := callF_cases hc
      subst hF
      simp only at hrun hvs hend
      have hg := run_grow hO hrun
      have hbase : h0.length ≤ h'.length ∧ ∀ k : Nat, h0[k]? = some AE.dead → h'[k]? = some AE.dead := by
        split at hend
        · simp only [Option.some.injEq, Prod.mk.injEq] at hend
          obtain ⟨rfl, rfl⟩ := hend
          exact hg
        · unfold finish at hend
          split at hend
          · split at hend
            · simp only [Option.some.injEq, Prod.mk.injEq] at hend
              obtain ⟨rfl, rfl⟩ := hend
              refine ⟨by simp only [List.length_take]; have := hg.1; omega, fun k hk => ?_⟩
              rw [List.getElem?_take, if_pos (List.getElem?_eq_some_iff.1 hk).1]
              exact hg.2 k hk
            · cases hend
          · cases hend
      refine ⟨hbase.1, hbase.2, fun B w0 E w as hrel hsz hrd => ?_⟩
      have hcf : (callFunc f as).run P w = .ok (.enter f as) w := by
        have hn : ¬fn.name = "runtime.NumGoroutine" := by simpa using hname
        simp [callFunc, hf, hn, hbody]
      unfold Fires
      rw [hcf]
      refine calls_of_wp hf hbody ?_
      have hat : At P B w0 fn.ntmps E { tmps := as ++ Array.replicate (fn.ntmps - as.size) undef, defers := [] } w (fun i => args.getD i .junk) h0 := by
        refine ⟨fun t => ?_, by simp; omega, rfl, hrel⟩
        by_cases ht : t < args.length
        · have h1 : args[t]? = some args[t] := List.getElem?_eq_getElem ht
          have h2 : as[t]? = some (as[t]'(by omega)) := Array.getElem?_eq_getElem _
          rw [List.getD_eq_getElem?_getD, h1, Array.getD_eq_getD_getElem?, Array.getElem?_append, if_pos (by omega), h2]
          exact hrd t _ _ h2 h1
        · rw [List.getD_eq_getElem?_getD, List.getElem?_eq_none (by omega)]
          exact .junk _
      refine code_sim hm hO c hrun B w0 E _ w _ hat fun a' w' E' s1 s2 => ?_
      obtain ⟨v, hv1, hv2⟩ := results_sound s1.sr s1.rel hrs hvs
      have fin : ∃ E'', E.le E'' ∧ (∀ b, b < h0.length → E''.ρ b = E.ρ b) ∧ Rel B w0 E'' h' w' ∧ Rd E'' v r := by
        split at hend
        · simp only [Option.some.injEq, Prod.mk.injEq] at hend
          obtain ⟨rfl, rfl⟩ := hend
          exact ⟨E', s2.1, s2.2, s1.rel, hv2⟩
        · unfold finish at hend
          split at hend
          · rename_i v' hcl
            split at hend
            · rename_i hcond
              simp only [Option.some.injEq, Prod.mk.injEq] at hend
              obtain ⟨rfl, rfl⟩ := hend
              refine ⟨E'.shut h1 h0.length w', ?_, ?_, ?_, clean_sound s1.rel hv2 hcl⟩
              · have hle := Env.cut_le_shut s1.rel h0.length
                refine ⟨fun g o u hu => hle.C g o u (s2.1.C g o u hu), fun b x hx => ?_⟩
                have hb := hrel.dom b x hx
                simp only [Env.shut]
                rw [if_pos hb, s2.2 b hb]
                exact hx
              · intro b hb
                simp only [Env.shut]
                rw [if_pos hb, s2.2 b hb]
              · refine s1.rel.shut h0.length fun b e hb he hd g cc hl => ?_
                rcases hcond b hb with hc | hc
                · have he0 : h0[b]? = some e := by rw [← hc]; exact he
                  obtain ⟨g0, c0, _, h2⟩ := hrel.live b e he0 hd
                  exact hl.cutOld hrel.dom h2
                · exact hl.cutLow (hc e he)
            · cases hend
          · cases hend
      rcases hex with rfl | rfl
      · exact ⟨s1.defers, v, hv1, fin⟩
      · exact ⟨s1.defers, v, hv1, fin⟩
    · cases hF
  · cases hF

theorem table_some {f : FuncId} {F : AF} (h : table P mt kp f = some F) : ∃ fn, P.funcs[f]? = some fn ∧ (fn.name == "runtime.NumGoroutine") = false ∧ compileFn P mt kp fn = some F := by
  unfold table at h
  split at h
  · rename_i fn hf
    split at h
    · cases h
    · rename_i hn
      exact ⟨fn, hf, by simpa using hn, h⟩
  · cases h

/-! ### A call doesn't look at what is dead -/
def FrX (X : CallO) : Prop := ∀ f a h k e, h[k]? = some AE.dead → (X f a h = none → X f a (h.set k e) = none) ∧ ∀ r h', X f a h = some (r, h') → X f a (h.set k e) = some (r, h'.set k e)

theorem opsRun_fr {O : CallO} (hO : CallOk P O) (hF : FrO O) {k0 k : Nat} (e : AE) (hlt : k < k0) : ∀ {as : List AO} {σ σ' : Slots} {h h' : Heap}, opsRun O k0 as σ h = some (σ', h') → h[k]? = some .dead → opsRun O k0 as σ (h.set k e) = some (σ', h'.set k e)
  | [], σ, σ', h, h', hr, hk => by simp only [opsRun, Option.some.injEq, Prod.mk.injEq] at hr ⊢; exact ⟨hr.1, by rw [hr.2]⟩
  | o :: r, σ, σ', h, h', hr, hk => by
    simp only [opsRun] at hr ⊢
    split at hr
    · exact opsRun_fr hO hF e hlt hr hk
    · split at hr
      · rename_i v g ha
        rw [aop_fr hF ha hk (by omega) e]
        exact opsRun_fr hO hF e hlt hr ((aop_dead hO ha).2 k hk fun _ => by omega)
      · cases hr
    · cases hr
theorem opsRunF_fr {O : CallO} (hO : CallOk P O) (hF : FrO O) {k0 k : Nat} (e : AE) (hlt : k < k0) : ∀ {as : List AO} {σ σ' : Slots} {h h' : Heap} {fs : List Foot}, opsRunF O k0 as σ h = some (σ', h', fs) → h[k]? = some .dead → opsRunF O k0 as σ (h.set k e) = some (σ', h'.set k e, fs)
  | [], σ, σ', h, h', fs, hr, hk => by simp only [opsRunF, Option.some.injEq, Prod.mk.injEq] at hr ⊢; exact ⟨hr.1, by rw [hr.2.1], hr.2.2⟩
  | o :: r, σ, σ', h, h', fs, hr, hk => by
    simp only [opsRunF] at hr ⊢
    split at hr
    · simp only [Option.map_eq_some_iff] at hr ⊢
      obtain ⟨⟨x1, x2, x3⟩, hx, e'⟩ := hr
      simp only [Prod.mk.injEq] at e'
      obtain ⟨rfl, rfl, rfl⟩ := e'
      exact ⟨_, opsRunF_fr hO hF e hlt hx hk, rfl⟩
    · split at hr
      · rename_i v g ha
        have hk' := (aop_dead hO ha).2 k hk fun _ => by omega
        rw [aop_fr hF ha hk (by omega) e]
        simp only [Option.map_eq_some_iff] at hr ⊢
        obtain ⟨⟨x1, x2, x3⟩, hx, e'⟩ := hr
        simp only [Prod.mk.injEq] at e'
        obtain ⟨rfl, rfl, rfl⟩ := e'
        exact ⟨_, opsRunF_fr hO hF e hlt hx hk', by simp only [foot_fr hk hk']⟩
      · cases hr
    · cases hr

theorem run_fr {O : Orc} (hO : OrcOk P mt O) {k : Nat} (e : AE) : ∀ {c : AC} {σ : Slots} {h : Heap} {ex : Ex} {σ' : Slots} {h' : Heap}, run O c σ h = some (ex, σ', h') → h[k]? = some .dead → run O c σ (h.set k e) = some (ex, σ', h'.set k e) := by
  intro c
  induction c with
  | skip => intro σ h ex σ' h' hr hk; simp only [run, Option.some.injEq, Prod.mk.injEq] at hr ⊢; exact ⟨hr.1, hr.2.1, by rw [hr.2.2]⟩
  | label l => intro σ h ex σ' h' hr hk; simp only [run, Option.some.injEq, Prod.mk.injEq] at hr ⊢; exact ⟨hr.1, hr.2.1, by rw [hr.2.2]⟩
  | exit id => intro σ h ex σ' h' hr hk; simp only [run, Option.some.injEq, Prod.mk.injEq] at hr ⊢; exact ⟨hr.1, hr.2.1, by rw [hr.2.2]⟩
  | goto l => intro σ h ex σ' h' hr hk; simp only [run, Option.some.injEq, Prod.mk.injEq] at hr ⊢; exact ⟨hr.1, hr.2.1, by rw [hr.2.2]⟩
  | ret => intro σ h ex σ' h' hr hk; simp only [run, Option.some.injEq, Prod.mk.injEq] at hr ⊢; exact ⟨hr.1, hr.2.1, by rw [hr.2.2]⟩
  | fail => intro σ h ex σ' h' hr hk; simp [run] at hr
  | region ops nk draw ps =>
    intro σ h ex σ' h' hr hk
    have hlt := (List.getElem?_eq_some_iff.1 hk).1
    have hap : (h.set k e) ++ List.replicate nk AE.dead = (h ++ List.replicate nk AE.dead).set k e := by rw [List.set_append_left _ _ hlt]
    have hk2 : (h ++ List.replicate nk AE.dead)[k]? = some AE.dead := by rw [List.getElem?_append_left hlt]; exact hk
    cases draw
    · simp only [run, List.length_set] at hr ⊢
      rw [hap]
      split at hr
      · rename_i s g hs
        simp only [Option.some.injEq, Prod.mk.injEq] at hr
        obtain ⟨rfl, rfl, rfl⟩ := hr
        rw [opsRun_fr hO.call hO.fr e hlt hs hk2]
      · cases hr
    · simp only [run, List.length_set] at hr ⊢
      rw [hap]
      split at hr
      · rename_i s g fs hs
        split at hr
        · rename_i hp
          simp only [Option.some.injEq, Prod.mk.injEq] at hr
          obtain ⟨rfl, rfl, rfl⟩ := hr
          rw [opsRunF_fr hO.call hO.fr e hlt hs hk2]
          simp only [hp, if_true]
        · cases hr
      · cases hr
  | seq a b iha ihb =>
    intro σ h ex σ' h' hr hk
    simp only [run] at hr ⊢
    split at hr
    · rename_i s g hs
      rw [iha hs hk]
      exact ihb hr ((run_grow hO hs).2 k hk)
    · rename_i hne
      rw [iha hr hk]
      cases ex with
      | normal => exact absurd hr (hne _ _)
      | exit i => rfl
      | goto i => rfl
      | ret => rfl
  | cond c a b iha ihb =>
    intro σ h ex σ' h' hr hk
    simp only [run] at hr ⊢
    split at hr
    · exact iha hr hk
    · exact ihb hr hk
    · cases hr
  | block id a ih =>
    intro σ h ex σ' h' hr hk
    simp only [run] at hr ⊢
    split at hr
    · rename_i j s g hs
      rw [ih hs hk]
      simp only
      split at hr <;> simp only [Option.some.injEq, Prod.mk.injEq] at hr <;> obtain ⟨rfl, rfl, rfl⟩ := hr
      · rename_i hj; rw [if_pos hj]
      · rename_i hj; rw [if_neg hj]
    · rename_i hne
      rw [ih hr hk]
      cases ex with
      | normal => rfl
      | exit i => exact absurd hr (hne _ _ _)
      | goto i => rfl
      | ret => rfl
  | loop a ih =>
    intro σ h ex σ' h' hr hk
    simp only [run] at hr ⊢
    split at hr
    · rename_i s g hs
      rw [ih hs hk]
      exact hO.frl _ _ _ _ _ _ _ _ hr ((run_grow hO hs).2 k hk)
    · rename_i hne
      rw [ih hr hk]
      cases ex with
      | normal => exact absurd hr (hne _ _)
      | exit i => rfl
      | goto i => rfl
      | ret => rfl
  | scope a ih =>
    intro σ h ex σ' h' hr hk
    simp only [run] at hr ⊢
    split at hr
    · cases hr
    · rename_i hne
      rw [ih hr hk]
      cases ex with
      | normal => rfl
      | exit i => rfl
      | goto i => exact absurd hr (hne _ _ _)
      | ret => rfl

theorem get_dead_ne {h : Heap} {k b : Nat} {x : AE} (e : AE) (hk : h[k]? = some .dead) (hb : h[b]? = some x) (hx : x ≠ .dead) : (h.set k e)[b]? = some x := by
  rw [List.getElem?_set_ne]
  · exact hb
  · intro e'; subst e'; rw [hk] at hb; injection hb with hb; exact hx hb.symm
theorem resVals_fr {σ : Slots} {h : Heap} {k : Nat} (e : AE) (hk : h[k]? = some .dead) : ∀ {rs : List ARes} {vs : List AV}, resVals σ h rs = some vs → resVals σ (h.set k e) rs = some vs
  | [], vs, hr => hr
  | r :: rs, vs, hr => by
    simp only [resVals] at hr ⊢
    split at hr
    · rename_i v vs' h1 h2
      rw [resVals_fr e hk h2]
      have : resVal σ (h.set k e) r = some v := by
        cases r with
        | tmp t => exact h1
        | cell t sz =>
          simp only [resVal] at h1 ⊢
          split at h1
          · split at h1
            · rename_i hb
              rw [get_dead_ne e hk hb (by simp)]
              exact h1
            · cases h1
          · cases h1
      rw [this]
      exact hr
    · cases hr
theorem clean1_fr {h : Heap} {k n : Nat} (e : AE) (hlt : k < n) (v : AV) : clean1 (h.set k e) n v = clean1 h n v := by
  cases v <;> simp only [clean1]
  rename_i sz b o m c
  by_cases hb : b < n
  · rw [if_pos hb, if_pos hb]
  · rw [if_neg hb, if_neg hb, List.getElem?_set_ne (by omega)]
theorem cleans_fr {h : Heap} {k n : Nat} (e : AE) (hlt : k < n) : ∀ (vs : List AV), cleans (h.set k e) n vs = cleans h n vs
  | [] => rfl
  | v :: vs => by simp only [cleans]; rw [clean1_fr e hlt v, cleans_fr e hlt vs]
theorem clean2_fr {h : Heap} {k n : Nat} (e : AE) (hlt : k < n) (v : AV) : clean2 (h.set k e) n v = clean2 h n v := by
  cases v <;> simp only [clean2] <;> first | rw [cleans_fr e hlt] | exact clean1_fr e hlt _
theorem cleans2_fr {h : Heap} {k n : Nat} (e : AE) (hlt : k < n) : ∀ (vs : List AV), cleans2 (h.set k e) n vs = cleans2 h n vs
  | [] => rfl
  | v :: vs => by simp only [cleans2]; rw [clean2_fr e hlt v, cleans2_fr e hlt vs]
theorem clean_fr {h : Heap} {k n : Nat} (e : AE) (hlt : k < n) (v : AV) : clean (h.set k e) n v = clean h n v := by
  cases v <;> simp only [clean] <;> first | rw [cleans2_fr e hlt] | exact clean2_fr e hlt _
theorem finish_fr {h0 h1 : Heap} {k : Nat} (e : AE) (hlt : k < h0.length) {v : AV} {r : AV} {h' : Heap} (hr : finish h0 h1 v = some (r, h')) : finish (h0.set k e) (h1.set k e) v = some (r, h'.set k e) := by
  unfold finish at hr ⊢
  rw [List.length_set, clean_fr e hlt]
  split at hr
  · split at hr
    · rename_i hc
      simp only [Option.some.injEq, Prod.mk.injEq] at hr
      obtain ⟨rfl, rfl⟩ := hr
      rw [if_pos]
      · simp [List.take_set]
      · intro i hi
        by_cases hik : i = k
        · subst hik
          by_cases h1l : i < h1.length
          · exact .inl (by simp [List.getElem?_set, h1l, hlt])
          · refine .inr fun x hx => ?_
            have : (h1.set i e)[i]? = none := List.getElem?_eq_none (by simp; omega)
            rw [this] at hx; cases hx
        · rw [List.getElem?_set_ne (Ne.symm hik), List.getElem?_set_ne (Ne.symm hik)]
          exact hc i hi
    · cases hr
  · cases hr
theorem callF_fr {O : Orc} (hO : OrcOk P mt O) {F : AF} {args : List AV} {h0 : Heap} {r : AV} {h' : Heap} {k : Nat} (e : AE) (hc : callF O F args h0 = some (r, h')) (hk : h0[k]? = some .dead) : callF O F args (h0.set k e) = some (r, h'.set k e) := by
  obtain ⟨ex, σ, h1, vs, hrun, hex, hvs, hend⟩ := callF_cases hc
  have hrun' := run_fr hO e hrun hk
  have hvs' := resVals_fr e ((run_grow hO hrun).2 k hk) hvs
  have hend' : (if F.keep then some (oneOf vs, h1.set k e) else finish (h0.set k e) (h1.set k e) (oneOf vs)) = some (r, h'.set k e) := by
    split at hend
    · rename_i hkp
      rw [if_pos hkp]
      simp only [Option.some.injEq, Prod.mk.injEq] at hend ⊢
      exact ⟨hend.1, by rw [hend.2]⟩
    · rename_i hkp
      rw [if_neg hkp]
      exact finish_fr e (List.getElem?_eq_some_iff.1 hk).1 hend
  unfold callF
  rcases hex with rfl | rfl
  · rw [hrun']; simp only; rw [hvs']; exact hend'
  · rw [hrun']; simp only; rw [hvs']; exact hend'

theorem iter_ok (hm : P.follows .mixedOrders = true) {X : CallO} (hX : CallOk P X) (hXf : FrX X) : ∀ k, OrcOk P mt (iter X (table P mt kp) k)
  | 0 => ⟨fun f args h r h' hc => (by cases hc), fun f a h r h' k e hc => (by cases hc), fun a σ h ex σ' h' k e hc => (by cases hc), fun a σ h ex σ' h' hc => (by cases hc), fun nt c σ h ex σ' h' hc => (by cases hc)⟩
  | k + 1 => by
    have ih := iter_ok hm hX hXf k
    refine ⟨fun f args h r h' hc => ?_, fun f args h r h' k' e hc hk => ?_, fun a σ h ex σ' h' k' e hc hk => run_fr ih e hc hk, fun a σ h ex σ' h' hc => run_grow ih hc, fun nt c σ h ex σ' h' hc => ?_⟩
    · simp only [iter, callX] at hc
      split at hc
      · rename_i x hx
        injection hc with hc; subst hc
        exact hX _ _ _ _ _ hx
      · split at hc
        · rename_i F hF
          obtain ⟨fn, h1, h2, h3⟩ := table_some hF
          exact callF_good hm ih h1 h2 h3 hc
        · cases hc
    · simp only [iter, callX] at hc ⊢
      split at hc
      · rename_i x hx
        injection hc with hc; subst hc
        rw [(hXf _ _ _ k' e hk).2 _ _ hx]
      · rename_i hx
        rw [(hXf _ _ _ k' e hk).1 hx]
        simp only
        split at hc
        · rename_i F hF
          exact callF_fr ih e hc hk
        · cases hc
    · simp only [iter, run] at hc
      split at hc
      · rename_i s g hs
        obtain ⟨n, hn⟩ := ih.loop nt c _ _ _ _ _ hc
        refine ⟨n + 1, fun B w0 E a w Q hat hQ => ?_⟩
        show Code.rounds P c Q (n + 1) a w
        rw [rounds_succ]
        refine code_sim hm ih c hs B w0 E a w _ hat fun a' w' E' s1 s2 => ?_
        exact hn B w0 E' a' w' Q s1 fun a'' w'' E'' t1 t2 => hQ a'' w'' E'' t1 (s2.trans t2 (run_grow ih hs).1)
      · rename_i hne
        refine ⟨1, fun B w0 E a w Q hat hQ => ?_⟩
        show Code.rounds P c Q 1 a w
        rw [rounds_succ]
        refine code_sim hm ih c hc B w0 E a w _ hat fun a' w' E' s1 s2 => ?_
        have := hQ a' w' E' s1 s2
        cases ex with
        | normal => exact absurd hc (hne _ _)
        | exit id => exact this
        | goto l => exact this
        | ret => exact this
end

/-! ### More fuel, the same answers -/
structure Orc.le (O O' : Orc) : Prop where
  call : ∀ f a h r, O.call f a h = some r → O'.call f a h = some r
  loop : ∀ a σ h r, O.loop a σ h = some r → O'.loop a σ h = some r

theorem aop_mono {O O' : CallO} (hO : ∀ f a h r, O f a h = some r → O' f a h = some r) {σ : Slots} {h : Heap} {key : Nat} {op : AOp} {r : AV × Heap} (ha : aop O σ h key op = some r) : aop O' σ h key op = some r := by
  cases c : op.isCall
  · rw [aop_req O' σ h key op c, ← aop_req O σ h key op c]; exact ha
  · obtain ⟨f, xs, rfl⟩ : ∃ f xs, op = .call f xs := by cases op <;> first | exact ⟨_, _, rfl⟩ | cases c
    simp only [aop] at ha ⊢
    split at ha
    · exact hO _ _ _ _ ha
    · cases ha

theorem opsRun_mono {O O' : CallO} (hO : ∀ f a h r, O f a h = some r → O' f a h = some r) {k0 : Nat} : ∀ {as : List AO} {σ : Slots} {h : Heap} {r : Slots × Heap}, opsRun O k0 as σ h = some r → opsRun O' k0 as σ h = some r
  | [], σ, h, r, hr => hr
  | o :: as, σ, h, r, hr => by
    simp only [opsRun] at hr ⊢
    split at hr
    · exact opsRun_mono hO hr
    · split at hr
      · rename_i v h' ha
        rw [aop_mono hO ha]
        exact opsRun_mono hO hr
      · cases hr
    · cases hr

theorem opsRunF_mono {O O' : CallO} (hO : ∀ f a h r, O f a h = some r → O' f a h = some r) {k0 : Nat} : ∀ {as : List AO} {σ : Slots} {h : Heap} {r : Slots × Heap × List Foot}, opsRunF O k0 as σ h = some r → opsRunF O' k0 as σ h = some r
  | [], σ, h, r, hr => hr
  | o :: as, σ, h, r, hr => by
    simp only [opsRunF] at hr ⊢
    split at hr
    · simp only [Option.map_eq_some_iff] at hr ⊢
      obtain ⟨x, hx, e⟩ := hr
      exact ⟨x, opsRunF_mono hO hx, e⟩
    · split at hr
      · rename_i v h' ha
        rw [aop_mono hO ha]
        simp only [Option.map_eq_some_iff] at hr ⊢
        obtain ⟨x, hx, e⟩ := hr
        exact ⟨x, opsRunF_mono hO hx, e⟩
      · cases hr
    · cases hr

theorem run_mono {O O' : Orc} (hO : O.le O') : ∀ {c : AC} {σ : Slots} {h : Heap} {r : Ex × Slots × Heap}, run O c σ h = some r → run O' c σ h = some r := by
  intro c
  induction c with
  | skip => exact fun hr => hr
  | label l => exact fun hr => hr
  | exit id => exact fun hr => hr
  | goto l => exact fun hr => hr
  | ret => exact fun hr => hr
  | fail => exact fun hr => hr
  | region ops nk draw ps =>
    intro σ h r hr
    cases draw
    · simp only [run] at hr ⊢
      split at hr
      · rename_i s g hs
        rw [opsRun_mono hO.call hs]
        exact hr
      · cases hr
    · simp only [run] at hr ⊢
      split at hr
      · rename_i s g fs hs
        rw [opsRunF_mono hO.call hs]
        exact hr
      · cases hr
  | seq a b iha ihb =>
    intro σ h r hr
    simp only [run] at hr ⊢
    split at hr
    · rename_i s g hs
      rw [iha hs]
      exact ihb hr
    · rename_i hne
      rw [iha hr]
      obtain ⟨ex, s, g⟩ := r
      cases ex with
      | normal => exact absurd hr (hne _ _)
      | exit id => rfl
      | goto l => rfl
      | ret => rfl
  | cond c a b iha ihb =>
    intro σ h r hr
    simp only [run] at hr ⊢
    split at hr
    · exact iha hr
    · exact ihb hr
    · cases hr
  | block id a ih =>
    intro σ h r hr
    simp only [run] at hr ⊢
    split at hr
    · rename_i j s g hs
      rw [ih hs]
      exact hr
    · rename_i hne
      rw [ih hr]
      obtain ⟨ex, s, g⟩ := r
      cases ex with
      | normal => rfl
      | exit id => exact absurd hr (hne _ _ _)
      | goto l => rfl
      | ret => rfl
  | loop a ih =>
    intro σ h r hr
    simp only [run] at hr ⊢
    split at hr
    · rename_i s g hs
      rw [ih hs]
      exact hO.loop _ _ _ _ hr
    · rename_i hne
      rw [ih hr]
      obtain ⟨ex, s, g⟩ := r
      cases ex with
      | normal => exact absurd hr (hne _ _)
      | exit id => rfl
      | goto l => rfl
      | ret => rfl
  | scope a ih =>
    intro σ h r hr
    simp only [run] at hr ⊢
    split at hr
    · cases hr
    · rename_i hne
      rw [ih hr]
      obtain ⟨ex, s, g⟩ := r
      cases ex with
      | normal => rfl
      | exit id => rfl
      | goto l => exact absurd hr (hne _ _ _)
      | ret => rfl

theorem callF_of {O : Orc} {F : AF} {args : List AV} {h0 : Heap} {ex : Ex} {σ : Slots} {h1 : Heap} {vs : List AV} {x : AV × Heap} (hr : run O F.body (fun i => args.getD i .junk) h0 = some (ex, σ, h1)) (hex : ex = .normal ∨ ex = .ret) (hv : resVals σ h1 F.res = some vs)
    (hend : (if F.keep then some (oneOf vs, h1) else finish h0 h1 (oneOf vs)) = some x) : callF O F args h0 = some x := by
  unfold callF
  rcases hex with rfl | rfl
  · rw [hr]; simp only [hv]; exact hend
  · rw [hr]; simp only [hv]; exact hend

theorem callF_mono {O O' : Orc} (hO : O.le O') {F : AF} {args : List AV} {h0 : Heap} {x : AV × Heap} (hc : callF O F args h0 = some x) : callF O' F args h0 = some x := by
  obtain ⟨ex, σ, h1, vs, hrun, hex, hvs, hend⟩ := callF_cases hc
  exact callF_of (run_mono hO hrun) hex hvs hend

theorem callX_mono {X : CallO} {T : FuncId → Option AF} {O O' : Orc} (hO : O.le O') {f : FuncId} {args : List AV} {h0 : Heap} {x : AV × Heap} (hc : callX X T O f args h0 = some x) : callX X T O' f args h0 = some x := by
  unfold callX at hc ⊢
  split at hc
  · exact hc
  · split at hc
    · exact callF_mono hO hc
    · cases hc

theorem iter_step (X : CallO) (T : FuncId → Option AF) : ∀ k, (iter X T k).le (iter X T (k + 1))
  | 0 => ⟨fun f a h r hc => (by cases hc), fun a σ h r hc => (by cases hc)⟩
  | k + 1 => ⟨fun f a h r hc => callX_mono (iter_step X T k) hc, fun a σ h r hc => run_mono (iter_step X T k) hc⟩

theorem Orc.le_refl (O : Orc) : O.le O := ⟨fun _ _ _ _ h => h, fun _ _ _ _ h => h⟩
theorem iter_le (X : CallO) (T : FuncId → Option AF) {k n : Nat} (h : k ≤ n) : (iter X T k).le (iter X T n) := by
  induction n with
  | zero => have : k = 0 := by omega
            subst this; exact Orc.le_refl _
  | succ n ih =>
    rcases Nat.lt_or_ge n k with hlt | hge
    · have : k = n + 1 := by omega
      subst this; exact Orc.le_refl _
    · have h1 := ih hge
      have h2 := iter_step X T n
      exact ⟨fun f a h r hc => h2.call f a h r (h1.call f a h r hc), fun a σ h r hc => h2.loop a σ h r (h1.loop a σ h r hc)⟩

open Classical in
/-- All that comes to an end. -/
noncomputable def lim (X : CallO) (T : FuncId → Option AF) : Orc :=
  ⟨fun f a h => if e : ∃ r k, (iter X T k).call f a h = some r then some e.choose else none,
   fun a σ h => if e : ∃ r k, (iter X T k).loop a σ h = some r then some e.choose else none⟩

theorem lim_call {X : CallO} {T : FuncId → Option AF} {f : FuncId} {a : List AV} {h : Heap} {r : AV × Heap} : (lim X T).call f a h = some r ↔ ∃ k, (iter X T k).call f a h = some r := by
  simp only [lim]
  constructor
  · intro hr
    split at hr
    · rename_i e
      injection hr with hr
      rw [← hr]
      exact e.choose_spec
    · cases hr
  · rintro ⟨k, hk⟩
    have e : ∃ r k, (iter X T k).call f a h = some r := ⟨r, k, hk⟩
    rw [dif_pos e]
    obtain ⟨k', hk'⟩ := e.choose_spec
    have h1 := (iter_le X T (Nat.le_max_left k k')).call _ _ _ _ hk
    have h2 := (iter_le X T (Nat.le_max_right k k')).call _ _ _ _ hk'
    rw [← h1, ← h2]

theorem lim_loop {X : CallO} {T : FuncId → Option AF} {a : AC} {σ : Slots} {h : Heap} {r : Ex × Slots × Heap} : (lim X T).loop a σ h = some r ↔ ∃ k, (iter X T k).loop a σ h = some r := by
  simp only [lim]
  constructor
  · intro hr
    split at hr
    · rename_i e
      injection hr with hr
      rw [← hr]
      exact e.choose_spec
    · cases hr
  · rintro ⟨k, hk⟩
    have e : ∃ r k, (iter X T k).loop a σ h = some r := ⟨r, k, hk⟩
    rw [dif_pos e]
    obtain ⟨k', hk'⟩ := e.choose_spec
    have h1 := (iter_le X T (Nat.le_max_left k k')).loop _ _ _ _ hk
    have h2 := (iter_le X T (Nat.le_max_right k k')).loop _ _ _ _ hk'
    rw [← h1, ← h2]

section
variable {X : CallO} {T : FuncId → Option AF}

theorem aop_lim {σ : Slots} {h : Heap} {key : Nat} {op : AOp} {r : AV × Heap} (ha : aop (lim X T).call σ h key op = some r) : ∃ k, aop (iter X T k).call σ h key op = some r := by
  cases c : op.isCall
  · exact ⟨0, by rw [aop_req _ σ h key op c]; rw [aop_req _ σ h key op c] at ha; exact ha⟩
  · obtain ⟨f, xs, rfl⟩ : ∃ f xs, op = .call f xs := by cases op <;> first | exact ⟨_, _, rfl⟩ | cases c
    simp only [aop] at ha ⊢
    split at ha
    · exact lim_call.1 ha
    · cases ha

theorem opsRun_lim {k0 : Nat} : ∀ {as : List AO} {σ : Slots} {h : Heap} {r : Slots × Heap}, opsRun (lim X T).call k0 as σ h = some r → ∃ k, opsRun (iter X T k).call k0 as σ h = some r
  | [], σ, h, r, hr => ⟨0, hr⟩
  | o :: as, σ, h, r, hr => by
    simp only [opsRun] at hr ⊢
    split at hr
    · exact opsRun_lim hr
    · split at hr
      · rename_i v h' ha
        obtain ⟨k1, h1⟩ := aop_lim ha
        obtain ⟨k2, h2⟩ := opsRun_lim hr
        refine ⟨max k1 k2, ?_⟩
        rw [aop_mono (iter_le X T (Nat.le_max_left k1 k2)).call h1]
        exact opsRun_mono (iter_le X T (Nat.le_max_right k1 k2)).call h2
      · cases hr
    · cases hr

theorem opsRunF_lim {k0 : Nat} : ∀ {as : List AO} {σ : Slots} {h : Heap} {r : Slots × Heap × List Foot}, opsRunF (lim X T).call k0 as σ h = some r → ∃ k, opsRunF (iter X T k).call k0 as σ h = some r
  | [], σ, h, r, hr => ⟨0, hr⟩
  | o :: as, σ, h, r, hr => by
    simp only [opsRunF] at hr ⊢
    split at hr
    · simp only [Option.map_eq_some_iff] at hr ⊢
      obtain ⟨x, hx, e⟩ := hr
      obtain ⟨k, hk⟩ := opsRunF_lim hx
      exact ⟨k, x, hk, e⟩
    · split at hr
      · rename_i v h' ha
        simp only [Option.map_eq_some_iff] at hr
        obtain ⟨x, hx, e⟩ := hr
        obtain ⟨k1, h1⟩ := aop_lim ha
        obtain ⟨k2, h2⟩ := opsRunF_lim hx
        refine ⟨max k1 k2, ?_⟩
        rw [aop_mono (iter_le X T (Nat.le_max_left k1 k2)).call h1]
        simp only [Option.map_eq_some_iff]
        exact ⟨x, opsRunF_mono (iter_le X T (Nat.le_max_right k1 k2)).call h2, e⟩
      · cases hr
    · cases hr

theorem run_lim : ∀ {c : AC} {σ : Slots} {h : Heap} {r : Ex × Slots × Heap}, run (lim X T) c σ h = some r → ∃ k, run (iter X T k) c σ h = some r := by
  intro c
  induction c with
  | skip => exact fun hr => ⟨0, hr⟩
  | label l => exact fun hr => ⟨0, hr⟩
  | exit id => exact fun hr => ⟨0, hr⟩
  | goto l => exact fun hr => ⟨0, hr⟩
  | ret => exact fun hr => ⟨0, hr⟩
  | fail => exact fun hr => ⟨0, hr⟩
  | region ops nk draw ps =>
    intro σ h r hr
    cases draw
    · simp only [run] at hr ⊢
      split at hr
      · rename_i s g hs
        obtain ⟨k, hk⟩ := opsRun_lim hs
        exact ⟨k, by rw [hk]; exact hr⟩
      · cases hr
    · simp only [run] at hr ⊢
      split at hr
      · rename_i s g fs hs
        obtain ⟨k, hk⟩ := opsRunF_lim hs
        exact ⟨k, by rw [hk]; exact hr⟩
      · cases hr
  | seq a b iha ihb =>
    intro σ h r hr
    simp only [run] at hr ⊢
    split at hr
    · rename_i s g hs
      obtain ⟨k1, h1⟩ := iha hs
      obtain ⟨k2, h2⟩ := ihb hr
      refine ⟨max k1 k2, ?_⟩
      rw [run_mono (iter_le X T (Nat.le_max_left k1 k2)) h1]
      exact run_mono (iter_le X T (Nat.le_max_right k1 k2)) h2
    · rename_i hne
      obtain ⟨k1, h1⟩ := iha hr
      refine ⟨k1, ?_⟩
      rw [h1]
      obtain ⟨ex, s, g⟩ := r
      cases ex with
      | normal => exact absurd hr (hne _ _)
      | exit id => rfl
      | goto l => rfl
      | ret => rfl
  | cond c a b iha ihb =>
    intro σ h r hr
    simp only [run] at hr ⊢
    split at hr
    · exact iha hr
    · exact ihb hr
    · cases hr
  | block id a ih =>
    intro σ h r hr
    simp only [run] at hr ⊢
    split at hr
    · rename_i j s g hs
      obtain ⟨k1, h1⟩ := ih hs
      exact ⟨k1, by rw [h1]; exact hr⟩
    · rename_i hne
      obtain ⟨k1, h1⟩ := ih hr
      refine ⟨k1, ?_⟩
      rw [h1]
      obtain ⟨ex, s, g⟩ := r
      cases ex with
      | normal => rfl
      | exit id => exact absurd hr (hne _ _ _)
      | goto l => rfl
      | ret => rfl
  | loop a ih =>
    intro σ h r hr
    simp only [run] at hr ⊢
    split at hr
    · rename_i s g hs
      obtain ⟨k1, h1⟩ := ih hs
      obtain ⟨k2, h2⟩ := lim_loop.1 hr
      refine ⟨max k1 k2, ?_⟩
      rw [run_mono (iter_le X T (Nat.le_max_left k1 k2)) h1]
      exact (iter_le X T (Nat.le_max_right k1 k2)).loop _ _ _ _ h2
    · rename_i hne
      obtain ⟨k1, h1⟩ := ih hr
      refine ⟨k1, ?_⟩
      rw [h1]
      obtain ⟨ex, s, g⟩ := r
      cases ex with
      | normal => exact absurd hr (hne _ _)
      | exit id => rfl
      | goto l => rfl
      | ret => rfl
  | scope a ih =>
    intro σ h r hr
    simp only [run] at hr ⊢
    split at hr
    · cases hr
    · rename_i hne
      obtain ⟨k1, h1⟩ := ih hr
      refine ⟨k1, ?_⟩
      rw [h1]
      obtain ⟨ex, s, g⟩ := r
      cases ex with
      | normal => rfl
      | exit id => rfl
      | goto l => exact absurd hr (hne _ _ _)
      | ret => rfl

/-- A loop goes on as its code does. -/
theorem lim_loop_of {a : AC} {σ : Slots} {h : Heap} {r : Ex × Slots × Heap} (hr : run (lim X T) (.loop a) σ h = some r) : (lim X T).loop a σ h = some r := by
  obtain ⟨k, hk⟩ := run_lim hr
  exact lim_loop.2 ⟨k + 1, hk⟩

/-- A function's body answers for it. -/
theorem lim_call_of {f : FuncId} {F : AF} {args : List AV} {h : Heap} {r : AV × Heap} (hF : T f = some F) (hX : X f args h = none) (hc : callF (lim X T) F args h = some r) : (lim X T).call f args h = some r := by
  obtain ⟨ex, σ, h1, vs, hrun, hex, hvs, hend⟩ := callF_cases hc
  obtain ⟨k, hk⟩ := run_lim hrun
  refine lim_call.2 ⟨k + 1, ?_⟩
  simp only [iter, callX, hX, hF]
  exact callF_of hk hex hvs hend

/-- What is given from without. -/
theorem lim_ext {f : FuncId} {args : List AV} {h : Heap} {r : AV × Heap} (hX : X f args h = some r) : (lim X T).call f args h = some r :=
  lim_call.2 ⟨1, by simp only [iter, callX, hX]⟩
end

theorem lim_ok {P : Program} {mt kp : List String} (hm : P.follows .mixedOrders = true) {X : CallO} (hX : CallOk P X) (hXf : FrX X) : CallOk P (lim X (table P mt kp)).call := by
  intro f args h r h' hc
  obtain ⟨k, hk⟩ := lim_call.1 hc
  exact (iter_ok hm hX hXf k).call f args h r h' hk

end Go.Am
