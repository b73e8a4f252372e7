/-
  Code: what the abstract machine runs to its end, the model's machine does.
-/
import Derived.Test.YtiobaboailhafaaAm17
import Derived.Scope
import Derived.LoopN
set_option linter.unusedVariables false
set_option linter.unusedSimpArgs false
namespace Go.Am
open Go

def Grow (h h' : Heap) : Prop := h.length ≤ h'.length ∧ ∀ k : Nat, h[k]? = some AE.dead → h'[k]? = some AE.dead
theorem Grow.refl (h : Heap) : Grow h h := ⟨Nat.le_refl _, fun _ h => h⟩
theorem Grow.trans {a b c : Heap} (h : Grow a b) (k : Grow b c) : Grow a c := ⟨Nat.le_trans h.1 k.1, fun n hn => k.2 n (h.2 n hn)⟩

def Ex.toExit : Ex → Exit
  | .normal => .normal
  | .exit id => .exit id
  | .goto l => .goto l
  | .ret => .ret

/-- What stays between two moments of one body. -/
def Keeps (n : Nat) (E E' : Env) : Prop := E.le E' ∧ ∀ b, b < n → E'.ρ b = E.ρ b
theorem Keeps.refl (n : Nat) (E : Env) : Keeps n E E := ⟨E.le_refl, fun _ _ => rfl⟩
theorem Keeps.trans {n m : Nat} {A B C : Env} (h : Keeps n A B) (k : Keeps m B C) (hnm : n ≤ m) : Keeps n A C := ⟨Env.le_trans h.1 k.1, fun b hb => by rw [k.2 b (by omega), h.2 b hb]⟩

/-- What a run says of a code: any post that its ends answer holds. -/
def Ends (P : Program) (nt : Nat) (σ : Slots) (h : Heap) (ex : Ex) (σ' : Slots) (h' : Heap) (wp : (Exit → Act → World → Prop) → Act → World → Prop) : Prop :=
  ∀ (B : Nat) (w0 : World) (E : Env) (a : Act) (w : World) (Q : Exit → Act → World → Prop), At P B w0 nt E a w σ h →
    (∀ a' w' E', At P B w0 nt E' a' w' σ' h' → Keeps h.length E E' → Q ex.toExit a' w') → wp Q a w

structure OrcOk (P : Program) (mt : List String) (O : Orc) : Prop where
  call : CallOk P O.call
  fr : FrO O.call
  frl : ∀ a σ h ex σ' h' k e, O.loop a σ h = some (ex, σ', h') → h[k]? = some AE.dead → O.loop a σ (h.set k e) = some (ex, σ', h'.set k e)
  dead : ∀ a σ h ex σ' h', O.loop a σ h = some (ex, σ', h') → Grow h h'
  loop : ∀ nt c σ h ex σ' h', O.loop (compileC P mt nt c) σ h = some (ex, σ', h') → ∃ n, Ends P nt σ h ex σ' h' (fun Q a w => Code.rounds P c Q n a w)

theorem runL_grow {P : Program} {O : CallO} (hO : CallOk P O) {k0 : Nat} {as : List AO} : ∀ {l : List Nat} {σ σ' : Slots} {h h' : Heap} {T : List (Nat × Foot)}, runL O k0 as l σ h = some (σ', h', T) → h.length ≤ h'.length ∧ ∀ k : Nat, k < k0 → h[k]? = some AE.dead → h'[k]? = some AE.dead
  | [], σ, σ', h, h', T, hr => by
    simp only [runL, Option.some.injEq, Prod.mk.injEq] at hr
    obtain ⟨_, rfl, _⟩ := hr
    exact ⟨Nat.le_refl _, fun _ _ h => h⟩
  | i :: l, σ, σ', h, h', T, hr => by
    obtain ⟨o, σ1, h1, f, T', ho, hs, hr', rfl⟩ := runL_cons hr
    obtain ⟨d1, d2⟩ := stepA_dead hO hs
    obtain ⟨e1, e2⟩ := runL_grow hO hr'
    exact ⟨Nat.le_trans d1 e1, fun k hk hd => e2 k hk (d2 k hd fun _ => by omega)⟩

theorem opsRunF_grow {P : Program} {O : CallO} (hO : CallOk P O) {as : List AO} {nk : Nat} {σ σ' : Slots} {h h' : Heap} {fs : List Foot} (hr : opsRunF O h.length as σ (h ++ List.replicate nk .dead) = some (σ', h', fs)) : Grow h h' := by
  obtain ⟨_, e2⟩ := opsRunF_runL (pre := []) hr
  obtain ⟨g1, g2⟩ := runL_grow hO e2
  simp only [List.length_append, List.length_replicate] at g1
  refine ⟨by omega, fun k hk => g2 k (List.getElem?_eq_some_iff.1 hk).1 ?_⟩
  rw [List.getElem?_append_left (List.getElem?_eq_some_iff.1 hk).1]
  exact hk

theorem run_grow {P : Program} {mt : List String} {O : Orc} (hO : OrcOk P mt O) : ∀ {c : AC} {σ : Slots} {h : Heap} {ex : Ex} {σ' : Slots} {h' : Heap}, run O c σ h = some (ex, σ', h') → Grow h h' := by
  intro c
  induction c with
  | skip => intro σ h ex σ' h' hr; simp only [run, Option.some.injEq, Prod.mk.injEq] at hr; obtain ⟨-, -, rfl⟩ := hr; exact Grow.refl _
  | label l => intro σ h ex σ' h' hr; simp only [run, Option.some.injEq, Prod.mk.injEq] at hr; obtain ⟨-, -, rfl⟩ := hr; exact Grow.refl _
  | exit id => intro σ h ex σ' h' hr; simp only [run, Option.some.injEq, Prod.mk.injEq] at hr; obtain ⟨-, -, rfl⟩ := hr; exact Grow.refl _
  | goto l => intro σ h ex σ' h' hr; simp only [run, Option.some.injEq, Prod.mk.injEq] at hr; obtain ⟨-, -, rfl⟩ := hr; exact Grow.refl _
  | ret => intro σ h ex σ' h' hr; simp only [run, Option.some.injEq, Prod.mk.injEq] at hr; obtain ⟨-, -, rfl⟩ := hr; exact Grow.refl _
  | fail => intro σ h ex σ' h' hr; simp [run] at hr
  | region ops nk draw ps =>
    intro σ h ex σ' h' hr
    cases draw
    · simp only [run] at hr
      split at hr
      · rename_i s g hs
        simp only [Option.some.injEq, Prod.mk.injEq] at hr
        obtain ⟨-, -, rfl⟩ := hr
        obtain ⟨fs, hf⟩ := opsRun_F hs
        exact opsRunF_grow hO.call hf
      · cases hr
    · simp only [run] at hr
      split at hr
      · rename_i s g fs hs
        split at hr
        · simp only [Option.some.injEq, Prod.mk.injEq] at hr
          obtain ⟨-, -, rfl⟩ := hr
          exact opsRunF_grow hO.call hs
        · cases hr
      · cases hr
  | seq a b iha ihb =>
    intro σ h ex σ' h' hr
    simp only [run] at hr
    split at hr
    · rename_i s g hs
      exact (iha hs).trans (ihb hr)
    · exact iha hr
  | cond c a b iha ihb =>
    intro σ h ex σ' h' hr
    simp only [run] at hr
    split at hr
    · exact iha hr
    · exact ihb hr
    · cases hr
  | block id a ih =>
    intro σ h ex σ' h' hr
    simp only [run] at hr
    split at hr
    · rename_i j s g hs
      split at hr <;> simp only [Option.some.injEq, Prod.mk.injEq] at hr <;> obtain ⟨-, -, rfl⟩ := hr <;> exact ih hs
    · exact ih hr
  | loop a ih =>
    intro σ h ex σ' h' hr
    simp only [run] at hr
    split at hr
    · rename_i s g hs
      exact (ih hs).trans (hO.dead _ _ _ _ _ _ hr)
    · exact ih hr
  | scope a ih =>
    intro σ h ex σ' h' hr
    simp only [run] at hr
    split at hr
    · cases hr
    · exact ih hr

section
variable {P : Program} {mt : List String} {O : Orc} {nt : Nat}

theorem region_sim (hm : P.follows .mixedOrders = true) (hO : OrcOk P mt O) {id : Nat} {ops : Array Oper} {draw : Bool} {σ : Slots} {h : Heap} {ex : Ex} {σ' : Slots} {h' : Heap} (hr : run O (compileC P mt nt (.region id ops draw)) σ h = some (ex, σ', h')) :
    Ends P nt σ h ex σ' h' (fun Q a w => (Code.region id ops draw).wp P Q a w) := by
  intro B w0 E a w Q hat hQ
  simp only [compileC] at hr
  split at hr
  · rename_i as nk hcomp
    obtain ⟨c1, c2, c3, c4, c5⟩ := compileOps_spec hcomp
    have hc : Comp P mt nt ops as := ⟨by simpa using c1, fun i o ao ho hao => c2 i o ao (by simpa using ho) hao, c5⟩
    have hfree : ∀ l, Free as h.length E (h ++ List.replicate nk .dead) l := by
      intro l i hi ao hao hal
      have hk := c4 ao (List.mem_of_getElem? hao) hal
      refine ⟨?_, ?_⟩
      · rw [List.getElem?_append_right (by omega)]
        simp only [Nat.add_sub_cancel_left, List.getElem?_replicate]
        rw [if_pos (by omega)]
      · cases hx : E.ρ (h.length + ao.key) with
        | none => rfl
        | some x => have := hat.rel.dom _ _ hx; omega
    have hat1 : At P B w0 nt E a w σ (h ++ List.replicate nk .dead) := ⟨hat.sr, hat.size, hat.defers, hat.rel.reserve nk⟩
    have hlen : h.length ≤ (h ++ List.replicate nk AE.dead).length := by simp
    cases draw with
    | false =>
      simp only [Bool.false_and, Bool.false_eq_true, if_false, run] at hr
      split at hr
      · rename_i s g hs
        simp only [Option.some.injEq, Prod.mk.injEq] at hr
        obtain ⟨rfl, rfl, rfl⟩ := hr
        obtain ⟨fs, hf⟩ := opsRun_F hs
        obtain ⟨e1, e2⟩ := opsRunF_runL (pre := []) hf
        simp only [List.nil_append, List.length_nil] at e2
        rw [← List.range_eq_range', hc.len] at e2
        refine wp_region (list_sim hO.call hc (E0 := E) (fun a' w' E' s1 s2 s3 => hQ a' w' E' s1 ⟨s2, s3⟩) List.nodup_range hat1 (hfree _) E.le_refl (fun _ _ => rfl) hlen e2)
      · cases hr
    | true =>
      simp only [Bool.true_and] at hr
      split at hr
      · simp [run] at hr
      · rename_i hsl
        simp only [Bool.not_eq_true', Bool.not_eq_false] at hsl
        simp only [if_true, run] at hr
        split at hr
        · rename_i s g fs hs
          split at hr
          · rename_i hp
            simp only [Option.some.injEq, Prod.mk.injEq] at hr
            obtain ⟨rfl, rfl, rfl⟩ := hr
            obtain ⟨T, t1, t2⟩ := opsRunF_draw hs hp
            rw [hc.len] at t1
            have hat2 : At P B w0 nt E a { w with drawn := w.drawn + 1 } σ (h ++ List.replicate nk .dead) := ⟨hat.sr, hat.size, hat.defers, (hat.rel.reserve nk).drew⟩
            refine wp_region_any hm (any_sim hO.call hO.fr hc hsl (E0 := E) (fun a' w' E' s1 s2 s3 => hQ a' w' E' s1 ⟨s2, s3⟩) (by simp) List.pairwise_lt_range ?_ ?_ (by simp) hat2 (hfree _) E.le_refl (fun _ _ => rfl) hlen t1 t2)
            · intro i o hi
              exfalso
              rw [Array.getD_eq_getD_getElem?, Array.getElem?_replicate] at hi
              split at hi <;> cases hi
            · intro i
              rw [List.mem_range, Array.getD_eq_getD_getElem?, Array.getElem?_replicate]
              constructor
              · intro h; exact ⟨h, by rw [if_pos h]; rfl⟩
              · exact fun h => h.1
          · cases hr
        · cases hr
  · simp [run] at hr

theorem code_sim (hm : P.follows .mixedOrders = true) (hO : OrcOk P mt O) : ∀ (c : Code) {σ : Slots} {h : Heap} {ex : Ex} {σ' : Slots} {h' : Heap}, run O (compileC P mt nt c) σ h = some (ex, σ', h') →
    Ends P nt σ h ex σ' h' (fun Q a w => c.wp P Q a w) := by
  intro c
  induction c <;> intro σ h ex σ' h' hr
  case skip =>
    intro B w0 E a w Q hat hQ
    simp only [compileC, run, Option.some.injEq, Prod.mk.injEq] at hr
    obtain ⟨rfl, rfl, rfl⟩ := hr
    exact wp_skip (hQ a w E hat (Keeps.refl _ _))
  case label l =>
    intro B w0 E a w Q hat hQ
    simp only [compileC, run, Option.some.injEq, Prod.mk.injEq] at hr
    obtain ⟨rfl, rfl, rfl⟩ := hr
    exact wp_label (hQ a w E hat (Keeps.refl _ _))
  case exit id =>
    intro B w0 E a w Q hat hQ
    simp only [compileC, run, Option.some.injEq, Prod.mk.injEq] at hr
    obtain ⟨rfl, rfl, rfl⟩ := hr
    exact wp_exit (hQ a w E hat (Keeps.refl _ _))
  case goto l =>
    intro B w0 E a w Q hat hQ
    simp only [compileC, run, Option.some.injEq, Prod.mk.injEq] at hr
    obtain ⟨rfl, rfl, rfl⟩ := hr
    exact wp_goto (hQ a w E hat (Keeps.refl _ _))
  case ret =>
    intro B w0 E a w Q hat hQ
    simp only [compileC, run, Option.some.injEq, Prod.mk.injEq] at hr
    obtain ⟨rfl, rfl, rfl⟩ := hr
    exact wp_ret (hQ a w E hat (Keeps.refl _ _))
  case region id ops draw => exact region_sim hm hO hr
  case seq x y ihx ihy =>
    intro B w0 E a w Q hat hQ
    simp only [compileC, run] at hr
    split at hr
    · rename_i s g hs
      refine wp_seq (ihx hs B w0 E a w _ hat fun a' w' E' s1 s2 => ?_)
      exact ihy hr B w0 E' a' w' Q s1 fun a'' w'' E'' t1 t2 => hQ a'' w'' E'' t1 (s2.trans t2 (run_grow hO hs).1)
    · rename_i hne
      refine wp_seq (ihx hr B w0 E a w _ hat fun a' w' E' s1 s2 => ?_)
      have := hQ a' w' E' s1 s2
      cases ex with
      | normal => exact absurd hr (hne _ _)
      | exit id => exact this
      | goto l => exact this
      | ret => exact this
  case cond c x y ihx ihy =>
    intro B w0 E a w Q hat hQ
    simp only [compileC] at hr
    split at hr
    · rename_i z hz
      have hx := cx_sound hz hat.sr
      simp only [run] at hr
      split at hr
      · rename_i hv
        rw [hv] at hx
        exact wp_cond_true hx.inv_bool (ihx hr B w0 E a w Q hat hQ)
      · rename_i hv
        rw [hv] at hx
        exact wp_cond_false hx.inv_bool (ihy hr B w0 E a w Q hat hQ)
      · cases hr
    · simp [run] at hr
  case block id x ih =>
    intro B w0 E a w Q hat hQ
    simp only [compileC, run] at hr
    split at hr
    · rename_i j s g hs
      split at hr
      · rename_i hj
        simp only [Option.some.injEq, Prod.mk.injEq] at hr
        obtain ⟨rfl, rfl, rfl⟩ := hr
        refine wp_block (ih hs B w0 E a w _ hat fun a' w' E' s1 s2 => ?_)
        simp only [Ex.toExit, Exit.inBlock, hj, if_true]
        exact hQ a' w' E' s1 s2
      · rename_i hj
        simp only [Option.some.injEq, Prod.mk.injEq] at hr
        obtain ⟨rfl, rfl, rfl⟩ := hr
        refine wp_block (ih hs B w0 E a w _ hat fun a' w' E' s1 s2 => ?_)
        simp only [Ex.toExit, Exit.inBlock, hj, if_false]
        exact hQ a' w' E' s1 s2
    · rename_i hne
      refine wp_block (ih hr B w0 E a w _ hat fun a' w' E' s1 s2 => ?_)
      have := hQ a' w' E' s1 s2
      cases ex with
      | normal => exact this
      | exit j => exact absurd hr (hne _ _ _)
      | goto l => exact this
      | ret => exact this
  case loop x ih =>
    intro B w0 E a w Q hat hQ
    simp only [compileC, run] at hr
    split at hr
    · rename_i s g hs
      obtain ⟨n, hn⟩ := hO.loop nt x _ _ _ _ _ hr
      refine wp_loop_rounds (n + 1) ?_
      rw [rounds_succ]
      refine ih hs B w0 E a w _ hat fun a' w' E' s1 s2 => ?_
      exact hn B w0 E' a' w' Q s1 fun a'' w'' E'' t1 t2 => hQ a'' w'' E'' t1 (s2.trans t2 (run_grow hO hs).1)
    · rename_i hne
      refine wp_loop_rounds 1 ?_
      rw [rounds_succ]
      refine ih hr B w0 E a w _ hat fun a' w' E' s1 s2 => ?_
      have := hQ a' w' E' s1 s2
      cases ex with
      | normal => exact absurd hr (hne _ _)
      | exit id => exact this
      | goto l => exact this
      | ret => exact this
  case scope x ih =>
    intro B w0 E a w Q hat hQ
    simp only [compileC, run] at hr
    split at hr
    · cases hr
    · rename_i hne
      refine wp_scope_straight (ih hr B w0 E a w _ hat fun a' w' E' s1 s2 => ?_)
      have := hQ a' w' E' s1 s2
      cases ex with
      | normal => exact this
      | exit id => exact this
      | goto l => exact absurd hr (hne _ _ _)
      | ret => exact this
  all_goals (simp [compileC, run] at hr)
end
end Go.Am
