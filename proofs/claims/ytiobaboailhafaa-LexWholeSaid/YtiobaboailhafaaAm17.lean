/-
  A whole region, its order fixed or drawn.
-/
import Derived.Test.YtiobaboailhafaaAm16
set_option linter.unusedVariables false
set_option linter.unusedSimpArgs false
namespace Go.Am
open Go

theorem compileOps_spec {P : Program} {mt : List String} {nt : Nat} {ops : Array Oper} : ∀ {l : List Oper} {k k' : Nat} {as : List AO}, compileOps P mt nt ops l k = some (as, k') →
    as.length = l.length ∧ (∀ (i : Nat) (o : Oper) (ao : AO), l[i]? = some o → as[i]? = some ao → Cmp P mt nt ops o ao) ∧ k ≤ k' ∧ (∀ ao ∈ as, ao.op.isAlloc = true → k ≤ ao.key ∧ ao.key < k') ∧
    as.Pairwise (fun x y => x.op.isAlloc = true → y.op.isAlloc = true → x.key ≠ y.key)
  | [], k, k', as, h => by
    simp only [compileOps, Option.some.injEq, Prod.mk.injEq] at h
    obtain ⟨rfl, rfl⟩ := h
    exact ⟨rfl, by simp, Nat.le_refl _, by simp, List.Pairwise.nil⟩
  | o :: l, k, k', as, h => by
    have hkk : k ≤ (if (compileOp' P mt o).isAlloc = true then k + 1 else k) := by split <;> omega
    simp only [compileOps] at h
    split at h
    · rename_i as' k1 hr
      obtain ⟨h1, h2, h3, h4, h5⟩ := compileOps_spec hr
      have fin : ∀ g, as = ⟨o.dst, compileOp' P mt o, g, k⟩ :: as' → k1 = k' → Cmp P mt nt ops o ⟨o.dst, compileOp' P mt o, g, k⟩ → as.length = (o :: l).length ∧ (∀ (i : Nat) (o' : Oper) (ao : AO), (o :: l)[i]? = some o' → as[i]? = some ao → Cmp P mt nt ops o' ao) ∧ k ≤ k' ∧ (∀ ao ∈ as, ao.op.isAlloc = true → k ≤ ao.key ∧ ao.key < k') ∧
          as.Pairwise (fun x y => x.op.isAlloc = true → y.op.isAlloc = true → x.key ≠ y.key) := by
        intro g e e' hc
        subst e; subst e'
        refine ⟨by simp [h1], ?_, by omega, ?_, List.pairwise_cons.2 ⟨?_, h5⟩⟩
        · intro i o' ao ho ha
          cases i with
          | zero => simp at ho ha; subst ho; subst ha; exact hc
          | succ i => simp at ho ha; exact h2 i o' ao ho ha
        · intro ao hm hal
          rcases List.mem_cons.1 hm with rfl | hm
          · simp only at hal ⊢
            rw [hal] at h3
            simp only [if_true] at h3
            omega
          · have := h4 ao hm hal
            omega
        · intro y hy hal hal2
          have := h4 y hy hal2
          simp only at hal ⊢
          rw [hal] at this
          simp only [if_true] at this
          omega
      split at h
      · rename_i hd
        have hdl : ∀ d, o.dst = some d → d < nt := by
          intro d hd'
          rw [hd'] at hd
          exact of_decide_eq_true hd
        split at h
        · rename_i hg
          simp only [Option.some.injEq, Prod.mk.injEq] at h
          exact fin none h.1.symm h.2 ⟨rfl, hdl, rfl, by rw [hg]⟩
        · rename_i j w hg
          split at h
          · rename_i g hgd
            split at h
            · simp only [Option.some.injEq, Prod.mk.injEq] at h
              exact fin (some (g, w)) h.1.symm h.2 ⟨rfl, hdl, rfl, by rw [hg]; exact ⟨g, hgd, rfl⟩⟩
            · cases h
          · cases h
      · cases h
    · cases h

theorem opsRun_F {O : CallO} {k0 : Nat} : ∀ {as : List AO} {σ σ' : Slots} {h h' : Heap}, opsRun O k0 as σ h = some (σ', h') → ∃ fs, opsRunF O k0 as σ h = some (σ', h', fs)
  | [], σ, σ', h, h', hr => by
    simp only [opsRun, Option.some.injEq, Prod.mk.injEq] at hr
    obtain ⟨rfl, rfl⟩ := hr
    exact ⟨[], rfl⟩
  | o :: as, σ, σ', h, h', hr => by
    simp only [opsRun] at hr
    simp only [opsRunF]
    split at hr
    · rename_i hp
      obtain ⟨fs, hf⟩ := opsRun_F hr
      exact ⟨_, by rw [hf]; rfl⟩
    · split at hr
      · obtain ⟨fs, hf⟩ := opsRun_F hr
        exact ⟨_, by rw [hf]; rfl⟩
      · cases hr
    · cases hr

section
variable {P : Program} {B : Nat} {w0 : World} {O : CallO} {mt : List String} {nt : Nat} {ops : Array Oper} {as : List AO} {Q : Exit → Act → World → Prop} {k0 : Nat}

/-- Where one stands in a region. -/
structure At (P : Program) (B : Nat) (w0 : World) (nt : Nat) (E : Env) (a : Act) (w : World) (σ : Slots) (h : Heap) : Prop where
  sr : SR E a σ
  size : nt ≤ a.tmps.size
  defers : a.defers = []
  rel : Rel B w0 E h w

/-- The places of what is still to be done are free. -/
def Free (as : List AO) (k0 : Nat) (E : Env) (h : Heap) (l : List Nat) : Prop := ∀ i ∈ l, ∀ ao, as[i]? = some ao → ao.op.isAlloc = true → h[k0 + ao.key]? = some .dead ∧ E.ρ (k0 + ao.key) = none

structure Comp (P : Program) (mt : List String) (nt : Nat) (ops : Array Oper) (as : List AO) : Prop where
  len : as.length = ops.size
  cmp : ∀ (i : Nat) (o : Oper) (ao : AO), ops[i]? = some o → as[i]? = some ao → Cmp P mt nt ops o ao
  keys : as.Pairwise (fun x y => x.op.isAlloc = true → y.op.isAlloc = true → x.key ≠ y.key)

theorem Comp.key_ne (hc : Comp P mt nt ops as) {i j : Nat} {x y : AO} (hx : as[i]? = some x) (hy : as[j]? = some y) (hij : i ≠ j) (h1 : x.op.isAlloc = true) (h2 : y.op.isAlloc = true) : x.key ≠ y.key := by
  obtain ⟨hi, hx⟩ := List.getElem?_eq_some_iff.1 hx
  obtain ⟨hj, hy⟩ := List.getElem?_eq_some_iff.1 hy
  have := List.pairwise_iff_getElem.1 hc.keys
  rcases Nat.lt_or_ge i j with hlt | hge
  · have h3 := this i j hi hj hlt
    rw [hx, hy] at h3
    exact h3 h1 h2
  · have h3 := this j i hj hi (by omega)
    rw [hx, hy] at h3
    exact (h3 h2 h1).symm

/-- One operation, with what is kept for the rest. -/
theorem at_step (hO : CallOk P O) (hc : Comp P mt nt ops as) {E : Env} {a : Act} {w : World} {σ σ1 : Slots} {h h1 : Heap} {f : Foot} (hat : At P B w0 nt E a w σ h) {i : Nat} {oi : AO} (hoi : as[i]? = some oi) {l : List Nat} (hl : i ∉ l) (hfree : Free as k0 E h (i :: l))
    (hst : stepA O k0 oi σ h = some (σ1, h1, f)) {K : Act → World → Prop} (hk0 : k0 ≤ h.length)
    (hK : ∀ a' w' E', At P B w0 nt E' a' w' σ1 h1 → Free as k0 E' h1 l → E.le E' → (∀ b, b < k0 → E'.ρ b = E.ρ b) → K a' w') : wpOp P ops Q i K a w := by
  have hi : i < ops.size := by rw [← hc.len]; exact (List.getElem?_eq_some_iff.1 hoi).1
  have ho : ops[i]? = some ops[i] := Array.getElem?_eq_getElem hi
  refine step_sim hO (hc.cmp i _ _ ho hoi) hat.sr hat.size hat.defers hat.rel (hfree i List.mem_cons_self oi hoi) hst ho fun a' w' E' s1 s2 s3 s4 s5 s6 => ?_
  refine hK a' w' E' ⟨s1, s2, s3, s4⟩ ?_ s5 fun b hb => s6 b (by omega) fun _ => by omega
  intro j hj ao hao hal
  obtain ⟨d1, d2⟩ := stepA_dead hO hst
  obtain ⟨f1, f2⟩ := hfree j (List.mem_cons_of_mem _ hj) ao hao hal
  have hne : oi.op.isAlloc = true → k0 + ao.key ≠ k0 + oi.key := fun hx => by
    have := hc.key_ne hao hoi (fun e => hl (e ▸ hj)) hal hx
    omega
  exact ⟨d2 _ f1 hne, by rw [s6 _ (List.getElem?_eq_some_iff.1 f1).1 hne]; exact f2⟩

/-- In a given order. -/
theorem list_sim (hO : CallOk P O) (hc : Comp P mt nt ops as) {E0 : Env} {σ' : Slots} {h' : Heap}
    (hQ : ∀ a' w' E', At P B w0 nt E' a' w' σ' h' → E0.le E' → (∀ b, b < k0 → E'.ρ b = E0.ρ b) → Q .normal a' w') :
    ∀ {l : List Nat} {E : Env} {a : Act} {w : World} {σ : Slots} {h : Heap} {T : List (Nat × Foot)}, l.Nodup → At P B w0 nt E a w σ h → Free as k0 E h l → E0.le E → (∀ b, b < k0 → E.ρ b = E0.ρ b) → k0 ≤ h.length → runL O k0 as l σ h = some (σ', h', T) → wpOps P ops Q l a w
  | [], E, a, w, σ, h, T, _, hat, hf, hle, hρ, hk0, hr => by
    simp only [runL, Option.some.injEq, Prod.mk.injEq] at hr
    obtain ⟨rfl, rfl, _⟩ := hr
    exact hQ a w E hat hle hρ
  | i :: l, E, a, w, σ, h, T, hnd, hat, hf, hle, hρ, hk0, hr => by
    obtain ⟨o, σ1, h1, f, T', ho, hs, hr', rfl⟩ := runL_cons hr
    have hnd' := List.nodup_cons.1 hnd
    rw [wpOps_cons]
    refine at_step hO hc hat ho hnd'.1 hf hs hk0 fun a' w' E' s1 s2 s3 s4 => ?_
    exact list_sim hO hc hQ hnd'.2 s1 s2 (Env.le_trans hle s3) (fun b hb => by rw [s4 b hb]; exact hρ b hb) (Nat.le_trans hk0 (stepA_dead hO hs).1) hr'

/-- In any order. -/
theorem any_sim (hO : CallOk P O) (hF : FrO O) (hc : Comp P mt nt ops as) (hsl : slotsOk ops as = true) {E0 : Env} {σ' : Slots} {h' : Heap}
    (hQ : ∀ a' w' E', At P B w0 nt E' a' w' σ' h' → E0.le E' → (∀ b, b < k0 → E'.ρ b = E0.ρ b) → Q .normal a' w') :
    ∀ {n : Nat} {l : List Nat} {L : Array Bool} {E : Env} {a : Act} {w : World} {σ : Slots} {h : Heap} {T : List (Nat × Foot)}, l.length = n → l.Pairwise (· < ·) → Closed ops L → (∀ i, i ∈ l ↔ (i < ops.size ∧ L.getD i true = false)) → L.size = ops.size →
      At P B w0 nt E a w σ h → Free as k0 E h l → E0.le E → (∀ b, b < k0 → E.ρ b = E0.ρ b) → k0 ≤ h.length → runL O k0 as l σ h = some (σ', h', T) → T.Pairwise (RT ops) → wpAny P .any ops Q n L a w := by
  intro n
  induction n with
  | zero =>
    intro l L E a w σ h T hn hpw hcl hmem hLs hat hf hle hρ hk0 hr hp
    have : l = [] := List.length_eq_zero_iff.1 hn
    subst this
    simp only [runL, Option.some.injEq, Prod.mk.injEq] at hr
    obtain ⟨rfl, rfl, _⟩ := hr
    refine ⟨?_, hQ a w E hat hle hρ⟩
    rw [List.eq_nil_iff_forall_not_mem]
    intro i hi
    obtain ⟨h1, o, ho, _⟩ := mem_ready.1 hi
    have : i < ops.size := (Array.getElem?_eq_some_iff.1 ho).1
    exact absurd ((hmem i).2 ⟨this, h1⟩) (by simp)
  | succ n ih =>
    intro l L E a w σ h T hn hpw hcl hmem hLs hat hf hle hρ hk0 hr hp
    refine ⟨fun hnil => ?_, fun i hi => ?_⟩
    · exfalso
      cases l with
      | nil => simp at hn
      | cons i l =>
        have hi := (hmem i).1 List.mem_cons_self
        have ho : ops[i]? = some ops[i] := Array.getElem?_eq_getElem hi.1
        have : i ∈ Region.ready .any ops L := by
          refine mem_ready.2 ⟨hi.2, _, ho, fun e he hb => ?_⟩
          have hlt := edgesOk_spec hsl ho he hb
          have hsz : e.on < L.size := by rw [hLs]; omega
          cases hx : L.getD e.on true with
          | false =>
            have := (hmem e.on).2 ⟨by omega, hx⟩
            rcases List.mem_cons.1 this with h1 | h1
            · omega
            · have := (List.pairwise_cons.1 hpw).1 _ h1
              omega
          | true =>
            rw [Array.getD_eq_getD_getElem?, Array.getElem?_eq_getElem hsz] at hx ⊢
            exact hx
        rw [hnil] at this
        cases this
    · obtain ⟨hun, o, ho, _⟩ := mem_ready.1 hi
      have hlt : i < ops.size := (Array.getElem?_eq_some_iff.1 ho).1
      have him : i ∈ l := (hmem i).2 ⟨hlt, hun⟩
      obtain ⟨pre, post, rfl⟩ := List.append_of_mem him
      obtain ⟨oi, hoi⟩ : ∃ oi, as[i]? = some oi := ⟨as[i]'(by rw [hc.len]; exact hlt), List.getElem?_eq_getElem _⟩
      have hpa := List.pairwise_append.1 hpw
      have hbef : ∀ k ∈ pre, k < i ∧ fixed ops k i = false := by
        intro k hk
        refine ⟨hpa.2.2 k hk i List.mem_cons_self, ?_⟩
        cases hfx : fixed ops k i with
        | false => rfl
        | true =>
          have h1 := ready_fixed hcl hi hfx
          have h2 := ((hmem k).1 (List.mem_append_left _ hk)).2
          have h3 := ((hmem k).1 (List.mem_append_left _ hk)).1
          rw [Array.getD_eq_getD_getElem?, Array.getElem?_eq_getElem (by omega)] at h1 h2
          simp only [Option.getD_some] at h1 h2
          rw [h1] at h2; cases h2
      obtain ⟨σ1, h1, f, T', st, hr2, hp2, _, _⟩ := runL_front O hoi pre hr hp (fun k hk => ⟨fun ok hok => slotsOk_spec hsl (hbef k hk).1 hok hoi (hbef k hk).2, fun f g hR => hR.2 (hbef k hk).2⟩) hF (fun hal => (hf i him oi hoi hal).1) (fun k hk o ho σ h σ1 h1 f hst hal hdd => (stepA_dead hO hst).2 _ hdd fun hx => by
        have := hc.key_ne hoi ho (fun e => by have := (hbef k hk).1; omega) hal hx
        omega)
      have hnd : (pre ++ i :: post).Nodup := hpw.imp fun hlt e => by omega
      have hni : i ∉ pre ++ post := by
        intro hm
        rw [List.nodup_append] at hnd
        rcases List.mem_append.1 hm with hm | hm
        · exact hnd.2.2 i hm i List.mem_cons_self rfl
        · exact (List.nodup_cons.1 hnd.2.1).1 hm
      have hf' : Free as k0 E h (i :: (pre ++ post)) := by
        intro j hj
        refine hf j ?_
        rcases List.mem_cons.1 hj with rfl | hj
        · exact him
        · rcases List.mem_append.1 hj with hj | hj
          · exact List.mem_append_left _ hj
          · exact List.mem_append_right _ (List.mem_cons_of_mem _ hj)
      refine at_step hO hc hat hoi hni hf' st hk0 fun a' w' E' s1 s2 s3 s4 => ?_
      refine ih (l := pre ++ post) (L := L.setIfInBounds i true) ?_ ?_ (hcl.set hi) ?_ (by simp [hLs]) s1 s2 (Env.le_trans hle s3) (fun b hb => by rw [s4 b hb]; exact hρ b hb) (Nat.le_trans hk0 (stepA_dead hO st).1) hr2 hp2
      · simp only [List.length_append, List.length_cons] at hn ⊢; omega
      · exact hpw.sublist (List.Sublist.append (List.Sublist.refl pre) (List.sublist_cons_self i post))
      · intro j
        have hm := hmem j
        by_cases hji : i = j
        · subst hji
          constructor
          · intro h; exact absurd h hni
          · rintro ⟨h1, h2⟩
            simp [Array.getD_eq_getD_getElem?, Array.getElem?_setIfInBounds, hLs, h1] at h2
        · rw [getD_set_ne true hji, ← hm]
          simp only [List.mem_append, List.mem_cons]
          constructor
          · rintro (h | h)
            · exact .inl h
            · exact .inr (.inr h)
          · rintro (h | h | h)
            · exact .inl h
            · exact absurd h.symm hji
            · exact .inr h
end
end Go.Am
