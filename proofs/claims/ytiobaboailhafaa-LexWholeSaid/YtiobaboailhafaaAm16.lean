/-
  One operation of a region, calls among them.
-/
import Derived.Test.YtiobaboailhafaaAm13
import Derived.Test.YtiobaboailhafaaAm15
set_option linter.unusedVariables false
set_option linter.unusedSimpArgs false
namespace Go.Am
open Go

def Fires (P : Program) (f : FuncId) (vs : Array Value) (w : World) (R : Value → World → Prop) : Prop :=
  match (callFunc f vs).run P w with
  | .ok (.value v) w' => R v w'
  | .ok (.enter g xs) w' => Calls P g xs w' fun | .returned v, w'' => R v w'' | _, _ => False
  | _ => False

def Good (P : Program) (f : FuncId) (args : List AV) (h : Heap) (r : AV) (h' : Heap) : Prop :=
  h.length ≤ h'.length ∧ (∀ k : Nat, h[k]? = some AE.dead → h'[k]? = some AE.dead) ∧
  ∀ B w0 E w (vs : Array Value), Rel B w0 E h w → vs.size = args.length → (∀ (i : Nat) (u : Value) (x : AV), vs[i]? = some u → args[i]? = some x → Rd E u x) →
    Fires P f vs w fun v w' => ∃ E', E.le E' ∧ (∀ b, b < h.length → E'.ρ b = E.ρ b) ∧ Rel B w0 E' h' w' ∧ Rd E' v r

def CallOk (P : Program) (O : CallO) : Prop := ∀ f args h r h', O f args h = some (r, h') → Good P f args h r h'

/-! ### The heap's dead places stay dead -/
theorem sets_length {ws : List (Nat × AE)} {h : Heap} : (sets h ws).length = h.length := by
  induction ws generalizing h with
  | nil => rfl
  | cons p ws ih => simp only [sets]; rw [ih, List.length_set]

theorem sets_dead {ws : List (Nat × AE)} {h : Heap} {k : Nat} (hk : h[k]? = some .dead) (hw : ∀ p ∈ ws, p.1 ≠ k ∨ p.2 = .dead) : (sets h ws)[k]? = some .dead := by
  induction ws generalizing h with
  | nil => exact hk
  | cons p ws ih =>
    simp only [sets]
    refine ih ?_ fun q hq => hw q (List.mem_cons_of_mem _ hq)
    rcases hw p List.mem_cons_self with h1 | h1
    · rw [List.getElem?_set_ne h1]; exact hk
    · rw [List.getElem?_set]
      split
      · rename_i e; subst e
        have : p.1 < h.length := (List.getElem?_eq_some_iff.1 hk).1
        simp [this, h1]
      · exact hk

/-- Every write is at the reserved place, or at a place that was read and lives, or kills. -/
theorem req_writes {σ : Slots} {h : Heap} {key : Nat} {op : AOp} {v : AV} {ws : List (Nat × AE)} (hr : (req σ key op).2 ((req σ key op).1.map fun k => h[k]?) = some (v, ws)) :
    ∀ p ∈ ws, (op.isAlloc = true ∧ p.1 = key) ∨ p.2 = .dead ∨ ∃ e, h[p.1]? = some e ∧ e ≠ .dead := by
  have kmap : ∀ {α : Type} {x : Option α} {f : α → AV}, (x.map fun a => (f a, ([] : List (Nat × AE)))) = some (v, ws) → ws = [] := by
    intro α x f hh
    cases x <;> simp_all
  have kif : ∀ {c : Prop} {d : Decidable c} {x : AV} {us : List (Nat × AE)}, (@ite _ c d (some (x, us)) none) = some (v, ws) → ws = us := by
    intro c d x us hh
    split at hh <;> simp_all
  have l1 : ∀ {α : Type} {b : Nat} {g : List (Option AE) → Option α}, True := fun {_ _ _} => trivial
  cases op
  case alloc zs => simp only [req, Option.some.injEq, Prod.mk.injEq] at hr; obtain ⟨-, rfl⟩ := hr; simp [AOp.isAlloc]
  case box n x => simp only [req] at hr; obtain rfl := kif hr; simp [AOp.isAlloc]
  case bsliceM sz xs => simp only [req] at hr; obtain rfl := kif hr; simp [AOp.isAlloc]
  case mkmap => simp only [req, Option.some.injEq, Prod.mk.injEq] at hr; obtain ⟨-, rfl⟩ := hr; simp [AOp.isAlloc]
  case cvStrBytes e x =>
    cases hu : x.ev σ <;> simp only [req, hu] at hr <;> (try (cases hr; done))
    simp only [Option.some.injEq, Prod.mk.injEq] at hr
    obtain ⟨-, rfl⟩ := hr
    simp [AOp.isAlloc]
  case cvStrBytesM x =>
    cases hu : x.ev σ <;> simp only [req, hu] at hr <;> (try (cases hr; done))
    simp only [Option.some.injEq, Prod.mk.injEq] at hr
    obtain ⟨-, rfl⟩ := hr
    simp [AOp.isAlloc]
  case rangeS x =>
    cases hu : x.ev σ <;> simp only [req, hu] at hr <;> (try (cases hr; done))
    simp only [Option.some.injEq, Prod.mk.injEq] at hr
    obtain ⟨-, rfl⟩ := hr
    simp [AOp.isAlloc]
  case mkslice z sz bytes e len cap =>
    simp only [req] at hr
    split at hr
    · split at hr
      · split at hr <;> simp only [Option.some.injEq, Prod.mk.injEq] at hr <;> obtain ⟨-, rfl⟩ := hr <;> simp [AOp.isAlloc]
      · cases hr
    · cases hr
  case mksliceM zs sz bytes len cap =>
    simp only [req] at hr
    split at hr
    · obtain rfl := kif hr; simp [AOp.isAlloc]
    · cases hr
  case load sz x =>
    cases hu : x.ev σ <;> simp only [req, hu] at hr <;> (try (cases hr; done))
    · split at hr
      · obtain rfl := kmap (f := id) hr; simp
      · cases hr
    · obtain rfl := kmap (f := id) hr; simp
  case store sz a x =>
    cases hu : a.ev σ <;> simp only [req, hu] at hr <;> (try (cases hr; done))
    split at hr
    · rename_i cs hl
      simp only [List.map_cons, List.map_nil, List.cons.injEq, and_true] at hl
      obtain rfl := kif hr
      intro p hp
      simp only [List.mem_singleton] at hp
      subst hp
      exact .inr (.inr ⟨_, hl, by simp⟩)
    · cases hr
  case cvMark x =>
    cases hu : x.ev σ <;> simp only [req, hu] at hr <;> (try (cases hr; done))
    rename_i sz xs r
    cases r <;> simp only at hr <;> (try (cases hr; done))
    split at hr
    · simp only [Option.some.injEq, Prod.mk.injEq] at hr; obtain ⟨-, rfl⟩ := hr; simp
    · cases hr
  case cvBytesStr x =>
    cases hu : x.ev σ <;> simp only [req, hu] at hr <;> (try (cases hr; done))
    · split at hr
      · obtain rfl := kmap (f := AV.str) hr; simp
      · cases hr
    · split at hr
      · split at hr
        · obtain rfl := kmap (f := AV.str) hr; simp
        · cases hr
      · cases hr
    · split at hr
      · split at hr
        · obtain rfl := kmap (f := AV.str) hr; simp
        · cases hr
      · cases hr
  case lenM x =>
    cases hu : x.ev σ <;> simp only [req, hu] at hr <;> (try (cases hr; done))
    · simp only [Option.some.injEq, Prod.mk.injEq] at hr; obtain ⟨-, rfl⟩ := hr; simp
    · split at hr
      · simp only [Option.some.injEq, Prod.mk.injEq] at hr; obtain ⟨-, rfl⟩ := hr; simp
      · cases hr
  case lookup z ok m k =>
    cases hu : m.ev σ <;> simp only [req, hu] at hr <;> (try (cases hr; done))
    · simp only [Option.some.injEq, Prod.mk.injEq] at hr; obtain ⟨-, rfl⟩ := hr; simp
    · split at hr
      · split at hr
        · simp only [Option.some.injEq, Prod.mk.injEq] at hr; obtain ⟨-, rfl⟩ := hr; simp
        · simp only [Option.some.injEq, Prod.mk.injEq] at hr; obtain ⟨-, rfl⟩ := hr; simp
        · cases hr
      · cases hr
  case update m k x =>
    cases hu : m.ev σ <;> simp only [req, hu] at hr <;> (try (cases hr; done))
    split at hr
    · rename_i es hl
      simp only [List.map_cons, List.map_nil, List.cons.injEq, and_true] at hl
      split at hr
      · simp only [Option.some.injEq, Prod.mk.injEq] at hr; obtain ⟨-, rfl⟩ := hr
        intro p hp
        simp only [List.mem_singleton] at hp
        subst hp
        exact .inr (.inr ⟨_, hl, by simp⟩)
      · simp only [Option.some.injEq, Prod.mk.injEq] at hr; obtain ⟨-, rfl⟩ := hr
        intro p hp
        simp only [List.mem_singleton] at hp
        subst hp
        exact .inr (.inr ⟨_, hl, by simp⟩)
      · cases hr
    · cases hr
  case next x =>
    cases hu : x.ev σ <;> simp only [req, hu] at hr <;> (try (cases hr; done))
    split at hr
    · rename_i l q hl
      simp only [List.map_cons, List.map_nil, List.cons.injEq, and_true] at hl
      split at hr <;> simp only [Option.some.injEq, Prod.mk.injEq] at hr <;> obtain ⟨-, rfl⟩ := hr
      · intro p hp
        simp only [List.mem_singleton] at hp
        subst hp
        exact .inr (.inr ⟨_, hl, by simp⟩)
      · simp
    · cases hr
  case copy sz d s =>
    cases hu : d.ev σ <;> simp only [req, hu] at hr <;> (try (cases hr; done))
    split at hr
    · rename_i ys cs hq hl
      simp only [List.map_cons, List.map_nil, List.cons.injEq, and_true] at hl
      obtain rfl := kif hr
      intro p hp
      simp only [List.mem_singleton] at hp
      subst hp
      exact .inr (.inr ⟨_, hl, by simp⟩)
    · cases hr
  case append sz bytes e s x =>
    cases hu : s.ev σ <;> simp only [req, hu] at hr <;> (try (cases hr; done))
    · rename_i s' xs r
      rcases hs : srcOf sz (x.ev σ) with _ | ys
      · rw [hs] at hr; cases hr
      · rw [hs] at hr
        cases r with
        | no => simp only at hr; obtain rfl := kif hr; simp
        | full =>
          simp only at hr
          split at hr
          · simp only [Option.some.injEq, Prod.mk.injEq] at hr; obtain ⟨-, rfl⟩ := hr; simp
          · obtain rfl := kif hr; simp [AOp.isAlloc]
        | tok t =>
          simp only at hr
          split at hr
          · simp only [Option.some.injEq, Prod.mk.injEq] at hr; obtain ⟨-, rfl⟩ := hr; simp
          · obtain rfl := kif hr; simp [AOp.isAlloc]
    · split at hr
      · obtain rfl := kif hr; simp [AOp.isAlloc]
      · cases hr
  all_goals (
    simp only [req, Option.map_eq_some_iff, Prod.mk.injEq] at hr
    obtain ⟨_, _, _, rfl⟩ := hr
    simp)

theorem aop_dead {P : Program} {O : CallO} (hO : CallOk P O) {σ : Slots} {h h' : Heap} {key : Nat} {op : AOp} {v : AV} (ha : aop O σ h key op = some (v, h')) :
    h.length ≤ h'.length ∧ ∀ k, h[k]? = some .dead → (op.isAlloc = true → k ≠ key) → h'[k]? = some .dead := by
  cases c : op.isCall
  · rw [aop_req O σ h key op c] at ha
    rcases hr : (req σ key op).2 ((req σ key op).1.map fun k => h[k]?) with _ | ⟨v', ws⟩
    · rw [hr] at ha; cases ha
    · rw [hr] at ha
      simp only [back_some, Option.some.injEq, Prod.mk.injEq] at ha
      obtain ⟨rfl, rfl⟩ := ha
      refine ⟨by rw [sets_length]; exact Nat.le_refl _, fun k hk hne => sets_dead hk fun p hp => ?_⟩
      rcases req_writes hr p hp with ⟨h1, h2⟩ | h1 | ⟨e, h1, h2⟩
      · exact .inl fun e => hne h1 (by rw [← e, h2])
      · exact .inr h1
      · refine .inl fun e' => ?_
        rw [e', hk] at h1
        injection h1 with h1
        exact h2 h1.symm
  · obtain ⟨f, xs, rfl⟩ : ∃ f xs, op = .call f xs := by cases op <;> first | exact ⟨_, _, rfl⟩ | cases c
    simp only [aop] at ha
    split at ha
    · obtain ⟨h1, h2, _⟩ := hO _ _ _ _ _ ha
      exact ⟨h1, fun k hk _ => h2 k hk⟩
    · cases ha

/-- No operation but a call looks at what is dead. -/
theorem req_dead {σ : Slots} {h : Heap} {key : Nat} {op : AOp} {v : AV} {ws : List (Nat × AE)} (hc : op.isCall = false) (hr : (req σ key op).2 ((req σ key op).1.map fun k => h[k]?) = some (v, ws)) :
    ((∀ b ∈ (req σ key op).1, h[b]? ≠ some .dead) ∨ ∀ l, (req σ key op).2 l = some (v, ws)) ∧ ∀ p ∈ ws, p.1 = key ∨ h[p.1]? ≠ some .dead := by
  have kmap : ∀ {α : Type} {x : Option α} {f : α → AV}, (x.map fun a => (f a, ([] : List (Nat × AE)))) = some (v, ws) → ws = [] := by
    intro α x f hh
    cases x <;> simp_all
  have kif : ∀ {c : Prop} {d : Decidable c} {x : AV} {us : List (Nat × AE)}, (@ite _ c d (some (x, us)) none) = some (v, ws) → ws = us := by
    intro c d x us hh
    split at hh <;> simp_all
  cases op
  case alloc zs => exact ⟨.inl (by simp [req]), by simp only [req, Option.some.injEq, Prod.mk.injEq] at hr; obtain ⟨-, rfl⟩ := hr; simp⟩
  case box n x => exact ⟨.inl (by simp [req]), by simp only [req] at hr; obtain rfl := kif hr; simp⟩
  case bsliceM sz xs => exact ⟨.inl (by simp [req]), by simp only [req] at hr; obtain rfl := kif hr; simp⟩
  case mkmap => exact ⟨.inl (by simp [req]), by simp only [req, Option.some.injEq, Prod.mk.injEq] at hr; obtain ⟨-, rfl⟩ := hr; simp⟩
  case cvStrBytes e x =>
    refine ⟨.inl (by simp [req]), ?_⟩
    cases hu : x.ev σ <;> simp only [req, hu] at hr <;> (try (cases hr; done))
    simp only [Option.some.injEq, Prod.mk.injEq] at hr
    obtain ⟨-, rfl⟩ := hr
    simp
  case cvStrBytesM x =>
    refine ⟨.inl (by simp [req]), ?_⟩
    cases hu : x.ev σ <;> simp only [req, hu] at hr <;> (try (cases hr; done))
    simp only [Option.some.injEq, Prod.mk.injEq] at hr
    obtain ⟨-, rfl⟩ := hr
    simp
  case rangeS x =>
    refine ⟨.inl (by simp [req]), ?_⟩
    cases hu : x.ev σ <;> simp only [req, hu] at hr <;> (try (cases hr; done))
    simp only [Option.some.injEq, Prod.mk.injEq] at hr
    obtain ⟨-, rfl⟩ := hr
    simp
  case mkslice z sz bytes e len cap =>
    refine ⟨.inl (by simp [req]), ?_⟩
    simp only [req] at hr
    split at hr
    · split at hr
      · split at hr <;> simp only [Option.some.injEq, Prod.mk.injEq] at hr <;> obtain ⟨-, rfl⟩ := hr <;> simp
      · cases hr
    · cases hr
  case mksliceM zs sz bytes len cap =>
    refine ⟨.inl (by simp [req]), ?_⟩
    simp only [req] at hr
    split at hr
    · obtain rfl := kif hr; simp
    · cases hr
  case load sz x =>
    cases hu : x.ev σ <;> simp only [req, hu] at hr ⊢ <;> (try (cases hr; done))
    · split at hr
      · rename_i cs hl
        simp only [List.map_cons, List.map_nil, List.cons.injEq, and_true] at hl
        obtain rfl := kmap (f := id) hr
        exact ⟨.inl (by simp [hl]), by simp⟩
      · cases hr
    · obtain rfl := kmap (f := id) hr
      exact ⟨.inl (by simp), by simp⟩
  case store sz a x =>
    cases hu : a.ev σ <;> simp only [req, hu] at hr ⊢ <;> (try (cases hr; done))
    split at hr
    · rename_i cs hl
      simp only [List.map_cons, List.map_nil, List.cons.injEq, and_true] at hl
      obtain rfl := kif hr
      exact ⟨.inl (by simp [hl]), by simp [hl]⟩
    · cases hr
  case cvMark x =>
    cases hu : x.ev σ <;> simp only [req, hu] at hr ⊢ <;> (try (cases hr; done))
    rename_i sz xs r
    cases r <;> simp only at hr ⊢ <;> (try (cases hr; done))
    split at hr
    · rename_i a b c hl
      simp only [List.map_cons, List.map_nil, List.cons.injEq, and_true] at hl
      simp only [Option.some.injEq, Prod.mk.injEq] at hr; obtain ⟨-, rfl⟩ := hr
      exact ⟨.inl (by simp [hl]), by simp⟩
    · cases hr
  case cvBytesStr x =>
    cases hu : x.ev σ <;> simp only [req, hu] at hr ⊢ <;> (try (cases hr; done))
    · split at hr
      · obtain rfl := kmap (f := AV.str) hr; exact ⟨.inl (by simp), by simp⟩
      · cases hr
    · split at hr
      · rename_i cs hl
        simp only [List.map_cons, List.map_nil, List.cons.injEq, and_true] at hl
        split at hr
        · obtain rfl := kmap (f := AV.str) hr; exact ⟨.inl (by simp [hl]), by simp⟩
        · cases hr
      · cases hr
    · split at hr
      · rename_i s cs hl
        simp only [List.map_cons, List.map_nil, List.cons.injEq, and_true] at hl
        split at hr
        · obtain rfl := kmap (f := AV.str) hr; exact ⟨.inl (by simp [hl]), by simp⟩
        · cases hr
      · cases hr
  case lenM x =>
    cases hu : x.ev σ <;> simp only [req, hu] at hr ⊢ <;> (try (cases hr; done))
    · simp only [Option.some.injEq, Prod.mk.injEq] at hr; obtain ⟨-, rfl⟩ := hr; exact ⟨.inl (by simp), by simp⟩
    · split at hr
      · rename_i es hl
        simp only [List.map_cons, List.map_nil, List.cons.injEq, and_true] at hl
        simp only [Option.some.injEq, Prod.mk.injEq] at hr; obtain ⟨-, rfl⟩ := hr; exact ⟨.inl (by simp [hl]), by simp⟩
      · cases hr
  case lookup z ok m k =>
    cases hu : m.ev σ <;> simp only [req, hu] at hr ⊢ <;> (try (cases hr; done))
    · simp only [Option.some.injEq, Prod.mk.injEq] at hr; obtain ⟨-, rfl⟩ := hr; exact ⟨.inl (by simp), by simp⟩
    · split at hr
      · rename_i es hl
        simp only [List.map_cons, List.map_nil, List.cons.injEq, and_true] at hl
        split at hr
        · simp only [Option.some.injEq, Prod.mk.injEq] at hr; obtain ⟨-, rfl⟩ := hr; exact ⟨.inl (by simp [hl]), by simp⟩
        · simp only [Option.some.injEq, Prod.mk.injEq] at hr; obtain ⟨-, rfl⟩ := hr; exact ⟨.inl (by simp [hl]), by simp⟩
        · cases hr
      · cases hr
  case update m k x =>
    cases hu : m.ev σ <;> simp only [req, hu] at hr ⊢ <;> (try (cases hr; done))
    split at hr
    · rename_i es hl
      simp only [List.map_cons, List.map_nil, List.cons.injEq, and_true] at hl
      split at hr
      · simp only [Option.some.injEq, Prod.mk.injEq] at hr; obtain ⟨-, rfl⟩ := hr; exact ⟨.inl (by simp [hl]), by simp [hl]⟩
      · simp only [Option.some.injEq, Prod.mk.injEq] at hr; obtain ⟨-, rfl⟩ := hr; exact ⟨.inl (by simp [hl]), by simp [hl]⟩
      · cases hr
    · cases hr
  case next x =>
    cases hu : x.ev σ <;> simp only [req, hu] at hr ⊢ <;> (try (cases hr; done))
    split at hr
    · rename_i l q hl
      simp only [List.map_cons, List.map_nil, List.cons.injEq, and_true] at hl
      split at hr <;> simp only [Option.some.injEq, Prod.mk.injEq] at hr <;> obtain ⟨-, rfl⟩ := hr
      · exact ⟨.inl (by simp [hl]), by simp [hl]⟩
      · exact ⟨.inl (by simp [hl]), by simp⟩
    · cases hr
  case copy sz d s =>
    cases hu : d.ev σ <;> simp only [req, hu] at hr ⊢ <;> (try (cases hr; done))
    split at hr
    · rename_i ys cs hq hl
      simp only [List.map_cons, List.map_nil, List.cons.injEq, and_true] at hl
      obtain rfl := kif hr
      exact ⟨.inl (by simp [hl]), by simp [hl]⟩
    · cases hr
  case append sz bytes e s x =>
    cases hu : s.ev σ <;> simp only [req, hu] at hr ⊢ <;> (try (cases hr; done))
    · rename_i s' xs r
      rcases hs : srcOf sz (x.ev σ) with _ | ys
      · rw [hs] at hr; cases hr
      · rw [hs] at hr
        simp only
        cases r with
        | no => simp only at hr ⊢; obtain rfl := kif hr; exact ⟨.inl (by simp), by simp⟩
        | full =>
          simp only at hr ⊢
          split at hr
          · simp only [Option.some.injEq, Prod.mk.injEq] at hr; obtain ⟨-, rfl⟩ := hr; exact ⟨.inl (by simp), by simp⟩
          · obtain rfl := kif hr; exact ⟨.inl (by simp), by simp⟩
        | tok t =>
          simp only at hr ⊢
          by_cases hy : ys = []
          · rw [if_pos hy] at hr
            refine ⟨.inr fun l => by rw [if_pos hy]; exact hr, ?_⟩
            simp only [Option.some.injEq, Prod.mk.injEq] at hr; obtain ⟨-, rfl⟩ := hr; simp
          · rw [if_neg hy] at hr
            split at hr
            · rename_i hcond
              have hl := hcond.2.1
              simp only [List.map_cons, List.map_nil, List.cons.injEq, and_true] at hl
              simp only [Option.some.injEq, Prod.mk.injEq] at hr; obtain ⟨-, rfl⟩ := hr
              exact ⟨.inl (by simp [hl]), by simp [hl]⟩
            · cases hr
    · split at hr
      · rename_i ys s'' cs hq hl
        simp only [List.map_cons, List.map_nil, List.cons.injEq, and_true] at hl
        obtain rfl := kif hr
        exact ⟨.inl (by simp [hl]), by simp [hl]⟩
      · cases hr
  case call f xs => cases hc
  all_goals (
    refine ⟨.inl (by simp [req]), ?_⟩
    simp only [req, Option.map_eq_some_iff, Prod.mk.injEq] at hr
    obtain ⟨_, _, _, rfl⟩ := hr
    simp)

theorem aop_fr {O : CallO} (hF : FrO O) {σ : Slots} {h h' : Heap} {key k : Nat} {op : AOp} {v : AV} (ha : aop O σ h key op = some (v, h')) (hk : h[k]? = some .dead) (hne : k ≠ key) (e : AE) : aop O σ (h.set k e) key op = some (v, h'.set k e) := by
  cases c : op.isCall
  · rw [aop_req O σ h key op c] at ha
    rw [aop_req O σ _ key op c]
    rcases hr : (req σ key op).2 ((req σ key op).1.map fun k => h[k]?) with _ | ⟨v', ws⟩
    · rw [hr] at ha; cases ha
    · rw [hr] at ha
      simp only [back_some, Option.some.injEq, Prod.mk.injEq] at ha
      obtain ⟨rfl, rfl⟩ := ha
      obtain ⟨d1, d2⟩ := req_dead c hr
      have hw : ∀ p ∈ ws, p.1 ≠ k := fun p hp e' => by
        rcases d2 p hp with h1 | h1
        · exact hne (by rw [← e', h1])
        · rw [e'] at h1; exact h1 hk
      have he : (req σ key op).2 ((req σ key op).1.map fun b => (h.set k e)[b]?) = some (v', ws) := by
        rcases d1 with d1 | d1
        · rw [← hr]
          refine congrArg _ (List.map_congr_left fun b hb => ?_)
          rw [List.getElem?_set_ne]
          intro e'; subst e'; exact d1 _ hb hk
        · exact d1 _
      rw [he]
      simp only [back_some]
      rw [sets_set hw]
  · obtain ⟨f, xs, rfl⟩ : ∃ f xs, op = .call f xs := by cases op <;> first | exact ⟨_, _, rfl⟩ | cases c
    simp only [aop] at ha ⊢
    split at ha
    · exact hF _ _ _ _ _ _ _ ha hk
    · cases ha

theorem foot_fr {σ : Slots} {h h' : Heap} {key k : Nat} {op : AOp} (hk : h[k]? = some .dead) (hk' : h'[k]? = some .dead) (e : AE) : foot σ (h.set k e) (h'.set k e) key op = foot σ h h' key op := by
  cases c : op.isCall
  · exact foot_noncall c
  · obtain ⟨f, xs, rfl⟩ : ∃ f xs, op = .call f xs := by cases op <;> first | exact ⟨_, _, rfl⟩ | cases c
    simp only [foot]
    by_cases hh : h' = h
    · rw [if_pos hh, if_pos (by rw [hh])]
    · rw [if_neg hh, if_neg]
      intro e'
      apply hh
      apply List.ext_getElem?
      intro i
      by_cases hi : i = k
      · rw [hi, hk, hk']
      · have := congrArg (fun l => l[i]?) e'
        simpa [List.getElem?_set, Ne.symm hi] using this

theorem stepA_dead {P : Program} {O : CallO} (hO : CallOk P O) {k0 : Nat} {o : AO} {σ σ1 : Slots} {h h1 : Heap} {f : Foot} (hs : stepA O k0 o σ h = some (σ1, h1, f)) :
    h.length ≤ h1.length ∧ ∀ k, h[k]? = some .dead → (o.op.isAlloc = true → k ≠ k0 + o.key) → h1[k]? = some .dead := by
  rcases stepA_cases hs with ⟨_, e⟩ | ⟨_, v, h', ha, e⟩
  · injection e with e1 e2; injection e2 with e2 e3; subst e2
    exact ⟨Nat.le_refl _, fun k hk _ => hk⟩
  · injection e with e1 e2; injection e2 with e2 e3; subst e2
    exact aop_dead hO ha

/-- What takes no place does not look at it. -/
theorem aop_nokey {O : CallO} {σ : Slots} {h : Heap} {key key' : Nat} {op : AOp} (hn : op.isAlloc = false) : aop O σ h key op = aop O σ h key' op := by
  cases op <;> first | rfl | cases hn

/-- How an operation was compiled. -/
def Cmp (P : Program) (mt : List String) (nt : Nat) (ops : Array Oper) (o : Oper) (ao : AO) : Prop :=
  ao.dst = o.dst ∧ (∀ d, o.dst = some d → d < nt) ∧ ao.op = compileOp' P mt o ∧
  match o.guard with
  | none => ao.guard = none
  | some (j, w) => ∃ g, (ops[j]?).bind (·.dst) = some g ∧ ao.guard = some (g, w)

section
variable {P : Program} {B : Nat} {w0 : World} {E : Env} {h : Heap} {a : Act} {w : World} {σ : Slots} {O : CallO} {mt : List String} {nt : Nat} {ops : Array Oper} {o : Oper} {ao : AO} {Q : Exit → Act → World → Prop}

theorem wanted_passed (hc : Cmp P mt nt ops o ao) (hs : SR E a σ) {b : Bool} (hp : passed σ ao.guard = some b) : Region.wanted o (yielded ops a.tmps) = !b := by
  obtain ⟨-, -, -, hg⟩ := hc
  unfold Region.wanted
  cases hgd : o.guard with
  | none =>
    rw [hgd] at hg
    simp only at hg
    rw [hg] at hp
    simp only [passed, Option.some.injEq] at hp
    subst hp; rfl
  | some p =>
    obtain ⟨j, want⟩ := p
    rw [hgd] at hg
    simp only at hg
    obtain ⟨g, hg1, hg2⟩ := hg
    rw [hg2] at hp
    simp only [passed] at hp
    split at hp
    · rename_i c hc
      have h1 := hs g
      rw [hc] at h1
      have h2 := h1.inv_bool
      have h3 : a.tmps[g]? = some (.bool c) := by
        rw [Array.getD_eq_getD_getElem?] at h2
        cases hx : a.tmps[g]? with
        | none => rw [hx] at h2; cases h2
        | some u => rw [hx] at h2; simp only [Option.getD_some] at h2; rw [h2]
      simp only [yielded, hg1, Option.bind_some, h3]
      injection hp with hp
      subst hp
      cases c <;> cases want <;> rfl
    · rename_i hc
      have h1 := hs g
      rw [hc] at h1
      have h2 : ∀ c, a.tmps[g]? ≠ some (.bool c) := by
        intro c h3
        rw [Array.getD_eq_getD_getElem?, h3] at h1
        cases h1
      have h4 : yielded ops a.tmps j = none := by
        unfold yielded
        rw [hg1, Option.bind_some]
        cases h3 : a.tmps[g]? with
        | none => rfl
        | some v => cases v <;> first | rfl | exact absurd h3 (h2 _)
      simp only [h4]
      injection hp with hp
      subst hp
      rfl
    · cases hp

theorem step_sim (hO : CallOk P O) (hc : Cmp P mt nt ops o ao) (hs : SR E a σ) (hsz : nt ≤ a.tmps.size) (hdf : a.defers = []) (r : Rel B w0 E h w) {k0 : Nat} (hk : ao.op.isAlloc = true → h[k0 + ao.key]? = some .dead ∧ E.ρ (k0 + ao.key) = none)
    {σ1 : Slots} {h1 : Heap} {f : Foot} (hst : stepA O k0 ao σ h = some (σ1, h1, f)) {i : Nat} (hi : ops[i]? = some o) {K : Act → World → Prop}
    (hK : ∀ a' w' E', SR E' a' σ1 → nt ≤ a'.tmps.size → a'.defers = [] → Rel B w0 E' h1 w' → E.le E' → (∀ b, b < h.length → (ao.op.isAlloc = true → b ≠ k0 + ao.key) → E'.ρ b = E.ρ b) → K a' w') : wpOp P ops Q i K a w := by
  obtain ⟨hd, hdl, hop, hg⟩ := hc
  have hdl' : ∀ x, o.dst = some x → x < a.tmps.size := fun x hx => Nat.lt_of_lt_of_le (hdl x hx) hsz
  unfold wpOp
  simp only [hi]
  rcases stepA_cases hst with ⟨hp, e⟩ | ⟨hp, v, h', ha, e⟩
  · injection e with e1 e2; injection e2 with e2 e3; subst e1; subst e2
    rw [wanted_passed ⟨hd, hdl, hop, hg⟩ hs hp]
    simp only [Bool.not_true, Bool.false_eq_true, if_false]
    rw [hd] at hK
    exact hK _ _ E (hs.put hdl' (.tup #[] [] rfl fun _ _ _ hu _ => by simp at hu)) (by rw [size_put]; exact hsz) (by rw [defers_put]; exact hdf) r E.le_refl fun _ _ _ => rfl
  · injection e with e1 e2; injection e2 with e2 e3; subst e1; subst e2
    rw [wanted_passed ⟨hd, hdl, hop, hg⟩ hs hp]
    simp only [Bool.not_false, if_true]
    refine .inl ?_
    rw [hd] at hK
    have hop' := hop
    unfold compileOp' at hop'
    cases hco : compileOp P mt o with
    | none =>
      rw [hco] at hop'
      simp only at hop'
      rw [hop'] at ha
      simp [aop] at ha
    | some op =>
      rw [hco] at hop'
      simp only at hop'
      cases hpv : op.proved with
      | false =>
        rw [hpv] at hop'
        simp only [Bool.false_eq_true, if_false] at hop'
        rw [hop'] at ha
        simp [aop] at ha
      | true =>
        rw [hpv, if_pos rfl] at hop'
        cases hcl : op.isCall with
        | false =>
          obtain ⟨val, w', E', hrun, hle, hρ, hrel, hrd⟩ : ∃ val w' E', ((execOp a.eval o).run P w = .ok (.value val) w' ∨ ((execOp a.eval o).run P w = .ok .skip w' ∧ val = undef)) ∧ E.le E' ∧ (∀ b, b < h.length → (ao.op.isAlloc = true → b ≠ k0 + ao.key) → E'.ρ b = E.ρ b) ∧ Rel B w0 E' h1 w' ∧ Rd E' val v := by
            cases hal : op.isAlloc with
            | true =>
              rw [hop'] at ha hk
              obtain ⟨val, w', E', hrun, hle, hρ, hrel, hrd⟩ := op_sound hco hpv hcl hs r hk ha
              exact ⟨val, w', E', hrun, hle, fun b _ hb => hρ b (hb (by rw [hop']; exact hal)), hrel, hrd⟩
            | false =>
              rw [hop'] at ha
              rw [aop_nokey (key' := h.length) hal] at ha
              obtain ⟨val, w', E', hrun, hle, hρ, hrel, hrd⟩ := op_sound hco hpv hcl hs r (fun hx => by rw [hal] at hx; cases hx) ha
              exact ⟨val, w', E', hrun, hle, fun b hb _ => hρ b (by omega), hrel, hrd⟩
          have hfin := hK (a.put o.dst val) w' E' ((hs.mono hle).put hdl' hrd) (by rw [size_put]; exact hsz) (by rw [defers_put]; exact hdf) hrel hle hρ
          unfold Oper.wp
          rcases hrun with hrun | ⟨hrun, rfl⟩
          · rw [hrun]; exact hfin
          · rw [hrun]; exact hfin
        | true =>
          obtain ⟨g, xs, rfl⟩ : ∃ g xs, op = .call g xs := by cases op <;> first | exact ⟨_, _, rfl⟩ | cases hcl
          have hcc : ∃ c, o.op = .call c ∧ compileCall P o.type c = some (.call g xs) := by
            cases hop2 : o.op <;> simp only [compileOp, hop2] at hco <;> first
              | exact ⟨_, rfl, hco⟩
              | (exfalso
                 clear hK hst hp ha hs hk hg hop hop' r
                 repeat' (split at hco)
                 all_goals first
                   | (cases hco; done)
                   | (injection hco with hco; cases hco; done)
                   | (injection hco with hco; split at hco <;> cases hco; done)
                   | (simp only [Option.map_eq_some_iff] at hco; obtain ⟨_, _, hco⟩ := hco; cases hco; done)
                   | (simp only [Option.map_eq_some_iff] at hco; obtain ⟨_, _, hco⟩ := hco; split at hco <;> cases hco; done)
                   | (rename_i hq; cases hq; done)
                   | skip)
          obtain ⟨c, hoc, hcomp⟩ := hcc
          have hcv : ∃ fv gx as, c.callee = .value fv ∧ cx P 0 fv = some gx ∧ cxTs P (c.args.toList.zipIdx.map fun p => (p.1, c.argTypes.getD p.2 0)) = some as ∧ gx = g ∧ as = xs := by
            unfold compileCall at hcomp
            split at hcomp
            · rename_i fv hcal
              split at hcomp
              · rename_i gx as h1 h2
                injection hcomp with hcomp
                injection hcomp with e1 e2
                exact ⟨fv, gx, as, hcal, h1, h2, e1, e2⟩
              · cases hcomp
            all_goals (
              exfalso
              repeat' (split at hcomp)
              all_goals first
                | (cases hcomp; done)
                | (injection hcomp with hcomp; cases hcomp; done)
                | (simp only [Option.map_eq_some_iff] at hcomp; obtain ⟨_, _, hcomp⟩ := hcomp; cases hcomp; done))
          obtain ⟨fv, gx, as, hcal, hfx, hax, rfl, rfl⟩ := hcv
          rw [hop'] at ha
          simp only [aop] at ha
          split at ha
          · rename_i F caps hgv
            have hF := cx_sound hfx hs
            rw [hgv] at hF
            obtain ⟨cs, hev, hcl1, hcl2⟩ : ∃ cs : Array Value, a.eval fv = .func (.func F) #[] cs ∧ cs.size = caps.length ∧ ∀ (i : Nat) (u : Value) (x : AV), cs[i]? = some u → caps[i]? = some x → Rd E u x := by
              generalize a.eval fv = u at hF
              cases hF with
              | fn _ cs _ h1 h2 => exact ⟨cs, rfl, h1, h2⟩
            obtain ⟨hl1, hl2⟩ := cxTs_sound hax hs
            obtain ⟨g1, g2, g3⟩ := hO _ _ _ _ _ ha
            have hargs := g3 B w0 E w (c.args.map a.eval ++ cs) r (by
                have : c.args.size = as.length := by simpa using hl1
                simp [this, hcl1]) (by
              intro i u x hu hx
              have hsz2 : c.args.size = as.length := by simpa using hl1
              rw [Array.getElem?_append] at hu
              rw [List.getElem?_append] at hx
              simp only [Array.size_map, List.length_map] at hu hx
              by_cases hlt : i < c.args.size
              · rw [if_pos hlt] at hu
                rw [if_pos (by omega)] at hx
                simp only [Array.getElem?_map, Option.map_eq_some_iff] at hu
                simp only [List.getElem?_map, Option.map_eq_some_iff] at hx
                obtain ⟨p, hp1, rfl⟩ := hu
                obtain ⟨q, hq1, rfl⟩ := hx
                refine hl2 i (p, c.argTypes.getD i 0) q ?_ hq1
                simp only [List.getElem?_map, List.getElem?_zipIdx, Array.getElem?_toList, hp1, Option.map_some, Nat.zero_add]
              · rw [if_neg hlt] at hu
                rw [if_neg (by omega)] at hx
                rw [hsz2] at hu
                exact hcl2 _ u x hu hx)
            have hrunE : execOp a.eval o = callFunc F (c.args.map a.eval ++ cs) := by
              unfold execOp
              rw [hoc]
              dsimp only
              unfold resolve
              rw [hcal]
              simp only [hev, Deferred.ofValue]
              simp [invoke]
            unfold Oper.wp
            rw [hrunE]
            unfold Fires at hargs
            have hpost : ∀ v' w', (∃ E', E.le E' ∧ (∀ b, b < h.length → E'.ρ b = E.ρ b) ∧ Rel B w0 E' h1 w' ∧ Rd E' v' v) → K (a.put o.dst v') w' := by
              intro v' w' hh
              obtain ⟨E', k1, k2, k3, k4⟩ := hh
              exact hK (a.put o.dst v') w' E' ((hs.mono k1).put hdl' k4) (by rw [size_put]; exact hsz) (by rw [defers_put]; exact hdf) k3 k1 fun b hb _ => k2 b hb
            split at hargs
            · rename_i v' w' hrun
              rw [hrun]
              exact hpost _ _ hargs
            · rename_i F' ys w' hrun
              rw [hrun]
              refine Calls.mono hargs fun e w'' he => ?_
              cases e with
              | returned v' => exact hpost _ _ he
              | panicked ch => exact he.elim
              | outgrown => exact he.elim
            · exact hargs.elim
          · cases ha
end
end Go.Am
