/-
  Operations that don't meet change places: the same values, the same heap.
-/
import Derived.Test.YtiobaboailhafaaAm12
set_option linter.unusedVariables false
set_option linter.unusedSimpArgs false
namespace Go.Am
open Go

def memF : Option (List Nat) → Nat → Prop
  | none, _ => True
  | some l, k => k ∈ l

theorem meet_false {a b : Option (List Nat)} (h : meet a b = false) (k : Nat) (h1 : memF a k) (h2 : memF b k) : False := by
  unfold meet at h
  split at h
  · simp [memF] at h1
  · simp [memF] at h2
  · simp only [memF] at h1 h2
    rw [List.any_eq_false] at h
    exact h k h1 (List.contains_iff_mem.2 h2)
  · cases h

theorem meet_none_left {b : Option (List Nat)} (h : meet none b = false) : b = some [] := by
  rcases b with _ | (_ | ⟨x, l⟩) <;> first | rfl | cases h
theorem meet_none_right {b : Option (List Nat)} (h : meet b none = false) : b = some [] := by
  rcases b with _ | (_ | ⟨x, l⟩) <;> first | rfl | cases h

theorem sets_get {h : Heap} {ws : List (Nat × AE)} {k : Nat} (hn : ∀ p ∈ ws, p.1 ≠ k) : (sets h ws)[k]? = h[k]? := by
  induction ws generalizing h with
  | nil => rfl
  | cons p ws ih =>
    simp only [sets]
    rw [ih (fun q hq => hn q (List.mem_cons_of_mem _ hq)), List.getElem?_set_ne (hn p List.mem_cons_self)]

theorem sets_set {h : Heap} {ws : List (Nat × AE)} {k : Nat} {e : AE} (hn : ∀ p ∈ ws, p.1 ≠ k) : sets (h.set k e) ws = (sets h ws).set k e := by
  induction ws generalizing h with
  | nil => rfl
  | cons p ws ih =>
    simp only [sets]
    rw [← ih (fun q hq => hn q (List.mem_cons_of_mem _ hq)), List.set_comm _ _ (hn p List.mem_cons_self).symm]

theorem sets_comm {h : Heap} {ws us : List (Nat × AE)} (hn : ∀ p ∈ ws, ∀ q ∈ us, p.1 ≠ q.1) : sets (sets h ws) us = sets (sets h us) ws := by
  induction ws generalizing h with
  | nil => rfl
  | cons p ws ih =>
    simp only [sets]
    rw [ih (fun q hq => hn q (List.mem_cons_of_mem _ hq)), sets_set (fun q hq => (hn p List.mem_cons_self q hq).symm)]

theorem foot_noncall {σ : Slots} {h h' g g' : Heap} {key : Nat} {op : AOp} (hc : op.isCall = false) : foot σ h h' key op = foot σ g g' key op := by
  cases op <;> first | rfl | cases hc

theorem foot_req {σ : Slots} {h h' : Heap} {key : Nat} {op : AOp} (hc : op.isCall = false) {l : List (Option AE)} {v : AV} {ws : List (Nat × AE)} (hr : (req σ key op).2 l = some (v, ws)) :
    (∀ k ∈ (req σ key op).1, memF (foot σ h h' key op).R k) ∧ ∀ p ∈ ws, memF (foot σ h h' key op).W p.1 := by
  have kmap : ∀ {α : Type} {x : Option α} {f : α → AV}, (x.map fun a => (f a, ([] : List (Nat × AE)))) = some (v, ws) → ws = [] := by
    intro α x f hh
    cases x <;> simp_all
  have kif : ∀ {c : Prop} {d : Decidable c} {x : AV} {us : List (Nat × AE)}, (@ite _ c d (some (x, us)) none) = some (v, ws) → ws = us := by
    intro c d x us hh
    split at hh <;> simp_all
  cases op
  case call => cases hc
  case alloc zs => simp only [req, Option.some.injEq, Prod.mk.injEq] at hr; obtain ⟨-, rfl⟩ := hr; simp [req, foot, memF]
  case box n x => simp only [req] at hr; obtain rfl := kif hr; simp [req, foot, memF]
  case bsliceM sz xs => simp only [req] at hr; obtain rfl := kif hr; simp [req, foot, memF]
  case load sz x =>
    cases hu : x.ev σ <;> simp only [req, hu] at hr ⊢ <;> (try (cases hr; done)) <;> simp only [foot, hu, memF]
    · split at hr
      · obtain rfl := kmap (f := id) hr; simp
      · cases hr
    · obtain rfl := kmap (f := id) hr; simp
  case store sz a x =>
    cases hu : a.ev σ <;> simp only [req, hu] at hr ⊢ <;> (try (cases hr; done)) <;> simp only [foot, hu, memF]
    split at hr
    · obtain rfl := kif hr; simp
    · cases hr
  case cvStrBytes e x =>
    cases hu : x.ev σ <;> simp only [req, hu] at hr ⊢ <;> (try (cases hr; done)) <;> simp only [foot, memF]
    simp only [Option.some.injEq, Prod.mk.injEq] at hr
    obtain ⟨-, rfl⟩ := hr
    simp
  case cvStrBytesM x =>
    cases hu : x.ev σ <;> simp only [req, hu] at hr ⊢ <;> (try (cases hr; done)) <;> simp only [foot, memF]
    simp only [Option.some.injEq, Prod.mk.injEq] at hr
    obtain ⟨-, rfl⟩ := hr
    simp
  case rangeS x =>
    cases hu : x.ev σ <;> simp only [req, hu] at hr ⊢ <;> (try (cases hr; done)) <;> simp only [foot, memF]
    simp only [Option.some.injEq, Prod.mk.injEq] at hr
    obtain ⟨-, rfl⟩ := hr
    simp
  case mkmap => simp only [req, Option.some.injEq, Prod.mk.injEq] at hr; obtain ⟨-, rfl⟩ := hr; simp [req, foot, memF]
  case cvMark x =>
    cases hu : x.ev σ <;> simp only [req, hu] at hr ⊢ <;> (try (cases hr; done))
    rename_i sz xs r
    cases r <;> simp only at hr ⊢ <;> (try (cases hr; done))
    simp only [foot, hu, memF, rtKeys]
    split at hr
    · simp only [Option.some.injEq, Prod.mk.injEq] at hr; obtain ⟨-, rfl⟩ := hr; simp
    · cases hr
  case cvBytesStr x =>
    cases hu : x.ev σ <;> simp only [req, hu] at hr ⊢ <;> (try (cases hr; done)) <;> simp only [foot, hu, memF]
    · split at hr
      · obtain rfl := kmap (f := AV.str) hr; simp
      · cases hr
    · split at hr
      · split at hr
        · obtain rfl := kmap (f := AV.str) hr; simp
        · cases hr
      · cases hr
    · split at hr
      · split at hr
        · obtain rfl := kmap (f := AV.str) hr; simp
        · cases hr
      · cases hr
  case mkslice z sz bytes e len cap =>
    simp only [req] at hr
    split at hr
    · split at hr
      · split at hr <;> simp only [Option.some.injEq, Prod.mk.injEq] at hr <;> obtain ⟨-, rfl⟩ := hr <;> simp [req, foot, memF]
      · cases hr
    · cases hr
  case mksliceM zs sz bytes len cap =>
    simp only [req] at hr
    split at hr
    · obtain rfl := kif hr; simp [req, foot, memF]
    · cases hr
  case lenM x =>
    cases hu : x.ev σ <;> simp only [req, hu] at hr ⊢ <;> (try (cases hr; done)) <;> simp only [foot, hu, memF]
    · simp only [Option.some.injEq, Prod.mk.injEq] at hr; obtain ⟨-, rfl⟩ := hr; simp
    · split at hr
      · simp only [Option.some.injEq, Prod.mk.injEq] at hr; obtain ⟨-, rfl⟩ := hr; simp
      · cases hr
  case lookup z ok m k =>
    cases hu : m.ev σ <;> simp only [req, hu] at hr ⊢ <;> (try (cases hr; done)) <;> simp only [foot, hu, memF]
    · simp only [Option.some.injEq, Prod.mk.injEq] at hr; obtain ⟨-, rfl⟩ := hr; simp
    · split at hr
      · split at hr
        · simp only [Option.some.injEq, Prod.mk.injEq] at hr; obtain ⟨-, rfl⟩ := hr; simp
        · simp only [Option.some.injEq, Prod.mk.injEq] at hr; obtain ⟨-, rfl⟩ := hr; simp
        · cases hr
      · cases hr
  case update m k x =>
    cases hu : m.ev σ <;> simp only [req, hu] at hr ⊢ <;> (try (cases hr; done)) <;> simp only [foot, hu, memF]
    split at hr
    · split at hr
      · simp only [Option.some.injEq, Prod.mk.injEq] at hr; obtain ⟨-, rfl⟩ := hr; simp
      · simp only [Option.some.injEq, Prod.mk.injEq] at hr; obtain ⟨-, rfl⟩ := hr; simp
      · cases hr
    · cases hr
  case next x =>
    cases hu : x.ev σ <;> simp only [req, hu] at hr ⊢ <;> (try (cases hr; done)) <;> simp only [foot, hu, memF]
    split at hr
    · split at hr <;> simp only [Option.some.injEq, Prod.mk.injEq] at hr <;> obtain ⟨-, rfl⟩ := hr <;> simp
    · cases hr
  case copy sz d s =>
    cases hu : d.ev σ <;> simp only [req, hu] at hr ⊢ <;> (try (cases hr; done)) <;> simp only [foot, hu, memF]
    split at hr
    · obtain rfl := kif hr; simp
    · cases hr
  case append sz bytes e s x =>
    cases hu : s.ev σ <;> simp only [req, hu] at hr ⊢ <;> (try (cases hr; done)) <;> simp only [foot, hu, memF]
    · rename_i s' xs r
      rcases hs : srcOf sz (x.ev σ) with _ | ys
      · rw [hs] at hr; cases hr
      · rw [hs] at hr
        cases r with
        | no => simp only at hr; obtain rfl := kif hr; simp
        | full =>
          simp only at hr
          split at hr
          · simp only [Option.some.injEq, Prod.mk.injEq] at hr; obtain ⟨-, rfl⟩ := hr; simp
          · obtain rfl := kif hr; simp
        | tok t =>
          simp only at hr
          split at hr
          · simp only [Option.some.injEq, Prod.mk.injEq] at hr; obtain ⟨-, rfl⟩ := hr; simp [rtKeys]
          · obtain rfl := kif hr; simp [rtKeys]
    · split at hr
      · obtain rfl := kif hr; simp
      · cases hr
  all_goals (
    simp only [req, Option.map_eq_some_iff, Prod.mk.injEq] at hr
    obtain ⟨_, _, _, rfl⟩ := hr
    simp [req])

theorem foot_call {σ : Slots} {h h' : Heap} {key : Nat} {f : AX} {xs : List AX} : (h' = h ∧ foot σ h h' key (.call f xs) = ⟨none, some []⟩) ∨ (h' ≠ h ∧ foot σ h h' key (.call f xs) = ⟨none, none⟩) := by
  by_cases e : h' = h
  · exact .inl ⟨e, by simp [foot, e]⟩
  · exact .inr ⟨e, by simp [foot, e]⟩

theorem clash_parts {a b : Foot} (h : a.clash b = false) : (a.quiet = true ∧ b.fresh = true) ∨ (meet a.W b.R = false ∧ meet a.W b.W = false ∧ meet a.R b.W = false) := by
  simp only [Foot.clash, Bool.and_eq_false_iff, Bool.not_eq_false', Bool.and_eq_true, Bool.or_eq_false_iff] at h
  rcases h with h | h
  · exact .inl h
  · exact .inr ⟨h.1.1, h.1.2, h.2⟩

theorem noncall_R {σ : Slots} {h h' : Heap} {key : Nat} {op : AOp} (hc : op.isCall = false) (hw : (foot σ h h' key op).W = some []) : (foot σ h h' key op).R ≠ none := by
  cases op <;> simp only [foot] at hw ⊢ <;> (try (split at hw)) <;> simp_all [AOp.isCall]

/-- A call doesn't look at what is dead. -/
def FrO (O : CallO) : Prop := ∀ f a h r h' k e, O f a h = some (r, h') → h[k]? = some AE.dead → O f a (h.set k e) = some (r, h'.set k e)

/-- What looks at nothing turns its own place alone. -/
theorem req_fresh {σ : Slots} {h h' : Heap} {key : Nat} {op : AOp} (hc : op.isCall = false) {l : List (Option AE)} {v : AV} {ws : List (Nat × AE)} (hf : (foot σ h h' key op).R = some []) (hr : (req σ key op).2 l = some (v, ws)) :
    ws = [] ∨ ∃ e, op.isAlloc = true ∧ ws = [(key, e)] := by
  have kmap : ∀ {α : Type} {x : Option α} {f : α → AV}, (x.map fun a => (f a, ([] : List (Nat × AE)))) = some (v, ws) → ws = [] := by
    intro α x f hh
    cases x <;> simp_all
  have kif : ∀ {c : Prop} {d : Decidable c} {x : AV} {us : List (Nat × AE)}, (@ite _ c d (some (x, us)) none) = some (v, ws) → ws = us := by
    intro c d x us hh
    split at hh <;> simp_all
  cases op
  case alloc zs => simp only [req, Option.some.injEq, Prod.mk.injEq] at hr; obtain ⟨-, rfl⟩ := hr; simp [AOp.isAlloc]
  case box n x => simp only [req] at hr; obtain rfl := kif hr; simp [AOp.isAlloc]
  case bsliceM sz xs => simp only [req] at hr; obtain rfl := kif hr; simp [AOp.isAlloc]
  case mkmap => simp only [req, Option.some.injEq, Prod.mk.injEq] at hr; obtain ⟨-, rfl⟩ := hr; simp [AOp.isAlloc]
  case cvStrBytes e x =>
    cases hu : x.ev σ <;> simp only [req, hu] at hr <;> (try (cases hr; done))
    simp only [Option.some.injEq, Prod.mk.injEq] at hr
    obtain ⟨-, rfl⟩ := hr
    simp [AOp.isAlloc]
  case cvStrBytesM x =>
    cases hu : x.ev σ <;> simp only [req, hu] at hr <;> (try (cases hr; done))
    simp only [Option.some.injEq, Prod.mk.injEq] at hr
    obtain ⟨-, rfl⟩ := hr
    simp [AOp.isAlloc]
  case rangeS x =>
    cases hu : x.ev σ <;> simp only [req, hu] at hr <;> (try (cases hr; done))
    simp only [Option.some.injEq, Prod.mk.injEq] at hr
    obtain ⟨-, rfl⟩ := hr
    simp [AOp.isAlloc]
  case mkslice z sz bytes e len cap =>
    simp only [req] at hr
    split at hr
    · split at hr
      · split at hr <;> simp only [Option.some.injEq, Prod.mk.injEq] at hr <;> obtain ⟨-, rfl⟩ := hr <;> simp [AOp.isAlloc]
      · cases hr
    · cases hr
  case mksliceM zs sz bytes len cap =>
    simp only [req] at hr
    split at hr
    · obtain rfl := kif hr; simp [AOp.isAlloc]
    · cases hr
  case load sz x =>
    cases hu : x.ev σ <;> simp only [req, hu] at hr <;> (try (cases hr; done))
    · simp [foot, hu] at hf
    · obtain rfl := kmap (f := id) hr; simp
  case store sz a x =>
    cases hu : a.ev σ <;> simp only [req, hu] at hr <;> (try (cases hr; done))
    simp [foot, hu] at hf
  case cvMark x =>
    cases hu : x.ev σ <;> simp only [req, hu] at hr <;> (try (cases hr; done))
    rename_i sz xs r
    cases r <;> simp only at hr <;> (try (cases hr; done))
    simp [foot, hu, rtKeys] at hf
  case cvBytesStr x =>
    cases hu : x.ev σ <;> simp only [req, hu] at hr <;> (try (cases hr; done))
    · split at hr
      · obtain rfl := kmap (f := AV.str) hr; simp
      · cases hr
    · simp [foot, hu] at hf
    · simp [foot, hu] at hf
  case lenM x =>
    cases hu : x.ev σ <;> simp only [req, hu] at hr <;> (try (cases hr; done))
    · simp only [Option.some.injEq, Prod.mk.injEq] at hr; obtain ⟨-, rfl⟩ := hr; simp
    · simp [foot, hu] at hf
  case lookup z ok m k =>
    cases hu : m.ev σ <;> simp only [req, hu] at hr <;> (try (cases hr; done))
    · simp only [Option.some.injEq, Prod.mk.injEq] at hr; obtain ⟨-, rfl⟩ := hr; simp
    · simp [foot, hu] at hf
  case update m k x =>
    cases hu : m.ev σ <;> simp only [req, hu] at hr <;> (try (cases hr; done))
    simp [foot, hu] at hf
  case next x =>
    cases hu : x.ev σ <;> simp only [req, hu] at hr <;> (try (cases hr; done))
    simp [foot, hu] at hf
  case copy sz d s =>
    cases hu : d.ev σ <;> simp only [req, hu] at hr <;> (try (cases hr; done))
    simp [foot, hu] at hf
  case append sz bytes e s x =>
    cases hu : s.ev σ <;> simp only [req, hu] at hr <;> (try (cases hr; done))
    · rename_i s' xs r
      rcases hs : srcOf sz (x.ev σ) with _ | ys
      · rw [hs] at hr; cases hr
      · rw [hs] at hr
        cases r with
        | no => simp only at hr; obtain rfl := kif hr; simp
        | full =>
          simp only at hr
          split at hr
          · simp only [Option.some.injEq, Prod.mk.injEq] at hr; obtain ⟨-, rfl⟩ := hr; simp
          · obtain rfl := kif hr; simp [AOp.isAlloc]
        | tok t => simp [foot, hu, rtKeys] at hf
    · simp [foot, hu] at hf
  all_goals (
    simp only [req, Option.map_eq_some_iff, Prod.mk.injEq] at hr
    obtain ⟨_, _, _, rfl⟩ := hr
    exact .inl rfl)

/-- A no-call whose footprint turns nothing leaves the heap; if it looks at nothing either, it is the same over any heap. -/
theorem aop_still {O : CallO} {σ : Slots} {h ha : Heap} {k : Nat} {op : AOp} {v : AV} (hc : op.isCall = false) (h1 : aop O σ h k op = some (v, ha)) (hw : (foot σ h ha k op).W = some []) : ha = h := by
  rw [aop_req O σ h k op hc] at h1
  rcases hr : (req σ k op).2 ((req σ k op).1.map fun k => h[k]?) with _ | ⟨v', ws⟩
  · rw [hr] at h1; cases h1
  · rw [hr] at h1
    simp only [back_some, Option.some.injEq, Prod.mk.injEq] at h1
    obtain ⟨rfl, rfl⟩ := h1
    have := (foot_req (h := h) (h' := sets h ws) hc hr).2
    rw [hw] at this
    cases ws with
    | nil => rfl
    | cons p ws => exact absurd (this p List.mem_cons_self) (by simp [memF])

theorem aop_free {O : CallO} {σ : Slots} {h ha g : Heap} {k : Nat} {op : AOp} {v : AV} (hc : op.isCall = false) (h1 : aop O σ h k op = some (v, ha)) (hr0 : (foot σ h ha k op).R = some []) (hw : (foot σ h ha k op).W = some []) : aop O σ g k op = some (v, g) := by
  rw [aop_req O σ h k op hc] at h1
  rw [aop_req O σ g k op hc]
  rcases hr : (req σ k op).2 ((req σ k op).1.map fun k => h[k]?) with _ | ⟨v', ws⟩
  · rw [hr] at h1; cases h1
  · rw [hr] at h1
    simp only [back_some, Option.some.injEq, Prod.mk.injEq] at h1
    obtain ⟨rfl, rfl⟩ := h1
    have := foot_req (h := h) (h' := sets h ws) hc hr
    rw [hw, hr0] at this
    have e1 : (req σ k op).1 = [] := by
      cases e : (req σ k op).1 with
      | nil => rfl
      | cons p l => exact absurd (this.1 p (by rw [e]; exact List.mem_cons_self)) (by simp [memF])
    have e2 : ws = [] := by
      cases ws with
      | nil => rfl
      | cons p ws => exact absurd (this.2 p List.mem_cons_self) (by simp [memF])
    subst e2
    rw [e1] at hr ⊢
    simp only [List.map_nil] at hr ⊢
    rw [hr]; rfl

theorem aop_commute (O : CallO) {σ τ : Slots} {h ha hb : Heap} {k1 k2 : Nat} {op1 op2 : AOp} {v1 v2 : AV} (h1 : aop O σ h k1 op1 = some (v1, ha)) (h2 : aop O τ ha k2 op2 = some (v2, hb))
    (hF : FrO O) (hd : op2.isAlloc = true → h[k2]? = some .dead) (hn : (foot σ h ha k1 op1).clash (foot τ ha hb k2 op2) = false) :
    ∃ hc, aop O τ h k2 op2 = some (v2, hc) ∧ aop O σ hc k1 op1 = some (v1, hb) ∧ foot τ h hc k2 op2 = foot τ ha hb k2 op2 ∧ foot σ hc hb k1 op1 = foot σ h ha k1 op1 := by
  rcases clash_parts hn with ⟨q1, q2⟩ | ⟨n1, n2, n3⟩
  · simp only [Foot.quiet, Foot.fresh, Bool.and_eq_true, beq_iff_eq] at q1 q2
    have c2 : op2.isCall = false := by
      cases c2 : op2.isCall
      · rfl
      · obtain ⟨f, xs, rfl⟩ : ∃ f xs, op2 = .call f xs := by cases op2 <;> first | exact ⟨_, _, rfl⟩ | cases c2
        rcases foot_call (σ := τ) (h := ha) (h' := hb) (key := k2) (f := f) (xs := xs) with ⟨_, e⟩ | ⟨_, e⟩ <;> rw [e] at q2 <;> cases q2
    cases c1 : op1.isCall
    · exact absurd q1.1 (noncall_R c1 q1.2)
    · obtain ⟨f, xs, rfl⟩ : ∃ f xs, op1 = .call f xs := by cases op1 <;> first | exact ⟨_, _, rfl⟩ | cases c1
      have hha : ha = h := by
        rcases foot_call (σ := σ) (h := h) (h' := ha) (key := k1) (f := f) (xs := xs) with ⟨e, _⟩ | ⟨_, e⟩
        · exact e
        · rw [e] at q1; cases q1.2
      subst hha
      have h2' := h2
      rw [aop_req O τ ha k2 op2 c2] at h2'
      rcases r2 : (req τ k2 op2).2 ((req τ k2 op2).1.map fun k => ha[k]?) with _ | ⟨v'', us⟩
      · rw [r2] at h2'; cases h2'
      · rw [r2] at h2'
        simp only [back_some, Option.some.injEq, Prod.mk.injEq] at h2'
        obtain ⟨rfl, rfl⟩ := h2'
        rcases req_fresh c2 q2 r2 with rfl | ⟨e, hal, rfl⟩
        · exact ⟨ha, h2, h1, rfl, rfl⟩
        · simp only [sets] at h2 ⊢
          refine ⟨_, h2, ?_, rfl, ?_⟩
          · simp only [aop] at h1 ⊢
            split at h1
            · exact hF _ _ _ _ _ _ _ h1 (hd hal)
            · cases h1
          · simp [foot]
  cases c1 : op1.isCall
  · cases c2 : op2.isCall
    · have q1 := h1
      have q2 := h2
      rw [aop_req O σ h k1 op1 c1] at h1
      rw [aop_req O τ ha k2 op2 c2] at h2
      rcases r1 : (req σ k1 op1).2 ((req σ k1 op1).1.map fun k => h[k]?) with _ | ⟨v', ws⟩
      · rw [r1] at h1; cases h1
      · rw [r1] at h1
        simp only [back_some, Option.some.injEq, Prod.mk.injEq] at h1
        obtain ⟨rfl, rfl⟩ := h1
        rcases r2 : (req τ k2 op2).2 ((req τ k2 op2).1.map fun k => (sets h ws)[k]?) with _ | ⟨v'', us⟩
        · rw [r2] at h2; cases h2
        · rw [r2] at h2
          simp only [back_some, Option.some.injEq, Prod.mk.injEq] at h2
          obtain ⟨rfl, rfl⟩ := h2
          have f1 := foot_req (h := h) (h' := sets h ws) c1 r1
          have f2 := foot_req (h := sets h ws) (h' := sets (sets h ws) us) c2 r2
          have e2 : ((req τ k2 op2).1.map fun k => (sets h ws)[k]?) = (req τ k2 op2).1.map fun k => h[k]? := by
            apply List.map_congr_left
            intro k hk
            exact sets_get fun p hp e => meet_false n1 k (by rw [← e]; exact f1.2 p hp) (f2.1 k hk)
          rw [e2] at r2
          have e1 : ((req σ k1 op1).1.map fun k => (sets h us)[k]?) = (req σ k1 op1).1.map fun k => h[k]? := by
            apply List.map_congr_left
            intro k hk
            exact sets_get fun p hp e => meet_false n3 k (f1.1 k hk) (by rw [← e]; exact f2.2 p hp)
          refine ⟨sets h us, ?_, ?_, foot_noncall c2, foot_noncall c1⟩
          · rw [aop_req O τ h k2 op2 c2, r2]; rfl
          · rw [aop_req O σ _ k1 op1 c1, e1, r1]
            simp only [back_some]
            rw [sets_comm fun p hp q hq e => meet_false n2 q.1 (by rw [← e]; exact f1.2 p hp) (f2.2 q hq)]
    · obtain ⟨f, xs, rfl⟩ : ∃ f xs, op2 = .call f xs := by cases op2 <;> first | exact ⟨_, _, rfl⟩ | cases c2
      rcases foot_call (σ := τ) (h := ha) (h' := hb) (key := k2) (f := f) (xs := xs) with ⟨rfl, e⟩ | ⟨hne, e⟩
      · rw [e] at n1 n2 n3
        have hw := meet_none_right n1
        obtain rfl := aop_still c1 h1 hw
        exact ⟨hb, h2, h1, rfl, rfl⟩
      · rw [e] at n1 n2 n3
        have hw := meet_none_right n1
        have hr := meet_none_right n3
        obtain rfl := aop_still c1 h1 hw
        exact ⟨hb, h2, aop_free c1 h1 hr hw, rfl, foot_noncall c1⟩
  · obtain ⟨f, xs, rfl⟩ : ∃ f xs, op1 = .call f xs := by cases op1 <;> first | exact ⟨_, _, rfl⟩ | cases c1
    rcases foot_call (σ := σ) (h := h) (h' := ha) (key := k1) (f := f) (xs := xs) with ⟨rfl, e⟩ | ⟨hne, e⟩
    · rw [e] at n1 n2 n3
      have hw := meet_none_left n3
      cases c2 : op2.isCall
      · obtain rfl := aop_still c2 h2 hw
        exact ⟨hb, h2, h1, rfl, rfl⟩
      · obtain ⟨f', xs', rfl⟩ : ∃ f xs, op2 = .call f xs := by cases op2 <;> first | exact ⟨_, _, rfl⟩ | cases c2
        rcases foot_call (σ := τ) (h := ha) (h' := hb) (key := k2) (f := f') (xs := xs') with ⟨rfl, e'⟩ | ⟨hne', e'⟩
        · exact ⟨hb, h2, h1, rfl, rfl⟩
        · rw [e'] at hw; cases hw
    · rw [e] at n1 n2 n3
      have hw := meet_none_left n2
      have hr := meet_none_left n1
      cases c2 : op2.isCall
      · obtain rfl := aop_still c2 h2 hw
        exact ⟨h, aop_free c2 h2 hr hw, h1, foot_noncall c2, rfl⟩
      · obtain ⟨f', xs', rfl⟩ : ∃ f xs, op2 = .call f xs := by cases op2 <;> first | exact ⟨_, _, rfl⟩ | cases c2
        rcases foot_call (σ := τ) (h := ha) (h' := hb) (key := k2) (f := f') (xs := xs') with ⟨rfl, e'⟩ | ⟨hne', e'⟩
        · rw [e'] at hr; cases hr
        · rw [e'] at hr; cases hr

end Go.Am
