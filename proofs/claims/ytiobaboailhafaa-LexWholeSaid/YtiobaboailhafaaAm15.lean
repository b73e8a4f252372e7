/-
  Regions whose order is drawn: what can be done now may be done first.
-/
import Derived.Test.YtiobaboailhafaaAm14
import Derived.Orders
set_option linter.unusedVariables false
set_option linter.unusedSimpArgs false
namespace Go.Am
open Go

theorem apartA_spec {x y : AO} (h : apartA x y = true) : (∀ d, x.dst = some d → d ∉ y.reads) ∧ (∀ d, x.dst = some d → y.dst ≠ some d) ∧ (∀ d, y.dst = some d → d ∉ x.reads) := by
  refine ⟨fun d hd => ?_, fun d hd => ?_, fun d hd => ?_⟩ <;> simp [apartA, hd] at h
  · exact h.1.1
  · exact h.1.2
  · exact h.2

theorem agree_put {l : List Nat} {σ : Slots} {d : Option Nat} {v : AV} (h : ∀ x, d = some x → x ∉ l) : Agree l (put σ d v) σ := by
  cases d with
  | none => exact fun _ _ => rfl
  | some d =>
    intro t ht
    have : t ≠ d := fun e => h d rfl (e ▸ ht)
    simp [put, upd, this]

theorem put_comm {σ : Slots} {d e : Option Nat} {v u : AV} (h : ∀ x, d = some x → e ≠ some x) : put (put σ d v) e u = put (put σ e u) d v := by
  cases d with
  | none => rfl
  | some d =>
    cases e with
    | none => rfl
    | some e =>
      have hne : e ≠ d := fun x => h d rfl (by rw [x])
      funext t
      simp only [put, upd]
      by_cases h1 : t = e
      · subst h1; simp [hne]
      · simp [h1]

theorem passed_agree {σ τ : Slots} {g : Option (Nat × Bool)} (h : Agree (match g with | some (g, _) => [g] | none => []) σ τ) : passed σ g = passed τ g := by
  cases g with
  | none => rfl
  | some p =>
    obtain ⟨g, w⟩ := p
    have := h g (by simp)
    simp only [passed, this]

noncomputable def stepA (O : CallO) (k0 : Nat) (o : AO) (σ : Slots) (h : Heap) : Option (Slots × Heap × Foot) :=
  match passed σ o.guard with
  | some true => some (put σ o.dst (.tup []), h, ⟨some [], some []⟩)
  | some false =>
    match aop O σ h (k0 + o.key) o.op with
    | some (v, h') => some (put σ o.dst v, h', foot σ h h' (k0 + o.key) o.op)
    | none => none
  | none => none

theorem stepA_cases {O : CallO} {k0 : Nat} {o : AO} {σ : Slots} {h : Heap} {s : Slots × Heap × Foot} (hs : stepA O k0 o σ h = some s) :
    (passed σ o.guard = some true ∧ s = (put σ o.dst (.tup []), h, ⟨some [], some []⟩)) ∨ (passed σ o.guard = some false ∧ ∃ v h', aop O σ h (k0 + o.key) o.op = some (v, h') ∧ s = (put σ o.dst v, h', foot σ h h' (k0 + o.key) o.op)) := by
  unfold stepA at hs
  split at hs
  · rename_i hp
    injection hs with hs
    exact .inl ⟨hp, hs.symm⟩
  · rename_i hp
    split at hs
    · rename_i v h' ha
      injection hs with hs
      exact .inr ⟨hp, v, h', ha, hs.symm⟩
    · cases hs
  · cases hs

theorem stepA_pass {O : CallO} {k0 : Nat} {o : AO} {σ : Slots} {h : Heap} (hp : passed σ o.guard = some true) : stepA O k0 o σ h = some (put σ o.dst (.tup []), h, ⟨some [], some []⟩) := by simp [stepA, hp]
theorem stepA_do {O : CallO} {k0 : Nat} {o : AO} {σ : Slots} {h h' : Heap} {v : AV} (hp : passed σ o.guard = some false) (ha : aop O σ h (k0 + o.key) o.op = some (v, h')) : stepA O k0 o σ h = some (put σ o.dst v, h', foot σ h h' (k0 + o.key) o.op) := by simp [stepA, hp, ha]

theorem stepA_commute (O : CallO) {k0 : Nat} {o1 o2 : AO} {σ σ1 σ2 : Slots} {h h1 h2 : Heap} {f1 f2 : Foot} (hs1 : stepA O k0 o1 σ h = some (σ1, h1, f1)) (hs2 : stepA O k0 o2 σ1 h1 = some (σ2, h2, f2))
    (hF : FrO O) (hd : o2.op.isAlloc = true → h[k0 + o2.key]? = some .dead) (ha : apartA o1 o2 = true) (hn : f1.clash f2 = false) : ∃ σ' h', stepA O k0 o2 σ h = some (σ', h', f2) ∧ stepA O k0 o1 σ' h' = some (σ2, h2, f1) := by
  obtain ⟨a1, a2, a3⟩ := apartA_spec ha
  have g2 : ∀ v, passed (put σ o1.dst v) o2.guard = passed σ o2.guard := fun v => passed_agree (agree_put fun x hx hm => a1 x hx (by unfold AO.reads; exact List.mem_append_right _ hm))
  have g1 : ∀ v, passed (put σ o2.dst v) o1.guard = passed σ o1.guard := fun v => passed_agree (agree_put fun x hx hm => a3 x hx (by unfold AO.reads; exact List.mem_append_right _ hm))
  have t2 : ∀ v, Agree o2.op.tmps (put σ o1.dst v) σ := fun v => agree_put fun x hx hm => a1 x hx (by unfold AO.reads; exact List.mem_append_left _ hm)
  have t1 : ∀ v, Agree o1.op.tmps (put σ o2.dst v) σ := fun v => agree_put fun x hx hm => a3 x hx (by unfold AO.reads; exact List.mem_append_left _ hm)
  rcases stepA_cases hs1 with ⟨p1, e⟩ | ⟨p1, v1, h1', ao1, e⟩
  · injection e with e1 e2; injection e2 with e2 e3; subst e1; subst e2; subst e3
    rcases stepA_cases hs2 with ⟨p2, e⟩ | ⟨p2, v2, h2', ao2, e⟩
    · injection e with e1 e2; injection e2 with e2 e3; subst e1; subst e2; subst e3
      rw [g2] at p2
      exact ⟨_, _, stepA_pass p2, by rw [stepA_pass (by rw [g1]; exact p1), put_comm a2]⟩
    · injection e with e1 e2; injection e2 with e2 e3; subst e1; subst e2; subst e3
      rw [g2] at p2
      rw [aop_agree O _ _ (t2 _)] at ao2
      exact ⟨_, _, by rw [stepA_do p2 ao2, foot_agree _ _ _ (t2 _)], by rw [stepA_pass (by rw [g1]; exact p1), put_comm a2]⟩
  · injection e with e1 e2; injection e2 with e2 e3; subst e1; subst e2; subst e3
    rcases stepA_cases hs2 with ⟨p2, e⟩ | ⟨p2, v2, h2', ao2, e⟩
    · injection e with e1 e2; injection e2 with e2 e3; subst e1; subst e2; subst e3
      rw [g2] at p2
      exact ⟨_, _, stepA_pass p2, by rw [stepA_do (by rw [g1]; exact p1) (by rw [aop_agree O _ _ (t1 _)]; exact ao1), foot_agree _ _ _ (t1 _), put_comm a2]⟩
    · injection e with e1 e2; injection e2 with e2 e3; subst e1; subst e2; subst e3
      rw [g2] at p2
      rw [aop_agree O _ _ (t2 _)] at ao2
      rw [foot_agree _ _ _ (t2 _)] at hn
      obtain ⟨hc, b1, b2, b3, b4⟩ := aop_commute O ao1 ao2 hF hd hn
      refine ⟨_, hc, by rw [stepA_do p2 b1, b3, foot_agree _ _ _ (t2 _)], ?_⟩
      rw [stepA_do (by rw [g1]; exact p1) (by rw [aop_agree O _ _ (t1 _)]; exact b2), foot_agree _ _ _ (t1 _), put_comm a2, b4]

noncomputable def runL (O : CallO) (k0 : Nat) (as : List AO) : List Nat → Slots → Heap → Option (Slots × Heap × List (Nat × Foot))
  | [], σ, h => some (σ, h, [])
  | i :: r, σ, h =>
    match as[i]? with
    | some o =>
      match stepA O k0 o σ h with
      | some (σ1, h1, f) => (runL O k0 as r σ1 h1).map fun x => (x.1, x.2.1, (i, f) :: x.2.2)
      | none => none
    | none => none

theorem runL_cons {O : CallO} {k0 : Nat} {as : List AO} {i : Nat} {r : List Nat} {σ σ' : Slots} {h h' : Heap} {T : List (Nat × Foot)} (hr : runL O k0 as (i :: r) σ h = some (σ', h', T)) :
    ∃ o σ1 h1 f T', as[i]? = some o ∧ stepA O k0 o σ h = some (σ1, h1, f) ∧ runL O k0 as r σ1 h1 = some (σ', h', T') ∧ T = (i, f) :: T' := by
  simp only [runL] at hr
  split at hr
  · rename_i o ho
    split at hr
    · rename_i σ1 h1 f hs
      simp only [Option.map_eq_some_iff] at hr
      obtain ⟨⟨x1, x2, x3⟩, hx, e⟩ := hr
      simp only [Prod.mk.injEq] at e
      obtain ⟨rfl, rfl, rfl⟩ := e
      exact ⟨o, σ1, h1, f, x3, ho, hs, hx, rfl⟩
    · cases hr
  · cases hr
theorem runL_of {O : CallO} {k0 : Nat} {as : List AO} {i : Nat} {r : List Nat} {σ σ' σ1 : Slots} {h h' h1 : Heap} {T : List (Nat × Foot)} {o : AO} {f : Foot} (ho : as[i]? = some o) (hs : stepA O k0 o σ h = some (σ1, h1, f)) (hr : runL O k0 as r σ1 h1 = some (σ', h', T)) :
    runL O k0 as (i :: r) σ h = some (σ', h', (i, f) :: T) := by
  simp only [runL, ho, hs, hr, Option.map_some]

/-- The trace names the indices. -/
theorem runL_trace {O : CallO} {k0 : Nat} {as : List AO} : ∀ {l : List Nat} {σ σ' : Slots} {h h' : Heap} {T : List (Nat × Foot)}, runL O k0 as l σ h = some (σ', h', T) → T.map (·.1) = l
  | [], σ, σ', h, h', T, hr => by simp only [runL, Option.some.injEq, Prod.mk.injEq] at hr; obtain ⟨-, -, rfl⟩ := hr; rfl
  | i :: l, σ, σ', h, h', T, hr => by
    obtain ⟨o, σ1, h1, f, T', ho, hs, hr', rfl⟩ := runL_cons hr
    simp [runL_trace hr']

/-- What stands open may go first. -/
theorem runL_front (O : CallO) {k0 : Nat} {as : List AO} {i : Nat} {oi : AO} (hoi : as[i]? = some oi) {R : Nat × Foot → Nat × Foot → Prop} {post : List Nat} : ∀ (pre : List Nat) {σ σ' : Slots} {h h' : Heap} {T : List (Nat × Foot)},
    runL O k0 as (pre ++ i :: post) σ h = some (σ', h', T) → T.Pairwise R →
    (∀ k ∈ pre, (∀ o, as[k]? = some o → apartA o oi = true) ∧ ∀ f g, R (k, f) (i, g) → f.clash g = false) →
    FrO O → (oi.op.isAlloc = true → h[k0 + oi.key]? = some .dead) → (∀ k ∈ pre, ∀ o, as[k]? = some o → ∀ σ h σ1 h1 f, stepA O k0 o σ h = some (σ1, h1, f) → oi.op.isAlloc = true → h[k0 + oi.key]? = some .dead → h1[k0 + oi.key]? = some .dead) →
    ∃ σ1 h1 f T', stepA O k0 oi σ h = some (σ1, h1, f) ∧ runL O k0 as (pre ++ post) σ1 h1 = some (σ', h', T') ∧ T'.Pairwise R ∧ (i, f) ∈ T ∧ ∀ x ∈ T', x ∈ T
  | [], σ, σ', h, h', T, hr, hp, hk, hF, hd, hst => by
    obtain ⟨o, σ1, h1, f, T', ho, hs, hr', rfl⟩ := runL_cons hr
    rw [hoi] at ho; injection ho with ho; subst ho
    exact ⟨σ1, h1, f, T', hs, hr', (List.pairwise_cons.1 hp).2, List.mem_cons_self, fun x hx => List.mem_cons_of_mem _ hx⟩
  | k :: pre, σ, σ', h, h', T, hr, hp, hk, hF, hd, hst => by
    obtain ⟨o, σ1, h1, f, T', ho, hs, hr', rfl⟩ := runL_cons hr
    have hp' := List.pairwise_cons.1 hp
    obtain ⟨σ2, h2, fi, T2, s2, r2, p2, m2, sub⟩ := runL_front O hoi pre hr' hp'.2 (fun k hk' => hk k (List.mem_cons_of_mem _ hk')) hF (fun hal => hst k List.mem_cons_self o ho _ _ _ _ _ hs hal (hd hal)) (fun k hk' => hst k (List.mem_cons_of_mem _ hk'))
    have hkk := hk k List.mem_cons_self
    obtain ⟨σ3, h3, c1, c2⟩ := stepA_commute O hs s2 hF hd (hkk.1 o ho) (hkk.2 f fi (hp'.1 _ m2))
    refine ⟨σ3, h3, fi, (k, f) :: T2, c1, runL_of ho c2 r2, List.pairwise_cons.2 ⟨fun x hx => hp'.1 x (sub x hx), p2⟩, List.mem_cons_of_mem _ m2, fun x hx => ?_⟩
    rcases List.mem_cons.1 hx with rfl | hx
    · exact List.mem_cons_self
    · exact List.mem_cons_of_mem _ (sub x hx)

/-! ### The region in text order -/
theorem opsRunF_cons {O : CallO} {k0 : Nat} {o : AO} {r : List AO} {σ : Slots} {h : Heap} : opsRunF O k0 (o :: r) σ h = (match stepA O k0 o σ h with | some (σ1, h1, f) => (opsRunF O k0 r σ1 h1).map fun x => (x.1, x.2.1, f :: x.2.2) | none => none) := by
  simp only [opsRunF, stepA]
  rcases passed σ o.guard with _ | (_ | _)
  · rfl
  · dsimp only
    rcases aop O σ h (k0 + o.key) o.op with _ | ⟨v, h'⟩ <;> rfl
  · rfl

theorem opsRunF_runL {O : CallO} {k0 : Nat} : ∀ {rest pre : List AO} {σ σ' : Slots} {h h' : Heap} {fs : List Foot}, opsRunF O k0 rest σ h = some (σ', h', fs) →
    fs.length = rest.length ∧ runL O k0 (pre ++ rest) (List.range' pre.length rest.length) σ h = some (σ', h', (List.range' pre.length rest.length).zip fs)
  | [], pre, σ, σ', h, h', fs, hr => by
    simp only [opsRunF, Option.some.injEq, Prod.mk.injEq] at hr
    obtain ⟨rfl, rfl, rfl⟩ := hr
    exact ⟨rfl, rfl⟩
  | o :: rest, pre, σ, σ', h, h', fs, hr => by
    rw [opsRunF_cons] at hr
    split at hr
    · rename_i σ1 h1 f hs
      simp only [Option.map_eq_some_iff] at hr
      obtain ⟨⟨x1, x2, x3⟩, hx, e⟩ := hr
      simp only [Prod.mk.injEq] at e
      obtain ⟨rfl, rfl, rfl⟩ := e
      obtain ⟨e1, e2⟩ := opsRunF_runL (pre := pre ++ [o]) hx
      refine ⟨by simp [e1], ?_⟩
      simp only [List.length_cons, List.range'_succ, List.zip_cons_cons]
      refine runL_of (o := o) (by simp) hs ?_
      simpa using e2
    · cases hr

theorem foot_untouchy {σ : Slots} {h h' : Heap} {key : Nat} {op : AOp} (ht : op.touchy = false) : foot σ h h' key op = ⟨some [], some []⟩ := by
  cases op <;> first | rfl | cases ht
theorem foot_turns {σ : Slots} {h h' : Heap} {key : Nat} {op : AOp} (ht : op.turns = false) : (foot σ h h' key op).W = some [] := by
  cases op <;> first | (cases ht; done) | (simp only [foot]; split <;> rfl)
theorem clash_none_left {f : Foot} : (⟨some [], some []⟩ : Foot).clash f = false := by
  simp [Foot.clash, meet]
theorem clash_none_right {f : Foot} : f.clash ⟨some [], some []⟩ = false := by
  obtain ⟨a, b⟩ := f
  rcases a with _ | (_ | _) <;> rcases b with _ | (_ | _) <;> rfl
theorem clash_quiet {f g : Foot} (h1 : f.W = some []) (h2 : g.W = some []) : f.clash g = false := by
  have m1 : ∀ x : Option (List Nat), meet (some []) x = false := fun _ => rfl
  have m2 : ∀ x : Option (List Nat), meet x (some []) = false := fun x => by rcases x with _ | (_ | _) <;> rfl
  simp [Foot.clash, h1, h2, m1, m2]
theorem stepA_foot {O : CallO} {k0 : Nat} {o : AO} {σ σ1 : Slots} {h h1 : Heap} {f : Foot} (hs : stepA O k0 o σ h = some (σ1, h1, f)) : (o.op.touchy = false → f = ⟨some [], some []⟩) ∧ (o.op.turns = false → f.W = some []) := by
  rcases stepA_cases hs with ⟨_, e⟩ | ⟨_, v, h', _, e⟩
  · injection e with e1 e2; injection e2 with e2 e3; subst e3
    exact ⟨fun _ => rfl, fun _ => rfl⟩
  · injection e with e1 e2; injection e2 with e2 e3; subst e3
    exact ⟨fun ht => foot_untouchy ht, fun ht => foot_turns ht⟩

theorem runL_foot {O : CallO} {k0 : Nat} {as : List AO} : ∀ {l : List Nat} {σ σ' : Slots} {h h' : Heap} {T : List (Nat × Foot)}, runL O k0 as l σ h = some (σ', h', T) → ∀ x ∈ T, ∃ o, as[x.1]? = some o ∧ (o.op.touchy = false → x.2 = ⟨some [], some []⟩) ∧ (o.op.turns = false → x.2.W = some [])
  | [], σ, σ', h, h', T, hr => by simp only [runL, Option.some.injEq, Prod.mk.injEq] at hr; obtain ⟨-, -, rfl⟩ := hr; simp
  | i :: l, σ, σ', h, h', T, hr => by
    obtain ⟨o, σ1, h1, f, T', ho, hs, hr', rfl⟩ := runL_cons hr
    intro x hx
    rcases List.mem_cons.1 hx with rfl | hx
    · exact ⟨o, ho, stepA_foot hs⟩
    · exact runL_foot hr' x hx

/-- The order that stands fixed: 'i' comes before 'j'. -/
def fixed (ops : Array Oper) (i j : Nat) : Bool := ((Region.before ops).getD j 0).testBit i

theorem edgesOk_spec {ops : Array Oper} {as : List AO} (h : slotsOk ops as = true) {i : Nat} {o : Oper} (ho : ops[i]? = some o) {e : Edge} (he : e ∈ o.after) (hb : Region.binds .any e = true) : e.on < i := by
  simp only [slotsOk, Bool.and_eq_true, edgesOk, List.all_eq_true] at h
  have h1 := h.1 (o, i) (by rw [List.mem_zipIdx_iff_getElem?]; simpa using ho) e (by simpa using he)
  simpa [hb] using h1

theorem slotsOk_spec {ops : Array Oper} {as : List AO} (h : slotsOk ops as = true) {i j : Nat} (hij : i < j) {x y : AO} (hx : as[i]? = some x) (hy : as[j]? = some y) (hf : fixed ops i j = false) : apartA x y = true := by
  simp only [slotsOk, Bool.and_eq_true, List.all_eq_true, List.mem_range, Bool.or_eq_true] at h
  replace h := h.2
  have hj : j < as.length := (List.getElem?_eq_some_iff.1 hy).1
  rcases h j hj i hij with h | h
  · unfold fixed at hf; rw [h] at hf; cases hf
  · rw [List.getD_eq_getElem?_getD, List.getD_eq_getElem?_getD, hx, hy] at h
    exact h

def RT (ops : Array Oper) (x y : Nat × Foot) : Prop := x.1 < y.1 ∧ (fixed ops x.1 y.1 = false → x.2.clash y.2 = false)

theorem opsRunF_draw {O : CallO} {k0 : Nat} {ops : Array Oper} {as : List AO} {σ σ' : Slots} {h h' : Heap} {fs : List Foot} (hr : opsRunF O k0 as σ h = some (σ', h', fs)) (hp : pairsOk (openPairs ops as) fs = true) :
    ∃ T, runL O k0 as (List.range as.length) σ h = some (σ', h', T) ∧ T.Pairwise (RT ops) := by
  obtain ⟨e1, e2⟩ := opsRunF_runL (pre := []) hr
  simp only [List.nil_append, List.length_nil] at e2
  rw [← List.range_eq_range'] at e2
  refine ⟨_, e2, List.pairwise_iff_getElem.2 fun i j hi hj hij => ?_⟩
  have hl : ((List.range as.length).zip fs).length = as.length := by simp [e1]
  have gi : ∀ k (hk : k < ((List.range as.length).zip fs).length), ((List.range as.length).zip fs)[k] = (k, fs[k]'(by rw [hl] at hk; omega)) := by
    intro k hk
    simp
  have hi' : i < as.length := by omega
  have hj' : j < as.length := by omega
  obtain ⟨oi, hoi, ti, ui⟩ := runL_foot e2 _ (List.getElem_mem hi)
  obtain ⟨oj, hoj, tj, uj⟩ := runL_foot e2 _ (List.getElem_mem hj)
  rw [gi i hi] at hoi ti ui ⊢
  rw [gi j hj] at hoj tj uj ⊢
  refine ⟨hij, fun hf => ?_⟩
  simp only at hoi hoj ti ui tj uj hf ⊢
  by_cases t1 : oi.op.touchy = true
  case neg => rw [ti (by simpa using t1)]; exact clash_none_left
  by_cases t2 : oj.op.touchy = true
  case neg => rw [tj (by simpa using t2)]; exact clash_none_right
  by_cases u : (oi.op.turns || oj.op.turns) = true
  case neg =>
    simp only [Bool.or_eq_true, not_or, Bool.not_eq_true] at u
    exact clash_quiet (ui u.1) (uj u.2)
  have hm : (i, j) ∈ openPairs ops as := by
    unfold openPairs
    refine List.mem_flatMap.2 ⟨j, List.mem_range.2 hj', List.mem_filterMap.2 ⟨i, List.mem_range.2 hij, ?_⟩⟩
    have hf' : ((Region.before ops).getD j 0).testBit i = false := hf
    rw [List.getD_eq_getElem?_getD, List.getD_eq_getElem?_getD, hoi, hoj]
    simp only [Option.getD_some, t1, t2, u, Bool.true_and, Bool.and_true, hf', Bool.not_false, if_true]
  have := (List.all_eq_true.1 hp) (i, j) hm
  simp only [Bool.not_eq_true'] at this
  rw [List.getD_eq_getElem?_getD, List.getD_eq_getElem?_getD, List.getElem?_eq_getElem (by omega : i < fs.length), List.getElem?_eq_getElem (by omega : j < fs.length)] at this
  exact this

/-! ### What comes before what -/
theorem before_fold (acc : Array Nat) : ∀ (l : List Edge) (s : Nat) (k : Nat), (l.foldl (fun s e => if Region.binds .any e then s ||| 2 ^ e.on ||| acc.getD e.on 0 else s) s).testBit k = true →
    s.testBit k = true ∨ ∃ e ∈ l, Region.binds .any e = true ∧ (k = e.on ∨ (acc.getD e.on 0).testBit k = true)
  | [], s, k, h => .inl h
  | e :: l, s, k, h => by
    simp only [List.foldl_cons] at h
    rcases before_fold acc l _ k h with h | ⟨e', he', hb⟩
    · split at h
      · rename_i hb
        simp only [Nat.testBit_or, Bool.or_eq_true] at h
        rcases h with (h | h) | h
        · exact .inl h
        · refine .inr ⟨e, List.mem_cons_self, hb, .inl ?_⟩
          rw [Nat.testBit_two_pow] at h
          simpa [eq_comm] using h
        · exact .inr ⟨e, List.mem_cons_self, hb, .inr h⟩
      · exact .inl h
    · exact .inr ⟨e', List.mem_cons_of_mem _ he', hb⟩

def befG (acc : Array Nat) (o : Oper) : Nat := o.after.foldl (fun s e => if Region.binds .any e then s ||| 2 ^ e.on ||| acc.getD e.on 0 else s) 0

theorem befF_keep : ∀ (l : List Oper) (acc : Array Nat), (∀ x, x < acc.size → (l.foldl (fun acc o => acc.push (befG acc o)) acc).getD x 0 = acc.getD x 0) ∧ acc.size ≤ (l.foldl (fun acc o => acc.push (befG acc o)) acc).size
  | [], acc => ⟨fun x _ => rfl, Nat.le_refl _⟩
  | o :: l, acc => by
    obtain ⟨h1, h2⟩ := befF_keep l (acc.push (befG acc o))
    simp only [List.foldl_cons]
    refine ⟨fun x hx => ?_, by simp only [Array.size_push] at h2; omega⟩
    rw [h1 x (by simp; omega)]
    simp only [Array.getD_eq_getD_getElem?]
    rw [Array.getElem?_push_lt hx, Array.getElem?_eq_getElem hx]

theorem befF_at : ∀ (l : List Oper) (acc : Array Nat) (i : Nat) (o : Oper), l[i]? = some o → ∃ acc' : Array Nat, acc'.size = acc.size + i ∧ (∀ x, x < acc'.size → acc'.getD x 0 = (l.foldl (fun acc o => acc.push (befG acc o)) acc).getD x 0) ∧
    (l.foldl (fun acc o => acc.push (befG acc o)) acc).getD (acc.size + i) 0 = befG acc' o
  | [], acc, i, o, h => by simp at h
  | p :: l, acc, 0, o, h => by
    simp only [List.getElem?_cons_zero, Option.some.injEq] at h
    subst h
    refine ⟨acc, by simp, fun x hx => ((befF_keep (p :: l) acc).1 x hx).symm, ?_⟩
    simp only [List.foldl_cons, Nat.add_zero]
    rw [(befF_keep l (acc.push (befG acc p))).1 acc.size (by simp)]
    simp [Array.getD_eq_getD_getElem?]
  | p :: l, acc, i + 1, o, h => by
    simp only [List.getElem?_cons_succ] at h
    obtain ⟨acc', h1, h2, h3⟩ := befF_at l (acc.push (befG acc p)) i o h
    simp only [Array.size_push] at h1 h3
    simp only [List.foldl_cons]
    exact ⟨acc', by omega, h2, by rw [← h3]; congr 1; omega⟩

theorem before_eq (ops : Array Oper) : Region.before ops = ops.toList.foldl (fun acc o => acc.push (befG acc o)) #[] := by
  unfold Region.before
  rw [← Array.foldl_toList]
  rfl

theorem before_spec {ops : Array Oper} {k j : Nat} (h : fixed ops k j = true) : ∃ o, ops[j]? = some o ∧ ∃ e ∈ o.after, Region.binds .any e = true ∧ (k = e.on ∨ (e.on < j ∧ fixed ops k e.on = true)) := by
  unfold fixed at h ⊢
  rw [before_eq] at h ⊢
  cases ho : ops[j]? with
  | none =>
    exfalso
    have hs : (ops.toList.foldl (fun acc o => acc.push (befG acc o)) #[]).size = ops.size := by
      have : ∀ (l : List Oper) (acc : Array Nat), (l.foldl (fun acc o => acc.push (befG acc o)) acc).size = acc.size + l.length := by
        intro l
        induction l with
        | nil => intro acc; rfl
        | cons o l ih => intro acc; simp only [List.foldl_cons, ih, Array.size_push, List.length_cons]; omega
      rw [this]; simp
    have hj : ops.size ≤ j := by
      rcases Nat.lt_or_ge j ops.size with hh | hh
      · rw [Array.getElem?_eq_getElem hh] at ho; cases ho
      · exact hh
    rw [Array.getD_eq_getD_getElem?, Array.getElem?_eq_none (by rw [hs]; exact hj)] at h
    simp at h
  | some o =>
    obtain ⟨acc', h1, h2, h3⟩ := befF_at ops.toList #[] j o (by simpa using ho)
    simp only [List.size_toArray, List.length_nil, Nat.zero_add] at h1 h3
    rw [h3] at h
    unfold befG at h
    rw [← Array.foldl_toList] at h
    rcases before_fold acc' _ _ _ h with h | ⟨e, he, hb, hk⟩
    · simp at h
    · refine ⟨o, rfl, e, by simpa using he, hb, ?_⟩
      rcases hk with hk | hk
      · exact .inl hk
      · by_cases hlt : e.on < acc'.size
        · exact .inr ⟨by omega, by rw [← h2 _ hlt]; exact hk⟩
        · rw [Array.getD_eq_getD_getElem?, Array.getElem?_eq_none (by omega)] at hk
          simp at hk

/-- What is listed has all listed that comes before it. -/
def Closed (ops : Array Oper) (L : Array Bool) : Prop := ∀ i o, L.getD i false = true → ops[i]? = some o → ∀ e ∈ o.after, Region.binds .any e = true → L.getD e.on false = true

theorem fixed_listed {ops : Array Oper} {L : Array Bool} (hc : Closed ops L) : ∀ {j k : Nat}, L.getD j false = true → fixed ops k j = true → L.getD k false = true := by
  intro j
  induction j using Nat.strongRecOn with
  | _ j ih =>
    intro k hj hf
    obtain ⟨o, ho, e, he, hb, hk⟩ := before_spec hf
    have h1 := hc j o hj ho e he hb
    rcases hk with rfl | ⟨hlt, hk⟩
    · exact h1
    · exact ih e.on hlt h1 hk

theorem ready_fixed {ops : Array Oper} {L : Array Bool} (hc : Closed ops L) {i : Nat} (hi : i ∈ Region.ready .any ops L) {k : Nat} (hf : fixed ops k i = true) : L.getD k false = true := by
  obtain ⟨_, o, ho, hall⟩ := mem_ready.1 hi
  obtain ⟨o', ho', e, he, hb, hk⟩ := before_spec hf
  rw [ho] at ho'; injection ho' with ho'; subst ho'
  have h1 := hall e he hb
  rcases hk with rfl | ⟨hlt, hk⟩
  · exact h1
  · exact fixed_listed hc h1 hk

theorem Closed.set {ops : Array Oper} {L : Array Bool} (hc : Closed ops L) {i : Nat} (hi : i ∈ Region.ready .any ops L) : Closed ops (L.setIfInBounds i true) := by
  intro j o hj ho e he hb
  by_cases hji : i = j
  · subst hji
    obtain ⟨_, o', ho', hall⟩ := mem_ready.1 hi
    rw [ho] at ho'; injection ho' with ho'; subst ho'
    exact getD_set_true (hall e he hb)
  · rw [getD_set_ne false hji] at hj
    exact getD_set_true (hc j o hj ho e he hb)

end Go.Am
