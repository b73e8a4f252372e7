/-
  The calculus as equations, for simp.
-/
import Derived.Test.YtiobaboailhafaaAm21
set_option linter.unusedVariables false
set_option linter.unusedSimpArgs false
namespace Go.Am
open Go

def onB (x : AV) (f : Bool → Prop) : Prop := ∃ b, x = .bool b ∧ f b
@[simp] theorem onB_bool (b : Bool) (f : Bool → Prop) : onB (.bool b) f = f b := by
  apply propext
  exact ⟨fun ⟨_, e, k⟩ => (by injection e with e; subst e; exact k), fun k => ⟨b, rfl, k⟩⟩

/-! What simp looks into: what is computed next, and not what comes behind it. -/
@[congr] theorem onO_congr {x y : Option (AV × Heap)} {f : AV → Heap → Prop} (e : x = y) : onO x f = onO y f := by rw [e]
@[congr] theorem onV_congr {x y : Option AV} {f : AV → Prop} (e : x = y) : onV x f = onV y f := by rw [e]
/-- A guard's value; where it was passed over itself: as if it said no. -/
def onG (w : Bool) (x : AV) (f : Bool → Prop) : Prop := (∃ b, x = .bool b ∧ f b) ∨ (x = .tup [] ∧ f (!w))
@[simp] theorem onG_bool (w b : Bool) (f : Bool → Prop) : onG w (.bool b) f = f b := by
  apply propext
  exact ⟨fun | .inl ⟨_, e, k⟩ => (by injection e with e; subst e; exact k) | .inr ⟨e, _⟩ => (by cases e), fun k => .inl ⟨_, rfl, k⟩⟩
@[simp] theorem onG_off (w : Bool) (f : Bool → Prop) : onG w (.tup []) f = f (!w) := by
  apply propext
  exact ⟨fun | .inl ⟨_, e, k⟩ => (by cases e) | .inr ⟨_, k⟩ => k, fun k => .inr ⟨rfl, k⟩⟩
@[congr] theorem onG_congr {w : Bool} {x y : AV} {f : Bool → Prop} (e : x = y) : onG w x f = onG w y f := by rw [e]
@[congr] theorem onB_congr {x y : AV} {f : Bool → Prop} (e : x = y) : onB x f = onB y f := by rw [e]
@[congr] theorem Wp_congr {O : Orc} {c : AC} {Q : Ex → Slots → Heap → Prop} {σ : Slots} {h h' : Heap} (e : h = h') : Wp O c Q σ h = Wp O c Q σ h' := by rw [e]
@[congr] theorem OpsQ_congr {O : CallO} {k k' : Nat} {ops : List AO} {K : Slots → Heap → Prop} {σ : Slots} {h h' : Heap} (e1 : k = k') (e2 : h = h') : OpsQ O k ops K σ h = OpsQ O k' ops K σ h' := by rw [e1, e2]
@[congr] theorem Ops_congr {O : CallO} {k k' : Nat} {ops : List AO} {fs fs' : List Foot} {K : List Foot → Slots → Heap → Prop} {σ : Slots} {h h' : Heap} (e1 : k = k') (e2 : h = h') (e3 : fs = fs') : Ops O k ops fs K σ h = Ops O k' ops fs' K σ h' := by rw [e1, e2, e3]
@[congr] theorem aop_congr {O : CallO} {σ : Slots} {h h' : Heap} {k k' : Nat} {op : AOp} (e1 : h = h') (e2 : k = k') : aop O σ h k op = aop O σ h' k' op := by rw [e1, e2]
@[congr] theorem foot_congr {σ : Slots} {h h' g g' : Heap} {k k' : Nat} {op : AOp} (e1 : h = h') (e2 : g = g') (e3 : k = k') : foot σ h g k op = foot σ h' g' k' op := by rw [e1, e2, e3]
@[congr] theorem upd_congr {σ : Slots} {d : Nat} {v : AV} {i j : Nat} (e : i = j) : upd σ d v i = upd σ d v j := by rw [e]
@[congr] theorem put_congr {σ : Slots} {d : Option Nat} {v : AV} {i j : Nat} (e : i = j) : put σ d v i = put σ d v j := by rw [e]
@[congr] theorem thenQ_congr {K : Slots → Heap → Prop} {Q : Ex → Slots → Heap → Prop} {e : Ex} {σ : Slots} {h h' : Heap} (eh : h = h') : thenQ K Q e σ h = thenQ K Q e σ h' := by rw [eh]
@[congr] theorem blkQ_congr {i : Nat} {Q : Ex → Slots → Heap → Prop} {e : Ex} {σ : Slots} {h h' : Heap} (eh : h = h') : blkQ i Q e σ h = blkQ i Q e σ h' := by rw [eh]

section
variable {O : Orc} {Q : Ex → Slots → Heap → Prop} {σ : Slots} {h : Heap}

@[simp] theorem Wp_skip : Wp O .skip Q σ h = Q .normal σ h := propext ⟨fun ⟨_, _, _, e, k⟩ => by simp only [run, Option.some.injEq, Prod.mk.injEq] at e; obtain ⟨rfl, rfl, rfl⟩ := e; exact k, Wp.skip⟩
@[simp] theorem Wp_label {l : Nat} : Wp O (.label l) Q σ h = Q .normal σ h := propext ⟨fun ⟨_, _, _, e, k⟩ => by simp only [run, Option.some.injEq, Prod.mk.injEq] at e; obtain ⟨rfl, rfl, rfl⟩ := e; exact k, Wp.label⟩
@[simp] theorem Wp_exit {i : Nat} : Wp O (.exit i) Q σ h = Q (.exit i) σ h := propext ⟨fun ⟨_, _, _, e, k⟩ => by simp only [run, Option.some.injEq, Prod.mk.injEq] at e; obtain ⟨rfl, rfl, rfl⟩ := e; exact k, Wp.exit⟩
@[simp] theorem Wp_ret : Wp O .ret Q σ h = Q .ret σ h := propext ⟨fun ⟨_, _, _, e, k⟩ => by simp only [run, Option.some.injEq, Prod.mk.injEq] at e; obtain ⟨rfl, rfl, rfl⟩ := e; exact k, Wp.ret⟩

@[simp] theorem Wp_seq {a b : AC} : Wp O (.seq a b) Q σ h = Wp O a (thenQ (Wp O b Q) Q) σ h := by
  refine propext ⟨fun ⟨e, s, g, h1, h2⟩ => ?_, Wp.seq⟩
  simp only [run] at h1
  split at h1
  · rename_i s' g' hs
    exact ⟨_, s', g', hs, e, s, g, h1, h2⟩
  · rename_i hne
    refine ⟨e, s, g, h1, ?_⟩
    cases e with
    | normal => exact absurd h1 (hne _ _)
    | exit i => exact h2
    | goto i => exact h2
    | ret => exact h2

theorem Wp_cond {c : AX} {a b : AC} : Wp O (.cond c a b) Q σ h = onB (c.ev σ) fun t => if t then Wp O a Q σ h else Wp O b Q σ h := by
  refine propext ⟨fun ⟨e, s, g, h1, h2⟩ => ?_, fun ⟨t, ht, k⟩ => ?_⟩
  · simp only [run] at h1
    split at h1
    · rename_i hc; exact ⟨true, hc, e, s, g, h1, h2⟩
    · rename_i hc; exact ⟨false, hc, e, s, g, h1, h2⟩
    · cases h1
  · refine Wp.cond t ht (fun e => ?_) (fun e => ?_)
    · subst e; simpa using k
    · subst e; simpa using k

@[simp] theorem Wp_block {id : Nat} {a : AC} : Wp O (.block id a) Q σ h = Wp O a (blkQ id Q) σ h := by
  refine propext ⟨fun ⟨e, s, g, h1, h2⟩ => ?_, Wp.block⟩
  simp only [run] at h1
  split at h1
  · rename_i j s' g' hs
    refine ⟨_, s', g', hs, ?_⟩
    simp only [blkQ_exit]
    split at h1
    · rename_i hj
      simp only [Option.some.injEq, Prod.mk.injEq] at h1
      obtain ⟨rfl, rfl, rfl⟩ := h1
      rw [if_pos hj]; exact h2
    · rename_i hj
      simp only [Option.some.injEq, Prod.mk.injEq] at h1
      obtain ⟨rfl, rfl, rfl⟩ := h1
      rw [if_neg hj]; exact h2
  · rename_i hne
    refine ⟨e, s, g, h1, ?_⟩
    cases e with
    | normal => exact h2
    | exit i => exact absurd h1 (hne _ _ _)
    | goto i => exact h2
    | ret => exact h2

@[simp] theorem Wp_scope {a : AC} : Wp O (.scope a) Q σ h = Wp O a (scpQ Q) σ h := by
  refine propext ⟨fun ⟨e, s, g, h1, h2⟩ => ?_, Wp.scope⟩
  simp only [run] at h1
  split at h1
  · cases h1
  · rename_i hne
    refine ⟨e, s, g, h1, ?_⟩
    cases e with
    | normal => exact h2
    | exit i => exact h2
    | goto i => exact absurd h1 (hne _ _ _)
    | ret => exact h2

theorem OpsQ.of_run {O : CallO} {k0 : Nat} : ∀ {ops : List AO} {K : Slots → Heap → Prop} {σ σ' : Slots} {h h' : Heap}, opsRun O k0 ops σ h = some (σ', h') → K σ' h' → OpsQ O k0 ops K σ h
  | [], K, σ, σ', h, h', hr, k => by simp only [opsRun, Option.some.injEq, Prod.mk.injEq] at hr; obtain ⟨rfl, rfl⟩ := hr; exact k
  | o :: r, K, σ, σ', h, h', hr, k => by
    simp only [opsRun] at hr
    split at hr
    · rename_i hp
      exact ⟨true, hp, by simpa using OpsQ.of_run hr k⟩
    · rename_i hp
      split at hr
      · rename_i v g ha
        refine ⟨false, hp, ?_⟩
        simp only [Bool.false_eq_true, if_false]
        exact ⟨v, g, ha, OpsQ.of_run hr k⟩
      · cases hr
    · cases hr

theorem Ops.of_run {O : CallO} {k0 : Nat} : ∀ {ops : List AO} {fs gs : List Foot} {K : List Foot → Slots → Heap → Prop} {σ σ' : Slots} {h h' : Heap}, opsRunF O k0 ops σ h = some (σ', h', gs) → K (gs.reverse ++ fs) σ' h' → Ops O k0 ops fs K σ h
  | [], fs, gs, K, σ, σ', h, h', hr, k => by simp only [opsRunF, Option.some.injEq, Prod.mk.injEq] at hr; obtain ⟨rfl, rfl, rfl⟩ := hr; exact k
  | o :: r, fs, gs, K, σ, σ', h, h', hr, k => by
    simp only [opsRunF] at hr
    split at hr
    · rename_i hp
      simp only [Option.map_eq_some_iff] at hr
      obtain ⟨⟨x1, x2, x3⟩, hx, e⟩ := hr
      simp only [Prod.mk.injEq] at e
      obtain ⟨rfl, rfl, rfl⟩ := e
      exact ⟨true, hp, by simpa using Ops.of_run hx (by simpa using k)⟩
    · rename_i hp
      split at hr
      · rename_i v g ha
        simp only [Option.map_eq_some_iff] at hr
        obtain ⟨⟨x1, x2, x3⟩, hx, e⟩ := hr
        simp only [Prod.mk.injEq] at e
        obtain ⟨rfl, rfl, rfl⟩ := e
        refine ⟨false, hp, ?_⟩
        simp only [Bool.false_eq_true, if_false]
        exact ⟨v, g, ha, Ops.of_run hx (by simpa using k)⟩
      · cases hr
    · cases hr

@[simp] theorem Wp_region {ops : List AO} {nk : Nat} {ps : List (Nat × Nat)} : Wp O (.region ops nk false ps) Q σ h = OpsQ O.call h.length ops (Q .normal) σ (h ++ List.replicate nk .dead) := by
  refine propext ⟨fun ⟨e, s, g, h1, h2⟩ => ?_, Wp.region⟩
  simp only [run] at h1
  split at h1
  · rename_i s' g' hs
    simp only [Option.some.injEq, Prod.mk.injEq] at h1
    obtain ⟨rfl, rfl, rfl⟩ := h1
    exact OpsQ.of_run hs h2
  · cases h1

theorem opsRunF_run {O : CallO} {k0 : Nat} : ∀ {ops : List AO} {σ σ' : Slots} {h h' : Heap} {fs : List Foot}, opsRunF O k0 ops σ h = some (σ', h', fs) → opsRun O k0 ops σ h = some (σ', h')
  | [], σ, σ', h, h', fs, hr => by simp only [opsRunF, Option.some.injEq, Prod.mk.injEq] at hr; obtain ⟨rfl, rfl, rfl⟩ := hr; rfl
  | o :: r, σ, σ', h, h', fs, hr => by
    simp only [opsRunF] at hr
    simp only [opsRun]
    split at hr
    · simp only [Option.map_eq_some_iff] at hr
      obtain ⟨⟨x1, x2, x3⟩, hx, e⟩ := hr
      simp only [Prod.mk.injEq] at e
      obtain ⟨rfl, rfl, rfl⟩ := e
      exact opsRunF_run hx
    · split at hr
      · simp only [Option.map_eq_some_iff] at hr
        obtain ⟨⟨x1, x2, x3⟩, hx, e⟩ := hr
        simp only [Prod.mk.injEq] at e
        obtain ⟨rfl, rfl, rfl⟩ := e
        exact opsRunF_run hx
      · cases hr
    · cases hr

@[simp] theorem Wp_draw0 {ops : List AO} {nk : Nat} : Wp O (.region ops nk true []) Q σ h = OpsQ O.call h.length ops (Q .normal) σ (h ++ List.replicate nk .dead) := by
  refine propext ⟨fun ⟨e, s, g, h1, h2⟩ => ?_, Wp.draw0⟩
  simp only [run] at h1
  split at h1
  · rename_i s' g' fs hs
    split at h1
    · simp only [Option.some.injEq, Prod.mk.injEq] at h1
      obtain ⟨rfl, rfl, rfl⟩ := h1
      exact OpsQ.of_run (opsRunF_run hs) h2
    · cases h1
  · cases h1
theorem Wp_draw' {ops : List AO} {nk : Nat} {p : Nat × Nat} {ps : List (Nat × Nat)} : Wp O (.region ops nk true (p :: ps)) Q σ h = Ops O.call h.length ops [] (fun fs σ h => pairsOk (p :: ps) fs.reverse = true ∧ Q .normal σ h) σ (h ++ List.replicate nk .dead) := by
  refine propext ⟨fun ⟨e, s, g, h1, h2⟩ => ?_, Wp.draw⟩
  simp only [run] at h1
  split at h1
  · rename_i s' g' fs hs
    split at h1
    · rename_i hp
      simp only [Option.some.injEq, Prod.mk.injEq] at h1
      obtain ⟨rfl, rfl, rfl⟩ := h1
      exact Ops.of_run hs ⟨by simpa using hp, h2⟩
    · cases h1
  · cases h1

/-- No place in common. -/
def NM : Option (List Nat) → Option (List Nat) → Prop
  | some a, some b => ∀ x ∈ a, ∀ y ∈ b, x ≠ y
  | none, some b => b = []
  | some a, none => a = []
  | none, none => False
theorem any_contains (a b : List Nat) : (a.any fun x => b.contains x) = false ↔ ∀ x ∈ a, ∀ y ∈ b, x ≠ y := by
  rw [List.any_eq_false]
  constructor
  · intro h u hu v hv e
    subst e
    exact h u hu (List.contains_iff_mem.2 hv)
  · intro h u hu hc
    exact h u hu u (List.contains_iff_mem.1 hc) rfl
theorem NM_iff (a b : Option (List Nat)) : meet a b = false ↔ NM a b := by
  match a, b with
  | none, none => simp [meet, NM]
  | none, some [] => simp [meet, NM]
  | none, some (y :: b) => simp [meet, NM]
  | some [], none => simp [meet, NM]
  | some (x :: a), none => simp [meet, NM]
  | some [], some b => simp [meet, NM]
  | some (x :: a), some [] => simp [meet, NM]
  | some (x :: a), some (y :: b) => exact any_contains (x :: a) (y :: b)
@[simp] theorem NM_nil_left (b : Option (List Nat)) : NM (some []) b = True := by cases b <;> simp [NM]
@[simp] theorem NM_nil_right (a : Option (List Nat)) : NM a (some []) = True := by cases a <;> simp [NM]
@[simp] theorem NM_11 (x y : Nat) : NM (some [x]) (some [y]) = (x ≠ y) := by simp [NM]
@[simp] theorem NM_12 (x y z : Nat) : NM (some [x]) (some [y, z]) = (x ≠ y ∧ x ≠ z) := by simp [NM]
@[simp] theorem NM_21 (x y z : Nat) : NM (some [y, z]) (some [x]) = (y ≠ x ∧ z ≠ x) := by simp [NM]
@[simp] theorem NM_22 (x y z w : Nat) : NM (some [x, y]) (some [z, w]) = ((x ≠ z ∧ x ≠ w) ∧ y ≠ z ∧ y ≠ w) := by simp [NM]
@[simp] theorem NM_n1 (x : Nat) (l : List Nat) : NM none (some (x :: l)) = False := by simp [NM]
@[simp] theorem NM_1n (x : Nat) (l : List Nat) : NM (some (x :: l)) none = False := by simp [NM]
@[simp] theorem NM_nn : NM none none = False := rfl

def nthF (fs : List Foot) (i : Nat) : Foot := fs.getD i ⟨some [], some []⟩
def NC (a b : Foot) : Prop := (a.quiet = true ∧ b.fresh = true) ∨ (NM a.W b.R ∧ NM a.W b.W ∧ NM a.R b.W)
/-- 'n' footprints, the latest first. -/
def PO : List (Nat × Nat) → Nat → List Foot → Prop
  | [], _, _ => True
  | p :: ps, n, fs => NC (nthF fs (n - 1 - p.1)) (nthF fs (n - 1 - p.2)) ∧ PO ps n fs

theorem clash_NC (a b : Foot) : a.clash b = false ↔ NC a b := by
  simp only [Foot.clash, Bool.and_eq_false_iff, Bool.not_eq_false', Bool.and_eq_true, Bool.or_eq_false_iff, NM_iff, NC, and_assoc]

theorem nth_rev (fs : List Foot) {i : Nat} (hi : i < fs.length) : fs.reverse.getD i ⟨some [], some []⟩ = nthF fs (fs.length - 1 - i) := by
  simp only [nthF, List.getD_eq_getElem?_getD]
  rw [List.getElem?_reverse hi]

theorem PO_iff {fs : List Foot} : ∀ {ps : List (Nat × Nat)}, (∀ p ∈ ps, p.1 < fs.length ∧ p.2 < fs.length) → (pairsOk ps fs.reverse = true ↔ PO ps fs.length fs)
  | [], _ => by simp [pairsOk, PO]
  | p :: ps, h => by
    have ih := PO_iff (fs := fs) (ps := ps) fun q hq => h q (List.mem_cons_of_mem _ hq)
    have hp := h p List.mem_cons_self
    simp only [pairsOk, List.all_cons, Bool.and_eq_true, Bool.not_eq_true', PO] at ih ⊢
    rw [ih, nth_rev fs hp.1, nth_rev fs hp.2, clash_NC]

theorem Ops_len {O : CallO} {k0 : Nat} : ∀ {ops : List AO} {fs : List Foot} {K K' : List Foot → Slots → Heap → Prop} {σ : Slots} {h : Heap}, (∀ fs' σ h, fs'.length = ops.length + fs.length → K fs' σ h → K' fs' σ h) → Ops O k0 ops fs K σ h → Ops O k0 ops fs K' σ h
  | [], fs, K, K', σ, h, hk, k => hk fs σ h (by simp) k
  | o :: r, fs, K, K', σ, h, hk, k => by
    obtain ⟨b, hp, k⟩ := k
    refine ⟨b, hp, ?_⟩
    cases b with
    | true =>
      simp only [if_true] at k ⊢
      exact Ops_len (fun fs' σ h hl => hk fs' σ h (by simp at hl ⊢; omega)) k
    | false =>
      simp only [Bool.false_eq_true, if_false] at k ⊢
      obtain ⟨v, h', ha, k⟩ := k
      exact ⟨v, h', ha, Ops_len (fun fs' σ h hl => hk fs' σ h (by simp at hl ⊢; omega)) k⟩

/-- A drawn region: in text order, and no two meet whose order is open. -/
theorem Wp.drawP {ops : List AO} {nk : Nat} {ps : List (Nat × Nat)} (hps : (ps.all fun p => decide (p.1 < ops.length) && decide (p.2 < ops.length)) = true)
    (k : Ops O.call h.length ops [] (fun fs σ h => PO ps ops.length fs ∧ Q .normal σ h) σ (h ++ List.replicate nk .dead)) : Wp O (.region ops nk true ps) Q σ h := by
  refine Wp.draw (Ops_len (fun fs s g hl hk => ⟨?_, hk.2⟩) k)
  simp only [List.length_nil, Nat.add_zero] at hl
  refine (PO_iff fun p hp => ?_).2 (by rw [hl]; exact hk.1)
  have := List.all_eq_true.1 hps p hp
  simp only [Bool.and_eq_true, decide_eq_true_eq] at this
  rw [hl]; exact this
@[simp] theorem Wp_draw {ops : List AO} {nk : Nat} {p : Nat × Nat} {ps : List (Nat × Nat)} : Wp O (.region ops nk true (p :: ps)) Q σ h = ((((p :: ps).all fun p => decide (p.1 < ops.length) && decide (p.2 < ops.length)) = true ∧ Ops O.call h.length ops [] (fun fs σ h => PO (p :: ps) ops.length fs ∧ Q .normal σ h) σ (h ++ List.replicate nk .dead)) ∨
    (((p :: ps).all fun p => decide (p.1 < ops.length) && decide (p.2 < ops.length)) = false ∧ Ops O.call h.length ops [] (fun fs σ h => pairsOk (p :: ps) fs.reverse = true ∧ Q .normal σ h) σ (h ++ List.replicate nk .dead))) := by
  refine propext ⟨fun k => ?_, fun k => ?_⟩
  · rw [Wp_draw'] at k
    cases hps : (p :: ps).all fun p => decide (p.1 < ops.length) && decide (p.2 < ops.length) with
    | false => exact .inr ⟨rfl, k⟩
    | true =>
      refine .inl ⟨rfl, Ops_len (fun fs s g hl hk => ⟨?_, hk.2⟩) k⟩
      simp only [List.length_nil, Nat.add_zero] at hl
      rw [← hl]
      refine (PO_iff fun q hq => ?_).1 hk.1
      have := List.all_eq_true.1 hps q hq
      simp only [Bool.and_eq_true, decide_eq_true_eq] at this
      rw [hl]; exact this
  · rcases k with ⟨h1, k⟩ | ⟨_, k⟩
    · exact Wp.drawP h1 k
    · exact Wp.draw k

@[simp] theorem OpsQ_nil {O : CallO} {k0 : Nat} {K : Slots → Heap → Prop} : OpsQ O k0 [] K σ h = K σ h := rfl
theorem OpsQ_cons {O : CallO} {k0 : Nat} {d : Option Nat} {op : AOp} {key : Nat} {r : List AO} {K : Slots → Heap → Prop} : OpsQ O k0 (⟨d, op, none, key⟩ :: r) K σ h = onO (aop O σ h (k0 + key) op) fun v h' => OpsQ O k0 r K (put σ d v) h' := OpsQ.cons
theorem OpsQ_consG {O : CallO} {k0 : Nat} {d : Option Nat} {op : AOp} {g : Nat} {w : Bool} {key : Nat} {r : List AO} {K : Slots → Heap → Prop} : OpsQ O k0 (⟨d, op, some (g, w), key⟩ :: r) K σ h =
    onG w (σ g) fun b => if b = w then onO (aop O σ h (k0 + key) op) fun v h' => OpsQ O k0 r K (put σ d v) h' else OpsQ O k0 r K (put σ d (.tup [])) h := by
  apply propext
  constructor
  · rintro ⟨b, hp, k⟩
    simp only [passed] at hp
    split at hp
    · rename_i c hc
      injection hp with hp
      refine .inl ⟨c, hc, ?_⟩
      subst hp
      by_cases e : c = w
      · subst e; simpa using k
      · have : (c != w) = true := by simp [e]
        rw [this] at k; simpa [e] using k
    · rename_i hc
      injection hp with hp
      subst hp
      exact .inr ⟨hc, by simpa using k⟩
    · cases hp
  · rintro (⟨b, hb, k⟩ | ⟨hb, k⟩)
    · refine OpsQ.consG b hb (fun e => ?_) (fun e => ?_)
      · simpa [e] using k
      · simpa [e] using k
    · exact ⟨true, by simp [passed, hb], by simpa using k⟩
@[simp] theorem Ops_nil {O : CallO} {k0 : Nat} {fs : List Foot} {K : List Foot → Slots → Heap → Prop} : Ops O k0 [] fs K σ h = K fs σ h := rfl
theorem Ops_cons {O : CallO} {k0 : Nat} {d : Option Nat} {op : AOp} {key : Nat} {r : List AO} {fs : List Foot} {K : List Foot → Slots → Heap → Prop} : Ops O k0 (⟨d, op, none, key⟩ :: r) fs K σ h = onO (aop O σ h (k0 + key) op) fun v h' => Ops O k0 r (foot σ h h' (k0 + key) op :: fs) K (put σ d v) h' := Ops.cons
theorem Ops_consG {O : CallO} {k0 : Nat} {d : Option Nat} {op : AOp} {g : Nat} {w : Bool} {key : Nat} {r : List AO} {fs : List Foot} {K : List Foot → Slots → Heap → Prop} : Ops O k0 (⟨d, op, some (g, w), key⟩ :: r) fs K σ h =
    onG w (σ g) fun b => if b = w then onO (aop O σ h (k0 + key) op) fun v h' => Ops O k0 r (foot σ h h' (k0 + key) op :: fs) K (put σ d v) h' else Ops O k0 r (⟨some [], some []⟩ :: fs) K (put σ d (.tup [])) h := by
  apply propext
  constructor
  · rintro ⟨b, hp, k⟩
    simp only [passed] at hp
    split at hp
    · rename_i c hc
      injection hp with hp
      refine .inl ⟨c, hc, ?_⟩
      subst hp
      by_cases e : c = w
      · subst e; simpa using k
      · have : (c != w) = true := by simp [e]
        rw [this] at k; simpa [e] using k
    · rename_i hc
      injection hp with hp
      subst hp
      exact .inr ⟨hc, by simpa using k⟩
    · cases hp
  · rintro (⟨b, hb, k⟩ | ⟨hb, k⟩)
    · refine ⟨b != w, by simp [passed, hb], ?_⟩
      by_cases e : b = w
      · subst e; simpa using k
      · have : (b != w) = true := by simp [e]
        rw [this]; simpa [e] using k
    · exact ⟨true, by simp [passed, hb], by simpa using k⟩
end

attribute [simp] upd_apply ev_t ev_c fillA loadA AV.low AV.lows

/-! ### Integers -/
@[simp] theorem abin_lss (k : IntKind) (a b : Int) : abin .lss (.int k a) (.int k b) = some (.bool (decide (a < b))) := by simp [abin, ibin]
@[simp] theorem abin_leq (k : IntKind) (a b : Int) : abin .leq (.int k a) (.int k b) = some (.bool (decide (a ≤ b))) := by simp [abin, ibin]
@[simp] theorem abin_gtr (k : IntKind) (a b : Int) : abin .gtr (.int k a) (.int k b) = some (.bool (decide (b < a))) := by simp [abin, ibin]
@[simp] theorem abin_geq (k : IntKind) (a b : Int) : abin .geq (.int k a) (.int k b) = some (.bool (decide (b ≤ a))) := by simp [abin, ibin]
@[simp] theorem abin_eql (k : IntKind) (a b : Int) : abin .eql (.int k a) (.int k b) = some (.bool (decide (a = b))) := by
  simp only [abin, ibin, true_or, if_true]; congr
@[simp] theorem abin_neq (k : IntKind) (a b : Int) : abin .neq (.int k a) (.int k b) = some (.bool (!decide (a = b))) := by
  simp only [abin, ibin, true_or, if_true, bne]; congr
@[simp] theorem abin_add (k : IntKind) (a b : Int) : abin .add (.int k a) (.int k b) = some (.int k (k.wrap (a + b))) := by simp [abin, ibin]
@[simp] theorem abin_sub (k : IntKind) (a b : Int) : abin .sub (.int k a) (.int k b) = some (.int k (k.wrap (a - b))) := by simp [abin, ibin]
@[simp] theorem abin_mul (k : IntKind) (a b : Int) : abin .mul (.int k a) (.int k b) = some (.int k (k.wrap (a * b))) := by simp [abin, ibin]
@[simp] theorem abin_eqlS (a b : List UInt8) : abin .eql (.str a) (.str b) = some (.bool (decide (a = b))) := by
  simp only [abin, sbin]; congr 2
  by_cases e : a = b
  · subst e; simp
  · simp [e]
@[simp] theorem abin_neqS (a b : List UInt8) : abin .neq (.str a) (.str b) = some (.bool (!decide (a = b))) := by
  simp only [abin, sbin, bne]; congr 3
  by_cases e : a = b
  · subst e; simp
  · simp [e]
@[simp] theorem abin_addS (a b : List UInt8) : abin .add (.str a) (.str b) = if a.length + b.length ≤ 140737488355328 then some (.str (a ++ b)) else none := rfl

theorem wrap64 {x : Int} (h1 : -9223372036854775808 ≤ x) (h2 : x < 9223372036854775808) : IntKind.wrap .i64 x = x := by
  simp [IntKind.wrap, IntKind.bits, IntKind.signed]
  split <;> omega

/-! ### The heap -/
@[simp] theorem get_app0 (h : Heap) (l : List AE) : (h ++ l)[h.length]? = l[0]? := by
  rw [List.getElem?_append_right (Nat.le_refl _), Nat.sub_self]
@[simp] theorem get_app (h : Heap) (l : List AE) (k : Nat) : (h ++ l)[h.length + k]? = l[k]? := by
  rw [List.getElem?_append_right (Nat.le_add_right _ _), Nat.add_sub_cancel_left]
@[simp] theorem set_app0 (h : Heap) (l : List AE) (e : AE) : (h ++ l).set h.length e = h ++ l.set 0 e := by
  rw [List.set_append_right _ _ (Nat.le_refl _), Nat.sub_self]
@[simp] theorem set_app (h : Heap) (l : List AE) (k : Nat) (e : AE) : (h ++ l).set (h.length + k) e = h ++ l.set k e := by
  rw [List.set_append_right _ _ (Nat.le_add_right _ _), Nat.add_sub_cancel_left]

@[simp] theorem finish_app (h0 : Heap) (l : List AE) (v : AV) : finish h0 (h0 ++ l) v = (clean (h0 ++ l) h0.length v).map fun v' => (v', h0) := by
  unfold finish
  cases clean (h0 ++ l) h0.length v with
  | none => rfl
  | some v' => simp only; rw [if_pos (take_cond (by simp))]; simp
@[simp] theorem finish_self (h0 : Heap) (v : AV) : finish h0 h0 v = (clean h0 h0.length v).map fun v' => (v', h0) := by
  unfold finish
  cases clean h0 h0.length v with
  | none => rfl
  | some v' => simp only; rw [if_pos (take_cond (by simp))]; simp

theorem lows_map {α : Type} {n : Nat} (f : α → AV) (l : List α) (h : ∀ x ∈ l, (f x).low n) : AV.lows n (l.map f) := by
  rw [lows_iff]
  intro x hx
  obtain ⟨y, hy, rfl⟩ := List.mem_map.1 hx
  exact h y hy
@[simp] theorem lows_bytes (n : Nat) (l : List UInt8) : AV.lows n (ofBytes l) := lows_map _ _ fun _ _ => trivial
@[simp] theorem lows_nil (n : Nat) : AV.lows n [] := trivial

/-! ### Footprints -/
@[simp] theorem foot_mv (σ : Slots) (h h' : Heap) (key : Nat) (x : AX) : foot σ h h' key (.mv x) = ⟨some [], some []⟩ := rfl
@[simp] theorem foot_nilchk (σ : Slots) (h h' : Heap) (key : Nat) (x : AX) : foot σ h h' key (.nilchk x) = ⟨some [], some []⟩ := rfl
@[simp] theorem foot_pick (σ : Slots) (h h' : Heap) (key : Nat) (c a b : AX) : foot σ h h' key (.pick c a b) = ⟨some [], some []⟩ := rfl
@[simp] theorem foot_build (σ : Slots) (h h' : Heap) (key : Nat) (z : List AV) (p : List (Nat × Nat × AX)) : foot σ h h' key (.build z p) = ⟨some [], some []⟩ := rfl
@[simp] theorem foot_bslice (σ : Slots) (h h' : Heap) (key : Nat) (sz : Nat) (p : List AX) : foot σ h h' key (.bslice sz p) = ⟨some [], some []⟩ := rfl
@[simp] theorem foot_bin (σ : Slots) (h h' : Heap) (key : Nat) (op : BinOp) (x y : AX) : foot σ h h' key (.bin op x y) = ⟨some [], some []⟩ := rfl
@[simp] theorem foot_eq (σ : Slots) (h h' : Heap) (key : Nat) (n : Bool) (s : Option Nat) (o : List (Nat × LK)) (x y : AX) : foot σ h h' key (.eq n s o x y) = ⟨some [], some []⟩ := rfl
@[simp] theorem foot_neg (σ : Slots) (h h' : Heap) (key : Nat) (x : AX) : foot σ h h' key (.neg x) = ⟨some [], some []⟩ := rfl
@[simp] theorem foot_not (σ : Slots) (h h' : Heap) (key : Nat) (x : AX) : foot σ h h' key (.not x) = ⟨some [], some []⟩ := rfl
@[simp] theorem foot_cvInt (σ : Slots) (h h' : Heap) (key : Nat) (k : IntKind) (x : AX) : foot σ h h' key (.cvInt k x) = ⟨some [], some []⟩ := rfl
@[simp] theorem foot_cvIntStr (σ : Slots) (h h' : Heap) (key : Nat) (x : AX) : foot σ h h' key (.cvIntStr x) = ⟨some [], some []⟩ := rfl
@[simp] theorem foot_cvStr (σ : Slots) (h h' : Heap) (key : Nat) (x : AX) : foot σ h h' key (.cvStr x) = ⟨some [], some []⟩ := rfl
@[simp] theorem foot_mkfn (σ : Slots) (h h' : Heap) (key : Nat) (f : FuncId) (c : List AX) : foot σ h h' key (.mkfn f c) = ⟨some [], some []⟩ := rfl
@[simp] theorem foot_sliceS (σ : Slots) (h h' : Heap) (key : Nat) (x : AX) (lo hi : Option AX) : foot σ h h' key (.sliceS x lo hi) = ⟨some [], some []⟩ := rfl
@[simp] theorem foot_slice (σ : Slots) (h h' : Heap) (key : Nat) (sz : Nat) (x : AX) (lo hi mx : Option AX) : foot σ h h' key (.slice sz x lo hi mx) = ⟨some [], some []⟩ := rfl
@[simp] theorem foot_sliceA (σ : Slots) (h h' : Heap) (key : Nat) (sz n : Nat) (x : AX) (lo hi : Option AX) : foot σ h h' key (.sliceA sz n x lo hi) = ⟨some [], some []⟩ := rfl
@[simp] theorem foot_off (σ : Slots) (h h' : Heap) (key : Nat) (n : Nat) (x : AX) : foot σ h h' key (.off n x) = ⟨some [], some []⟩ := rfl
@[simp] theorem foot_idx (σ : Slots) (h h' : Heap) (key : Nat) (sz : Nat) (x i : AX) : foot σ h h' key (.idx sz x i) = ⟨some [], some []⟩ := rfl
@[simp] theorem foot_idxA (σ : Slots) (h h' : Heap) (key : Nat) (sz n : Nat) (x i : AX) : foot σ h h' key (.idxA sz n x i) = ⟨some [], some []⟩ := rfl
@[simp] theorem foot_field (σ : Slots) (h h' : Heap) (key : Nat) (o : Nat) (s : Option Nat) (x : AX) : foot σ h h' key (.field o s x) = ⟨some [], some []⟩ := rfl
@[simp] theorem foot_indexS (σ : Slots) (h h' : Heap) (key : Nat) (x i : AX) : foot σ h h' key (.indexS x i) = ⟨some [], some []⟩ := rfl
@[simp] theorem foot_indexA (σ : Slots) (h h' : Heap) (key : Nat) (s : Option Nat) (e n : Nat) (x i : AX) : foot σ h h' key (.indexA s e n x i) = ⟨some [], some []⟩ := rfl
@[simp] theorem foot_lenS (σ : Slots) (h h' : Heap) (key : Nat) (x : AX) : foot σ h h' key (.lenS x) = ⟨some [], some []⟩ := rfl
@[simp] theorem foot_len (σ : Slots) (h h' : Heap) (key : Nat) (x : AX) : foot σ h h' key (.len x) = ⟨some [], some []⟩ := rfl
@[simp] theorem foot_min (σ : Slots) (h h' : Heap) (key : Nat) (x y : AX) : foot σ h h' key (.min x y) = ⟨some [], some []⟩ := rfl
@[simp] theorem foot_max (σ : Slots) (h h' : Heap) (key : Nat) (x y : AX) : foot σ h h' key (.max x y) = ⟨some [], some []⟩ := rfl
@[simp] theorem foot_ext (σ : Slots) (h h' : Heap) (key : Nat) (x : AX) (i : Nat) : foot σ h h' key (.ext x i) = ⟨some [], some []⟩ := rfl
@[simp] theorem foot_mkiface (σ : Slots) (h h' : Heap) (key : Nat) (t : TypeId) (x : AX) : foot σ h h' key (.mkiface t x) = ⟨some [], some []⟩ := rfl
@[simp] theorem foot_alloc (σ : Slots) (h h' : Heap) (key : Nat) (z : List AV) : foot σ h h' key (.alloc z) = ⟨some [], some [key]⟩ := rfl
@[simp] theorem foot_box (σ : Slots) (h h' : Heap) (key : Nat) (n : Nat) (x : AX) : foot σ h h' key (.box n x) = ⟨some [], some [key]⟩ := rfl
@[simp] theorem foot_bsliceM (σ : Slots) (h h' : Heap) (key : Nat) (sz : Nat) (p : List AX) : foot σ h h' key (.bsliceM sz p) = ⟨some [], some [key]⟩ := rfl
@[simp] theorem foot_mkslice (σ : Slots) (h h' : Heap) (key : Nat) (z : AV) (sz by_ : Nat) (e : TypeId) (l c : AX) : foot σ h h' key (.mkslice z sz by_ e l c) = ⟨some [], some [key]⟩ := rfl
@[simp] theorem foot_mksliceM (σ : Slots) (h h' : Heap) (key : Nat) (z : List AV) (sz by_ : Nat) (l c : AX) : foot σ h h' key (.mksliceM z sz by_ l c) = ⟨some [], some [key]⟩ := rfl
@[simp] theorem foot_cvStrBytes (σ : Slots) (h h' : Heap) (key : Nat) (e : TypeId) (x : AX) : foot σ h h' key (.cvStrBytes e x) = ⟨some [], some [key]⟩ := rfl
@[simp] theorem foot_cvStrBytesM (σ : Slots) (h h' : Heap) (key : Nat) (x : AX) : foot σ h h' key (.cvStrBytesM x) = ⟨some [], some [key]⟩ := rfl
@[simp] theorem foot_load (σ : Slots) (h h' : Heap) (key : Nat) (s : Option Nat) (x : AX) : foot σ h h' key (.load s x) = match x.ev σ with | .ptr b _ => ⟨some [b], some []⟩ | _ => ⟨some [], some []⟩ := rfl
@[simp] theorem foot_store (σ : Slots) (h h' : Heap) (key : Nat) (s : Nat) (x y : AX) : foot σ h h' key (.store s x y) = match x.ev σ with | .ptr b _ => ⟨some [b], some [b]⟩ | _ => ⟨none, none⟩ := rfl
@[simp] theorem foot_cvMark (σ : Slots) (h h' : Heap) (key : Nat) (x : AX) : foot σ h h' key (.cvMark x) = match x.ev σ with | .list _ _ r => ⟨some (rtKeys r), some []⟩ | _ => ⟨some [], some []⟩ := rfl
@[simp] theorem foot_cvBytesStr (σ : Slots) (h h' : Heap) (key : Nat) (x : AX) : foot σ h h' key (.cvBytesStr x) = match x.ev σ with | .sl _ b _ _ _ => ⟨some [b], some []⟩ | .gl _ b _ => ⟨some [b], some []⟩ | _ => ⟨some [], some []⟩ := rfl
@[simp] theorem foot_append (σ : Slots) (h h' : Heap) (key : Nat) (sz by_ : Nat) (e : TypeId) (s x : AX) : foot σ h h' key (.append sz by_ e s x) = match s.ev σ with | .list _ _ r => ⟨some (rtKeys r), some (key :: rtKeys r)⟩ | .gl _ b _ => ⟨some [b], some [key, b]⟩ | _ => ⟨none, none⟩ := rfl
@[simp] theorem foot_callQ (σ : Slots) (h : Heap) (key : Nat) (f : AX) (xs : List AX) : foot σ h h key (.call f xs) = ⟨none, some []⟩ := by simp [foot]
attribute [simp] rtKeys PO NC nthF Foot.quiet Foot.fresh
theorem meet_nil_left (b : Option (List Nat)) : meet (some []) b = false := rfl
theorem meet_nil_right (a : Option (List Nat)) : meet a (some []) = false := by rcases a with _ | (_ | _) <;> rfl

@[simp] theorem asBytes_ofBytes (l : List UInt8) : asBytes (ofBytes l) = some l := by
  induction l with
  | nil => rfl
  | cons x l ih =>
    show (asBytes (ofBytes l)).map _ = _
    rw [ih]
    simp
theorem finish_of_take {h0 h : Heap} (ht : h.take h0.length = h0) (v : AV) : finish h0 h v = (clean h h0.length v).map fun v' => (v', h0) := by
  unfold finish
  cases clean h h0.length v with
  | none => rfl
  | some v' => simp only; rw [if_pos (take_cond ht), ht]; rfl
@[simp] theorem ofBytes_length (l : List UInt8) : (ofBytes l).length = l.length := by simp [ofBytes]
@[simp] theorem ofBytes_get (l : List UInt8) (i : Nat) : (ofBytes l)[i]? = (l[i]?).map fun b => .int .u8 b.toNat := by simp [ofBytes]

/-- A function's answer with what holds of it. -/
theorem call_post {X : CallO} {T : FuncId → Option AF} {f : FuncId} {B : AC} {res : List ARes} {args : List AV} {h0 : Heap} (hF : T f = some ⟨B, res, false⟩) (hX : X f args h0 = none) {R : AV × Heap → Prop}
    (k : Wp (lim X T) B (fun e σ h => isEnd e ∧ ∃ vs, resVals σ h res = some vs ∧ ∃ r, finish h0 h (oneOf vs) = some r ∧ R r) (fun i => args.getD i .junk) h0) : ∃ r, (lim X T).call f args h0 = some r ∧ R r := by
  obtain ⟨e, s, g, h1, h2, vs, h3, r, h4, h5⟩ := k
  exact ⟨r, lim_call_of hF hX (callF_wp ⟨e, s, g, h1, h2, vs, h3, h4⟩), h5⟩

end Go.Am
