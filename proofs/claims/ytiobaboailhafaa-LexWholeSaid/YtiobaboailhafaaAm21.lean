/-
  A calculus for what the abstract machine computes: weakest preconditions over pure data.
-/
import Derived.Test.YtiobaboailhafaaAm20
set_option linter.unusedVariables false
set_option linter.unusedSimpArgs false
namespace Go.Am
open Go

/-- It comes to an end, of which Q holds. -/
def Wp (O : Orc) (c : AC) (Q : Ex → Slots → Heap → Prop) (σ : Slots) (h : Heap) : Prop := ∃ ex σ' h', run O c σ h = some (ex, σ', h') ∧ Q ex σ' h'

def thenQ (K : Slots → Heap → Prop) (Q : Ex → Slots → Heap → Prop) : Ex → Slots → Heap → Prop
  | .normal, σ, h => K σ h
  | e, σ, h => Q e σ h
@[simp] theorem thenQ_normal (K : Slots → Heap → Prop) (Q : Ex → Slots → Heap → Prop) (σ : Slots) (h : Heap) : thenQ K Q .normal σ h = K σ h := rfl
@[simp] theorem thenQ_exit (K : Slots → Heap → Prop) (Q : Ex → Slots → Heap → Prop) (i : Nat) (σ : Slots) (h : Heap) : thenQ K Q (.exit i) σ h = Q (.exit i) σ h := rfl
@[simp] theorem thenQ_ret (K : Slots → Heap → Prop) (Q : Ex → Slots → Heap → Prop) (σ : Slots) (h : Heap) : thenQ K Q .ret σ h = Q .ret σ h := rfl
@[simp] theorem thenQ_goto (K : Slots → Heap → Prop) (Q : Ex → Slots → Heap → Prop) (i : Nat) (σ : Slots) (h : Heap) : thenQ K Q (.goto i) σ h = Q (.goto i) σ h := rfl

def blkQ (id : Nat) (Q : Ex → Slots → Heap → Prop) : Ex → Slots → Heap → Prop
  | .exit j, σ, h => if j = id then Q .normal σ h else Q (.exit j) σ h
  | e, σ, h => Q e σ h
@[simp] theorem blkQ_normal (id : Nat) (Q : Ex → Slots → Heap → Prop) (σ : Slots) (h : Heap) : blkQ id Q .normal σ h = Q .normal σ h := rfl
@[simp] theorem blkQ_exit (id : Nat) (Q : Ex → Slots → Heap → Prop) (i : Nat) (σ : Slots) (h : Heap) : blkQ id Q (.exit i) σ h = if i = id then Q .normal σ h else Q (.exit i) σ h := rfl
@[simp] theorem blkQ_ret (id : Nat) (Q : Ex → Slots → Heap → Prop) (σ : Slots) (h : Heap) : blkQ id Q .ret σ h = Q .ret σ h := rfl
@[simp] theorem blkQ_goto (id : Nat) (Q : Ex → Slots → Heap → Prop) (i : Nat) (σ : Slots) (h : Heap) : blkQ id Q (.goto i) σ h = Q (.goto i) σ h := rfl

def scpQ (Q : Ex → Slots → Heap → Prop) : Ex → Slots → Heap → Prop
  | .goto _, _, _ => False
  | e, σ, h => Q e σ h
@[simp] theorem scpQ_normal (Q : Ex → Slots → Heap → Prop) (σ : Slots) (h : Heap) : scpQ Q .normal σ h = Q .normal σ h := rfl
@[simp] theorem scpQ_exit (Q : Ex → Slots → Heap → Prop) (i : Nat) (σ : Slots) (h : Heap) : scpQ Q (.exit i) σ h = Q (.exit i) σ h := rfl
@[simp] theorem scpQ_ret (Q : Ex → Slots → Heap → Prop) (σ : Slots) (h : Heap) : scpQ Q .ret σ h = Q .ret σ h := rfl

/-- After an operation. -/
def onO (x : Option (AV × Heap)) (f : AV → Heap → Prop) : Prop := ∃ v h, x = some (v, h) ∧ f v h
@[simp] theorem onO_some (v : AV) (h : Heap) (f : AV → Heap → Prop) : onO (some (v, h)) f = f v h := by
  apply propext
  exact ⟨fun ⟨_, _, e, k⟩ => (by injection e with e; injection e with e1 e2; subst e1; subst e2; exact k), fun k => ⟨v, h, rfl, k⟩⟩
@[simp] theorem onO_none (f : AV → Heap → Prop) : onO none f = False := by
  apply propext
  exact ⟨fun ⟨_, _, e, k⟩ => (by cases e), fun k => k.elim⟩
@[simp] theorem onO_ite (c : Prop) {d : Decidable c} (x : Option (AV × Heap)) (f : AV → Heap → Prop) : onO (@ite _ c d x none) f = (c ∧ onO x f) := by
  apply propext
  by_cases hc : c
  · rw [if_pos hc]; exact ⟨fun k => ⟨hc, k⟩, fun k => k.2⟩
  · rw [if_neg hc, onO_none]; exact ⟨fun k => k.elim, fun k => hc k.1⟩
def onV (x : Option AV) (f : AV → Prop) : Prop := ∃ v, x = some v ∧ f v
@[simp] theorem onV_some (v : AV) (f : AV → Prop) : onV (some v) f = f v := by
  apply propext
  exact ⟨fun ⟨_, e, k⟩ => (by injection e with e; subst e; exact k), fun k => ⟨v, rfl, k⟩⟩
@[simp] theorem onV_none (f : AV → Prop) : onV none f = False := by
  apply propext
  exact ⟨fun ⟨_, e, k⟩ => (by cases e), fun k => k.elim⟩
@[simp] theorem onV_ite (c : Prop) {d : Decidable c} (x : Option AV) (f : AV → Prop) : onV (@ite _ c d x none) f = (c ∧ onV x f) := by
  apply propext
  by_cases hc : c
  · rw [if_pos hc]; exact ⟨fun k => ⟨hc, k⟩, fun k => k.2⟩
  · rw [if_neg hc, onV_none]; exact ⟨fun k => k.elim, fun k => hc k.1⟩
@[simp] theorem onO_map (x : Option AV) (h : Heap) (f : AV → Heap → Prop) : onO (x.map fun v => (v, h)) f = onV x fun v => f v h := by
  cases x <;> simp
@[simp] theorem onO_mapf {α : Type} (x : Option α) (g : α → AV) (h : Heap) (f : AV → Heap → Prop) : onO (x.map fun v => (g v, h)) f = onV (x.map g) fun v => f v h := by
  cases x <;> simp

/-- A region's operations, one behind the other; 'fs': what they looked at and turned (the latest first). -/
def Ops (O : CallO) (k0 : Nat) : List AO → List Foot → (List Foot → Slots → Heap → Prop) → Slots → Heap → Prop
  | [], fs, K, σ, h => K fs σ h
  | o :: r, fs, K, σ, h =>
    ∃ b, passed σ o.guard = some b ∧
    if b then Ops O k0 r (⟨some [], some []⟩ :: fs) K (put σ o.dst (.tup [])) h
    else onO (aop O σ h (k0 + o.key) o.op) fun v h' => Ops O k0 r (foot σ h h' (k0 + o.key) o.op :: fs) K (put σ o.dst v) h'

/-- The same, no footprint kept. -/
def OpsQ (O : CallO) (k0 : Nat) : List AO → (Slots → Heap → Prop) → Slots → Heap → Prop
  | [], K, σ, h => K σ h
  | o :: r, K, σ, h =>
    ∃ b, passed σ o.guard = some b ∧
    if b then OpsQ O k0 r K (put σ o.dst (.tup [])) h
    else onO (aop O σ h (k0 + o.key) o.op) fun v h' => OpsQ O k0 r K (put σ o.dst v) h'

section
variable {O : Orc} {Q : Ex → Slots → Heap → Prop} {σ : Slots} {h : Heap}

theorem Wp.mono {c : AC} {Q' : Ex → Slots → Heap → Prop} (k : Wp O c Q σ h) (hq : ∀ e σ h, Q e σ h → Q' e σ h) : Wp O c Q' σ h := by
  obtain ⟨e, s, g, h1, h2⟩ := k
  exact ⟨e, s, g, h1, hq _ _ _ h2⟩

theorem Wp.skip (k : Q .normal σ h) : Wp O .skip Q σ h := ⟨_, _, _, rfl, k⟩
theorem Wp.label {l : Nat} (k : Q .normal σ h) : Wp O (.label l) Q σ h := ⟨_, _, _, rfl, k⟩
theorem Wp.exit {i : Nat} (k : Q (.exit i) σ h) : Wp O (.exit i) Q σ h := ⟨_, _, _, rfl, k⟩
theorem Wp.ret (k : Q .ret σ h) : Wp O .ret Q σ h := ⟨_, _, _, rfl, k⟩
theorem Wp.seq {a b : AC} (k : Wp O a (thenQ (Wp O b Q) Q) σ h) : Wp O (.seq a b) Q σ h := by
  obtain ⟨e, s, g, h1, h2⟩ := k
  cases e with
  | normal =>
    obtain ⟨e', s', g', h3, h4⟩ := h2
    exact ⟨e', s', g', by simp only [run, h1, h3], h4⟩
  | exit i => exact ⟨_, s, g, by simp only [run, h1], h2⟩
  | goto i => exact ⟨_, s, g, by simp only [run, h1], h2⟩
  | ret => exact ⟨_, s, g, by simp only [run, h1], h2⟩
theorem Wp.cond {c : AX} {a b : AC} (t : Bool) (hc : c.ev σ = .bool t) (k1 : t = true → Wp O a Q σ h) (k2 : t = false → Wp O b Q σ h) : Wp O (.cond c a b) Q σ h := by
  cases t with
  | true =>
    obtain ⟨e, s, g, h1, h2⟩ := k1 rfl
    exact ⟨e, s, g, by simp only [run, hc, h1], h2⟩
  | false =>
    obtain ⟨e, s, g, h1, h2⟩ := k2 rfl
    exact ⟨e, s, g, by simp only [run, hc, h1], h2⟩
theorem Wp.block {id : Nat} {a : AC} (k : Wp O a (blkQ id Q) σ h) : Wp O (.block id a) Q σ h := by
  obtain ⟨e, s, g, h1, h2⟩ := k
  cases e with
  | normal => exact ⟨_, s, g, by simp only [run, h1], h2⟩
  | exit i =>
    simp only [blkQ_exit] at h2
    by_cases hi : i = id
    · rw [if_pos hi] at h2; exact ⟨_, s, g, by simp only [run, h1, hi, if_true], h2⟩
    · rw [if_neg hi] at h2; exact ⟨_, s, g, by simp only [run, h1, hi, if_false], h2⟩
  | goto i => exact ⟨_, s, g, by simp only [run, h1], h2⟩
  | ret => exact ⟨_, s, g, by simp only [run, h1], h2⟩
theorem Wp.scope {a : AC} (k : Wp O a (scpQ Q) σ h) : Wp O (.scope a) Q σ h := by
  obtain ⟨e, s, g, h1, h2⟩ := k
  cases e with
  | normal => exact ⟨_, s, g, by simp only [run, h1], h2⟩
  | exit i => exact ⟨_, s, g, by simp only [run, h1], h2⟩
  | goto i => exact h2.elim
  | ret => exact ⟨_, s, g, by simp only [run, h1], h2⟩

theorem OpsQ.run {O : CallO} {k0 : Nat} : ∀ {ops : List AO} {K : Slots → Heap → Prop} {σ : Slots} {h : Heap}, OpsQ O k0 ops K σ h → ∃ σ' h', opsRun O k0 ops σ h = some (σ', h') ∧ K σ' h'
  | [], K, σ, h, k => ⟨σ, h, rfl, k⟩
  | o :: r, K, σ, h, k => by
    obtain ⟨b, hp, k⟩ := k
    cases b with
    | true =>
      obtain ⟨s, g, h1, h2⟩ := OpsQ.run (by simpa using k)
      exact ⟨s, g, by simp only [opsRun, hp, h1], h2⟩
    | false =>
      simp only [Bool.false_eq_true, if_false] at k
      obtain ⟨v, h', ha, k⟩ := k
      obtain ⟨s, g, h1, h2⟩ := OpsQ.run k
      exact ⟨s, g, by simp only [opsRun, hp, ha, h1], h2⟩

theorem Ops.run {O : CallO} {k0 : Nat} : ∀ {ops : List AO} {fs : List Foot} {K : List Foot → Slots → Heap → Prop} {σ : Slots} {h : Heap}, Ops O k0 ops fs K σ h → ∃ σ' h' gs, opsRunF O k0 ops σ h = some (σ', h', gs) ∧ K (gs.reverse ++ fs) σ' h'
  | [], fs, K, σ, h, k => ⟨σ, h, [], rfl, k⟩
  | o :: r, fs, K, σ, h, k => by
    obtain ⟨b, hp, k⟩ := k
    cases b with
    | true =>
      obtain ⟨s, g, gs, h1, h2⟩ := Ops.run (by simpa using k)
      exact ⟨s, g, ⟨some [], some []⟩ :: gs, by simp only [opsRunF, hp, h1, Option.map_some], by simpa using h2⟩
    | false =>
      simp only [Bool.false_eq_true, if_false] at k
      obtain ⟨v, h', ha, k⟩ := k
      obtain ⟨s, g, gs, h1, h2⟩ := Ops.run k
      exact ⟨s, g, foot σ h h' (k0 + o.key) o.op :: gs, by simp only [opsRunF, hp, ha, h1, Option.map_some], by simpa using h2⟩

theorem Wp.region {ops : List AO} {nk : Nat} {ps : List (Nat × Nat)} (k : OpsQ O.call h.length ops (Q .normal) σ (h ++ List.replicate nk .dead)) : Wp O (.region ops nk false ps) Q σ h := by
  obtain ⟨s, g, h1, h2⟩ := k.run
  exact ⟨_, s, g, by simp only [Am.run, h1], h2⟩
theorem Wp.draw {ops : List AO} {nk : Nat} {ps : List (Nat × Nat)} (k : Ops O.call h.length ops [] (fun fs σ h => pairsOk ps fs.reverse = true ∧ Q .normal σ h) σ (h ++ List.replicate nk .dead)) : Wp O (.region ops nk true ps) Q σ h := by
  obtain ⟨s, g, gs, h1, h2, h3⟩ := k.run
  simp only [List.append_nil, List.reverse_reverse] at h2
  exact ⟨_, s, g, by simp only [Am.run, h1, h2, if_true], h3⟩
/-- Where no pair meets, the order doesn't matter. -/
theorem Wp.draw0 {ops : List AO} {nk : Nat} (k : OpsQ O.call h.length ops (Q .normal) σ (h ++ List.replicate nk .dead)) : Wp O (.region ops nk true []) Q σ h := by
  obtain ⟨s, g, h1, h2⟩ := k.run
  obtain ⟨fs, h3⟩ := opsRun_F h1
  exact ⟨_, s, g, by simp [Am.run, h3, pairsOk], h2⟩

theorem OpsQ.cons {O : CallO} {k0 : Nat} {d : Option Nat} {op : AOp} {key : Nat} {r : List AO} {K : Slots → Heap → Prop} {σ : Slots} {h : Heap} : OpsQ O k0 (⟨d, op, none, key⟩ :: r) K σ h = onO (aop O σ h (k0 + key) op) fun v h' => OpsQ O k0 r K (put σ d v) h' := by
  apply propext
  simp [OpsQ, passed]
theorem OpsQ.consG {O : CallO} {k0 : Nat} {d : Option Nat} {op : AOp} {g : Nat} {w : Bool} {key : Nat} {r : List AO} {K : Slots → Heap → Prop} {σ : Slots} {h : Heap} (b : Bool) (hb : σ g = .bool b) (k1 : b ≠ w → OpsQ O k0 r K (put σ d (.tup [])) h)
    (k2 : b = w → onO (aop O σ h (k0 + key) op) fun v h' => OpsQ O k0 r K (put σ d v) h') : OpsQ O k0 (⟨d, op, some (g, w), key⟩ :: r) K σ h := by
  simp only [OpsQ, passed, hb, Option.some.injEq]
  refine ⟨b != w, rfl, ?_⟩
  by_cases e : b = w
  · have : (b != w) = false := by simp [e]
    rw [this]; simpa using k2 e
  · have : (b != w) = true := by simp [e]
    rw [this]; simpa using k1 e
theorem OpsQ.nil {O : CallO} {k0 : Nat} {K : Slots → Heap → Prop} {σ : Slots} {h : Heap} : OpsQ O k0 [] K σ h = K σ h := rfl
theorem Ops.nil {O : CallO} {k0 : Nat} {fs : List Foot} {K : List Foot → Slots → Heap → Prop} {σ : Slots} {h : Heap} : Ops O k0 [] fs K σ h = K fs σ h := rfl
theorem Ops.cons {O : CallO} {k0 : Nat} {d : Option Nat} {op : AOp} {key : Nat} {r : List AO} {fs : List Foot} {K : List Foot → Slots → Heap → Prop} {σ : Slots} {h : Heap} : Ops O k0 (⟨d, op, none, key⟩ :: r) fs K σ h = onO (aop O σ h (k0 + key) op) fun v h' => Ops O k0 r (foot σ h h' (k0 + key) op :: fs) K (put σ d v) h' := by
  apply propext
  simp [Ops, passed]
end

/-- A loop with an invariant and what falls. -/
theorem Wp.loop {X : CallO} {T : FuncId → Option AF} {a : AC} {Q : Ex → Slots → Heap → Prop} (I : Nat → Slots → Heap → Prop) (step : ∀ n σ h, I n σ h → Wp (lim X T) a (thenQ (fun σ' h' => ∃ m, m < n ∧ I m σ' h') Q) σ h) : ∀ {n : Nat} {σ : Slots} {h : Heap}, I n σ h → Wp (lim X T) (.loop a) Q σ h := by
  intro n
  induction n using Nat.strongRecOn with
  | _ n ih =>
    intro σ h hI
    obtain ⟨e, s, g, h1, h2⟩ := step n σ h hI
    cases e with
    | normal =>
      obtain ⟨m, hm, hI'⟩ := h2
      obtain ⟨e', s', g', h3, h4⟩ := ih m hm hI'
      exact ⟨e', s', g', by simp only [run, h1]; exact lim_loop_of h3, h4⟩
    | exit i => exact ⟨_, s, g, by simp only [run, h1], h2⟩
    | goto i => exact ⟨_, s, g, by simp only [run, h1], h2⟩
    | ret => exact ⟨_, s, g, by simp only [run, h1], h2⟩

def isEnd : Ex → Prop
  | .normal => True
  | .ret => True
  | _ => False
@[simp] theorem isEnd_normal : isEnd .normal = True := rfl
@[simp] theorem isEnd_ret : isEnd .ret = True := rfl

/-- A function's answer, from its body's run. -/
theorem callF_wp {O : Orc} {B : AC} {res : List ARes} {args : List AV} {h0 : Heap} {r : AV × Heap} (k : Wp O B (fun e σ h => isEnd e ∧ ∃ vs, resVals σ h res = some vs ∧ finish h0 h (oneOf vs) = some r) (fun i => args.getD i .junk) h0) : callF O ⟨B, res, false⟩ args h0 = some r := by
  obtain ⟨e, s, g, h1, h2, vs, h3, h4⟩ := k
  refine callF_of h1 ?_ h3 (by simpa using h4)
  cases e with
  | normal => exact .inl rfl
  | ret => exact .inr rfl
  | exit i => exact h2.elim
  | goto i => exact h2.elim
theorem callF_wpK {O : Orc} {B : AC} {res : List ARes} {args : List AV} {h0 : Heap} {r : AV × Heap} (k : Wp O B (fun e σ h => isEnd e ∧ ∃ vs, resVals σ h res = some vs ∧ (oneOf vs, h) = r) (fun i => args.getD i .junk) h0) : callF O ⟨B, res, true⟩ args h0 = some r := by
  obtain ⟨e, s, g, h1, h2, vs, h3, h4⟩ := k
  refine callF_of h1 ?_ h3 (by simpa using h4)
  cases e with
  | normal => exact .inl rfl
  | ret => exact .inr rfl
  | exit i => exact h2.elim
  | goto i => exact h2.elim

/-! ### Slots and heaps, for simp -/
theorem upd_apply (σ : Slots) (d : Nat) (v : AV) (i : Nat) : upd σ d v i = if i = d then v else σ i := rfl
theorem put_some (σ : Slots) (d : Nat) (v : AV) : put σ (some d) v = upd σ d v := rfl
theorem put_none (σ : Slots) (v : AV) : put σ none v = σ := rfl
theorem ev_t (σ : Slots) (i : Nat) : (AX.t i).ev σ = σ i := rfl
theorem ev_c (σ : Slots) (v : AV) : (AX.c v).ev σ = v := rfl

/-- Values without addresses go out as they are. -/
theorem clean_pure {h : Heap} {n : Nat} {v : AV} (hp : v.low n) (hs : ∀ sz xs t, v ≠ .list sz xs (.tok t)) (hsl : ∀ sz b o l c, v ≠ .sl sz b o l c) : clean1 h n v = some v := by
  unfold clean1
  split
  · rename_i sz xs r
    simp only [AV.low] at hp
    rw [if_pos hp.2]
    cases r with
    | tok t => exact absurd rfl (hs sz xs t)
    | no => rfl
    | full => rfl
  · rename_i sz b o l c
    exact absurd rfl (hsl sz b o l c)
  · rw [if_pos hp]

theorem take_cond {h0 h1 : Heap} (ht : h1.take h0.length = h0) : ∀ i, i < h0.length → h1[i]? = h0[i]? ∨ ∀ e, h1[i]? = some e → e.low h0.length := fun i hi => .inl (by
  have := congrArg (fun l => l[i]?) ht
  simpa [List.getElem?_take, hi] using this)
theorem finish_same {h0 h1 : Heap} {v v' : AV} (hc : clean h1 h0.length v = some v') (ht : h1.take h0.length = h0) : finish h0 h1 v = some (v', h0) := by
  unfold finish
  rw [hc]
  simp only
  rw [if_pos (take_cond ht), ht]

end Go.Am
