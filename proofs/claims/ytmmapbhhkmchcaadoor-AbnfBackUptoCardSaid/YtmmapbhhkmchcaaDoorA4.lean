/-
  abnf: what tokens are as rules, in plain words; a heap with one place told apart.
-/
import Derived.Test.YtmmapbhhkmchcaaDoorA3
set_option linter.unusedVariables false
set_option linter.unusedSimpArgs false
namespace Go.Proofs.YtmmapbhhkmchcaaDoor
open Go Go.Am

inductive Pr where
  | ok (t : Tr) (n : Nat)
  | bad (p : Nat)
def kd (l : List Tok) (i : Nat) : UInt8 := match l[i]? with
  | some t => t.kind
  | none => 0
def smC (c : UInt8) : UInt8 := if 65 ≤ c.toNat ∧ c.toNat ≤ 90 then c ||| 32 else c
def smallP (s : List UInt8) : List UInt8 := s.map smC
def leafT (t : Tok) : Tr :=
  if t.kind = 1 then .mk 1 (smallP t.text) 0 0 0 0 true []
  else if t.kind = 10 then .mk 2 t.text 0 0 0 0 true []
  else if t.kind = 11 then .mk 3 t.text 0 0 0 0 true []
  else if t.kind = 12 then .mk 4 [] t.lo t.hi 0 0 true []
  else .mk 0 [] 0 0 0 0 true []
def zeroT : Tr := .mk 0 [] 0 0 0 0 true []
def rowT (k : UInt8) (l : List Tr) : Tr := .mk k [] 0 0 0 0 false l
def joinT (k : UInt8) : List Tr → Tr
  | [t] => t
  | l => rowT k l
def timesT (mn mx : Int) (t : Tr) : Tr := .mk 7 [] 0 0 mn mx false [t]
def mayT (t : Tr) : Tr := .mk 7 [] 0 0 0 1 true [t]
def begins (k : UInt8) : Bool := k == 1 || k == 5 || k == 7 || decide (9 ≤ k.toNat ∧ k.toNat ≤ 12)
mutual
def thingS (l : List Tok) : Nat → Nat → Option Pr
  | 0, _ => none
  | f + 1, a =>
    if kd l a = 5 ∨ kd l a = 7 then
      match choicesS l f (a + 1) [] with
      | some (.ok t n) => if kd l n = kd l a + 1 then some (.ok (if kd l a = 7 then mayT t else t) (n + 1)) else some (.bad n)
      | x => x
    else match l[a]? with
      | none => some (.bad a)
      | some t => if aloneP (leafT t) then some (.ok (leafT t) (a + 1)) else some (.bad a)
def partS (l : List Tok) : Nat → Nat → Option Pr
  | 0, _ => none
  | f + 1, a =>
    match l[a]? with
    | none => thingS l f a
    | some x =>
      if x.kind = 9 then
        if aloneP (timesT x.mn x.mx zeroT) then
          match thingS l f (a + 1) with
          | some (.ok t n) => some (.ok (timesT x.mn x.mx t) n)
          | y => y
        else some (.bad a)
      else thingS l f a
def rowS (l : List Tok) : Nat → Nat → List Tr → Option Pr
  | 0, _, _ => none
  | f + 1, a, ks =>
    if ks.isEmpty || begins (kd l a) then
      match partS l f a with
      | some (.ok t n) => rowS l f n (ks ++ [t])
      | x => x
    else some (.ok (joinT 5 ks) a)
def choicesS (l : List Tok) : Nat → Nat → List Tr → Option Pr
  | 0, _, _ => none
  | f + 1, a, ks =>
    match rowS l f a [] with
    | some (.ok t n) => if kd l n = 4 then choicesS l f (n + 1) (ks ++ [t]) else some (.ok (joinT 6 (ks ++ [t])) n)
    | x => x
end

/-! ### A heap with one place told apart -/
def HH (g : Heap) (r : Nat) (e : AE) : Heap := g.set r e
section
variable {g : Heap} {r : Nat} {e : AE} (hr : r < g.length)
theorem HH_of (hg : g[r]? = some e) : ∃ g', g = HH g' r e ∧ r < g'.length := by
  obtain ⟨h1, h2⟩ := List.getElem?_eq_some_iff.1 hg
  refine ⟨g, ?_, h1⟩
  unfold HH
  rw [← h2]
  simp
@[simp] theorem HH_len : (HH g r e).length = g.length := by simp [HH]
include hr in
theorem HH_get (l : List AE) : (HH g r e ++ l)[r]? = some e := by
  rw [List.getElem?_append_left (by simpa using hr)]
  simp [HH, hr]
include hr in
theorem HH_get0 : (HH g r e)[r]? = some e := by simp [HH, hr]
include hr in
theorem HH_set (e' : AE) (l : List AE) : (HH g r e ++ l).set r e' = HH g r e' ++ l := by
  rw [List.set_append_left _ _ (by simpa using hr)]
  simp [HH]
theorem HH_set0 (e' : AE) : (HH g r e).set r e' = HH g r e' := by simp [HH]
@[simp] theorem HH_at0 (l : List AE) : (HH g r e ++ l)[g.length]? = l[0]? := by
  have := get_app0 (HH g r e) l
  rwa [HH_len] at this
@[simp] theorem HH_at (l : List AE) (k : Nat) : (HH g r e ++ l)[g.length + k]? = l[k]? := by
  have := get_app (HH g r e) l k
  rwa [HH_len] at this
@[simp] theorem HH_put0 (l : List AE) (x : AE) : (HH g r e ++ l).set g.length x = HH g r e ++ l.set 0 x := by
  have := set_app0 (HH g r e) l x
  rwa [HH_len] at this
@[simp] theorem HH_put (l : List AE) (k : Nat) (x : AE) : (HH g r e ++ l).set (g.length + k) x = HH g r e ++ l.set k x := by
  have := set_app (HH g r e) l k x
  rwa [HH_len] at this
theorem HH_take {h : Heap} (h1 : h.take g.length = HH g r e) (h2 : r < g.length) (e' : AE) : (h.set r e').take g.length = HH g r e' := by
  rw [List.take_set, h1]
  simp [HH]
theorem HH_of_take {h : Heap} (h1 : h.take g.length = HH g r e) (h2 : r < g.length) : h[r]? = some e := by
  have := congrArg (fun l : Heap => l[r]?) h1
  simp only [List.getElem?_take, if_pos h2] at this
  rw [this]
  simp [HH, h2]
/-- A function's end that has turned the one place alone. -/
theorem finish_HH {e' : AE} {h : Heap} (h1 : h.take g.length = HH g r e') (hr : r < g.length) (hl : e'.low g.length) (v : AV) : finish (HH g r e) h v = (clean h g.length v).map fun v' => (v', HH g r e') := by
  unfold finish
  rw [HH_len]
  cases clean h g.length v with
  | none => rfl
  | some v' =>
    simp only
    rw [if_pos, h1]
    · rfl
    · intro i hi
      by_cases e0 : i = r
      · subst e0
        right
        intro x hx
        rw [HH_of_take h1 hr] at hx
        injection hx with hx
        subst hx
        exact hl
      · left
        have := congrArg (fun l : Heap => l[i]?) h1
        simp only [List.getElem?_take, if_pos hi] at this
        rw [this]
        simp only [HH]
        rw [List.getElem?_set_ne (Ne.symm e0), List.getElem?_set_ne (Ne.symm e0)]
end
/-- The reader: tokens, a place, and whether there was an error. -/
def stC (l : List Tok) (rt : Rt) (a : Nat) (off : Bool) : AE := .cells [.list 7 (l.map tokA) rt, .int .i64 a, .bool off]
theorem stC_low {l : List Tok} {rt : Rt} {a : Nat} {off : Bool} {n : Nat} (h : ∀ t, rt = .tok t → t < n) : (stC l rt a off).low n := by
  simp only [stC, AE.low, AV.lows, AV.low, and_true]
  exact ⟨h, toks_low n l⟩
end Go.Proofs.YtmmapbhhkmchcaaDoor
