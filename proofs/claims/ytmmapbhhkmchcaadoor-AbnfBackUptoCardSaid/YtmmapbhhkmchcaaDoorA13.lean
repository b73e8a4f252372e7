/-
  abnf: behind an error; what is read has no greater texts.
-/
import Derived.Test.YtmmapbhhkmchcaaDoorA12
set_option linter.unusedVariables false
set_option linter.unusedSimpArgs false
namespace Go.Proofs.YtmmapbhhkmchcaaDoor
open Go Go.Am

section
variable {l : List Tok} {rt : Rt} {r : Nat} (hl : l.length ≤ 1000000000)
theorem OFF_of {f : FuncId} {a : Nat} (k : ∀ g : Heap, r < g.length → (∀ t, rt = .tok t → t < g.length) → ∃ x, M.call f [.ptr r 0] (HH g r (stC l rt a true)) = some x ∧ PR l rt g r (.bad a) x) : ∃ tg : Heap → Tr, ∀ h : Heap, h[r]? = some (stC l rt a true) → (∀ t, rt = .tok t → t < h.length) → M.call f [.ptr r 0] h = some ((tg h).enc, h.set r (stC l rt a true)) := by
  have : ∀ h : Heap, ∃ t : Tr, h[r]? = some (stC l rt a true) → (∀ t, rt = .tok t → t < h.length) → M.call f [.ptr r 0] h = some (t.enc, h.set r (stC l rt a true)) := fun h => by
    by_cases c : h[r]? = some (stC l rt a true) ∧ (∀ t, rt = .tok t → t < h.length)
    · obtain ⟨c1, c2⟩ := c
      obtain ⟨g, rfl, hlt⟩ := HH_of c1
      obtain ⟨x, h1, t, rfl⟩ := k g hlt (by simpa using c2)
      exact ⟨t, fun _ _ => by rw [h1, HH_set0]⟩
    · exact ⟨zeroT, fun h1 h2 => absurd ⟨h1, h2⟩ c⟩
  obtain ⟨tg, htg⟩ := Classical.axiomOfChoice this
  exact ⟨tg, htg⟩
include hl in
theorem part_off (a : Nat) : ∃ tg : Heap → Tr, ∀ h : Heap, h[r]? = some (stC l rt a true) → (∀ t, rt = .tok t → t < h.length) → M.call 75 [.ptr r 0] h = some ((tg h).enc, h.set r (stC l rt a true)) := by
  refine ⟨fun _ => zeroT, fun h hr hrt => ?_⟩
  obtain ⟨q, hq⟩ := part_thing hl a a true true (by simp [nextB]) (fun _ => zeroT) h hr hrt (fun h hr hrt => thing_no hl a true (by simp [nextB]) h hr hrt)
  exact hq
include hl in
theorem row_off (a : Nat) : ∃ tg : Heap → Tr, ∀ h : Heap, h[r]? = some (stC l rt a true) → (∀ t, rt = .tok t → t < h.length) → M.call 58 [.ptr r 0] h = some ((tg h).enc, h.set r (stC l rt a true)) :=
  OFF_of fun g hlt hrt => row_gen hl 0 (fun f' a p h => by omega) true a (.bad a) (.inr ⟨rfl, rfl⟩) (fun _ => part_off hl a) g hlt hrt
include hl in
theorem choices_off (a : Nat) : ∃ tg : Heap → Tr, ∀ h : Heap, h[r]? = some (stC l rt a true) → (∀ t, rt = .tok t → t < h.length) → M.call 35 [.ptr r 0] h = some ((tg h).enc, h.set r (stC l rt a true)) :=
  OFF_of fun g hlt hrt => choices_gen hl 0 (fun f' a p h => by omega) true a (.bad a) (.inr ⟨rfl, rfl⟩) (fun _ => row_off hl a) g hlt hrt

theorem TOk_leaf {t : Tok} (h : t.text.length ≤ 1000000000) : TOk (leafT t) := by
  have : (leafT t).kids = [] := by unfold leafT; split <;> (try split) <;> (try split) <;> (try split) <;> rfl
  have h2 : (leafT t).s.length ≤ 1000000000 := by unfold leafT; split <;> (try split) <;> (try split) <;> (try split) <;> simp [Tr.s, smallP] <;> exact h
  exact TOk.mk h2 (by rw [this]; simp) (by rw [this]; simp)
theorem TOk_one {t : Tr} (mn mx : Int) (h : TOk t) : TOk (timesT mn mx t) := TOk.mk (by simp [timesT, Tr.s]) (by simp [timesT, Tr.kids]) (by simpa [timesT, Tr.kids] using h)
theorem TOk_may {t : Tr} (h : TOk t) : TOk (mayT t) := TOk.mk (by simp [mayT, Tr.s]) (by simp [mayT, Tr.kids]) (by simpa [mayT, Tr.kids] using h)
theorem TOk_join (k : UInt8) : ∀ {ks : List Tr}, ks.length ≤ 1000000000 → (∀ t ∈ ks, TOk t) → TOk (joinT k ks)
  | [], _, _ => TOk.mk (by simp [joinT, rowT, Tr.s]) (by simp [joinT, rowT, Tr.kids]) (by simp [joinT, rowT, Tr.kids])
  | [t], _, h => h t (by simp)
  | x :: y :: q, h1, h2 => TOk.mk (by simp [joinT, rowT, Tr.s]) (by simpa [joinT, rowT, Tr.kids] using h1) (by simpa [joinT, rowT, Tr.kids] using h2)
include hl in
theorem parts_TOk (ht : ∀ t ∈ l, t.text.length ≤ 1000000000) : ∀ f, (∀ a t n, thingS l f a = some (.ok t n) → TOk t) ∧ (∀ a t n, partS l f a = some (.ok t n) → TOk t) ∧
    (∀ a ks t n, rowS l f a ks = some (.ok t n) → (∀ k ∈ ks, TOk k) → ks.length ≤ a → (a ≤ l.length ∨ ks = []) → TOk t) ∧ (∀ a ks t n, choicesS l f a ks = some (.ok t n) → (∀ k ∈ ks, TOk k) → ks.length ≤ a → TOk t) := by
  intro f
  induction f with
  | zero => exact ⟨fun a t n h => by simp [thingS] at h, fun a t n h => by simp [partS] at h, fun a ks t n h => by simp [rowS] at h, fun a ks t n h => by simp [choicesS] at h⟩
  | succ f ih =>
    obtain ⟨i1, i2, i3, i4⟩ := ih
    refine ⟨fun a t n h => ?_, fun a t n h => ?_, fun a ks t n h q1 q2 q3 => ?_, fun a ks t n h q1 q2 => ?_⟩
    · unfold thingS at h
      split at h
      · split at h
        · rename_i t1 n1 hc
          have := i4 _ _ _ _ hc (by simp) (by simp)
          split at h
          · simp only [Option.some.injEq, Pr.ok.injEq] at h
            obtain ⟨rfl, _⟩ := h
            split
            · exact TOk_may this
            · exact this
          · cases h
        · rename_i hno
          exact absurd h (hno _ _)
      · split at h
        · cases h
        · rename_i t1 e
          split at h
          · simp only [Option.some.injEq, Pr.ok.injEq] at h
            obtain ⟨rfl, _⟩ := h
            exact TOk_leaf (ht _ (List.mem_of_getElem? e))
          · cases h
    · unfold partS at h
      split at h
      · exact i1 _ _ _ h
      · split at h
        · split at h
          · split at h
            · rename_i t1 n1 hc
              have := i1 _ _ _ hc
              simp only [Option.some.injEq, Pr.ok.injEq] at h
              obtain ⟨rfl, _⟩ := h
              exact TOk_one _ _ this
            · rename_i hno
              exact absurd h (hno _ _)
          · cases h
        · exact i1 _ _ _ h
    · unfold rowS at h
      split at h
      · split at h
        · rename_i t1 n1 hc
          have h1 := (prog l f).2.1 _ _ _ hc
          refine i3 _ _ _ _ h (fun k hk => ?_) (by simp; omega) (.inl h1.2)
          rcases List.mem_append.1 hk with hk | hk
          · exact q1 k hk
          · simp only [List.mem_singleton] at hk; subst hk; exact i2 _ _ _ hc
        · rename_i hno
          exact absurd h (hno _ _)
      · simp only [Option.some.injEq, Pr.ok.injEq] at h
        obtain ⟨rfl, _⟩ := h
        refine TOk_join 5 ?_ q1
        rcases q3 with q3 | q3
        · omega
        · subst q3; simp
    · unfold choicesS at h
      split at h
      · rename_i t1 n1 hc
        have h1 := (prog l f).2.2.1 _ _ _ _ hc
        have h2 := h1.1 (.inr rfl)
        have h3 := h1.2.2 rfl
        have hk1 : ∀ k ∈ ks ++ [t1], TOk k := fun k hk => by
          rcases List.mem_append.1 hk with hk | hk
          · exact q1 k hk
          · simp only [List.mem_singleton] at hk; subst hk; exact i3 _ _ _ _ hc (by simp) (by simp) (.inr rfl)
        split at h
        · exact i4 _ _ _ _ h hk1 (by simp; omega)
        · simp only [Option.some.injEq, Pr.ok.injEq] at h
          obtain ⟨rfl, _⟩ := h
          exact TOk_join 6 (by simp; omega) hk1
      · rename_i hno
        exact absurd h (hno _ _)
include hl in
theorem cho_TOk (ht : ∀ t ∈ l, t.text.length ≤ 1000000000) {a n : Nat} {t : Tr} (h : choP l a = .ok t n) : TOk t :=
  (parts_TOk hl ht _).2.2.2 a [] t n (by rw [choP_eq, h]) (by simp) (by simp)
theorem cho_prog {a n : Nat} {t : Tr} (h : choP l a = .ok t n) : a < n ∧ n ≤ l.length :=
  (prog l _).2.2.2 a [] t n (by rw [choP_eq, h])
include hl in
theorem cho_ok (ht : ∀ t ∈ l, t.text.length ≤ 1000000000) (a : Nat) : CC 35 l rt r a (choP l a) := (parts_ok hl ht _).2.2.2 a _ (choP_eq l a)
end

/-- A rule. -/
structure Ru where
  name : List UInt8
  pos : Int
  more : Bool
  tree : Tr
def ruA (x : Ru) : AV := .agg ([.str x.name, .int .i64 x.pos, .bool x.more] ++ x.tree.encL)
inductive Rr where
  | ok (x : Ru) (n : Nat)
  | bad (p : Nat)
/-- The rule from a place on. -/
def ruleS (l : List Tok) (a : Nat) : Rr :=
  match l[a]? with
  | none => .bad a
  | some n =>
    if n.kind = 1 ∧ aloneP (leafT n) = true then
      if kd l (a + 1) = 2 ∨ kd l (a + 1) = 3 then
        match choP l (a + 2) with
        | .bad p => .bad p
        | .ok t m => if kd l m = 13 then .ok ⟨smallP n.text, n.pos, decide (kd l (a + 1) = 3), t⟩ (m + 1) else .bad m
      else .bad (a + 1)
    else .bad a
def posAt (l : List Tok) (p : Nat) : Int := match l[min p (l.length - 1)]? with
  | some t => t.pos
  | none => 0
/-- The rules of tokens, or the first error's place, and the error. -/
def rulesS (l : List Tok) : Nat → Nat → List Ru → List Ru × Int × Int
  | 0, _, out => (out, 0, 0)
  | f + 1, a, out =>
    if a < l.length then
      match ruleS l a with
      | .bad p => ([], posAt l p, 20)
      | .ok x m => if fitsP 100 x.tree then rulesS l f m (out ++ [x]) else ([], x.pos, 21)
    else (out, 0, 0)
def parseP (l : List Tok) : List Ru × Int × Int := rulesS l (l.length + 1) 0 []
end Go.Proofs.YtmmapbhhkmchcaaDoor
