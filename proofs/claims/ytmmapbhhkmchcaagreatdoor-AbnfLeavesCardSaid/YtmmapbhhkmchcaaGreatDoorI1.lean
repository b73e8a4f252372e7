/-
  AbnfLeaves: what the lexer's tokens are.
-/
import Derived.Test.YtmmapbhhkmchcaaGreatDoorI0
set_option linter.unusedVariables false
set_option linter.unusedSimpArgs false
namespace Go.Proofs.YtmmapbhhkmchcaaGreatDoor
open Go Go.Am

/-- A token's shape; a name stands at the text's front. -/
def frontT (s : List UInt8) (t : Tok) : Prop := shapeT t ∧ (t.kind = 1 → t.text <+: s)
theorem front_kind {s : List UInt8} {t : Tok} (h : t.kind = 0 ∨ t.kind = 2 ∨ t.kind = 3 ∨ t.kind = 4 ∨ t.kind = 5 ∨ t.kind = 6 ∨ t.kind = 7 ∨ t.kind = 8 ∨ t.kind = 9 ∨ t.kind = 13) : frontT s t := by
  refine ⟨⟨fun e => ?_, fun e => ?_, fun e => ?_⟩, fun e => ?_⟩
  · rcases h with h | h | h | h | h | h | h | h | h | h <;> rw [h] at e <;> exact absurd e (by decide)
  · rcases h with h | h | h | h | h | h | h | h | h | h <;> rw [h] at e <;> exact absurd e (by decide)
  · rcases h with h | h | h | h | h | h | h | h | h | h <;> rw [h] at e <;> exact absurd e (by decide)
  · rcases h with h | h | h | h | h | h | h | h | h | h <;> rw [h] at e <;> exact absurd e (by decide)
theorem runN_all (p : UInt8 → Bool) : ∀ s : List UInt8, (s.take (runN p s)).all p = true := by
  intro s
  unfold runN
  induction s with
  | nil => simp
  | cons c s ih =>
    by_cases h : p c = true
    · simp only [List.takeWhile_cons, h, if_true, List.length_cons, List.take_succ_cons, List.all_cons, Bool.true_and]
      exact ih
    · simp [h]
theorem dots_front (s0 : List UInt8) (base : Nat) (s : List UInt8) : ∀ (f a : Nat) (t : List UInt8), frontT s0 (dotsP base s f a t).tok
  | 0, a, t => front_kind (.inl rfl)
  | f + 1, a, t => by
    unfold dotsP
    split
    · split
      · exact front_kind (.inl rfl)
      · split
        · exact dots_front s0 base s f _ _
        · exact front_kind (.inl rfl)
    · refine ⟨⟨fun e => ?_, fun e => ⟨rfl, rfl, rfl, rfl⟩, fun e => ?_⟩, fun e => ?_⟩ <;> simp at e
theorem readL_front (c : UInt8) (s : List UInt8) : ∀ (ps : List RowP), (∀ p ∈ ps, frontT s (p.2 s).tok) → frontT s (readL ps c s).tok
  | [], _ => front_kind (.inl rfl)
  | p :: ps, h => by
    unfold readL
    split
    · exact h p List.mem_cons_self
    · exact readL_front c s ps fun q hq => h q (List.mem_cons_of_mem _ hq)
theorem readP_front (c : UInt8) (s : List UInt8) : frontT s (readP c s).tok := by
  refine readL_front c s rowsP fun p hp => ?_
  simp only [rowsP, List.mem_cons, List.not_mem_nil, or_false] at hp
  rcases hp with rfl | rfl | rfl | rfl | rfl | rfl | rfl | rfl | rfl | rfl | rfl | rfl
  · refine ⟨⟨fun _ => ⟨rfl, rfl, rfl, rfl, runN_all _ _⟩, fun e => ?_, fun e => ?_⟩, fun _ => List.take_prefix _ _⟩ <;> simp [nameP] at e
  · simp only [isP]; split
    · exact front_kind (by simp)
    · exact front_kind (by simp)
  · exact front_kind (by simp [signP])
  · exact front_kind (by simp [signP])
  · exact front_kind (by simp [signP])
  · exact front_kind (by simp [signP])
  · exact front_kind (by simp [signP])
  · simp only [timesP]
    repeat' split
    all_goals exact front_kind (by simp)
  · simp only [charsP]
    split
    · refine ⟨⟨fun e => ?_, fun e => ⟨rfl, rfl, rfl, rfl⟩, fun e => ?_⟩, fun e => ?_⟩ <;> simp at e
    · exact front_kind (by simp)
  · simp only [valueP]
    split
    · exact front_kind (by simp)
    · split
      · split
        · split
          · exact front_kind (by simp)
          · split
            · refine ⟨⟨fun e => ?_, fun e => ?_, fun e => ⟨rfl, rfl, rfl⟩⟩, fun e => ?_⟩ <;> simp at e
            · exact front_kind (by simp)
        · exact dots_front _ _ _ _ _ _
      · exact front_kind (by simp)
  · exact front_kind (by simp)
  · exact front_kind (by simp)
/-- A token of a text: its place, its shape. -/
def goodT (s : List UInt8) (t : Tok) : Prop := (∃ p : Nat, t.pos = (p : Int) ∧ p ≤ s.length ∧ (t.kind = 1 → t.text <+: s.drop p)) ∧ shapeT t
theorem shape_pos {t : Tok} (p : Int) (h : shapeT t) : shapeT { t with pos := p } := h
theorem end_good {s : List UInt8} {a : Nat} (h : a ≤ s.length) : goodT s { kind := 13, pos := (a : Int) } :=
  ⟨⟨a, rfl, h, fun e => by simp at e⟩, (front_kind (s := []) (t := { kind := 13, pos := (a : Int) }) (by simp)).1⟩
theorem lineP_good (src s : List UInt8) (off : Nat) (hs : s <+: src.drop off) (ho : off ≤ src.length) : ∀ (f i : Nat) (out : List Tok), (∀ t ∈ out, goodT src t) → ∀ t ∈ (lineP s off f i out).1, goodT src t
  | 0, i, out, h => by simpa [lineP] using h
  | f + 1, i, out, h => by
    unfold lineP
    cases e : s[i]? with
    | none => simpa using h
    | some c =>
      have hlt := (List.getElem?_eq_some_iff.1 e).1
      have hsl := hs.length_le
      simp only [List.length_drop] at hsl
      simp only
      split
      · exact h
      · split
        · exact lineP_good src s off hs ho f (i + 1) out h
        · split
          · intro t ht; cases ht
          · refine lineP_good src s off hs ho f _ _ fun t ht => ?_
            rcases List.mem_append.1 ht with ht | ht
            · exact h t ht
            · simp only [List.mem_singleton] at ht
              subst ht
              obtain ⟨h1, h2⟩ := readP_front c (s.drop i)
              refine ⟨⟨off + i, rfl, by omega, fun e => ?_⟩, shape_pos _ h1⟩
              refine (h2 e).trans ?_
              rw [← List.drop_drop]
              obtain ⟨q, hq⟩ := hs
              exact ⟨q, by rw [← hq, List.drop_append_of_le_length (by omega)]⟩
theorem trim_pre (s p : List UInt8) : trimSuf s p <+: s := by
  unfold trimSuf
  split
  · exact List.take_prefix _ _
  · exact List.prefix_refl _
theorem cutL_pre (s : List UInt8) : cutL s <+: s := by
  unfold cutL
  split
  · exact (trim_pre _ _).trans (List.takeWhile_prefix _)
  · exact List.takeWhile_prefix _
theorem lexF_good (s : List UInt8) : ∀ (f a : Nat) (any : Bool) (out : List Tok), (∀ t ∈ out, goodT s t) → ∀ t ∈ (lexF s f a any out).1, goodT s t
  | 0, a, any, out, h => by simpa [lexF] using h
  | f + 1, a, any, out, h => by
    unfold lexF
    have hE : ∀ (p : Prop) [Decidable p] (q : Nat), q ≤ s.length → ∀ t ∈ (if p then out ++ [({ kind := 13, pos := (q : Int) } : Tok)] else out), goodT s t := fun p _ q hq t ht => by
      split at ht
      · rcases List.mem_append.1 ht with ht | ht
        · exact h t ht
        · simp only [List.mem_singleton] at ht
          subst ht
          exact end_good hq
      · exact h t ht
    by_cases hlt : a < s.length
    · rw [if_pos hlt]
      simp only
      split
      · exact lexF_good s f _ any out h
      · split
        · exact lexF_good s f _ any out h
        · split
          · intro t ht; cases ht
          · split
            · intro t ht; cases ht
            · refine lexF_good s f _ true _ fun t ht => ?_
              rcases List.mem_append.1 ht with ht | ht
              · exact hE _ a (by omega) t ht
              · exact lineP_good s _ a (cutL_pre _) (by omega) _ 0 [] (fun t ht => by cases ht) t ht
    · rw [if_neg hlt]
      exact hE _ s.length (Nat.le_refl _)
theorem lexP_good (s : List UInt8) : ∀ t ∈ (lexP s).1, goodT s t := by
  unfold lexP
  split
  · intro t ht; cases ht
  · exact lexF_good s _ 0 false [] (fun t ht => by cases ht)
theorem lexF_err (s : List UInt8) : ∀ (f a : Nat) (any : Bool) (out : List Tok), (lexF s f a any out).2.2 ≠ 0 → (lexF s f a any out).1 = []
  | 0, a, any, out => by simp [lexF]
  | f + 1, a, any, out => by
    unfold lexF
    by_cases hlt : a < s.length
    · rw [if_pos hlt]
      simp only
      split
      · exact lexF_err s f _ any out
      · split
        · exact lexF_err s f _ any out
        · split
          · intro _; rfl
          · split
            · intro _; rfl
            · exact lexF_err s f _ true _
    · rw [if_neg hlt]
      simp
theorem lexP_err (s : List UInt8) : (lexP s).2.2 ≠ 0 → (lexP s).1 = [] := by
  unfold lexP
  split
  · intro _; rfl
  · exact lexF_err s _ 0 false []
/-- Where an error is told, and that there are no rules then. -/
theorem rules_err {s : List UInt8} {l : List Tok} (hg : ∀ t ∈ l, goodT s t) : ∀ (f a : Nat) (out : List Ru), (rulesS l f a out).2.2 ≠ 0 → (rulesS l f a out).1 = [] ∧ 0 ≤ (rulesS l f a out).2.1 ∧ (rulesS l f a out).2.1 ≤ s.length
  | 0, a, out => by simp [rulesS]
  | f + 1, a, out => by
    unfold rulesS
    have hpos : ∀ t ∈ l, 0 ≤ t.pos ∧ t.pos ≤ s.length := fun t ht => by
      obtain ⟨⟨p, hp, hl, _⟩, _⟩ := hg t ht
      omega
    by_cases hlt : a < l.length
    · rw [if_pos hlt]
      cases hr : ruleS l a with
      | bad q =>
        intro _
        refine ⟨rfl, ?_⟩
        simp only
        unfold posAt
        cases e : l[min q (l.length - 1)]? with
        | none => simp
        | some t => exact hpos t (List.mem_of_getElem? e)
      | ok x m =>
        obtain ⟨h1, h2, n, t, en, hk, hal, h23, hc, h13, rfl⟩ := ruleS_ok hr
        simp only
        split
        · exact rules_err hg f m _
        · intro _
          exact ⟨rfl, hpos n (List.mem_of_getElem? en)⟩
    · rw [if_neg hlt]
      simp
/-- What is parsed is right, and its name and its place are those of a token. -/
theorem rules_each {l : List Tok} : ∀ (f a : Nat) (out : List Ru), (∀ x ∈ out, fitsP 100 x.tree = true ∧ ∃ n ∈ l, n.kind = 1 ∧ x.name = smallP n.text ∧ x.pos = n.pos) → ∀ x ∈ (rulesS l f a out).1, fitsP 100 x.tree = true ∧ ∃ n ∈ l, n.kind = 1 ∧ x.name = smallP n.text ∧ x.pos = n.pos
  | 0, a, out, h => by simpa [rulesS] using h
  | f + 1, a, out, h => by
    unfold rulesS
    by_cases hlt : a < l.length
    · rw [if_pos hlt]
      cases hr : ruleS l a with
      | bad q => intro x hx; cases hx
      | ok x m =>
        obtain ⟨h1, h2, n, t, en, hk, hal, h23, hc, h13, rfl⟩ := ruleS_ok hr
        simp only
        cases hf : fitsP 100 t with
        | false => simp only [Bool.false_eq_true, if_false]; intro x hx; cases hx
        | true =>
          simp only [if_true]
          refine rules_each f m _ fun x hx => ?_
          rcases List.mem_append.1 hx with hx | hx
          · exact h x hx
          · simp only [List.mem_singleton] at hx
            subst hx
            exact ⟨hf, n, List.mem_of_getElem? en, hk, rfl, rfl⟩
    · rw [if_neg hlt]
      exact h
end Go.Proofs.YtmmapbhhkmchcaaGreatDoor
