/-
  The reference: choices; all parts.
-/
import Derived.Test.YtmmapbhhkmchcaaGreatDoorB5
set_option linter.unusedVariables false
set_option linter.unusedSimpArgs false
namespace Go.Proofs.YtmmapbhhkmchcaaGreatDoor
open Go Go.Am

/-- Choices under way. -/
structure InS (l : List Tok) (rt : Rt) (h0 : Heap) (E : TypeId) (σ : Slots) (h : Heap) (ks : List Tr) (rk : Rt) (x : Tr) (v : Int) : Prop where
  ne : ks ≠ []
  len : ks.length ≤ l.length + 1
  tok : 2 ≤ ks.length → ∃ t, rk = .tok t ∧ h0.length + 2 ≤ t
  s0 : σ 0 = .list 7 (l.map tokA) rt
  s4 : σ 4 = .ptr h0.length 0
  s6 : σ 6 = .ptr (h0.length + 1) 0
  s7 : σ 7 = .int .i64 v
  s8 : σ 8 = .list 7 (ks.map Tr.enc) rk
  ow : Ow (h0.length + 2) h 7 E rk ks.length
  ht : h.take (h0.length + 2) = h0 ++ [.cells z7, .cells x.encL]
section
variable {l : List Tok} {rt : Rt} {h0 : Heap} {E : TypeId} {σ : Slots} {h : Heap} {ks : List Tr} {rk : Rt} {x : Tr} {v : Int} (k : InS l rt h0 E σ h ks rk x v)
include k
theorem InS.hl : h0.length + 2 ≤ h.length := by
  have := congrArg List.length k.ht
  simp at this
  omega
theorem InS.at0 : h[h0.length]? = some (.cells z7) := by
  have := congrArg (fun l : Heap => l[h0.length]?) k.ht
  simp only [List.getElem?_take, if_pos (show h0.length < h0.length + 2 by omega)] at this
  rw [this]
  simp
theorem InS.at1 : h[h0.length + 1]? = some (.cells x.encL) := by
  have := congrArg (fun l : Heap => l[h0.length + 1]?) k.ht
  simp only [List.getElem?_take, if_pos (show h0.length + 1 < h0.length + 2 by omega)] at this
  rw [this]
  simp
theorem InS.take : h.take h0.length = h0 := by
  have := congrArg (List.take h0.length) k.ht
  rwa [List.take_take, Nat.min_eq_left (by omega), List.take_left' (by simp)] at this
end
section
variable {l : List Tok} {rt : Rt} (hl : l.length ≤ 1000000000)
def InvRc (l : List Tok) (rt : Rt) (h0 : Heap) (p : Pr) (F : Nat) (k : Nat) (σ : Slots) (h : Heap) : Prop := ∃ ks rk x v, InS l rt h0 25 σ h ks rk x v ∧
  ((∃ (a f : Nat), v = (a : Int) ∧ ks.length ≤ a ∧ a ≤ l.length ∧ f ≤ F ∧ pend l f a ks = some p ∧ k = f + 1) ∨ (∃ q : Nat, v = -1 - (q : Int) ∧ p = .bad q ∧ k = 0))
include hl in
theorem rchoices_step (f : Nat) (ih : ∀ f' a p, f' < f → a ≤ l.length → rowS l f' a [] = some p → RC 119 l rt a p) (a : Nat) (ha : a ≤ l.length) (p : Pr) (hp : choicesS l f a [] = some p) : RC 83 l rt a p := by
  refine RC_of fun h0 => ?_
  have kc := fun a h => rkind_ok l rt hl a h
  refine call_post tab83 rfl ?_
  generalize hQ : (fun e σ h => isEnd e ∧ ∃ vs, resVals σ h [ARes.cell 4 (some 7), ARes.tmp 5] = some vs ∧ ∃ r, finish h0 h (oneOf vs) = some r ∧ RP p h0 r) = Q
  have fin : ∀ (σ : Slots) (h : Heap) (cs : List AV) (t : Tr) (v : Int), σ 4 = .ptr h0.length 0 → σ 5 = .int .i64 v → h[h0.length]? = some (.cells cs) → cs.length = 7 → h.take h0.length = h0 → cleans h h0.length cs = some t.encL → RP p h0 (.tup [t.enc, .int .i64 v], h0) → Q .ret σ h := by
    intro σ h cs t v s4 s5 hc hlen ht hcl hR
    subst hQ
    have e7 : cs.take 7 = cs := List.take_of_length_le (by omega)
    simp [s4, s5, hc, hlen, e7, finish_of_take ht, hcl]
    exact ⟨_, _, ⟨rfl, rfl⟩, hR⟩
  have loop : ∀ (n : Nat) (σ : Slots) (h : Heap), InvRc l rt h0 p f n σ h → Wp M (.loop L83_0) (blkQ 0 (thenQ (Wp M K83_0 Q) Q)) σ h := by
    intro n σ h hI
    refine Wp.loop (InvRc l rt h0 p f) ?_ hI
    clear hI n σ h
    rintro k σ h ⟨ks, rk, x, v, ik, hc⟩
    have hle := ik.hl
    have s0 := ik.s0
    have s4 := ik.s4
    have s6 := ik.s6
    have s7 := ik.s7
    have s8 := ik.s8
    have ends : RP p h0 (.tup [(joinT 6 ks).enc, .int .i64 v], h0) → ∀ (σ' : Slots), σ' 4 = σ 4 → σ' 7 = σ 7 → σ' 8 = σ 8 → Wp M K83_0 Q σ' h := by
      intro hR σ' q4 q7 q8
      match ks, ik.ne with
      | [t], _ =>
        simp [wK83_0, q4, q7, q8, s4, s7, s8, ik.at0, z7]
        refine fin _ _ t.encL t v ?_ ?_ (by rw [List.getElem?_set_self (by omega)]) (by simp) (by rw [List.take_set, ik.take, List.set_eq_of_length_le (by simp)]) (by simp) hR <;> simp [q4, q7, s4, s7]
      | x :: y :: ks, _ =>
        obtain ⟨t, rfl, ht⟩ := ik.tok (by simp)
        have hn1 : ¬ ((ks.length : Int) + 1 + 1 = 1) := by omega
        simp [wK83_0, q4, q7, q8, s4, s7, s8, ik.at0, z7, hn1]
        refine fin _ _ _ (joinT 6 (x :: y :: ks)) v ?_ ?_ (by rw [List.getElem?_set_self (by omega)]) (by simp) (by rw [List.take_set, ik.take, List.set_eq_of_length_le (by simp)]) ?_ hR
        · simp [q4, s4]
        · simp [q7, s7]
        · have e : joinT 6 (x :: y :: ks) = rowT 6 (x :: y :: ks) := rfl
          rw [e, row_enc]
          have := trs_low h0.length (x :: y :: ks)
          simp only [List.map_cons] at this
          have h3 : ¬ t < h0.length := by omega
          simp only [cleans_cons, clean1_tok, if_pos this, if_neg h3]
          simp [cleans, cleans_cons]
    rcases hc with ⟨a', f', rfl, hk1, hk2, hfF, hf, rfl⟩ | ⟨q, rfl, rfl, rfl⟩
    · have h0a : (0 : Int) ≤ a' := by omega
      have k4 := u8_eq (kd l a') 4 (by omega)
      simp at k4
      unfold pend at hf
      by_cases hb : kd l a' = 4
      · rw [if_pos hb] at hf
        have hlt := kd_lt hb (by decide)
        have w1 : IntKind.wrap .i64 ((a' : Int) + 1) = ((a' + 1 : Nat) : Int) := by rw [wrap64 (by omega) (by omega)]; rfl
        cases f' with
        | zero => simp [choicesS] at hf
        | succ f' =>
          unfold choicesS at hf
          cases hpt : rowS l f' (a' + 1) [] with
          | none => rw [hpt] at hf; cases hf
          | some p1 =>
            rw [hpt] at hf
            have pt := ih f' (a' + 1) p1 (by omega) (by omega) hpt
            have hat := ik.at1
            have hd7 : ∀ x : Tr, x.encL.drop 7 = [] := fun x => List.drop_eq_nil_of_le (by simp)
            have hset2 : ∀ (y : AE) (q : Heap), (h.set (h0.length + 1) y ++ q)[h0.length + 1]? = some y := fun y q => by rw [List.getElem?_append_left (by simp; omega), List.getElem?_set_self (by omega)]
            have hset1 : ∀ y, (h.set (h0.length + 1) y)[h0.length + 1]? = some y := fun y => by rw [List.getElem?_set_self (by omega)]
            have step : ∀ (t : Tr) (v : Int) (m : Nat), m < f' + 2 → M.call 119 [.list 7 (l.map tokA) rt, .int .i64 ((a' + 1 : Nat) : Int)] h = some (.tup [t.enc, .int .i64 v], h) →
                ((∃ (a f1 : Nat), v = (a : Int) ∧ ks.length + 1 ≤ a ∧ a ≤ l.length ∧ f1 ≤ f ∧ pend l f1 a (ks ++ [t]) = some p ∧ m = f1 + 1) ∨ (∃ q : Nat, v = -1 - (q : Int) ∧ p = .bad q ∧ m = 0)) →
                Wp M L83_0 (thenQ (fun σ' h' => ∃ m, m < f' + 2 ∧ InvRc l rt h0 p f m σ' h') (blkQ 0 (thenQ (Wp M K83_0 Q) Q))) σ h := by
              intro t v m hm pt hc
              simp [-Int.natCast_add, wL83_0, s0, s4, s6, s7, s8, h0a, kc, hb, k4, w1, pt, hat, hd7, hset1, hset2, Nat.add_assoc]
              have e2 : ∀ q : Heap, (h.set (h0.length + 1) (AE.cells t.encL) ++ q).take (h0.length + 2) = h0 ++ [.cells z7, .cells t.encL] := fun q => by
                rw [List.take_append_of_le_length (by simp; omega), List.take_set, ik.ht]
                simp
              obtain ⟨r2, g2, p1, p2, p3⟩ := app_list (n0 := h0.length + 2) (key := h.length) (sz := 7) (bytes := 72) (e := 25) (h := h.set (h0.length + 1) (AE.cells t.encL) ++ [AE.dead]) (xs := ks.map Tr.enc) (ys := [t.enc]) (r := rk) (r2 := .full)
                (by simpa using (ik.ow.set (i := h0.length + 1) (x := AE.cells t.encL) (fun s m f => by rw [hat]; simp)).app _) (by omega) (by simp) (by simp; omega) (by simp; omega)
              obtain ⟨zs, hz⟩ := appA_tok (by simp) p1
              obtain rfl : r2 = .tok h.length := by injection hz
              rw [p1]
              simp
              refine ⟨m, hm, ks ++ [t], .tok h.length, t, v, ⟨by simp, by simp; omega, fun _ => ⟨_, rfl, hle⟩, by simp [s0], by simp [s4], by simp [s6], by simp, by simp, by simpa using p2, by rw [p3.take]; exact e2 _⟩, by simpa using hc⟩
            cases p1 with
            | ok t n =>
              have hpr := (prog l f').2.2.1 _ _ _ _ hpt
              have hpr1 := hpr.1 (.inr rfl)
              have hpr2 := hpr.2.2 rfl
              exact step t n (f' + 1) (by omega) (pt h) (.inl ⟨n, f', rfl, by omega, hpr1, by omega, hf, rfl⟩)
            | bad q =>
              simp only [Option.some.injEq] at hf
              subst hf
              obtain ⟨tg, pt⟩ := pt
              exact step (tg h) _ 0 (by omega) (pt h) (.inr ⟨q, rfl, rfl, rfl⟩)
      · rw [if_neg hb] at hf
        simp only [Option.some.injEq] at hf
        subst hf
        have k4' := eq_false (fun q => hb (k4.mp q))
        simp [-Int.natCast_add, wL83_0, s0, s4, s6, s7, s8, h0a, kc, k4', Nat.add_assoc]
        refine ends rfl _ ?_ ?_ ?_ <;> simp
    · have hq : ¬ (q : Int) ≤ -1 := by omega
      simp [-Int.natCast_add, wL83_0, s0, s4, s6, s7, s8, hq, Nat.add_assoc]
      refine ends ⟨_, rfl⟩ _ ?_ ?_ ?_ <;> simp
  cases f with
  | zero => simp [choicesS] at hp
  | succ f =>
    unfold choicesS at hp
    cases hpt : rowS l f a [] with
    | none => rw [hpt] at hp; cases hp
    | some p1 =>
      rw [hpt] at hp
      have pt := ih f a p1 (by omega) ha hpt
      have goI : ∀ (t : Tr) (v : Int) (m : Nat) (σ : Slots), ((∃ (a f1 : Nat), v = (a : Int) ∧ 1 ≤ a ∧ a ≤ l.length ∧ f1 ≤ f + 1 ∧ pend l f1 a [t] = some p ∧ m = f1 + 1) ∨ (∃ q : Nat, v = -1 - (q : Int) ∧ p = .bad q ∧ m = 0)) →
          σ 0 = .list 7 (l.map tokA) rt → σ 4 = .ptr h0.length 0 → σ 6 = .ptr (h0.length + 1) 0 → σ 7 = .int .i64 v → σ 8 = .list 7 [t.enc] .full →
          Wp M (.loop L83_0) (blkQ 0 (thenQ (Wp M K83_0 Q) Q)) σ (h0 ++ [.cells z7, .cells t.encL]) := fun t v m σ hc s0 s4 s6 s7 s8 =>
        loop m σ _ ⟨[t], .full, t, v, ⟨by simp, by simp, by simp, s0, s4, s6, s7, by rw [s8]; rfl, .full, by rw [List.take_of_length_le (by simp)]⟩, by simpa using hc⟩
      cases p1 with
      | ok t n =>
        have hpr := (prog l f).2.2.1 _ _ _ _ hpt
        have hpr1 := hpr.1 (.inr rfl)
        have hpr2 := hpr.2.2 rfl
        have pt : ∀ h, M.call 119 [.list 7 (l.map tokA) rt, .int .i64 (a : Int)] h = some (.tup [t.enc, .int .i64 n], h) := pt
        simp [-Int.natCast_add, wB83, pt, Nat.add_assoc]
        refine goI t n (f + 1) _ (.inl ⟨n, f, rfl, by omega, hpr1, by omega, hp, rfl⟩) ?_ ?_ ?_ ?_ ?_ <;> simp
      | bad q =>
        simp only [Option.some.injEq] at hp
        subst hp
        obtain ⟨tg, pt⟩ := pt
        simp [-Int.natCast_add, wB83, pt, Nat.add_assoc]
        refine goI _ _ 0 _ (.inr ⟨q, rfl, rfl, rfl⟩) ?_ ?_ ?_ ?_ ?_ <;> simp
end
end Go.Proofs.YtmmapbhhkmchcaaGreatDoor
