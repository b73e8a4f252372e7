/-
  The reference: row, choices.
-/
import Derived.Test.YtmmapbhhkmchcaaGreatDoorB4
set_option linter.unusedVariables false
set_option linter.unusedSimpArgs false
namespace Go.Proofs.YtmmapbhhkmchcaaGreatDoor
open Go Go.Am

/-- What a part of the reference hands back. -/
def RP (p : Pr) (h : Heap) (x : AV × Heap) : Prop := match p with
  | .ok t n => x = (.tup [t.enc, .int .i64 n], h)
  | .bad q => ∃ t : Tr, x = (.tup [t.enc, .int .i64 (-1 - (q : Int))], h)
theorem RC_of {f : FuncId} {l : List Tok} {rt : Rt} {a : Nat} {p : Pr} (k : ∀ h : Heap, ∃ x, M.call f [.list 7 (l.map tokA) rt, .int .i64 a] h = some x ∧ RP p h x) : RC f l rt a p := by
  cases p with
  | ok t n =>
    intro h
    obtain ⟨x, h1, rfl⟩ := k h
    exact h1
  | bad q =>
    refine RC_bad fun h => ?_
    obtain ⟨x, h1, t, rfl⟩ := k h
    exact ⟨t, h1⟩
/-- What a step hands on: a place, or an error's. -/
def nxI : Pr → Int
  | .ok _ n => n
  | .bad q => -1 - (q : Int)
/-- Kids under way. -/
structure InR (l : List Tok) (rt : Rt) (h0 : Heap) (E : TypeId) (b6 : Nat) (σ : Slots) (h : Heap) (ks : List Tr) (rk : Rt) : Prop where
  len : ks.length ≤ l.length + 1
  tok : 2 ≤ ks.length → ∃ t, rk = .tok t ∧ h0.length + 1 ≤ t
  s0 : σ 0 = .list 7 (l.map tokA) rt
  s4 : σ 4 = .ptr h0.length 0
  sk : σ b6 = .list 7 (ks.map Tr.enc) rk
  ow : Ow (h0.length + 1) h 7 E rk ks.length
  ht : h.take (h0.length + 1) = h0 ++ [.cells z7]
theorem InR.hl {l rt h0 E b6 σ h ks rk} (k : InR l rt h0 E b6 σ h ks rk) : h0.length + 1 ≤ h.length := by
  have := congrArg List.length k.ht
  simp at this
  omega
theorem InR.at {l rt h0 E b6 σ h ks rk} (k : InR l rt h0 E b6 σ h ks rk) : h[h0.length]? = some (.cells z7) := by
  have := congrArg (fun l : Heap => l[h0.length]?) k.ht
  simp only [List.getElem?_take, if_pos (Nat.lt_succ_self _)] at this
  rw [this]
  simp
theorem InR.take {l rt h0 E b6 σ h ks rk} (k : InR l rt h0 E b6 σ h ks rk) : h.take h0.length = h0 := by
  have := congrArg (List.take h0.length) k.ht
  rwa [List.take_take, Nat.min_eq_left (by omega), List.take_left' (by simp)] at this
section
variable {l : List Tok} {rt : Rt} (hl : l.length ≤ 1000000000)
def InvRr (l : List Tok) (rt : Rt) (h0 : Heap) (p : Pr) (F : Nat) (k : Nat) (σ : Slots) (h : Heap) : Prop := ∃ a ks rk f, InR l rt h0 25 6 σ h ks rk ∧ σ 1 = .int .i64 (a : Nat) ∧ ks.length ≤ a ∧ a ≤ l.length ∧ f ≤ F ∧ rowS l f a ks = some p ∧ k = f
include hl in
theorem rrow_step (f : Nat) (ih : ∀ f' a p, f' < f → a ≤ l.length → partS l f' a = some p → RC 132 l rt a p) (a : Nat) (ha : a ≤ l.length) (p : Pr) (hp : rowS l f a [] = some p) : RC 119 l rt a p := by
  refine RC_of fun h0 => ?_
  have kc := fun a h => rkind_ok l rt hl a h
  have bg := rbegins_ok
  refine call_post tab119 rfl ?_
  generalize hQ : (fun e σ h => isEnd e ∧ ∃ vs, resVals σ h [ARes.cell 4 (some 7), ARes.tmp 5] = some vs ∧ ∃ r, finish h0 h (oneOf vs) = some r ∧ RP p h0 r) = Q
  have fin : ∀ (σ : Slots) (h : Heap) (cs : List AV) (t : Tr) (v : Int), σ 4 = .ptr h0.length 0 → σ 5 = .int .i64 v → h[h0.length]? = some (.cells cs) → cs.length = 7 → h.take h0.length = h0 → cleans h h0.length cs = some t.encL → RP p h0 (.tup [t.enc, .int .i64 v], h0) → Q .ret σ h := by
    intro σ h cs t v s4 s5 hc hlen ht hcl hR
    subst hQ
    have e7 : cs.take 7 = cs := List.take_of_length_le (by omega)
    simp [s4, s5, hc, hlen, e7, finish_of_take ht, hcl]
    exact ⟨_, _, ⟨rfl, rfl⟩, hR⟩
  simp [wB119]
  refine Wp.loop (InvRr l rt h0 p f) ?_ (n := f) ⟨a, [], .full, f, ⟨by simp, by simp, by simp, by simp, by simp, .full, by rw [List.take_of_length_le (by simp)]; rfl⟩, by simp, by simp, ha, by omega, hp, rfl⟩
  rintro k σ h ⟨a', ks, rk, f', ik, s1, hk1, hk2, hfF, hf, hkf⟩
  subst hkf
  have hle := ik.hl
  have s0 := ik.s0
  have s4 := ik.s4
  have s6 := ik.sk
  have hat : ∀ q : Heap, (h ++ q)[h0.length]? = some (.cells z7) := fun q => by rw [List.getElem?_append_left (by omega)]; exact ik.at
  have hset : ∀ (q : Heap) (x : AE), (h ++ q).set h0.length x = h.set h0.length x ++ q := fun q x => List.set_append_left _ _ (by omega)
  unfold z7 at hat
  cases k with
  | zero => simp [rowS] at hf
  | succ f' =>
    unfold rowS at hf
    have ends : ks ≠ [] → RP p h0 (.tup [(joinT 5 ks).enc, .int .i64 a'], h0) → ∀ (σ' : Slots), σ' 1 = σ 1 → σ' 4 = σ 4 → σ' 6 = σ 6 → Wp M K119_0 Q σ' h := by
      intro hne hR σ' q1 q4 q6
      match ks, hne with
      | [t], _ =>
        simp [wK119_0, q1, q4, q6, s1, s4, s6, ik.at, z7]
        refine fin _ _ t.encL t a' ?_ ?_ (by rw [List.getElem?_set_self (by omega)]) (by simp) (by rw [List.take_set, ik.take, List.set_eq_of_length_le (by simp)]) (by simp) hR <;> simp [q1, q4, s1, s4]
      | x :: y :: ks, _ =>
        obtain ⟨t, rfl, ht⟩ := ik.tok (by simp)
        have hn1 : ¬ ((ks.length : Int) + 1 + 1 = 1) := by omega
        simp [wK119_0, q1, q4, q6, s1, s4, s6, ik.at, z7, hn1]
        refine fin _ _ _ (joinT 5 (x :: y :: ks)) a' ?_ ?_ (by rw [List.getElem?_set_self (by omega)]) (by simp) (by rw [List.take_set, ik.take, List.set_eq_of_length_le (by simp)]) ?_ hR
        · simp [q4, s4]
        · simp [q1, s1]
        · have e : joinT 5 (x :: y :: ks) = rowT 5 (x :: y :: ks) := rfl
          rw [e, row_enc]
          have := trs_low h0.length (x :: y :: ks)
          simp only [List.map_cons] at this
          have h3 : ¬ t < h0.length := by omega
          simp only [cleans_cons, clean1_tok, if_pos this, if_neg h3]
          simp [cleans, cleans_cons]
    have out : ∀ (t : Tr) (σ' : Slots) (q' : Heap) (v : Int), σ' 4 = σ 4 → σ' 5 = .int .i64 v → RP p h0 (.tup [t.enc, .int .i64 v], h0) → Q .ret σ' (h.set h0.length (.cells t.encL) ++ q') := fun t σ' q' v q4 q5 hR =>
      fin _ _ t.encL t v (by rw [q4, s4]) q5 (by rw [List.getElem?_append_left (by simp; omega), List.getElem?_set_self (by omega)]) (by simp) (by rw [List.take_append_of_le_length (by simp; omega), List.take_set, ik.take, List.set_eq_of_length_le (by simp)]) (by simp) hR
    have step : ∀ (b : Bool), (b = true → ks = []) → (b = false → ks ≠ [] ∧ begins (kd l a') = true) → (match partS l f' a' with | some (.ok t n) => rowS l f' n (ks ++ [t]) | x => x) = some p →
        Wp M L119_0 (thenQ (fun σ' h' => ∃ m, m < f' + 1 ∧ InvRr l rt h0 p f m σ' h') (blkQ 0 (thenQ (Wp M K119_0 Q) Q))) σ h := by
      intro b b1 b2 hf
      cases hpt : partS l f' a' with
      | none => rw [hpt] at hf; cases hf
      | some p1 =>
        rw [hpt] at hf
        have pt := ih f' a' p1 (by omega) hk2 hpt
        cases p1 with
        | bad q =>
          simp only [Option.some.injEq] at hf
          subst hf
          obtain ⟨tg, pt⟩ := pt
          have hq : -1 - (q : Int) < 0 := by omega
          cases b with
          | true =>
            have hks := b1 rfl
            simp [-Int.natCast_add, wL119_0, s0, s1, s4, s6, hks, pt, hq, hat, hset, Nat.add_assoc]
            refine out _ _ _ (-1 - (q : Int)) ?_ ?_ ⟨_, rfl⟩ <;> simp
          | false =>
            obtain ⟨hks, hb⟩ := b2 rfl
            simp [-Int.natCast_add, wL119_0, s0, s1, s4, s6, hks, kc, bg, hb, pt, hq, hat, hset, Nat.add_assoc]
            refine out _ _ _ (-1 - (q : Int)) ?_ ?_ ⟨_, rfl⟩ <;> simp
        | ok t n =>
          have pt : ∀ h, M.call 132 [.list 7 (l.map tokA) rt, .int .i64 a'] h = some (.tup [t.enc, .int .i64 n], h) := pt
          have hn0 : ¬ (n : Int) < 0 := by omega
          have hpr := (prog l f').2.1 _ _ _ hpt
          obtain ⟨r2, g2, p1, p2, p3⟩ := app_list (n0 := h0.length + 1) (key := h.length + 1) (sz := 7) (bytes := 72) (e := 25) (h := h ++ [AE.cells t.encL, AE.dead]) (xs := ks.map Tr.enc) (ys := [t.enc]) (r := rk) (r2 := .full)
            (by simpa using ik.ow.app _) (by omega) (by simp) (by simp; omega) (by simp; omega)
          obtain ⟨zs, hz⟩ := appA_tok (by simp) p1
          obtain rfl : r2 = .tok (h.length + 1) := by injection hz
          have goOn : ∀ (σ' : Slots), σ' 0 = σ 0 → σ' 4 = σ 4 → σ' 6 = .list 7 (ks.map Tr.enc ++ [t.enc]) (.tok (h.length + 1)) → σ' 1 = .int .i64 n → ∃ m, m < f' + 1 ∧ InvRr l rt h0 p f m σ' g2 := fun σ' q0 q4 q6 q1 =>
            ⟨f', by omega, n, ks ++ [t], .tok (h.length + 1), f', ⟨by simp; omega, fun _ => ⟨_, rfl, by omega⟩, by rw [q0, s0], by rw [q4, s4], by rw [q6]; simp, by simpa using p2, by
              rw [p3.take, List.take_append_of_le_length (by omega), ik.ht]⟩, q1, by simp; omega, hpr.2, by omega, hf, rfl⟩
          cases b with
          | true =>
            have hks := b1 rfl
            simp [-Int.natCast_add, wL119_0, s0, s1, s4, s6, hks, pt, hn0, hat, hset, Nat.add_assoc]
            subst hks
            simp at p1 goOn
            rw [p1]
            simp
            refine goOn _ ?_ ?_ ?_ ?_ <;> simp
          | false =>
            obtain ⟨hks, hb⟩ := b2 rfl
            simp [-Int.natCast_add, wL119_0, s0, s1, s4, s6, hks, kc, bg, hb, pt, hn0, hat, hset, Nat.add_assoc]
            rw [p1]
            simp
            refine goOn _ ?_ ?_ ?_ ?_ <;> simp
    by_cases hks : ks = []
    · exact step true (fun _ => hks) (fun h => by cases h) (by
        rw [hks] at hf ⊢
        cases hpt : partS l f' a' with
        | none => rw [hpt] at hf; simp at hf
        | some q => rw [hpt] at hf; cases q <;> simpa using hf)
    · have he : ks.isEmpty = false := by cases ks; exact absurd rfl hks; rfl
      cases hb : begins (kd l a') with
      | true => 
        rw [he, hb] at hf
        exact step false (fun h => by cases h) (fun _ => ⟨hks, hb⟩) (by
          cases hpt : partS l f' a' with
          | none => rw [hpt] at hf; simp at hf
          | some q => rw [hpt] at hf; cases q <;> simpa using hf)
      | false =>
        rw [he, hb] at hf
        simp at hf
        subst hf
        simp [-Int.natCast_add, wL119_0, s0, s1, s4, s6, hks, kc, bg, hb, Nat.add_assoc]
        refine ends hks rfl _ ?_ ?_ ?_ <;> simp
end
end Go.Proofs.YtmmapbhhkmchcaaGreatDoor
