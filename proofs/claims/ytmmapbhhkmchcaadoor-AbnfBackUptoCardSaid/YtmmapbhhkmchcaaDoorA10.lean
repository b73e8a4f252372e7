/-
  abnf: row, whole.
-/
import Derived.Test.YtmmapbhhkmchcaaDoorA9
set_option linter.unusedVariables false
set_option linter.unusedSimpArgs false
namespace Go.Proofs.YtmmapbhhkmchcaaDoor
open Go Go.Am

section
variable {l : List Tok} {rt : Rt} {r : Nat} (hl : l.length ≤ 1000000000)
def InvRw (l : List Tok) (rt : Rt) (r : Nat) (g : Heap) (p : Pr) (F : Nat) (k : Nat) (σ : Slots) (h : Heap) : Prop := ∃ a off ks rk, InK l rt g r 24 σ h a off ks rk ∧
  ((off = false ∧ ks.length ≤ a ∧ a ≤ l.length ∧ ∃ f, f ≤ F ∧ rowS l f a ks = some p ∧ k = f + 1) ∨ (off = true ∧ p = .bad a ∧ k = 0))
include hl in
theorem row_gen (f : Nat) (ih : ∀ f' a p, f' < f → partS l f' a = some p → CC 75 l rt r a p) (off : Bool) (a : Nat) (p : Pr) (hp : (off = false ∧ rowS l f a [] = some p) ∨ (off = true ∧ p = .bad a))
    (hoff : off = true → ∃ tg : Heap → Tr, ∀ h : Heap, h[r]? = some (stC l rt a true) → (∀ t, rt = .tok t → t < h.length) → M.call 75 [.ptr r 0] h = some ((tg h).enc, h.set r (stC l rt a true)))
    (g : Heap) (hlt : r < g.length) (hrt : ∀ t, rt = .tok t → t < g.length) : ∃ x, M.call 58 [.ptr r 0] (HH g r (stC l rt a off)) = some x ∧ PR l rt g r p x := by
  refine call_post tab58 rfl ?_
  generalize hQ : (fun e σ h => isEnd e ∧ ∃ vs, resVals σ h [ARes.cell 2 (some 7)] = some vs ∧ ∃ r', finish (HH g r (stC l rt a off)) h (oneOf vs) = some r' ∧ PR l rt g r p r') = Q
  have fin : ∀ (σ : Slots) (h : Heap) (a' : Nat) (off : Bool) (cs : List AV) (t : Tr), σ 2 = .ptr g.length 0 → h[g.length]? = some (.cells cs) → cs.length = 7 → h.take g.length = HH g r (stC l rt a' off) → cleans h g.length cs = some t.encL → PR l rt g r p (t.enc, HH g r (stC l rt a' off)) → Q .ret σ h := by
    intro σ h a' off cs t s2 hc hlen ht hcl hR
    subst hQ
    have e7 : cs.take 7 = cs := List.take_of_length_le (by omega)
    simp [s2, hc, hlen, e7]
    rw [finish_HH ht hlt (stC_low hrt)]
    simp [hcl]
    exact ⟨_, _, ⟨rfl, rfl⟩, hR⟩
  have go : ∀ (σ : Slots) (h : Heap) (a' : Nat) (off : Bool) (t : Tr), ((off = false ∧ 1 ≤ a' ∧ a' ≤ l.length ∧ ∃ f', f' ≤ f ∧ rowS l f' a' [t] = some p) ∨ (off = true ∧ p = .bad a')) → σ 0 = .ptr r 0 → σ 2 = .ptr g.length 0 → σ 3 = .list 7 [t.enc] .full → h = HH g r (stC l rt a' off) ++ [.cells z7] → ∃ n, InvRw l rt r g p f n σ h := by
    intro σ h a' off t hc s0 s2 s3 hh
    have : InK l rt g r 24 σ h a' off [t] .full := ⟨by simp, by simp, by simp, s0, s2, by rw [s3]; rfl, .full, by rw [hh, List.take_of_length_le (by simp)]⟩
    rcases hc with ⟨h1, h2, h3, f', h4, h5⟩ | ⟨h1, h2⟩
    · exact ⟨f' + 1, a', off, [t], .full, this, .inl ⟨h1, by simpa using h2, h3, f', h4, h5, rfl⟩⟩
    · exact ⟨0, a', off, [t], .full, this, .inr ⟨h1, h2, rfl⟩⟩
  have loop : ∀ (n : Nat) (σ : Slots) (h : Heap), InvRw l rt r g p f n σ h → Wp M (.loop L58_0) (blkQ 0 (thenQ (Wp M K58_0 Q) Q)) σ h := by
    intro n σ h hI
    refine Wp.loop (InvRw l rt r g p f) ?_ hI
    clear hI n σ h
    rintro k σ h ⟨a', off, ks, rk, ik, hc⟩
    have hle := ik.hl
    have hrh : r < h.length := by omega
    have hrt' : ∀ t, rt = .tok t → t < h.length := fun t ht => by have := hrt t ht; omega
    have e1 : ∀ q : Heap, (h ++ q)[r]? = some (stC l rt a' off) := fun q => by rw [List.getElem?_append_left hrh]; exact ik.st hlt
    have nx := fun rk' (q : Heap) => next_ok (rt := rt) hl a' off begL (by decide) rk' (h ++ q) (e1 q)
    have endd : (PR l rt g r p ((joinT 5 ks).enc, HH g r (stC l rt a' off))) → ∀ (σ' : Slots) (q : Heap), σ' 2 = σ 2 → σ' 3 = σ 3 → Wp M K58_0 Q σ' (h ++ q) := by
      intro hR σ' q q2 q3
      obtain ⟨cs, c1, c2, c3⟩ := joined_all 5 ks ik.ne rk g.length ik.tok
      have jn := c2 (h ++ q) (fun t ht => by have := ik.low t ht; simp; omega)
      have hat : (h ++ q)[g.length]? = some (.cells z7) := by rw [List.getElem?_append_left (by omega)]; exact ik.at
      have hset : ∀ x, ((h ++ q).set g.length x)[g.length]? = some x := fun x => by rw [List.getElem?_set_self (by simp; omega)]
      have e7 : cs.take 7 = cs := List.take_of_length_le (by omega)
      have hfin : ∀ σ', σ' 2 = .ptr g.length 0 → Q .ret σ' ((h ++ q).set g.length (.cells cs)) := fun σ' s2 => fin _ _ a' off cs (joinT 5 ks) s2 (hset _) c1 (by rw [List.take_set, List.take_append_of_le_length (by omega), ik.take, List.set_eq_of_length_le (by simp)]) (c3 _) hR
      simp at jn
      simp [wK58_0, q2, q3, ik.s2, ik.s3, jn, hat, z7, c1, e7]
      exact hfin _ (by simp [q2, ik.s2])
    rcases hc with ⟨rfl, hk1, hk2, f', hfF, hf, rfl⟩ | ⟨rfl, rfl, rfl⟩
    · have hnb : nextB l a' false begL = begins (kd l a') := by
        unfold nextB
        cases e : l[a']? with
        | none => simp [kd, e, begins]
        | some t => rw [kd_of e, ← begL_eq]; rfl
      rw [hnb] at nx
      unfold rowS at hf
      cases f' with
      | zero => cases hf
      | succ f' =>
        cases hb : begins (kd l a') with
        | false =>
          have hne : ks.isEmpty = false := by cases ks; exact absurd rfl ik.ne; rfl
          simp only [hne, hb, Bool.or_self, Bool.false_eq_true, if_false] at hf
          simp only [Option.some.injEq] at hf
          subst hf
          rw [hb] at nx
          simp [begL] at nx
          simp [wL58_0, ik.s0, nx]
          exact endd rfl _ _ (by simp) (by simp)
        | true =>
          simp only [hb, Bool.or_true, if_true] at hf
          rw [hb] at nx
          simp [begL] at nx
          cases hpt : partS l f' a' with
          | none => rw [hpt] at hf; cases hf
          | some p1 =>
            rw [hpt] at hf
            have pt := ih f' a' p1 (by omega) hpt
            have step : ∀ (tg : Heap → Tr) (n : Nat) (off : Bool), (∀ q : Heap, M.call 75 [.ptr r 0] (h ++ q) = some ((tg q).enc, h.set r (stC l rt n off) ++ q)) →
                (∀ q, (off = false ∧ ks.length + 1 ≤ n ∧ n ≤ l.length ∧ ∃ f'', rowS l f'' n (ks ++ [tg q]) = some p ∧ f'' < f' + 1) ∨ (off = true ∧ p = .bad n)) → Wp M L58_0 (thenQ (fun σ' h' => ∃ m, m < f' + 1 + 1 ∧ InvRw l rt r g p f m σ' h') (blkQ 0 (thenQ (Wp M K58_0 Q) Q))) σ h := by
              intro tg n off pc hc
              simp [wL58_0, ik.s0, ik.s3, nx, pc]
              have hc := hc [AE.tok 1 7 5, AE.dead]
              generalize tg [AE.tok 1 7 5, AE.dead] = t at *
              obtain ⟨r2, g2, p1, p2, p3⟩ := app_list (n0 := g.length + 1) (key := h.length + 1) (sz := 7) (bytes := 72) (e := 24) (h := h.set r (stC l rt n off) ++ [AE.tok 1 7 5, AE.dead]) (xs := ks.map Tr.enc) (ys := [t.enc]) (r := rk) (r2 := .full)
                (by simpa using (ik.ow.set (i := r) (x := stC l rt n off) (fun s m f => by rw [ik.st hlt]; simp [stC])).app _) (by omega) (by simp) (by simp; omega) (by simp; omega)
              obtain ⟨zs, hz⟩ := appA_tok (by simp) p1
              obtain rfl : r2 = .tok (h.length + 1) := by injection hz
              rw [p1]
              simp
              have ik2 : ∀ σ', σ' 0 = σ 0 → σ' 2 = σ 2 → σ' 3 = .list 7 (ks.map Tr.enc ++ [t.enc]) (.tok (h.length + 1)) → InK l rt g r 24 σ' g2 n off (ks ++ [t]) (.tok (h.length + 1)) := fun σ' q0 q2 q3 =>
                ⟨by simp, by simp; omega, fun _ => ⟨_, rfl, by omega⟩, by rw [q0, ik.s0], by rw [q2, ik.s2], by rw [q3]; simp, by simpa using p2, by
                  rw [p3.take, List.take_append_of_le_length (by simp; omega), List.take_set, ik.ht, HH_set hlt]⟩
              rcases hc with ⟨c1, c2, c3, f'', c4, c5⟩ | ⟨c1, c2⟩
              · exact ⟨f'' + 1, by omega, n, off, ks ++ [t], _, ik2 _ (by simp) (by simp) (by simp), .inl ⟨c1, by simpa using c2, c3, f'', by omega, c4, rfl⟩⟩
              · exact ⟨0, by omega, n, off, ks ++ [t], _, ik2 _ (by simp) (by simp) (by simp), .inr ⟨c1, c2, rfl⟩⟩
            cases p1 with
            | ok t n =>
              have hpr := (prog l f').2.1 _ _ _ hpt
              refine step (fun _ => t) n false (fun q => ?_) (fun t' => ?_)
              · rw [pt (h ++ q) (e1 q) (fun t ht => by have := hrt' t ht; simp; omega), List.set_append_left _ _ hrh]
              · exact .inl ⟨rfl, by omega, hpr.2, f', hf, by omega⟩
            | bad n =>
              simp only [Option.some.injEq] at hf
              subst hf
              obtain ⟨tg, pt⟩ := pt
              refine step (fun q => tg (h ++ q)) n true (fun q => ?_) (fun t' => .inr ⟨rfl, rfl⟩)
              rw [pt (h ++ q) (e1 q) (fun t ht => by have := hrt' t ht; simp; omega), List.set_append_left _ _ hrh]
    · have nx' : ∀ rk' (q : Heap), M.call 57 [.ptr r 0, .list 1 (ofBytes begL) rk'] (h ++ q) = some (.bool false, h ++ q) := fun rk' q => by rw [nx]; simp [nextB]
      simp [begL] at nx'
      simp [wL58_0, ik.s0, nx']
      obtain ⟨t, ht⟩ : ∃ t : Tr, PR l rt g r (.bad a') (t.enc, HH g r (stC l rt a' true)) := ⟨zeroT, zeroT, rfl⟩
      exact endd ⟨_, rfl⟩ _ _ (by simp) (by simp)
  have goW := fun σ h a' off t hc s0 s2 s3 hh => (go σ h a' off t hc s0 s2 s3 hh).elim fun n hI => loop n σ h hI
  rcases hp with ⟨rfl, hp⟩ | ⟨rfl, rfl⟩
  · cases f with
    | zero => simp [rowS] at hp
    | succ f =>
      unfold rowS at hp
      rw [if_pos (by simp)] at hp
      cases hpt : partS l f a with
      | none => rw [hpt] at hp; cases hp
      | some p1 =>
        rw [hpt] at hp
        have pt := ih f a p1 (by omega) hpt
        cases p1 with
        | ok t n =>
          have hpr := (prog l f).2.1 _ _ _ hpt
          have pc := fun q => at_HH (r := r) (g := g) hlt (fun h hg hr => pt h hr (fun t ht => by have := hrt t ht; omega)) q
          simp [wB58, pc]
          refine goW _ _ n false t (.inl ⟨rfl, by omega, hpr.2, f, by omega, hp⟩) ?_ ?_ ?_ rfl <;> simp
        | bad n =>
          simp only [Option.some.injEq] at hp
          subst hp
          obtain ⟨tg, pt⟩ := pt
          have pc := fun q => pt (HH g r (stC l rt a false) ++ q) (HH_get hlt q) (fun t ht => by have := hrt t ht; simp; omega)
          simp only [HH_set hlt] at pc
          simp [wB58, pc]
          refine goW _ _ n true ?_ (.inr ⟨rfl, rfl⟩) ?_ ?_ ?_ rfl
          rotate_left
          · simp
          · simp
          · simp; rfl
  · obtain ⟨tg, pt⟩ := hoff rfl
    have pc := fun q => pt (HH g r (stC l rt a true) ++ q) (HH_get hlt q) (fun t ht => by have := hrt t ht; simp; omega)
    simp only [HH_set hlt] at pc
    simp [wB58, pc]
    refine goW _ _ a true ?_ (.inr ⟨rfl, rfl⟩) ?_ ?_ ?_ rfl
    rotate_left
    · simp
    · simp
    · simp; rfl
include hl in
theorem row_step (f : Nat) (ih : ∀ f' a p, f' < f → partS l f' a = some p → CC 75 l rt r a p) (a : Nat) (p : Pr) (hp : rowS l f a [] = some p) : CC 58 l rt r a p :=
  CC_of fun g hlt hrt => row_gen hl f ih false a p (.inl ⟨rfl, hp⟩) (fun h => by cases h) g hlt hrt
end
end Go.Proofs.YtmmapbhhkmchcaaDoor
