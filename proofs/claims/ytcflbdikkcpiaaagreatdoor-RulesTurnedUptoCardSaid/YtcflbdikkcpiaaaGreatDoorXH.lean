/-
  abnf: how far a part reaches.
-/
import Derived.Test.YtcflbdikkcpiaaaGreatDoorXG
set_option linter.unusedVariables false
set_option linter.unusedSimpArgs false
namespace Go.Proofs.YtcflbdikkcpiaaaGreatDoor
open Go Go.Am
theorem kd_lt {l : List Tok} {n : Nat} {k : UInt8} (h : kd l n = k) (hk : k ≠ 0) : n < l.length := by
 unfold kd at h
 cases e : l[n]? with
 | none => rw [e] at h; exact absurd h.symm hk
 | some t => exact (List.getElem?_eq_some_iff.1 e).1
theorem prog (l : List Tok) : ∀ f, (∀ a t n, thingS l f a = some (.ok t n) → a < n ∧ n ≤ l.length) ∧ (∀ a t n, partS l f a = some (.ok t n) → a < n ∧ n ≤ l.length) ∧
  (∀ a ks t n, rowS l f a ks = some (.ok t n) → (a ≤ l.length ∨ ks = [] → n ≤ l.length) ∧ a ≤ n ∧ (ks = [] → a < n)) ∧ (∀ a ks t n, choicesS l f a ks = some (.ok t n) → a < n ∧ n ≤ l.length) := by
 intro f
 induction f with
 | zero => exact ⟨fun a t n h => by simp [thingS] at h, fun a t n h => by simp [partS] at h, fun a ks t n h => by simp [rowS] at h, fun a ks t n h => by simp [choicesS] at h⟩
 | succ f ih =>
  obtain ⟨i1, i2, i3, i4⟩ := ih
  refine ⟨fun a t n h => ?_, fun a t n h => ?_, fun a ks t n h => ?_, fun a ks t n h => ?_⟩
  ·unfold thingS at h
   split at h
   ·rename_i hk
    split at h
    ·rename_i t1 n1 hc
     have := i4 _ _ _ _ hc
     split at h
     ·rename_i hs
      have hlt := kd_lt hs (by rcases hk with e | e <;> rw [e] <;> decide)
      simp only [Option.some.injEq, Pr.ok.injEq] at h
      omega
     ·cases h
    ·rename_i hno
     exact absurd h (hno _ _)
   ·split at h
    ·cases h
    ·rename_i t1 e
     have := (List.getElem?_eq_some_iff.1 e).1
     split at h
     ·simp only [Option.some.injEq, Pr.ok.injEq] at h
      omega
     ·cases h
  ·unfold partS at h
   split at h
   ·exact i1 _ _ _ h
   ·split at h
    ·split at h
     ·split at h
      ·rename_i t1 n1 hc
       have := i1 _ _ _ hc
       simp only [Option.some.injEq, Pr.ok.injEq] at h
       omega
      ·rename_i hno
       exact absurd h (hno _ _)
     ·cases h
    ·exact i1 _ _ _ h
  ·unfold rowS at h
   split at h
   ·split at h
    ·rename_i t1 n1 hc
     have h1 := i2 _ _ _ hc
     have h2 := i3 _ _ _ _ h
     have h3 := h2.1 (.inl h1.2)
     exact ⟨fun _ => h3, by omega, fun _ => by omega⟩
    ·rename_i hno
     exact absurd h (hno _ _)
   ·rename_i hb
    simp only [Option.some.injEq, Pr.ok.injEq] at h
    have : ks ≠ [] := by intro e; subst e; simp at hb
    exact ⟨fun q => by rcases q with q | q; omega; exact absurd q this, by omega, fun q => absurd q this⟩
  ·unfold choicesS at h
   split at h
   ·rename_i t1 n1 hc
    have h1 := i3 _ _ _ _ hc
    have h2 := h1.1 (.inr rfl)
    have h3 := h1.2.2 rfl
    split at h
    ·have := i4 _ _ _ _ h
     omega
    ·simp only [Option.some.injEq, Pr.ok.injEq] at h
     omega
   ·rename_i hno
    exact absurd h (hno _ _)
theorem appA_tok {h h' : Heap} {key sz bytes : Nat} {e : TypeId} {s : Nat} {xs ys : List AV} {r r2 : Rt} {v : AV} (hy : ys ≠ []) (h1 : appA h key sz bytes e (.list s xs r) (.list sz ys r2) = some (v, h')) : ∃ zs, v = .list sz zs (.tok key) := by
 unfold appA at h1
 simp only [srcOf, true_or, if_true] at h1
 rw [if_neg hy] at h1
 split at h1
 ·simp only [Option.some.injEq, Prod.mk.injEq] at h1
  exact ⟨_, h1.1.symm⟩
 ·cases h1
def z7 : List AV := [.int .u8 0, .str [], .int .u8 0, .int .u8 0, .int .i64 0, .int .i64 0, .list 7 [] .full]
def begL : List UInt8 := [9, 1, 10, 11, 12, 5, 7]
theorem begL_eq (k : UInt8) : begL.contains k = begins k := by
 have h : ∀ n : Fin 256, begL.contains (UInt8.ofNat n) = begins (UInt8.ofNat n) := by decide +kernel
 exact forall_u8 (p := fun k => begL.contains k = begins k) h k
def PR (l : List Tok) (rt : Rt) (g : Heap) (r : Nat) (p : Pr) (x : AV × Heap) : Prop := match p with
 | .ok t n => x = (t.enc, HH g r (stC l rt n false))
 | .bad q => ∃ t : Tr, x = (t.enc, HH g r (stC l rt q true))
theorem CC_of {f : FuncId} {l : List Tok} {rt : Rt} {r a : Nat} {p : Pr} (k : ∀ g : Heap, r < g.length → (∀ t, rt = .tok t → t < g.length) → ∃ x, M.call f [.ptr r 0] (HH g r (stC l rt a false)) = some x ∧ PR l rt g r p x) : CC f l rt r a p := by
 cases p with
 | ok t n =>
  intro h hr hrt
  obtain ⟨g, rfl, hlt⟩ := HH_of hr
  obtain ⟨x, h1, rfl⟩ := k g hlt (by simpa using hrt)
  rw [h1, HH_set0]
 | bad q =>
  refine CC_bad fun h hr hrt => ?_
  obtain ⟨g, rfl, hlt⟩ := HH_of hr
  obtain ⟨x, h1, t, rfl⟩ := k g hlt (by simpa using hrt)
  exact ⟨t, by rw [h1, HH_set0]⟩
structure InK (l : List Tok) (rt : Rt) (g : Heap) (r : Nat) (E : TypeId) (σ : Slots) (h : Heap) (a : Nat) (off : Bool) (ks : List Tr) (rk : Rt) : Prop where
 ne : ks ≠ []
 len : ks.length ≤ l.length + 1
 tok : 2 ≤ ks.length → ∃ t, rk = .tok t ∧ g.length ≤ t
 s0 : σ 0 = .ptr r 0
 s2 : σ 2 = .ptr g.length 0
 s3 : σ 3 = .list 7 (ks.map Tr.enc) rk
 ow : Ow (g.length + 1) h 7 E rk ks.length
 ht : h.take (g.length + 1) = HH g r (stC l rt a off) ++ [.cells z7]
theorem InK.hl {l rt g r E σ h a off ks rk} (k : InK l rt g r E σ h a off ks rk) : g.length + 1 ≤ h.length := by
 have := congrArg List.length k.ht
 simp at this
 omega
theorem InK.at {l rt g r E σ h a off ks rk} (k : InK l rt g r E σ h a off ks rk) : h[g.length]? = some (.cells z7) := by
 have := congrArg (fun l : Heap => l[g.length]?) k.ht
 simp only [List.getElem?_take, if_pos (Nat.lt_succ_self _)] at this
 rw [this]
 simp
theorem InK.take {l rt g r E σ h a off ks rk} (k : InK l rt g r E σ h a off ks rk) : h.take g.length = HH g r (stC l rt a off) := by
 have := congrArg (List.take g.length) k.ht
 rw [List.take_take, Nat.min_eq_left (by omega), List.take_left' (by simp)] at this
 exact this
theorem InK.st {l rt g r E σ h a off ks rk} (k : InK l rt g r E σ h a off ks rk) (hr : r < g.length) : h[r]? = some (stC l rt a off) := HH_of_take k.take hr
theorem InK.low {l rt g r E σ h a off ks rk} (k : InK l rt g r E σ h a off ks rk) : ∀ t, rk = .tok t → t < h.length := by
 intro t ht
 rcases k.ow with q | ⟨t', q1, q2, q3⟩
 ·rw [q] at ht; cases ht
 ·rw [q1] at ht; injection ht with ht; subst ht
  exact (List.getElem?_eq_some_iff.1 q3).1
theorem row_enc (k : UInt8) (ks : List Tr) : (rowT k ks).encL = [.int .u8 k.toNat, .str [], .int .u8 0, .int .u8 0, .int .i64 0, .int .i64 0, .list 7 (ks.map Tr.enc) .no] := by
 rw [Tr.encL_eq]; simp [rowT, Tr.k, Tr.s, Tr.lo, Tr.hi, Tr.mn, Tr.mx, Tr.kids, Tr.full]
theorem joined_all (k : UInt8) (ks : List Tr) (hne : ks ≠ []) (rk : Rt) (n : Nat) (h2 : 2 ≤ ks.length → ∃ t, rk = .tok t ∧ n ≤ t) : ∃ cs : List AV, cs.length = 7 ∧ (∀ h : Heap, (∀ t, rk = .tok t → t < h.length) → M.call 106 [.int .u8 k.toNat, .list 7 (ks.map Tr.enc) rk] h = some (.agg cs, h)) ∧ ∀ q, cleans q n cs = some (joinT k ks).encL := by
 match ks, hne with
 | [t], hne =>
  refine ⟨t.encL, by simp, fun h hr => ?_, fun q => by simp [joinT]⟩
  rw [joined_ok k [t] hne rk h hr]
  rfl
 | x :: y :: ks, hne =>
  obtain ⟨t, rfl, ht⟩ := h2 (by simp)
  refine ⟨[.int .u8 k.toNat, .str [], .int .u8 0, .int .u8 0, .int .i64 0, .int .i64 0, .list 7 ((x :: y :: ks).map Tr.enc) (.tok t)], rfl, fun h hr => ?_, fun q => ?_⟩
  ·rw [joined_ok k _ hne _ h hr]
  ·have e : joinT k (x :: y :: ks) = rowT k (x :: y :: ks) := rfl
   rw [e, row_enc]
   have := trs_low n (x :: y :: ks)
   have h3 : ¬ t < n := by omega
   simp only [cleans_cons, clean1_tok, if_pos this, if_neg h3]
   simp [cleans, cleans_cons]
section
variable {l : List Tok} {rt : Rt} {r : Nat} (hl : l.length ≤ 1000000000)
def InvRw (l : List Tok) (rt : Rt) (r : Nat) (g : Heap) (p : Pr) (F : Nat) (k : Nat) (σ : Slots) (h : Heap) : Prop := ∃ a off ks rk, InK l rt g r 36 σ h a off ks rk ∧
 ((off = false ∧ ks.length ≤ a ∧ a ≤ l.length ∧ ∃ f, f ≤ F ∧ rowS l f a ks = some p ∧ k = f + 1) ∨ (off = true ∧ p = .bad a ∧ k = 0))
include hl in
theorem row_gen (f : Nat) (ih : ∀ f' a p, f' < f → partS l f' a = some p → CC 121 l rt r a p) (off : Bool) (a : Nat) (p : Pr) (hp : (off = false ∧ rowS l f a [] = some p) ∨ (off = true ∧ p = .bad a))
  (hoff : off = true → ∃ tg : Heap → Tr, ∀ h : Heap, h[r]? = some (stC l rt a true) → (∀ t, rt = .tok t → t < h.length) → M.call 121 [.ptr r 0] h = some ((tg h).enc, h.set r (stC l rt a true)))
  (g : Heap) (hlt : r < g.length) (hrt : ∀ t, rt = .tok t → t < g.length) : ∃ x, M.call 105 [.ptr r 0] (HH g r (stC l rt a off)) = some x ∧ PR l rt g r p x := by
 refine call_post tab105 rfl ?_
 generalize hQ : (fun e σ h => isEnd e ∧ ∃ vs, resVals σ h [ARes.cell 2 (some 7)] = some vs ∧ ∃ r', finish (HH g r (stC l rt a off)) h (oneOf vs) = some r' ∧ PR l rt g r p r') = Q
 have fin : ∀ (σ : Slots) (h : Heap) (a' : Nat) (off : Bool) (cs : List AV) (t : Tr), σ 2 = .ptr g.length 0 → h[g.length]? = some (.cells cs) → cs.length = 7 → h.take g.length = HH g r (stC l rt a' off) → cleans h g.length cs = some t.encL → PR l rt g r p (t.enc, HH g r (stC l rt a' off)) → Q .ret σ h := by
  intro σ h a' off cs t s2 hc hlen ht hcl hR
  subst hQ
  have e7 : cs.take 7 = cs := List.take_of_length_le (by omega)
  simp [s2, hc, hlen, e7]
  rw [finish_HH ht hlt (stC_low hrt)]
  simp [hcl]
  exact ⟨_, _, ⟨rfl, rfl⟩, hR⟩
 have go : ∀ (σ : Slots) (h : Heap) (a' : Nat) (off : Bool) (t : Tr), ((off = false ∧ 1 ≤ a' ∧ a' ≤ l.length ∧ ∃ f', f' ≤ f ∧ rowS l f' a' [t] = some p) ∨ (off = true ∧ p = .bad a')) → σ 0 = .ptr r 0 → σ 2 = .ptr g.length 0 → σ 3 = .list 7 [t.enc] .full → h = HH g r (stC l rt a' off) ++ [.cells z7] → ∃ n, InvRw l rt r g p f n σ h := by
  intro σ h a' off t hc s0 s2 s3 hh
  have : InK l rt g r 36 σ h a' off [t] .full := ⟨by simp, by simp, by simp, s0, s2, by rw [s3]; rfl, .full, by rw [hh, List.take_of_length_le (by simp)]⟩
  rcases hc with ⟨h1, h2, h3, f', h4, h5⟩ | ⟨h1, h2⟩
  ·exact ⟨f' + 1, a', off, [t], .full, this, .inl ⟨h1, by simpa using h2, h3, f', h4, h5, rfl⟩⟩
  ·exact ⟨0, a', off, [t], .full, this, .inr ⟨h1, h2, rfl⟩⟩
 have loop : ∀ (n : Nat) (σ : Slots) (h : Heap), InvRw l rt r g p f n σ h → Wp M (.loop L105_0) (blkQ 0 (thenQ (Wp M K105_0 Q) Q)) σ h := by
  intro n σ h hI
  refine Wp.loop (InvRw l rt r g p f) ?_ hI
  clear hI n σ h
  rintro k σ h ⟨a', off, ks, rk, ik, hc⟩
  have hle := ik.hl
  have hrh : r < h.length := by omega
  have hrt' : ∀ t, rt = .tok t → t < h.length := fun t ht => by have := hrt t ht; omega
  have e1 : ∀ q : Heap, (h ++ q)[r]? = some (stC l rt a' off) := fun q => by rw [List.getElem?_append_left hrh]; exact ik.st hlt
  have nx := fun rk' (q : Heap) => next_ok (rt := rt) hl a' off begL (by decide) rk' (h ++ q) (e1 q)
  have endd : (PR l rt g r p ((joinT 5 ks).enc, HH g r (stC l rt a' off))) → ∀ (σ' : Slots) (q : Heap), σ' 2 = σ 2 → σ' 3 = σ 3 → Wp M K105_0 Q σ' (h ++ q) := by
   intro hR σ' q q2 q3
   obtain ⟨cs, c1, c2, c3⟩ := joined_all 5 ks ik.ne rk g.length ik.tok
   have jn := c2 (h ++ q) (fun t ht => by have := ik.low t ht; simp; omega)
   have hat : (h ++ q)[g.length]? = some (.cells z7) := by rw [List.getElem?_append_left (by omega)]; exact ik.at
   have hset : ∀ x, ((h ++ q).set g.length x)[g.length]? = some x := fun x => by rw [List.getElem?_set_self (by simp; omega)]
   have e7 : cs.take 7 = cs := List.take_of_length_le (by omega)
   have hfin : ∀ σ', σ' 2 = .ptr g.length 0 → Q .ret σ' ((h ++ q).set g.length (.cells cs)) := fun σ' s2 => fin _ _ a' off cs (joinT 5 ks) s2 (hset _) c1 (by rw [List.take_set, List.take_append_of_le_length (by omega), ik.take, List.set_eq_of_length_le (by simp)]) (c3 _) hR
   simp at jn
   simp [wK105_0, q2, q3, ik.s2, ik.s3, jn, hat, z7, c1, e7]
   exact hfin _ (by simp [q2, ik.s2])
  rcases hc with ⟨rfl, hk1, hk2, f', hfF, hf, rfl⟩ | ⟨rfl, rfl, rfl⟩
  ·have hnb : nextB l a' false begL = begins (kd l a') := by
    unfold nextB
    cases e : l[a']? with
    | none => simp [kd, e, begins]
    | some t => rw [kd_of e, ← begL_eq]; rfl
   rw [hnb] at nx
   unfold rowS at hf
   cases f' with
   | zero => cases hf
   | succ f' =>
    cases hb : begins (kd l a') with
    | false =>
     have hne : ks.isEmpty = false := by cases ks; exact absurd rfl ik.ne; rfl
     simp only [hne, hb, Bool.or_self, Bool.false_eq_true, if_false] at hf
     simp only [Option.some.injEq] at hf
     subst hf
     rw [hb] at nx
     simp [begL] at nx
     simp [wL105_0, ik.s0, nx]
     exact endd rfl _ _ (by simp) (by simp)
    | true =>
     simp only [hb, Bool.or_true, if_true] at hf
     rw [hb] at nx
     simp [begL] at nx
     cases hpt : partS l f' a' with
     | none => rw [hpt] at hf; cases hf
     | some p1 =>
      rw [hpt] at hf
      have pt := ih f' a' p1 (by omega) hpt
      have step : ∀ (tg : Heap → Tr) (n : Nat) (off : Bool), (∀ q : Heap, M.call 121 [.ptr r 0] (h ++ q) = some ((tg q).enc, h.set r (stC l rt n off) ++ q)) →
        (∀ q, (off = false ∧ ks.length + 1 ≤ n ∧ n ≤ l.length ∧ ∃ f'', rowS l f'' n (ks ++ [tg q]) = some p ∧ f'' < f' + 1) ∨ (off = true ∧ p = .bad n)) → Wp M L105_0 (thenQ (fun σ' h' => ∃ m, m < f' + 1 + 1 ∧ InvRw l rt r g p f m σ' h') (blkQ 0 (thenQ (Wp M K105_0 Q) Q))) σ h := by
       intro tg n off pc hc
       simp [wL105_0, ik.s0, ik.s3, nx, pc]
       have hc := hc [AE.tok 1 7 5, AE.dead]
       generalize tg [AE.tok 1 7 5, AE.dead] = t at *
       obtain ⟨r2, g2, p1, p2, p3⟩ := app_list (n0 := g.length + 1) (key := h.length + 1) (sz := 7) (bytes := 72) (e := 36) (h := h.set r (stC l rt n off) ++ [AE.tok 1 7 5, AE.dead]) (xs := ks.map Tr.enc) (ys := [t.enc]) (r := rk) (r2 := .full)
        (by simpa using (ik.ow.set (i := r) (x := stC l rt n off) (fun s m f => by rw [ik.st hlt]; simp [stC])).app _) (by omega) (by simp) (by simp; omega) (by simp; omega)
       obtain ⟨zs, hz⟩ := appA_tok (by simp) p1
       obtain rfl : r2 = .tok (h.length + 1) := by injection hz
       rw [p1]
       simp
       have ik2 : ∀ σ', σ' 0 = σ 0 → σ' 2 = σ 2 → σ' 3 = .list 7 (ks.map Tr.enc ++ [t.enc]) (.tok (h.length + 1)) → InK l rt g r 36 σ' g2 n off (ks ++ [t]) (.tok (h.length + 1)) := fun σ' q0 q2 q3 =>
        ⟨by simp, by simp; omega, fun _ => ⟨_, rfl, by omega⟩, by rw [q0, ik.s0], by rw [q2, ik.s2], by rw [q3]; simp, by simpa using p2, by
         rw [p3.take, List.take_append_of_le_length (by simp; omega), List.take_set, ik.ht, HH_set hlt]⟩
       rcases hc with ⟨c1, c2, c3, f'', c4, c5⟩ | ⟨c1, c2⟩
       ·exact ⟨f'' + 1, by omega, n, off, ks ++ [t], _, ik2 _ (by simp) (by simp) (by simp), .inl ⟨c1, by simpa using c2, c3, f'', by omega, c4, rfl⟩⟩
       ·exact ⟨0, by omega, n, off, ks ++ [t], _, ik2 _ (by simp) (by simp) (by simp), .inr ⟨c1, c2, rfl⟩⟩
      cases p1 with
      | ok t n =>
       have hpr := (prog l f').2.1 _ _ _ hpt
       refine step (fun _ => t) n false (fun q => ?_) (fun t' => ?_)
       ·rw [pt (h ++ q) (e1 q) (fun t ht => by have := hrt' t ht; simp; omega), List.set_append_left _ _ hrh]
       ·exact .inl ⟨rfl, by omega, hpr.2, f', hf, by omega⟩
      | bad n =>
       simp only [Option.some.injEq] at hf
       subst hf
       obtain ⟨tg, pt⟩ := pt
       refine step (fun q => tg (h ++ q)) n true (fun q => ?_) (fun t' => .inr ⟨rfl, rfl⟩)
       rw [pt (h ++ q) (e1 q) (fun t ht => by have := hrt' t ht; simp; omega), List.set_append_left _ _ hrh]
  ·have nx' : ∀ rk' (q : Heap), M.call 104 [.ptr r 0, .list 1 (ofBytes begL) rk'] (h ++ q) = some (.bool false, h ++ q) := fun rk' q => by rw [nx]; simp [nextB]
   simp [begL] at nx'
   simp [wL105_0, ik.s0, nx']
   obtain ⟨t, ht⟩ : ∃ t : Tr, PR l rt g r (.bad a') (t.enc, HH g r (stC l rt a' true)) := ⟨zeroT, zeroT, rfl⟩
   exact endd ⟨_, rfl⟩ _ _ (by simp) (by simp)
 have goW := fun σ h a' off t hc s0 s2 s3 hh => (go σ h a' off t hc s0 s2 s3 hh).elim fun n hI => loop n σ h hI
 rcases hp with ⟨rfl, hp⟩ | ⟨rfl, rfl⟩
 ·cases f with
  | zero => simp [rowS] at hp
  | succ f =>
   unfold rowS at hp
   rw [if_pos (by simp)] at hp
   cases hpt : partS l f a with
   | none => rw [hpt] at hp; cases hp
   | some p1 =>
    rw [hpt] at hp
    have pt := ih f a p1 (by omega) hpt
    cases p1 with
    | ok t n =>
     have hpr := (prog l f).2.1 _ _ _ hpt
     have pc := fun q => at_HH (r := r) (g := g) hlt (fun h hg hr => pt h hr (fun t ht => by have := hrt t ht; omega)) q
     simp [wB105, pc]
     refine goW _ _ n false t (.inl ⟨rfl, by omega, hpr.2, f, by omega, hp⟩) ?_ ?_ ?_ rfl <;> simp
    | bad n =>
     simp only [Option.some.injEq] at hp
     subst hp
     obtain ⟨tg, pt⟩ := pt
     have pc := fun q => pt (HH g r (stC l rt a false) ++ q) (HH_get hlt q) (fun t ht => by have := hrt t ht; simp; omega)
     simp only [HH_set hlt] at pc
     simp [wB105, pc]
     refine goW _ _ n true ?_ (.inr ⟨rfl, rfl⟩) ?_ ?_ ?_ rfl
     rotate_left
     ·simp
     ·simp
     ·simp; rfl
 ·obtain ⟨tg, pt⟩ := hoff rfl
  have pc := fun q => pt (HH g r (stC l rt a true) ++ q) (HH_get hlt q) (fun t ht => by have := hrt t ht; simp; omega)
  simp only [HH_set hlt] at pc
  simp [wB105, pc]
  refine goW _ _ a true ?_ (.inr ⟨rfl, rfl⟩) ?_ ?_ ?_ rfl
  rotate_left
  ·simp
  ·simp
  ·simp; rfl
include hl in
theorem row_step (f : Nat) (ih : ∀ f' a p, f' < f → partS l f' a = some p → CC 121 l rt r a p) (a : Nat) (p : Pr) (hp : rowS l f a [] = some p) : CC 105 l rt r a p :=
 CC_of fun g hlt hrt => row_gen hl f ih false a p (.inl ⟨rfl, hp⟩) (fun h => by cases h) g hlt hrt
end
section
variable {l : List Tok} {rt : Rt} {r : Nat} (hl : l.length ≤ 1000000000)
def pend (l : List Tok) (f n : Nat) (ks : List Tr) : Option Pr := if kd l n = 4 then choicesS l f (n + 1) ks else some (.ok (joinT 6 ks) n)
def InvCh (l : List Tok) (rt : Rt) (r : Nat) (g : Heap) (p : Pr) (F : Nat) (k : Nat) (σ : Slots) (h : Heap) : Prop := ∃ a off ks rk, InK l rt g r 36 σ h a off ks rk ∧
 ((off = false ∧ ks.length ≤ a ∧ a ≤ l.length ∧ ∃ f, f ≤ F ∧ pend l f a ks = some p ∧ k = f + 1) ∨ (off = true ∧ p = .bad a ∧ k = 0))
include hl in
theorem choices_gen (f : Nat) (ih : ∀ f' a p, f' < f → rowS l f' a [] = some p → CC 105 l rt r a p) (off : Bool) (a : Nat) (p : Pr) (hp : (off = false ∧ choicesS l f a [] = some p) ∨ (off = true ∧ p = .bad a))
  (hoff : off = true → ∃ tg : Heap → Tr, ∀ h : Heap, h[r]? = some (stC l rt a true) → (∀ t, rt = .tok t → t < h.length) → M.call 105 [.ptr r 0] h = some ((tg h).enc, h.set r (stC l rt a true)))
  (g : Heap) (hlt : r < g.length) (hrt : ∀ t, rt = .tok t → t < g.length) : ∃ x, M.call 82 [.ptr r 0] (HH g r (stC l rt a off)) = some x ∧ PR l rt g r p x := by
 refine call_post tab82 rfl ?_
 generalize hQ : (fun e σ h => isEnd e ∧ ∃ vs, resVals σ h [ARes.cell 2 (some 7)] = some vs ∧ ∃ r', finish (HH g r (stC l rt a off)) h (oneOf vs) = some r' ∧ PR l rt g r p r') = Q
 have fin : ∀ (σ : Slots) (h : Heap) (a' : Nat) (off : Bool) (cs : List AV) (t : Tr), σ 2 = .ptr g.length 0 → h[g.length]? = some (.cells cs) → cs.length = 7 → h.take g.length = HH g r (stC l rt a' off) → cleans h g.length cs = some t.encL → PR l rt g r p (t.enc, HH g r (stC l rt a' off)) → Q .ret σ h := by
  intro σ h a' off cs t s2 hc hlen ht hcl hR
  subst hQ
  have e7 : cs.take 7 = cs := List.take_of_length_le (by omega)
  simp [s2, hc, hlen, e7]
  rw [finish_HH ht hlt (stC_low hrt)]
  simp [hcl]
  exact ⟨_, _, ⟨rfl, rfl⟩, hR⟩
 have go : ∀ (σ : Slots) (h : Heap) (a' : Nat) (off : Bool) (t : Tr), ((off = false ∧ 1 ≤ a' ∧ a' ≤ l.length ∧ ∃ f', f' ≤ f ∧ pend l f' a' [t] = some p) ∨ (off = true ∧ p = .bad a')) → σ 0 = .ptr r 0 → σ 2 = .ptr g.length 0 → σ 3 = .list 7 [t.enc] .full → h = HH g r (stC l rt a' off) ++ [.cells z7] → ∃ n, InvCh l rt r g p f n σ h := by
  intro σ h a' off t hc s0 s2 s3 hh
  have : InK l rt g r 36 σ h a' off [t] .full := ⟨by simp, by simp, by simp, s0, s2, by rw [s3]; rfl, .full, by rw [hh, List.take_of_length_le (by simp)]⟩
  rcases hc with ⟨h1, h2, h3, f', h4, h5⟩ | ⟨h1, h2⟩
  ·exact ⟨f' + 1, a', off, [t], .full, this, .inl ⟨h1, by simpa using h2, h3, f', h4, h5, rfl⟩⟩
  ·exact ⟨0, a', off, [t], .full, this, .inr ⟨h1, h2, rfl⟩⟩
 have loop : ∀ (n : Nat) (σ : Slots) (h : Heap), InvCh l rt r g p f n σ h → Wp M (.loop L82_0) (blkQ 0 (thenQ (Wp M K82_0 Q) Q)) σ h := by
  intro n σ h hI
  refine Wp.loop (InvCh l rt r g p f) ?_ hI
  clear hI n σ h
  rintro k σ h ⟨a', off, ks, rk, ik, hc⟩
  have hle := ik.hl
  have hrh : r < h.length := by omega
  have hrt' : ∀ t, rt = .tok t → t < h.length := fun t ht => by have := hrt t ht; omega
  have e1 : ∀ q : Heap, (h ++ q)[r]? = some (stC l rt a' off) := fun q => by rw [List.getElem?_append_left hrh]; exact ik.st hlt
  have nx := fun rk' (q : Heap) => next_ok (rt := rt) hl a' off [4] (by simp) rk' (h ++ q) (e1 q)
  have endd : (PR l rt g r p ((joinT 6 ks).enc, HH g r (stC l rt a' off))) → ∀ (σ' : Slots) (q : Heap), σ' 2 = σ 2 → σ' 3 = σ 3 → Wp M K82_0 Q σ' (h ++ q) := by
   intro hR σ' q q2 q3
   obtain ⟨cs, c1, c2, c3⟩ := joined_all 6 ks ik.ne rk g.length ik.tok
   have jn := c2 (h ++ q) (fun t ht => by have := ik.low t ht; simp; omega)
   have hat : (h ++ q)[g.length]? = some (.cells z7) := by rw [List.getElem?_append_left (by omega)]; exact ik.at
   have hset : ∀ x, ((h ++ q).set g.length x)[g.length]? = some x := fun x => by rw [List.getElem?_set_self (by simp; omega)]
   have e7 : cs.take 7 = cs := List.take_of_length_le (by omega)
   have hfin : ∀ σ', σ' 2 = .ptr g.length 0 → Q .ret σ' ((h ++ q).set g.length (.cells cs)) := fun σ' s2 => fin _ _ a' off cs (joinT 6 ks) s2 (hset _) c1 (by rw [List.take_set, List.take_append_of_le_length (by omega), ik.take, List.set_eq_of_length_le (by simp)]) (c3 _) hR
   simp at jn
   simp [wK82_0, q2, q3, ik.s2, ik.s3, jn, hat, z7, c1, e7]
   exact hfin _ (by simp [q2, ik.s2])
  rcases hc with ⟨rfl, hk1, hk2, f', hfF, hf, rfl⟩ | ⟨rfl, rfl, rfl⟩
  ·have hnb : nextB l a' false [4] = decide (kd l a' = 4) := by
    unfold nextB
    cases e : l[a']? with
    | none => simp [kd, e]
    | some t => rw [kd_of e]; simp
   rw [hnb] at nx
   unfold pend at hf
   by_cases hb : kd l a' = 4
   ·rw [if_pos hb] at hf
    simp only [hb, decide_true] at nx
    cases f' with
    | zero => simp [choicesS] at hf
    | succ f' =>
     unfold choicesS at hf
     obtain ⟨tn, etn, hkn⟩ : ∃ tn, l[a']? = some tn ∧ tn.kind = 4 := by
      cases e : l[a']? with
      | none => simp [kd, e] at hb
      | some tn => exact ⟨tn, rfl, by rw [← kd_of e]; exact hb⟩
     have tk := fun rk' (q : Heap) => take_yes (rt := rt) hl a' [4] (by simp) rk' tn etn (h ++ q) (e1 q) (fun t ht => by have := hrt' t ht; simp; omega) (by rw [hkn]; decide)
     have tk' : ∀ rk' (q : Heap), M.call 79 [.ptr r 0, .list 1 (ofBytes [4]) rk'] (h ++ q) = some (tokA tn, h.set r (stC l rt (a' + 1) false) ++ q) := fun rk' q => by rw [tk, List.set_append_left _ _ hrh]
     have hal := kd_lt hb (by decide)
     cases hpt : rowS l f' (a' + 1) [] with
     | none => rw [hpt] at hf; cases hf
     | some p1 =>
      rw [hpt] at hf
      have pt := ih f' (a' + 1) p1 (by omega) hpt
      have e2 : ∀ q : Heap, (h.set r (stC l rt (a' + 1) false) ++ q)[r]? = some (stC l rt (a' + 1) false) := fun q => by rw [List.getElem?_append_left (by simpa using hrh), List.getElem?_set_self hrh]
      have step : ∀ (tg : Heap → Tr) (n : Nat) (off : Bool), (∀ q : Heap, M.call 105 [.ptr r 0] (h.set r (stC l rt (a' + 1) false) ++ q) = some ((tg q).enc, h.set r (stC l rt n off) ++ q)) →
        (∀ q, (off = false ∧ ks.length + 1 ≤ n ∧ n ≤ l.length ∧ ∃ f'', pend l f'' n (ks ++ [tg q]) = some p ∧ f'' < f' + 1) ∨ (off = true ∧ p = .bad n)) → Wp M L82_0 (thenQ (fun σ' h' => ∃ m, m < f' + 1 + 1 ∧ InvCh l rt r g p f m σ' h') (blkQ 0 (thenQ (Wp M K82_0 Q) Q))) σ h := by
       intro tg n off pc hc
       simp [wL82_0, ik.s0, ik.s3, nx, pc, tk', Nat.add_assoc]
       have hc := hc [AE.tok 1 1 5, AE.tok 1 1 5, AE.dead]
       generalize tg [AE.tok 1 1 5, AE.tok 1 1 5, AE.dead] = t at *
       obtain ⟨r2, g2, p1, p2, p3⟩ := app_list (n0 := g.length + 1) (key := h.length + 2) (sz := 7) (bytes := 72) (e := 36) (h := h.set r (stC l rt n off) ++ [AE.tok 1 1 5, AE.tok 1 1 5, AE.dead]) (xs := ks.map Tr.enc) (ys := [t.enc]) (r := rk) (r2 := .full)
        (by simpa using (ik.ow.set (i := r) (x := stC l rt n off) (fun s m f => by rw [ik.st hlt]; simp [stC])).app _) (by omega) (by simp) (by simp; omega) (by simp; omega)
       obtain ⟨zs, hz⟩ := appA_tok (by simp) p1
       obtain rfl : r2 = .tok (h.length + 2) := by injection hz
       rw [p1]
       simp
       have ik2 : ∀ σ', σ' 0 = σ 0 → σ' 2 = σ 2 → σ' 3 = .list 7 (ks.map Tr.enc ++ [t.enc]) (.tok (h.length + 2)) → InK l rt g r 36 σ' g2 n off (ks ++ [t]) (.tok (h.length + 2)) := fun σ' q0 q2 q3 =>
        ⟨by simp, by simp; omega, fun _ => ⟨_, rfl, by omega⟩, by rw [q0, ik.s0], by rw [q2, ik.s2], by rw [q3]; simp, by simpa using p2, by
         rw [p3.take, List.take_append_of_le_length (by simp; omega), List.take_set, ik.ht, HH_set hlt]⟩
       rcases hc with ⟨c1, c2, c3, f'', c4, c5⟩ | ⟨c1, c2⟩
       ·exact ⟨f'' + 1, by omega, n, off, ks ++ [t], _, ik2 _ (by simp) (by simp) (by simp), .inl ⟨c1, by simpa using c2, c3, f'', by omega, c4, rfl⟩⟩
       ·exact ⟨0, by omega, n, off, ks ++ [t], _, ik2 _ (by simp) (by simp) (by simp), .inr ⟨c1, c2, rfl⟩⟩
      cases p1 with
      | ok t n =>
       have hpr := (prog l f').2.2.1 _ _ _ _ hpt
       have hpr1 := hpr.1 (.inr rfl)
       have hpr2 := hpr.2.2 rfl
       refine step (fun _ => t) n false (fun q => ?_) (fun t' => ?_)
       ·rw [pt _ (e2 q) (fun t ht => by have := hrt' t ht; simp; omega), List.set_append_left _ _ (by simpa using hrh)]
        simp
       ·exact .inl ⟨rfl, by omega, hpr1, f', hf, by omega⟩
      | bad n =>
       simp only [Option.some.injEq] at hf
       subst hf
       obtain ⟨tg, pt⟩ := pt
       refine step (fun q => tg (h.set r (stC l rt (a' + 1) false) ++ q)) n true (fun q => ?_) (fun t' => .inr ⟨rfl, rfl⟩)
       rw [pt _ (e2 q) (fun t ht => by have := hrt' t ht; simp; omega), List.set_append_left _ _ (by simpa using hrh)]
       simp
   ·rw [if_neg hb] at hf
    simp only [Option.some.injEq] at hf
    subst hf
    simp only [hb, decide_false] at nx
    simp [wL82_0, ik.s0, nx]
    exact endd rfl _ _ (by simp) (by simp)
  ·have nx' : ∀ rk' (q : Heap), M.call 104 [.ptr r 0, .list 1 (ofBytes [4]) rk'] (h ++ q) = some (.bool false, h ++ q) := fun rk' q => by rw [nx]; simp [nextB]
   simp [wL82_0, ik.s0, nx']
   obtain ⟨t, ht⟩ : ∃ t : Tr, PR l rt g r (.bad a') (t.enc, HH g r (stC l rt a' true)) := ⟨zeroT, zeroT, rfl⟩
   exact endd ⟨_, rfl⟩ _ _ (by simp) (by simp)
 have goW := fun σ h a' off t hc s0 s2 s3 hh => (go σ h a' off t hc s0 s2 s3 hh).elim fun n hI => loop n σ h hI
 rcases hp with ⟨rfl, hp⟩ | ⟨rfl, rfl⟩
 ·cases f with
  | zero => simp [choicesS] at hp
  | succ f =>
   unfold choicesS at hp
   cases hpt : rowS l f a [] with
   | none => rw [hpt] at hp; cases hp
   | some p1 =>
    rw [hpt] at hp
    have pt := ih f a p1 (by omega) hpt
    cases p1 with
    | ok t n =>
     have hpr := (prog l f).2.2.1 _ _ _ _ hpt
     have hpr1 := hpr.1 (.inr rfl)
     have hpr2 := hpr.2.2 rfl
     have pc := fun q => at_HH (r := r) (g := g) hlt (fun h hg hr => pt h hr (fun t ht => by have := hrt t ht; omega)) q
     simp [wB82, pc]
     refine goW _ _ n false t (.inl ⟨rfl, by omega, hpr1, f, by omega, hp⟩) ?_ ?_ ?_ rfl <;> simp
    | bad n =>
     simp only [Option.some.injEq] at hp
     subst hp
     obtain ⟨tg, pt⟩ := pt
     have pc := fun q => pt (HH g r (stC l rt a false) ++ q) (HH_get hlt q) (fun t ht => by have := hrt t ht; simp; omega)
     simp only [HH_set hlt] at pc
     simp [wB82, pc]
     refine goW _ _ n true ?_ (.inr ⟨rfl, rfl⟩) ?_ ?_ ?_ rfl
     rotate_left
     ·simp
     ·simp
     ·simp; rfl
 ·obtain ⟨tg, pt⟩ := hoff rfl
  have pc := fun q => pt (HH g r (stC l rt a true) ++ q) (HH_get hlt q) (fun t ht => by have := hrt t ht; simp; omega)
  simp only [HH_set hlt] at pc
  simp [wB82, pc]
  refine goW _ _ a true ?_ (.inr ⟨rfl, rfl⟩) ?_ ?_ ?_ rfl
  rotate_left
  ·simp
  ·simp
  ·simp; rfl
include hl in
theorem choices_step (f : Nat) (ih : ∀ f' a p, f' < f → rowS l f' a [] = some p → CC 105 l rt r a p) (a : Nat) (p : Pr) (hp : choicesS l f a [] = some p) : CC 82 l rt r a p :=
 CC_of fun g hlt hrt => choices_gen hl f ih false a p (.inl ⟨rfl, hp⟩) (fun h => by cases h) g hlt hrt
end
theorem parts_ok {l : List Tok} {rt : Rt} {r : Nat} (hl : l.length ≤ 1000000000) (ht : ∀ t ∈ l, t.text.length ≤ 1000000000) : ∀ f, (∀ a p, thingS l f a = some p → CC 131 l rt r a p) ∧ (∀ a p, partS l f a = some p → CC 121 l rt r a p) ∧
  (∀ a p, rowS l f a [] = some p → CC 105 l rt r a p) ∧ (∀ a p, choicesS l f a [] = some p → CC 82 l rt r a p) := by
 intro f
 induction f using Nat.strongRecOn with
 | _ f ih =>
  refine ⟨fun a p hp => ?_, fun a p hp => ?_, fun a p hp => ?_, fun a p hp => ?_⟩
  ·cases f with
   | zero => simp [thingS] at hp
   | succ f => exact thing_step hl ht f (ih f (by omega)).2.2.2 a p hp
  ·cases f with
   | zero => simp [partS] at hp
   | succ f => exact part_step hl ht f (ih f (by omega)).1 a p hp
  ·exact row_step hl f (fun f' a p hf => (ih f' hf).2.1 a p) a p hp
  ·exact choices_step hl f (fun f' a p hf => (ih f' hf).2.2.1 a p) a p hp
theorem fuel (l : List Tok) : ∀ n, (∀ a f, l.length - a ≤ n → 4 * (l.length - a) + 1 ≤ f → thingS l f a ≠ none) ∧ (∀ a f, l.length - a ≤ n → 4 * (l.length - a) + 2 ≤ f → partS l f a ≠ none) ∧
  (∀ a ks f, l.length - a ≤ n → 4 * (l.length - a) + 3 ≤ f → rowS l f a ks ≠ none) ∧ (∀ a ks f, l.length - a ≤ n → 4 * (l.length - a) + 4 ≤ f → choicesS l f a ks ≠ none) := by
 intro n
 induction n using Nat.strongRecOn with
 | _ n ih =>
  have h1 : ∀ a f, l.length - a ≤ n → 4 * (l.length - a) + 1 ≤ f → thingS l f a ≠ none := by
   intro a f h1 h2
   obtain ⟨f, rfl⟩ : ∃ g, f = g + 1 := ⟨f - 1, by omega⟩
   unfold thingS
   split
   ·rename_i hk
    have hal : a < l.length := by rcases hk with e | e <;> exact kd_lt e (by decide)
    have := (ih (n - 1) (by omega)).2.2.2 (a + 1) [] f (by omega) (by omega)
    cases hc : choicesS l f (a + 1) [] with
    | none => exact absurd hc this
    | some p => cases p <;> simp; split <;> simp
   ·split
    ·simp
    ·split <;> simp
  have h2 : ∀ a f, l.length - a ≤ n → 4 * (l.length - a) + 2 ≤ f → partS l f a ≠ none := by
   intro a f q1 q2
   obtain ⟨f, rfl⟩ : ∃ g, f = g + 1 := ⟨f - 1, by omega⟩
   unfold partS
   split
   ·exact h1 a f q1 (by omega)
   ·rename_i x e
    have hal := (List.getElem?_eq_some_iff.1 e).1
    split
    ·split
     ·have := (ih (n - 1) (by omega)).1 (a + 1) f (by omega) (by omega)
      cases hc : thingS l f (a + 1) with
      | none => exact absurd hc this
      | some p => cases p <;> simp
     ·simp
    ·exact h1 a f q1 (by omega)
  have h3 : ∀ a ks f, l.length - a ≤ n → 4 * (l.length - a) + 3 ≤ f → rowS l f a ks ≠ none := by
   intro a ks f q1 q2
   obtain ⟨f, rfl⟩ : ∃ g, f = g + 1 := ⟨f - 1, by omega⟩
   unfold rowS
   split
   ·have := h2 a f q1 (by omega)
    cases hc : partS l f a with
    | none => exact absurd hc this
    | some p =>
     cases p with
     | bad q => simp
     | ok t m =>
      have hp := (prog l f).2.1 _ _ _ hc
      exact (ih (n - 1) (by omega)).2.2.1 m _ f (by omega) (by omega)
   ·simp
  refine ⟨h1, h2, h3, fun a ks f q1 q2 => ?_⟩
  obtain ⟨f, rfl⟩ : ∃ g, f = g + 1 := ⟨f - 1, by omega⟩
  unfold choicesS
  have := h3 a [] f q1 (by omega)
  cases hc : rowS l f a [] with
  | none => exact absurd hc this
  | some p =>
   cases p with
   | bad q => simp
   | ok t m =>
    have hp := (prog l f).2.2.1 _ _ _ _ hc
    have hp1 := hp.1 (.inr rfl)
    have hp2 := hp.2.2 rfl
    simp only
    split
    ·rename_i hk
     have := kd_lt hk (by decide)
     exact (ih (n - 1) (by omega)).2.2.2 (m + 1) _ f (by omega) (by omega)
    ·simp
def choP (l : List Tok) (a : Nat) : Pr := (choicesS l (4 * l.length + 4) a []).getD (.bad a)
theorem choP_eq (l : List Tok) (a : Nat) : choicesS l (4 * l.length + 4) a [] = some (choP l a) := by
 unfold choP
 cases h : choicesS l (4 * l.length + 4) a [] with
 | none => exact absurd h ((fuel l l.length).2.2.2 a [] _ (by omega) (by omega))
 | some p => rfl
section
variable {l : List Tok} {rt : Rt} {r : Nat} (hl : l.length ≤ 1000000000)
theorem OFF_of {f : FuncId} {a : Nat} (k : ∀ g : Heap, r < g.length → (∀ t, rt = .tok t → t < g.length) → ∃ x, M.call f [.ptr r 0] (HH g r (stC l rt a true)) = some x ∧ PR l rt g r (.bad a) x) : ∃ tg : Heap → Tr, ∀ h : Heap, h[r]? = some (stC l rt a true) → (∀ t, rt = .tok t → t < h.length) → M.call f [.ptr r 0] h = some ((tg h).enc, h.set r (stC l rt a true)) := by
 have : ∀ h : Heap, ∃ t : Tr, h[r]? = some (stC l rt a true) → (∀ t, rt = .tok t → t < h.length) → M.call f [.ptr r 0] h = some (t.enc, h.set r (stC l rt a true)) := fun h => by
  by_cases c : h[r]? = some (stC l rt a true) ∧ (∀ t, rt = .tok t → t < h.length)
  ·obtain ⟨c1, c2⟩ := c
   obtain ⟨g, rfl, hlt⟩ := HH_of c1
   obtain ⟨x, h1, t, rfl⟩ := k g hlt (by simpa using c2)
   exact ⟨t, fun _ _ => by rw [h1, HH_set0]⟩
  ·exact ⟨zeroT, fun h1 h2 => absurd ⟨h1, h2⟩ c⟩
 obtain ⟨tg, htg⟩ := Classical.axiomOfChoice this
 exact ⟨tg, htg⟩
include hl in
theorem part_off (a : Nat) : ∃ tg : Heap → Tr, ∀ h : Heap, h[r]? = some (stC l rt a true) → (∀ t, rt = .tok t → t < h.length) → M.call 121 [.ptr r 0] h = some ((tg h).enc, h.set r (stC l rt a true)) := by
 refine ⟨fun _ => zeroT, fun h hr hrt => ?_⟩
 obtain ⟨q, hq⟩ := part_thing hl a a true true (by simp [nextB]) (fun _ => zeroT) h hr hrt (fun h hr hrt => thing_no hl a true (by simp [nextB]) h hr hrt)
 exact hq
include hl in
theorem row_off (a : Nat) : ∃ tg : Heap → Tr, ∀ h : Heap, h[r]? = some (stC l rt a true) → (∀ t, rt = .tok t → t < h.length) → M.call 105 [.ptr r 0] h = some ((tg h).enc, h.set r (stC l rt a true)) :=
 OFF_of fun g hlt hrt => row_gen hl 0 (fun f' a p h => by omega) true a (.bad a) (.inr ⟨rfl, rfl⟩) (fun _ => part_off hl a) g hlt hrt
include hl in
theorem choices_off (a : Nat) : ∃ tg : Heap → Tr, ∀ h : Heap, h[r]? = some (stC l rt a true) → (∀ t, rt = .tok t → t < h.length) → M.call 82 [.ptr r 0] h = some ((tg h).enc, h.set r (stC l rt a true)) :=
 OFF_of fun g hlt hrt => choices_gen hl 0 (fun f' a p h => by omega) true a (.bad a) (.inr ⟨rfl, rfl⟩) (fun _ => row_off hl a) g hlt hrt
theorem TOk_leaf {t : Tok} (h : t.text.length ≤ 1000000000) : TOk (leafT t) := by
 have : (leafT t).kids = [] := by unfold leafT; split <;> (try split) <;> (try split) <;> (try split) <;> rfl
 have h2 : (leafT t).s.length ≤ 1000000000 := by unfold leafT; split <;> (try split) <;> (try split) <;> (try split) <;> simp [Tr.s, smallP] <;> exact h
 exact TOk.mk h2 (by rw [this]; simp) (by rw [this]; simp)
theorem TOk_one {t : Tr} (mn mx : Int) (h : TOk t) : TOk (timesT mn mx t) := TOk.mk (by simp [timesT, Tr.s]) (by simp [timesT, Tr.kids]) (by simpa [timesT, Tr.kids] using h)
theorem TOk_may {t : Tr} (h : TOk t) : TOk (mayT t) := TOk.mk (by simp [mayT, Tr.s]) (by simp [mayT, Tr.kids]) (by simpa [mayT, Tr.kids] using h)
theorem TOk_join (k : UInt8) : ∀ {ks : List Tr}, ks.length ≤ 1000000000 → (∀ t ∈ ks, TOk t) → TOk (joinT k ks)
 | [], _, _ => TOk.mk (by simp [joinT, rowT, Tr.s]) (by simp [joinT, rowT, Tr.kids]) (by simp [joinT, rowT, Tr.kids])
 | [t], _, h => h t (by simp)
 | x :: y :: q, h1, h2 => TOk.mk (by simp [joinT, rowT, Tr.s]) (by simpa [joinT, rowT, Tr.kids] using h1) (by simpa [joinT, rowT, Tr.kids] using h2)
include hl in
theorem parts_TOk (ht : ∀ t ∈ l, t.text.length ≤ 1000000000) : ∀ f, (∀ a t n, thingS l f a = some (.ok t n) → TOk t) ∧ (∀ a t n, partS l f a = some (.ok t n) → TOk t) ∧
  (∀ a ks t n, rowS l f a ks = some (.ok t n) → (∀ k ∈ ks, TOk k) → ks.length ≤ a → (a ≤ l.length ∨ ks = []) → TOk t) ∧ (∀ a ks t n, choicesS l f a ks = some (.ok t n) → (∀ k ∈ ks, TOk k) → ks.length ≤ a → TOk t) := by
 intro f
 induction f with
 | zero => exact ⟨fun a t n h => by simp [thingS] at h, fun a t n h => by simp [partS] at h, fun a ks t n h => by simp [rowS] at h, fun a ks t n h => by simp [choicesS] at h⟩
 | succ f ih =>
  obtain ⟨i1, i2, i3, i4⟩ := ih
  refine ⟨fun a t n h => ?_, fun a t n h => ?_, fun a ks t n h q1 q2 q3 => ?_, fun a ks t n h q1 q2 => ?_⟩
  ·unfold thingS at h
   split at h
   ·split at h
    ·rename_i t1 n1 hc
     have := i4 _ _ _ _ hc (by simp) (by simp)
     split at h
     ·simp only [Option.some.injEq, Pr.ok.injEq] at h
      obtain ⟨rfl, _⟩ := h
      split
      ·exact TOk_may this
      ·exact this
     ·cases h
    ·rename_i hno
     exact absurd h (hno _ _)
   ·split at h
    ·cases h
    ·rename_i t1 e
     split at h
     ·simp only [Option.some.injEq, Pr.ok.injEq] at h
      obtain ⟨rfl, _⟩ := h
      exact TOk_leaf (ht _ (List.mem_of_getElem? e))
     ·cases h
  ·unfold partS at h
   split at h
   ·exact i1 _ _ _ h
   ·split at h
    ·split at h
     ·split at h
      ·rename_i t1 n1 hc
       have := i1 _ _ _ hc
       simp only [Option.some.injEq, Pr.ok.injEq] at h
       obtain ⟨rfl, _⟩ := h
       exact TOk_one _ _ this
      ·rename_i hno
       exact absurd h (hno _ _)
     ·cases h
    ·exact i1 _ _ _ h
  ·unfold rowS at h
   split at h
   ·split at h
    ·rename_i t1 n1 hc
     have h1 := (prog l f).2.1 _ _ _ hc
     refine i3 _ _ _ _ h (fun k hk => ?_) (by simp; omega) (.inl h1.2)
     rcases List.mem_append.1 hk with hk | hk
     ·exact q1 k hk
     ·simp only [List.mem_singleton] at hk; subst hk; exact i2 _ _ _ hc
    ·rename_i hno
     exact absurd h (hno _ _)
   ·simp only [Option.some.injEq, Pr.ok.injEq] at h
    obtain ⟨rfl, _⟩ := h
    refine TOk_join 5 ?_ q1
    rcases q3 with q3 | q3
    ·omega
    ·subst q3; simp
  ·unfold choicesS at h
   split at h
   ·rename_i t1 n1 hc
    have h1 := (prog l f).2.2.1 _ _ _ _ hc
    have h2 := h1.1 (.inr rfl)
    have h3 := h1.2.2 rfl
    have hk1 : ∀ k ∈ ks ++ [t1], TOk k := fun k hk => by
     rcases List.mem_append.1 hk with hk | hk
     ·exact q1 k hk
     ·simp only [List.mem_singleton] at hk; subst hk; exact i3 _ _ _ _ hc (by simp) (by simp) (.inr rfl)
    split at h
    ·exact i4 _ _ _ _ h hk1 (by simp; omega)
    ·simp only [Option.some.injEq, Pr.ok.injEq] at h
     obtain ⟨rfl, _⟩ := h
     exact TOk_join 6 (by simp; omega) hk1
   ·rename_i hno
    exact absurd h (hno _ _)
include hl in
theorem cho_TOk (ht : ∀ t ∈ l, t.text.length ≤ 1000000000) {a n : Nat} {t : Tr} (h : choP l a = .ok t n) : TOk t :=
 (parts_TOk hl ht _).2.2.2 a [] t n (by rw [choP_eq, h]) (by simp) (by simp)
theorem cho_prog {a n : Nat} {t : Tr} (h : choP l a = .ok t n) : a < n ∧ n ≤ l.length :=
 (prog l _).2.2.2 a [] t n (by rw [choP_eq, h])
include hl in
theorem cho_ok (ht : ∀ t ∈ l, t.text.length ≤ 1000000000) (a : Nat) : CC 82 l rt r a (choP l a) := (parts_ok hl ht _).2.2.2 a _ (choP_eq l a)
end
structure Ru where
 name : List UInt8
 pos : Int
 more : Bool
 tree : Tr
def ruA (x : Ru) : AV := .agg ([.str x.name, .int .i64 x.pos, .bool x.more] ++ x.tree.encL)
inductive Rr where
 | ok (x : Ru) (n : Nat)
 | bad (p : Nat)
def ruleS (l : List Tok) (a : Nat) : Rr :=
 match l[a]? with
 | none => .bad a
 | some n =>
  if n.kind = 1 ∧ aloneP (leafT n) = true then
   if kd l (a + 1) = 2 ∨ kd l (a + 1) = 3 then
    match choP l (a + 2) with
    | .bad p => .bad p
    | .ok t m => if kd l m = 13 then .ok ⟨smallP n.text, n.pos, decide (kd l (a + 1) = 3), t⟩ (m + 1) else .bad m
   else .bad (a + 1)
  else .bad a
def posAt (l : List Tok) (p : Nat) : Int := match l[min p (l.length - 1)]? with
 | some t => t.pos
 | none => 0
def rulesS (l : List Tok) : Nat → Nat → List Ru → List Ru × Int × Int
 | 0, _, out => (out, 0, 0)
 | f + 1, a, out =>
  if a < l.length then
   match ruleS l a with
   | .bad p => ([], posAt l p, 20)
   | .ok x m => if fitsP 100 x.tree then rulesS l f m (out ++ [x]) else ([], x.pos, 21)
  else (out, 0, 0)
def parseP (l : List Tok) : List Ru × Int × Int := rulesS l (l.length + 1) 0 []
def parR (res : List Ru × Int × Int) (h0 : Heap) (x : AV × Heap) : Prop := ∃ b, x = (.tup [.list 10 (res.1.map ruA) (rtB b), .int .i64 res.2.1, .int .i64 res.2.2], h0)
theorem ruA_low (n : Nat) (x : Ru) : (ruA x).low n := by
 have := Tr.encL_low n x.tree
 simp [ruA, this]
theorem rus_low (n : Nat) (l : List Ru) : AV.lows n (l.map ruA) := lows_map _ _ fun x _ => ruA_low n x
def InvPa (l : List Tok) (rt : Rt) (res : List Ru × Int × Int) (h0 : Heap) (k : Nat) (σ : Slots) (h : Heap) : Prop := ∃ a f out ro, a ≤ l.length ∧ k = l.length - a ∧ l.length - a < f ∧ out.length ≤ a ∧ rulesS l f a out = res ∧
 σ 0 = .list 7 (l.map tokA) rt ∧ σ 5 = .ptr h0.length 0 ∧ σ 6 = .list 10 (out.map ruA) ro ∧ Ow (h0.length + 1) h 10 38 ro out.length ∧ h.take (h0.length + 1) = h0 ++ [stC l rt a false]
theorem parse_ok (l : List Tok) (rt : Rt) (hl : l.length ≤ 1000000000) (ht : ∀ t ∈ l, t.text.length ≤ 1000000000) (h0 : Heap) (hrt0 : ∀ t, rt = .tok t → t < h0.length) : ∃ x, M.call 64 [.list 7 (l.map tokA) rt] h0 = some x ∧ parR (parseP l) h0 x := by
 refine call_post tab64 rfl ?_
 generalize hres : parseP l = res
 generalize hQ : (fun e σ h => isEnd e ∧ ∃ vs, resVals σ h [ARes.tmp 2, ARes.tmp 3, ARes.tmp 4] = some vs ∧ ∃ r, finish h0 h (oneOf vs) = some r ∧ parR res h0 r) = Q
 have fin : ∀ (σ : Slots) (h : Heap) (xs : List Ru) (r : Rt) (a b : Int), σ 2 = .list 10 (xs.map ruA) r → (r = .full ∨ ∃ t, r = .tok t ∧ h0.length ≤ t) → σ 3 = .int .i64 a → σ 4 = .int .i64 b → h.take h0.length = h0 → res = (xs, a, b) → Q .ret σ h := by
  intro σ h xs r a b s6 hr s7 s8 ht e
  subst hQ
  have k := rus_low h0.length xs
  subst e
  rcases hr with rfl | ⟨t, rfl, hr⟩
  ·simp [s6, s7, s8, finish_of_take ht, parR, k]
   exact ⟨_, _, ⟨rfl, rfl⟩, .inr ⟨rfl, rfl⟩⟩
  ·have hr' : ¬ t < h0.length := by omega
   simp [s6, s7, s8, finish_of_take ht, parR, k, hr']
   exact ⟨_, _, ⟨rfl, rfl⟩, .inl ⟨rfl, rfl⟩⟩
 unfold parseP at hres
 simp [wB64]
 refine Wp.loop (InvPa l rt res h0) ?_ (n := l.length) ⟨0, l.length + 1, [], .full, by omega, by omega, by omega, by simp, hres, by simp, by simp, by simp, .full, by rw [List.take_of_length_le (by simp)]; simp [stC]⟩
 rintro k σ h ⟨a, f, out, ro, ha, rfl, hf, hout, hd, s0, s5, s6, ow, hh⟩
 obtain ⟨f, rfl⟩ : ∃ g, f = g + 1 := ⟨f - 1, by omega⟩
 unfold rulesS at hd
 have hlen : h0.length + 1 ≤ h.length := by
  have := congrArg List.length hh
  simp at this
  omega
 have hst : h[h0.length]? = some (stC l rt a false) := by
  have := congrArg (fun q : Heap => q[h0.length]?) hh
  simp only [List.getElem?_take, if_pos (Nat.lt_succ_self _)] at this
  rw [this]
  simp
 have hh0 : h.take h0.length = h0 := by
  have := congrArg (List.take h0.length) hh
  simpa [List.take_take] using this
 by_cases hlt : a < l.length
 ·rw [if_pos hlt] at hd
  have hstl := (List.getElem?_eq_some_iff.1 hst).1
  have ht0 : ∀ q : Heap, (h ++ q).take h0.length = h0 := fun q => by rw [List.take_append_of_le_length (by omega), hh0]
  have hrtl : ∀ t, rt = .tok t → t < h.length := fun t ht => by have := hrt0 t ht; omega
  obtain ⟨n, en⟩ : ∃ n, l[a]? = some n := ⟨_, List.getElem?_eq_getElem hlt⟩
  have hnl := ht n (List.mem_of_getElem? en)
  have hgen := HH_of hst
  obtain ⟨g, rfl, hgl⟩ := hgen
  rw [HH_len] at hlen hstl hrtl
  have hhg : ∀ (e : AE) (q : Heap), (HH g h0.length e ++ q).take h0.length = h0 := fun e q => by
   rw [List.take_append_of_le_length (by simp; omega)]
   have := hh0
   unfold HH at this ⊢
   rw [List.take_set_of_le (by omega)] at this ⊢
   exact this
  have T := fun (h : Heap) (hg : g.length ≤ h.length) t (ht : rt = .tok t) => show t < h.length by have := hrtl t ht; omega
  -- the reader's steps, behind an error
  have tno := fun (a : Nat) (off : Bool) ks (hk : ks.length ≤ 1000) (hn : nextB l a off ks = false) rk q => at_HH (r := h0.length) (g := g) hgl (fun h hg hr => take_no (rt := rt) hl a off ks hk rk h hr (T h hg) hn) q
  have tyes := fun (a : Nat) ks (hk : ks.length ≤ 1000) t (et : l[a]? = some t) (hn : ks.contains t.kind = true) rk q => at_HH (r := h0.length) (g := g) hgl (fun h hg hr => take_yes (rt := rt) hl a ks hk rk t et h hr (T h hg) hn) q
  have moff := fun (a : Nat) (s : List UInt8) q => at_HH (r := h0.length) (g := g) (e := stC l rt a true) (e' := stC l rt a true) hgl (fun h hg hr => by
   have := made_yes (l := l) (rt := rt) ⟨1, s, 0, 0, 0, 0, .list 7 [] .full⟩ a true h hr (by simp) (by simp)
   rw [this, set_same' hr]) q
  simp only [Cell7.cs] at moff
  have choff : ∀ a : Nat, ∃ tg : Heap → Tr, ∀ q : Heap, M.call 82 [.ptr h0.length 0] (HH g h0.length (stC l rt a true) ++ q) = some ((tg q).enc, HH g h0.length (stC l rt a true) ++ q) := fun a => by
   obtain ⟨tg, htg⟩ := choices_off (rt := rt) (r := h0.length) hl a
   refine ⟨fun q => tg (HH g h0.length (stC l rt a true) ++ q), fun q => ?_⟩
   rw [htg _ (HH_get hgl q) (T _ (by simp)), HH_set hgl]
  have e1 := fun (e : AE) q => HH_get (g := g) (r := h0.length) (e := e) hgl q
  have e0' : (HH g h0.length (stC l rt a false))[h0.length]? = some (stC l rt a false) := HH_get0 hgl
  have e0 := fun (e : AE) => HH_get0 (g := g) (r := h0.length) (e := e) hgl
  have wl : IntKind.wrap .i64 ((l.length : Int) - 1) = ((l.length - 1 : Nat) : Int) := by rw [wrap64 (by omega) (by omega)]; omega
  have sm0 := small_ok [] (by simp)
  have sm1 := small_ok n.text hnl
  have hlt' : (a : Int) < l.length := by omega
  have offEnd : ∀ p : Nat, ruleS l a = .bad p → res = ([], posAt l p, 20) := fun p hp => by rw [hp] at hd; exact hd.symm
  have hmin : ∀ p : Nat, ∃ (m : Nat) (x : Tok), m < l.length ∧ l[m]? = some x ∧ (if l.length - 1 < p then ((l.length - 1 : Nat) : Int) else (p : Int)) = (m : Int) ∧ posAt l p = x.pos := fun p => by
   by_cases hp : l.length - 1 < p
   ·refine ⟨l.length - 1, l[l.length - 1]'(by omega), by omega, List.getElem?_eq_getElem _, by rw [if_pos hp], ?_⟩
    unfold posAt
    rw [Nat.min_eq_right (by omega), List.getElem?_eq_getElem (by omega)]
   ·refine ⟨p, l[p]'(by omega), by omega, List.getElem?_eq_getElem _, by rw [if_neg hp], ?_⟩
    unfold posAt
    rw [Nat.min_eq_left (by omega), List.getElem?_eq_getElem (by omega)]
  by_cases k1 : n.kind = 1
  ·have hc1 : ([1] : List UInt8).contains n.kind = true := by rw [k1]; decide
   have tk1 := tyes a [1] (by simp) n en hc1
   have hlf : leafT n = .mk 1 (smallP n.text) 0 0 0 0 true [] := by simp [leafT, k1]
   have hlk : (leafT n).enc = .agg [.int .u8 1, .str (smallP n.text), .int .u8 0, .int .u8 0, .int .i64 0, .int .i64 0, .list 7 [] .full] := by rw [hlf]; simp [Tr.enc_mk]
   have hls : (leafT n).s.length ≤ 1000000000 := by rw [hlf]; simpa [Tr.s, smallP] using hnl
   cases hal : aloneP (leafT n) with
   | false =>
    have hb : ruleS l a = .bad a := by unfold ruleS; rw [en]; simp [hal]
    obtain ⟨m, x, hm, ex, em, ep⟩ := hmin a
    obtain ⟨tg, ch⟩ := choff a
    have mk := fun q => at_HH (r := h0.length) (g := g) hgl (fun h hg hr => madeT_no (rt := rt) hl (leafT n) hls a hlt h hr (T h hg) hal) q
    rw [hlk] at mk
    have tk2 := tno a true [2, 3] (by simp) (by simp [nextB])
    have tk3 := tno a true [13] (by simp) (by simp [nextB])
    unfold stC at tk1 tk2 tk3 mk ch e1 e0
    simp [-getElem?_pos, -Int.natCast_add, wL64_0, s0, s5, s6, stC, e1, e0, hlt, hlt', tk1, tk2, tk3, mk, ch, sm1, tok_zero, wl, em, ex, hm, tokA, tokL, k1, Nat.add_assoc]
    refine fin _ _ [] .full x.pos 20 ?_ (.inl rfl) ?_ ?_ (hhg _ _) (by rw [offEnd a hb, ep]) <;> simp
   | true =>
    have mk := fun q => at_HH (r := h0.length) (g := g) (e := stC l rt (a + 1) false) (e' := stC l rt (a + 1) false) hgl (fun h hg hr => by rw [madeT_yes (leafT n) hls (a + 1) h hr hal, set_same' hr]) q
    rw [hlk] at mk
    by_cases k23 : kd l (a + 1) = 2 ∨ kd l (a + 1) = 3
    ·obtain ⟨n2, en2⟩ : ∃ n2, l[a + 1]? = some n2 := by
      have : a + 1 < l.length := by rcases k23 with e | e <;> exact kd_lt e (by decide)
      exact ⟨_, List.getElem?_eq_getElem this⟩
     have hk2 := kd_of en2
     have tk2 := tyes (a + 1) [2, 3] (by simp) n2 en2 (by rw [← hk2]; rcases k23 with e | e <;> rw [e] <;> decide)
     have cc := cho_ok (rt := rt) (r := h0.length) hl ht (a + 2)
     cases hch : choP l (a + 2) with
     | bad p =>
      have hb : ruleS l a = .bad p := by unfold ruleS; rw [en]; simp [k1, hal, k23, hch]
      rw [hch] at cc
      obtain ⟨m, x, hm, ex, em, ep⟩ := hmin p
      obtain ⟨tg, htg⟩ := cc
      have ch : ∃ tg : Heap → Tr, ∀ q : Heap, M.call 82 [.ptr h0.length 0] (HH g h0.length (stC l rt (a + 2) false) ++ q) = some ((tg q).enc, HH g h0.length (stC l rt p true) ++ q) :=
       ⟨fun q => tg (HH g h0.length (stC l rt (a + 2) false) ++ q), fun q => by rw [htg _ (HH_get hgl q) (T _ (by simp)), HH_set hgl]⟩
      obtain ⟨tg, ch⟩ := ch
      have tk3 := tno p true [13] (by simp) (by simp [nextB])
      unfold stC at tk1 tk2 tk3 mk ch e1 e0
      simp [-getElem?_pos, -Int.natCast_add, wL64_0, s0, s5, s6, stC, e1, e0, hlt, hlt', tk1, tk2, tk3, mk, ch, sm1, tok_zero, wl, em, ex, hm, tokA, tokL, k1, Nat.add_assoc]
      refine fin _ _ [] .full x.pos 20 ?_ (.inl rfl) ?_ ?_ (hhg _ _) (by rw [offEnd p hb, ep]) <;> simp
     | ok t m =>
      rw [hch] at cc
      have ch := fun q => at_HH (r := h0.length) (g := g) hgl (fun h hg hr => cc h hr (T h hg)) q
      have hpr := cho_prog hch
      have hto := cho_TOk hl ht hch
      by_cases k13 : kd l m = 13
      ·obtain ⟨n3, en3⟩ : ∃ n3, l[m]? = some n3 := ⟨_, List.getElem?_eq_getElem (kd_lt k13 (by decide))⟩
       have tk3 := tyes m [13] (by simp) n3 en3 (by rw [← kd_of en3, k13]; decide)
       have hb : ruleS l a = .ok ⟨smallP n.text, n.pos, decide (kd l (a + 1) = 3), t⟩ (m + 1) := by unfold ruleS; rw [en]; simp [k1, hal, k23, hch, k13]
       rw [hb] at hd
       simp only at hd
       have rg := right_ok t hto
       cases hfit : fitsP 100 t with
       | false =>
        rw [hfit] at hd rg
        unfold stC at tk1 tk2 tk3 mk ch e1 e0
        simp [-getElem?_pos, -Int.natCast_add, wL64_0, s0, s5, s6, stC, e1, e0, hlt, hlt', tk1, tk2, tk3, mk, ch, rg, sm1, tok_zero, wl, tokA, tokL, k1, Nat.add_assoc]
        refine fin _ _ [] .full n.pos 21 ?_ (.inl rfl) ?_ ?_ (hhg _ _) hd.symm <;> simp
       | true =>
        rw [hfit] at hd rg
        simp only [if_true] at hd
        have e3 : ((n2.kind.toNat : Int) = 3) = (n2.kind = 3) := u8_eq n2.kind 3 (by omega)
        unfold stC at tk1 tk2 tk3 mk ch e1 e0
        simp [-getElem?_pos, -Int.natCast_add, wL64_0, s0, s5, s6, stC, e1, e0, hlt, hlt', tk1, tk2, tk3, mk, ch, rg, sm1, tok_zero, wl, tokA, tokL, k1, e3, Nat.add_assoc]
        have ow' : Ow (h0.length + 1) (HH g h0.length (stC l rt (m + 1) false)) 10 38 ro out.length := by
         have := ow.set (i := h0.length) (x := stC l rt (m + 1) false) (fun s m f => by rw [e0']; simp [stC])
         rwa [HH_set0] at this
        unfold stC at ow'
        obtain ⟨r2, g2, p1, p2, p3⟩ := app_list (n0 := h0.length + 1) (key := g.length + 6) (sz := 10) (bytes := 104) (e := 38)
         (h := HH g h0.length (.cells [.list 7 (l.map tokA) rt, .int .i64 ((m + 1 : Nat) : Int), .bool false]) ++ [AE.tok 1 1 5,
          AE.cells [AV.int IntKind.u8 1, AV.int IntKind.i64 n.pos, AV.str n.text, AV.int IntKind.i64 n.mn, AV.int IntKind.i64 n.mx, AV.int IntKind.u8 ↑n.lo.toNat, AV.int IntKind.u8 ↑n.hi.toNat],
          AE.tok 1 2 5,
          AE.cells [AV.int IntKind.u8 ↑n2.kind.toNat, AV.int IntKind.i64 n2.pos, AV.str n2.text, AV.int IntKind.i64 n2.mn, AV.int IntKind.i64 n2.mx, AV.int IntKind.u8 ↑n2.lo.toNat, AV.int IntKind.u8 ↑n2.hi.toNat],
          AE.cells t.encL, AE.tok 1 1 5, AE.dead])
         (xs := out.map ruA) (ys := [AV.agg (AV.str (smallP n.text) :: AV.int IntKind.i64 n.pos :: AV.bool (decide (n2.kind = 3)) :: t.encL)]) (r := ro) (r2 := .full)
         (by simpa using ow'.app _) (by omega) (by simp) (by simp; omega) (by simp; omega)
        rw [p1]
        simp
        refine ⟨l.length - (m + 1), by omega, m + 1, f, out ++ [⟨smallP n.text, n.pos, decide (kd l (a + 1) = 3), t⟩], r2, by have := kd_lt k13 (by decide); omega, rfl, by omega, by simp; omega, hd, by simp [s0], by simp [s5], ?_, by simpa using p2, ?_⟩
        ·simp [ruA, hk2]
        ·rw [p3.take, List.take_append_of_le_length (by simp; omega)]
         have h1 := congrArg (fun q : Heap => q.set h0.length (stC l rt (m + 1) false)) hh
         simp only [← List.take_set, HH_set0] at h1
         unfold stC at h1
         rw [h1]
         simp [stC]
      ·have hb : ruleS l a = .bad m := by unfold ruleS; rw [en]; simp [k1, hal, k23, hch, k13]
       obtain ⟨mm, x, hm, ex, em, ep⟩ := hmin m
       have tk3 := tno m false [13] (by simp) (by
        unfold nextB
        cases e : l[m]? with
        | none => rfl
        | some t => rw [kd_of e] at k13; simp [k13])
       unfold stC at tk1 tk2 tk3 mk ch e1 e0
       simp [-getElem?_pos, -Int.natCast_add, wL64_0, s0, s5, s6, stC, e1, e0, hlt, hlt', tk1, tk2, tk3, mk, ch, sm1, tok_zero, wl, em, ex, hm, tokA, tokL, k1, Nat.add_assoc]
       refine fin _ _ [] .full x.pos 20 ?_ (.inl rfl) ?_ ?_ (hhg _ _) (by rw [offEnd m hb, ep]) <;> simp
    ·have hb : ruleS l a = .bad (a + 1) := by unfold ruleS; rw [en]; simp [k1, hal, k23]
     obtain ⟨m, x, hm, ex, em, ep⟩ := hmin (a + 1)
     obtain ⟨tg, ch⟩ := choff (a + 1)
     have tk2 := tno (a + 1) false [2, 3] (by simp) (by
      unfold nextB
      cases e : l[a + 1]? with
      | none => rfl
      | some t => rw [kd_of e] at k23; simp at k23 ⊢; exact k23)
     have tk3 := tno (a + 1) true [13] (by simp) (by simp [nextB])
     unfold stC at tk1 tk2 tk3 mk ch e1 e0
     simp [-getElem?_pos, -Int.natCast_add, wL64_0, s0, s5, s6, stC, e1, e0, hlt, hlt', tk1, tk2, tk3, mk, ch, sm1, tok_zero, wl, em, ex, hm, tokA, tokL, k1, Nat.add_assoc]
     refine fin _ _ [] .full x.pos 20 ?_ (.inl rfl) ?_ ?_ (hhg _ _) (by rw [offEnd _ hb, ep]) <;> simp
  ·have hb : ruleS l a = .bad a := by unfold ruleS; rw [en]; simp [k1]
   obtain ⟨m, x, hm, ex, em, ep⟩ := hmin a
   obtain ⟨tg, ch⟩ := choff a
   have tk1 := tno a false [1] (by simp) (by simp [nextB, en, k1])
   have tk2 := tno a true [2, 3] (by simp) (by simp [nextB])
   have tk3 := tno a true [13] (by simp) (by simp [nextB])
   have mk := moff a []
   simp [smallP] at sm0
   unfold stC at tk1 tk2 tk3 mk ch e1 e0
   simp [-getElem?_pos, -Int.natCast_add, wL64_0, s0, s5, s6, stC, e1, e0, hlt, hlt', tk1, tk2, tk3, mk, ch, sm0, tok_zero, wl, em, ex, hm, tokA, tokL, Nat.add_assoc]
   refine fin _ _ [] .full x.pos 20 ?_ (.inl rfl) ?_ ?_ (hhg _ _) (by rw [offEnd a hb, ep]) <;> simp
 ·rw [if_neg hlt] at hd
  have hst' := hst
  unfold stC at hst'
  have hlt' : ¬ (a : Int) < l.length := by omega
  simp [-getElem?_pos, wL64_0, wK64_0, s0, s5, s6, hst', hlt, hlt']
  refine fin _ _ out ro 0 0 (by simp [s6]) ?_ (by simp) (by simp) hh0 hd.symm
  rcases ow with q | ⟨t, q1, q2, q3⟩
  ·exact .inl q
  ·exact .inr ⟨t, q1, by omega⟩
end Go.Proofs.YtcflbdikkcpiaaaGreatDoor
