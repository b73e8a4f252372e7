/-
  rules, plainly: which rules lead to themselves, and the way through rules.
-/
import Derived.Test.YtcflbdikkcpiaaaGreatDoorXQ
set_option linter.unusedVariables false
set_option linter.unusedSimpArgs false
namespace Go.Proofs.YtcflbdikkcpiaaaGreatDoor
open Go Go.Am
inductive Tg {α : Type} (E : α → α → Prop) : α → α → Prop
 | one {a b : α} : E a b → Tg E a b
 | step {a b c : α} : E a b → Tg E b c → Tg E a c
theorem Tg.trans {α : Type} {E : α → α → Prop} {a b c : α} (h : Tg E a b) (k : Tg E b c) : Tg E a c := by
 induction h with
 | one e => exact .step e k
 | step e _ ih => exact .step e (ih k)
theorem Tg.tail {α : Type} {E : α → α → Prop} {a b c : α} (h : Tg E a b) (k : E b c) : Tg E a c := h.trans (.one k)
theorem Tg.mono {α : Type} {E F : α → α → Prop} (hEF : ∀ a b, E a b → F a b) {a b : α} (h : Tg E a b) : Tg F a b := by
 induction h with
 | one e => exact .one (hEF _ _ e)
 | step e _ ih => exact .step (hEF _ _ e) ih
def EdI (nx : List (List Nat)) (a b : Nat) : Prop := b ∈ nx[a]?.getD []
theorem bfsIn_none {i : Nat} : ∀ {ns : List Nat} {been : List Bool} {todo : List Nat}, bfsIn i ns been todo = none ↔ i ∈ ns
 | [], been, todo => by simp [bfsIn]
 | n :: ns, been, todo => by
  rw [bfsIn]
  by_cases h : n = i
  ·simp [h]
  ·rw [if_neg h]
   have h' : ¬ i = n := fun e => h e.symm
   split <;> rw [bfsIn_none] <;> simp [h']
theorem bfsIn_mem2 {i : Nat} : ∀ {ns : List Nat} {been : List Bool} {todo : List Nat} {b : List Bool} {t : List Nat}, bfsIn i ns been todo = some (b, t) → (∀ n ∈ ns, n < been.length) →
  (∀ n ∈ ns, b[n]? = some true) ∧ (∀ n : Nat, been[n]? = some true → b[n]? = some true) ∧ (∀ n : Nat, b[n]? = some true → been[n]? = some true ∨ (n ∈ ns ∧ n ∈ t)) ∧ (∀ n ∈ todo, n ∈ t) ∧ (∀ n ∈ t, n ∈ todo ∨ n ∈ ns)
 | [], been, todo, b, t, h, _ => by
  simp only [bfsIn, Option.some.injEq, Prod.mk.injEq] at h
  obtain ⟨rfl, rfl⟩ := h
  simp
 | n :: ns, been, todo, b, t, h, hn => by
  have hlt := hn n (by simp)
  simp only [bfsIn] at h
  split at h
  ·cases h
  ·split at h
   ·rename_i h1 h2
    have hf : been[n]? = some true := by
     rw [List.getElem?_eq_getElem hlt] at h2 ⊢
     simp at h2
     rw [h2]
    obtain ⟨a1, a2, a3, a4, a5⟩ := bfsIn_mem2 h fun m hm => hn m (by simp [hm])
    refine ⟨fun m hm => ?_, a2, fun m hm => ?_, a4, fun m hm => ?_⟩
    ·rcases List.mem_cons.1 hm with rfl | hm
     ·exact a2 _ hf
     ·exact a1 m hm
    ·rcases a3 m hm with e | ⟨e1, e2⟩
     ·exact .inl e
     ·exact .inr ⟨by simp [e1], e2⟩
    ·rcases a5 m hm with e | e
     ·exact .inl e
     ·exact .inr (by simp [e])
   ·obtain ⟨a1, a2, a3, a4, a5⟩ := bfsIn_mem2 h fun m hm => by simpa using hn m (by simp [hm])
    have hs : (been.set n true)[n]? = some true := List.getElem?_set_self hlt
    refine ⟨fun m hm => ?_, fun m hm => ?_, fun m hm => ?_, fun m hm => a4 m (by simp [hm]), fun m hm => ?_⟩
    ·rcases List.mem_cons.1 hm with rfl | hm
     ·exact a2 _ hs
     ·exact a1 m hm
    ·refine a2 m ?_
     by_cases e : n = m
     ·subst e; exact hs
     ·rw [List.getElem?_set_ne e]; exact hm
    ·rcases a3 m hm with e | ⟨e1, e2⟩
     ·by_cases e' : n = m
      ·subst e'
       exact .inr ⟨by simp, a4 _ (by simp)⟩
      ·rw [List.getElem?_set_ne e'] at e
       exact .inl e
     ·exact .inr ⟨by simp [e1], e2⟩
    ·rcases a5 m hm with e | e
     ·rcases List.mem_append.1 e with e | e
      ·exact .inl e
      ·obtain rfl := List.mem_singleton.1 e
       exact .inr (by simp)
     ·exact .inr (by simp [e])
theorem shut_not {nx : List (List Nat)} {i : Nat} {been : List Bool} (h : ∀ k, (k = i ∨ been[k]? = some true) → ∀ n ∈ nx[k]?.getD [], n ≠ i ∧ been[n]? = some true) : ¬ Tg (EdI nx) i i := by
 have : ∀ {a c : Nat}, Tg (EdI nx) a c → (a = i ∨ been[a]? = some true) → c ≠ i := by
  intro a c t
  induction t with
  | one e => intro ha; exact (h _ ha _ e).1
  | step e _ ih => intro ha; exact ih (.inr (h _ ha _ e).2)
 exact fun t => this t (.inl rfl) rfl
theorem bfs_spec {nx : List (List Nat)} {N i : Nat} (hnx : ∀ k n : Nat, n ∈ nx[k]?.getD [] → n < N) : ∀ (f : Nat) (been : List Bool) (todo : List Nat), been.length = N → todo.length + cf been ≤ f →
  (∀ k ∈ todo, k = i ∨ Tg (EdI nx) i k) → (∀ k, (k = i ∨ been[k]? = some true) → k ∉ todo → ∀ n ∈ nx[k]?.getD [], n ≠ i ∧ been[n]? = some true) → (bfs nx i f been todo = true ↔ Tg (EdI nx) i i)
 | 0, been, todo, h1, h2, h3, h4 => by
  obtain rfl := List.eq_nil_of_length_eq_zero (show todo.length = 0 by omega)
  have := shut_not fun k hk => h4 k hk (by simp)
  simp [bfs, this]
 | f + 1, been, [], h1, h2, h3, h4 => by
  have := shut_not fun k hk => h4 k hk (by simp)
  simp [bfs, this]
 | f + 1, been, k :: rest, h1, h2, h3, h4 => by
  have hk := h3 k (by simp)
  rw [bfs]
  cases hb : bfsIn i (nx[k]?.getD []) been rest with
  | none =>
   have hi := bfsIn_none.1 hb
   simp only [true_iff]
   rcases hk with rfl | hk
   ·exact .one hi
   ·exact hk.tail hi
  | some q =>
   obtain ⟨b, t⟩ := q
   have hn : ∀ n ∈ nx[k]?.getD [], n < been.length := fun n h => by rw [h1]; exact hnx k n h
   obtain ⟨l1, l2⟩ := bfsIn_some hb hn
   obtain ⟨a1, a2, a3, a4, a5⟩ := bfsIn_mem2 hb hn
   have hni : i ∉ nx[k]?.getD [] := fun h => by rw [bfsIn_none.2 h] at hb; cases hb
   have g4 : ∀ k', (k' = i ∨ b[k']? = some true) → k' ∉ t → ∀ n ∈ nx[k']?.getD [], n ≠ i ∧ b[n]? = some true := by
    intro k' e1 e2 n hn'
    by_cases ek : k' = k
    ·subst ek
     exact ⟨fun e => hni (e ▸ hn'), a1 n hn'⟩
    ·have e3 : k' ∉ k :: rest := fun hm => by
      rcases List.mem_cons.1 hm with e | e
      ·exact ek e
      ·exact e2 (a4 _ e)
     have e4 : k' = i ∨ been[k']? = some true := by
      rcases e1 with e | e
      ·exact .inl e
      ·rcases a3 k' e with e | ⟨_, e⟩
       ·exact .inr e
       ·exact absurd e e2
     obtain ⟨q1, q2⟩ := h4 k' e4 e3 n hn'
     exact ⟨q1, a2 n q2⟩
   simp only
   by_cases ht : t = []
   ·subst ht
    have := shut_not fun k hk => g4 k hk (by simp)
    simp [this]
   ·rw [if_neg ht]
    refine bfs_spec hnx f b t (by omega) (by simp only [List.length_cons] at h2; omega) ?_ g4
    intro m hm
    rcases a5 m hm with e | e
    ·exact h3 m (by simp [e])
    ·refine .inr ?_
     rcases hk with rfl | hk
     ·exact .one e
     ·exact hk.tail e
theorem cf_false (N : Nat) : cf (List.replicate N false) = N := by
 unfold cf
 induction N with
 | zero => rfl
 | succ n ih => simp [List.replicate_succ]
theorem bfs_start {nx : List (List Nat)} {N i : Nat} (hnx : ∀ k n : Nat, n ∈ nx[k]?.getD [] → n < N) : bfs nx i (N + 1) (List.replicate N false) [i] = true ↔ Tg (EdI nx) i i := by
 refine bfs_spec hnx _ _ _ (by simp) (by rw [cf_false]; simp; omega) (fun k hk => .inl (by simpa using hk)) ?_
 intro k hk hm
 rcases hk with rfl | hk
 ·simp at hm
 ·rw [List.getElem?_replicate] at hk
  split at hk <;> simp at hk
theorem loopP_spec {nx : List (List Nat)} {N : Nat} (hnx : ∀ k n : Nat, n ∈ nx[k]?.getD [] → n < N) : ∀ (l : List Ru) (j : Nat),
  (loopP nx N l j = none ↔ ∀ d, d < l.length → ¬ Tg (EdI nx) (j + d) (j + d)) ∧ ∀ s, loopP nx N l j = some s → ∃ d x, l[d]? = some x ∧ x.name = s ∧ Tg (EdI nx) (j + d) (j + d)
 | [], j => by simp [loopP]
 | x :: l, j => by
  obtain ⟨h1, h2⟩ := loopP_spec hnx l (j + 1)
  have hb := bfs_start (i := j) hnx
  rw [loopP]
  by_cases hx : bfs nx j (N + 1) (List.replicate N false) [j] = true
  ·rw [if_pos hx]
   refine ⟨⟨fun h => by (cases h), fun h => ?_⟩, fun s hs => ?_⟩
   ·exact absurd (hb.1 hx) (by simpa using h 0 (by simp))
   ·exact ⟨0, x, rfl, by simpa using hs, by simpa using hb.1 hx⟩
  ·rw [if_neg hx]
   have hno : ¬ Tg (EdI nx) j j := fun t => hx (hb.2 t)
   refine ⟨⟨fun h => ?_, fun h => ?_⟩, fun s hs => ?_⟩
   ·intro d hd
    cases d with
    | zero => simpa using hno
    | succ d =>
     have := h1.1 h d (by simpa using hd)
     rwa [show j + 1 + d = j + (d + 1) by omega] at this
   ·refine h1.2 fun d hd => ?_
    have := h (d + 1) (by simpa using hd)
    rwa [show j + (d + 1) = j + 1 + d by omega] at this
   ·obtain ⟨d, y, e1, e2, e3⟩ := h2 s hs
    exact ⟨d + 1, y, by simpa using e1, e2, by rwa [show j + (d + 1) = j + 1 + d by omega]⟩
def Topo (nx : List (List Nat)) (out : List Nat) : Prop := ∀ a k b, out = a ++ k :: b → ∀ n ∈ nx[k]?.getD [], n ∈ a
theorem Topo.snoc {nx : List (List Nat)} {out : List Nat} {i : Nat} (h : Topo nx out) (hi : ∀ n ∈ nx[i]?.getD [], n ∈ out) : Topo nx (out ++ [i]) := by
 intro a k b e n hn
 rcases List.eq_nil_or_concat b with rfl | ⟨b', z, rfl⟩
 ·have := List.append_inj' e (by simp)
  obtain ⟨rfl, e2⟩ := this
  obtain rfl : i = k := by simpa using e2
  exact hi n hn
 ·rw [List.concat_eq_append, ← List.cons_append, ← List.append_assoc] at e
  obtain ⟨e1, _⟩ := List.append_inj' e (by simp)
  exact h a k b' e1 n hn
structure St (nx : List (List Nat)) (N : Nat) (stack : List Nat) (s : List Bool × List Nat) : Prop where
 len : s.1.length = N
 nd : s.2.Nodup
 topo : Topo nx s.2
 been : ∀ k, s.1[k]? = some true ↔ (k ∈ s.2 ∨ k ∈ stack)
 apart : ∀ k ∈ s.2, k ∉ stack
theorem thr_spec {nx : List (List Nat)} {N : Nat} (hnx : ∀ k n : Nat, n ∈ nx[k]?.getD [] → n < N) (ha : ∀ k, ¬ Tg (EdI nx) k k) : ∀ (f i : Nat) (stack : List Nat) (s : List Bool × List Nat), St nx N stack s → i < N → cf s.1 ≤ f → (∀ k ∈ stack, Tg (EdI nx) k i) →
  St nx N stack (thr nx (f + 1) i s) ∧ i ∈ (thr nx (f + 1) i s).2 ∧ ∃ new, (thr nx (f + 1) i s).2 = s.2 ++ new ∧ ∀ k ∈ new, k = i ∨ Tg (EdI nx) i k
 | f, i, stack, s, hs, hi, hf, hst => by
  have hlen := hs.len
  rw [thr]
  cases hb : s.1[i]?.getD true with
  | true =>
   have hbt : s.1[i]? = some true := by
    rw [List.getElem?_eq_getElem (by omega)] at hb ⊢
    simp at hb
    rw [hb]
   simp only [if_true]
   refine ⟨hs, ?_, [], by simp, by simp⟩
   rcases (hs.been i).1 hbt with h | h
   ·exact h
   ·exact absurd (hst i h) (ha i)
  | false =>
   have hbf : s.1[i]? = some false := by
    rw [List.getElem?_eq_getElem (by omega)] at hb ⊢
    simp at hb
    rw [hb]
   have hcs := cf_set s.1 i hbf
   have hni : i ∉ stack := fun h => ha i (hst i h)
   have hno : i ∉ s.2 := fun h => by rw [(hs.been i).2 (.inl h)] at hbf; cases hbf
   simp only [Bool.false_eq_true, if_false]
   match f, hf with
   | 0, hf => omega
   | f + 1, hf =>
    have fold : ∀ (ns : List Nat) (s : List Bool × List Nat), (∀ n ∈ ns, n ∈ nx[i]?.getD []) → St nx N (i :: stack) s → cf s.1 ≤ f →
      St nx N (i :: stack) (ns.foldl (fun s n => thr nx (f + 1) n s) s) ∧ (∀ n ∈ ns, n ∈ (ns.foldl (fun s n => thr nx (f + 1) n s) s).2) ∧ ∃ new, (ns.foldl (fun s n => thr nx (f + 1) n s) s).2 = s.2 ++ new ∧ ∀ k ∈ new, Tg (EdI nx) i k := by
     intro ns
     induction ns with
     | nil => intro s _ h1 _; exact ⟨h1, by simp, [], by simp, by simp⟩
     | cons n ns ih =>
      intro s hn h1 h3
      have hnn := hn n (by simp)
      have hnN := hnx i n hnn
      obtain ⟨a1, a2, new1, a3, a4⟩ := thr_spec hnx ha f n (i :: stack) s h1 hnN h3 (fun k hk => by
       rcases List.mem_cons.1 hk with rfl | hk
       ·exact .one hnn
       ·exact (hst k hk).tail hnn)
      have hcf := (thr_sum hnx f n s h1.len hnN h3).2.2
      obtain ⟨b1, b2, new2, b3, b4⟩ := ih (thr nx (f + 1) n s) (fun m hm => hn m (by simp [hm])) a1 (by omega)
      rw [List.foldl_cons]
      refine ⟨b1, fun m hm => ?_, new1 ++ new2, by rw [b3, a3]; simp, fun k hk => ?_⟩
      ·rcases List.mem_cons.1 hm with rfl | hm
       ·rw [b3]; simp [a2]
       ·exact b2 m hm
      ·rcases List.mem_append.1 hk with hk | hk
       ·rcases a4 k hk with rfl | h
        ·exact .one hnn
        ·exact .step hnn h
       ·exact b4 k hk
    have hs1 : St nx N (i :: stack) (s.1.set i true, s.2) := by
     refine ⟨by simpa using hlen, hs.nd, hs.topo, fun k => ?_, fun k hk => ?_⟩
     ·by_cases e : i = k
      ·subst e
       simp [List.getElem?_set_self (show i < s.1.length by omega)]
      ·have e' : ¬ k = i := fun h => e h.symm
       simp only [List.getElem?_set_ne e, hs.been k, List.mem_cons, e', false_or]
     ·simp only [List.mem_cons, not_or]
      exact ⟨fun e => hno (e ▸ hk), hs.apart k hk⟩
    obtain ⟨c1, c2, new, c3, c4⟩ := fold (nx[i]?.getD []) (s.1.set i true, s.2) (fun n h => h) hs1 (by simp only; omega)
    generalize ((nx[i]?.getD []).foldl (fun s n => thr nx (f + 1) n s) (s.1.set i true, s.2)) = r at *
    have hir : i ∉ r.2 := fun h => c1.apart i h (by simp)
    refine ⟨⟨c1.len, ?_, c1.topo.snoc c2, fun k => ?_, fun k hk => ?_⟩, by simp, new ++ [i], by simp [c3], fun k hk => ?_⟩
    ·simp only
     rw [List.nodup_append]
     exact ⟨c1.nd, by simp, fun x hx y hy => by rw [List.mem_singleton.1 hy]; exact fun e => hir (e ▸ hx)⟩
    ·simp only [c1.been k, List.mem_cons, List.mem_append, List.mem_singleton, List.not_mem_nil, or_false]
     constructor
     ·rintro (h | h | h)
      ·exact .inl (.inl h)
      ·exact .inl (.inr h)
      ·exact .inr h
     ·rintro ((h | h) | h)
      ·exact .inl h
      ·exact .inr (.inl h)
      ·exact .inr (.inr h)
    ·rcases List.mem_append.1 hk with hk | hk
     ·exact fun h => c1.apart k hk (by simp [h])
     ·rw [List.mem_singleton.1 hk]; exact hni
    ·rcases List.mem_append.1 hk with hk | hk
     ·exact .inr (c4 k hk)
     ·exact .inl (List.mem_singleton.1 hk)
theorem st_start (nx : List (List Nat)) (N : Nat) : St nx N [] (List.replicate N false, []) := by
 refine ⟨by simp, by simp, ?_, ?_, ?_⟩
 ·intro a k b e
  simp at e
 ·intro k
  simp only [List.getElem?_replicate, List.not_mem_nil, or_self, iff_false]
  split <;> simp
 ·intro k hk
  simp at hk
theorem St.lt {nx : List (List Nat)} {N : Nat} {stack : List Nat} {s : List Bool × List Nat} (h : St nx N stack s) {k : Nat} (hk : k ∈ s.2) : k < N := by
 have := (h.been k).2 (.inl hk)
 rw [← h.len]
 exact (List.getElem?_eq_some_iff.1 this).1
def EdN (rows : List Ru) (s t : List UInt8) : Prop := ∃ x ∈ rows, x.name = s ∧ t ∈ namT x.tree
structure Cl (rows : List Ru) : Prop where
 nd : (rows.map Ru.name).Nodup
 shut : ∀ x ∈ rows, ∀ s ∈ namT x.tree, s ∈ rows.map Ru.name
def nmI (rows : List Ru) (i : Nat) : List UInt8 := ((rows.map Ru.name)[i]?).getD []
theorem nmI_at {rows : List Ru} {i : Nat} {x : Ru} (h : rows[i]? = some x) : nmI rows i = x.name := by simp [nmI, h]
theorem posK_nd {s : List UInt8} : ∀ {l : List (List UInt8)} {j : Nat}, l.Nodup → l[j]? = some s → posK s l = some j
 | [], j, _, h => by simp at h
 | x :: l, 0, _, h => by simp at h; simp [posK, h]
 | x :: l, j + 1, hn, h => by
  rw [List.nodup_cons] at hn
  have h' : l[j]? = some s := by simpa using h
  have hx : x ≠ s := fun e => hn.1 (e ▸ List.mem_of_getElem? h')
  simp only [posK]
  rw [if_neg hx, posK_nd hn.2 h']
  rfl
theorem at_name {rows : List Ru} {s : List UInt8} (h : s ∈ rows.map Ru.name) : ∃ j, j < rows.length ∧ nmI rows j = s ∧ atP (rows.map Ru.name) s = j ∧ posK s (rows.map Ru.name) = some j := by
 cases hp : posK s (rows.map Ru.name) with
 | none => exact absurd h (posK_none.1 hp)
 | some j =>
  obtain ⟨h1, h2⟩ := posK_some hp
  exact ⟨j, by simpa using h1, by unfold nmI; rw [h2]; rfl, by unfold atP; rw [hp]; rfl, rfl⟩
theorem nxG_at {rows : List Ru} {i : Nat} {x : Ru} (h : rows[i]? = some x) : (nxG rows)[i]?.getD [] = (namT x.tree).map (atP (rows.map Ru.name)) := by
 unfold nxG nxR
 rw [List.getElem?_map, h]
 rfl
theorem edge_nm {rows : List Ru} (hc : Cl rows) {i j : Nat} (h : EdI (nxG rows) i j) : i < rows.length ∧ j < rows.length ∧ EdN rows (nmI rows i) (nmI rows j) := by
 unfold EdI at h
 cases hi : rows[i]? with
 | none =>
  unfold nxG at h
  rw [List.getElem?_map, hi] at h
  simp at h
 | some x =>
  have hx := List.mem_of_getElem? hi
  rw [nxG_at hi] at h
  obtain ⟨s, hs, e⟩ := List.mem_map.1 h
  obtain ⟨j', h1, h2, h3, _⟩ := at_name (hc.shut x hx s hs)
  obtain rfl : j' = j := by rw [← h3, e]
  exact ⟨(List.getElem?_eq_some_iff.1 hi).1, h1, x, hx, (nmI_at hi).symm, by rw [h2]; exact hs⟩
theorem nmI_inj {rows : List Ru} (hc : Cl rows) {i j : Nat} (hi : i < rows.length) (hj : j < rows.length) (h : nmI rows i = nmI rows j) : i = j := by
 have h1 : (rows.map Ru.name)[i]? = some (nmI rows i) := by unfold nmI; rw [List.getElem?_eq_getElem (by simpa using hi)]; rfl
 have h2 : (rows.map Ru.name)[j]? = some (nmI rows i) := by rw [h]; unfold nmI; rw [List.getElem?_eq_getElem (by simpa using hj)]; rfl
 have := posK_nd hc.nd h1
 rw [posK_nd hc.nd h2] at this
 exact (Option.some.inj this).symm
theorem nm_edge {rows : List Ru} (hc : Cl rows) {s t : List UInt8} (h : EdN rows s t) {i : Nat} (hi : i < rows.length) (hs : nmI rows i = s) : ∃ j, j < rows.length ∧ nmI rows j = t ∧ EdI (nxG rows) i j := by
 obtain ⟨x, hx, e, ht⟩ := h
 obtain ⟨k, hk⟩ := List.getElem?_of_mem hx
 obtain rfl : k = i := nmI_inj hc (List.getElem?_eq_some_iff.1 hk).1 hi (by rw [nmI_at hk, e, hs])
 obtain ⟨j, h1, h2, h3, _⟩ := at_name (hc.shut x hx t ht)
 exact ⟨j, h1, h2, by unfold EdI; rw [nxG_at hk]; exact List.mem_map.2 ⟨t, ht, h3⟩⟩
theorem tg_nm {rows : List Ru} (hc : Cl rows) {i j : Nat} (h : Tg (EdI (nxG rows)) i j) : i < rows.length ∧ j < rows.length ∧ Tg (EdN rows) (nmI rows i) (nmI rows j) := by
 induction h with
 | one e => obtain ⟨h1, h2, h3⟩ := edge_nm hc e; exact ⟨h1, h2, .one h3⟩
 | step e _ ih => obtain ⟨h1, _, h3⟩ := edge_nm hc e; exact ⟨h1, ih.2.1, .step h3 ih.2.2⟩
theorem nm_tg {rows : List Ru} (hc : Cl rows) {s t : List UInt8} (h : Tg (EdN rows) s t) : ∀ i, i < rows.length → nmI rows i = s → ∃ j, j < rows.length ∧ nmI rows j = t ∧ Tg (EdI (nxG rows)) i j := by
 induction h with
 | one e =>
  intro i hi hs
  obtain ⟨j, h1, h2, h3⟩ := nm_edge hc e hi hs
  exact ⟨j, h1, h2, .one h3⟩
 | step e _ ih =>
  intro i hi hs
  obtain ⟨j, h1, h2, h3⟩ := nm_edge hc e hi hs
  obtain ⟨k, k1, k2, k3⟩ := ih j h1 h2
  exact ⟨k, k1, k2, .step h3 k3⟩
theorem tg_from {rows : List Ru} {s t : List UInt8} (h : Tg (EdN rows) s t) : s ∈ rows.map Ru.name := by
 have key : ∀ {s t}, EdN rows s t → s ∈ rows.map Ru.name := fun ⟨x, hx, e, _⟩ => List.mem_map.2 ⟨x, hx, e⟩
 cases h with
 | one e => exact key e
 | step e _ => exact key e
theorem nm_self {rows : List Ru} (hc : Cl rows) {s : List UInt8} (h : Tg (EdN rows) s s) : ∃ i, i < rows.length ∧ nmI rows i = s ∧ Tg (EdI (nxG rows)) i i := by
 obtain ⟨i, h1, h2, _, _⟩ := at_name (tg_from h)
 obtain ⟨j, k1, k2, k3⟩ := nm_tg hc h i h1 h2
 obtain rfl := nmI_inj hc h1 k1 (by rw [h2, k2])
 exact ⟨i, h1, h2, k3⟩
theorem acyc_nm {rows : List Ru} (hc : Cl rows) (ha : ∀ s, ¬ Tg (EdN rows) s s) : ∀ i, ¬ Tg (EdI (nxG rows)) i i := fun i h => ha _ (tg_nm hc h).2.2
theorem lackP_none {nm : List (List UInt8)} : ∀ {l : List Ru}, lackP nm l = none ↔ ∀ x ∈ l, ∀ s ∈ namT x.tree, s ∈ nm
 | [] => by simp [lackP]
 | x :: l => by
  rw [lackP]
  cases hf : (namT x.tree).find? fun s => !decide (s ∈ nm) with
  | some s =>
   have h1 := List.mem_of_find?_eq_some hf
   have h2 := List.find?_some hf
   simp at h2
   simp only [reduceCtorEq, false_iff]
   exact fun h => h2 (h x (by simp) s h1)
  | none =>
   have h0 : ∀ s ∈ namT x.tree, s ∈ nm := by simpa using hf
   simp only [lackP_none (l := l)]
   exact ⟨fun h y hy => by
    rcases List.mem_cons.1 hy with rfl | hy
    ·exact h0
    ·exact h y hy, fun h y hy => h y (by simp [hy])⟩
theorem lackP_some {nm : List (List UInt8)} {s : List UInt8} : ∀ {l : List Ru}, lackP nm l = some s → s ∉ nm ∧ ∃ x ∈ l, s ∈ namT x.tree
 | [], h => by simp [lackP] at h
 | x :: l, h => by
  rw [lackP] at h
  cases hf : (namT x.tree).find? fun s => !decide (s ∈ nm) with
  | some s' =>
   rw [hf] at h
   obtain rfl := Option.some.inj h
   have h2 := List.find?_some hf
   simp at h2
   exact ⟨h2, x, by simp, List.mem_of_find?_eq_some hf⟩
  | none =>
   rw [hf] at h
   obtain ⟨h1, y, hy, h2⟩ := lackP_some h
   exact ⟨h1, y, by simp [hy], h2⟩
theorem Cl.lack {rows : List Ru} (hc : Cl rows) : lackP (rows.map Ru.name) rows = none := lackP_none.2 hc.shut
def ordR (rows : List Ru) : List Ru := (ordS rows rows.length).2.map fun i => copyR (getR rows i)
theorem gathR_acyc {rows : List Ru} (hc : Cl rows) (ha : ∀ s, ¬ Tg (EdN rows) s s) : gathR rows = (ordR rows, [], 0) := by
 unfold gathR
 rw [hc.lack, (loopP_spec (N := rows.length) (nxG_lt rows) rows 0).1.2 fun d _ h => acyc_nm hc ha _ h]
 rfl
theorem gathR_loop {rows : List Ru} (hc : Cl rows) {s : List UInt8} (h : Tg (EdN rows) s s) : ∃ t, gathR rows = ([], t, 33) ∧ Tg (EdN rows) t t := by
 obtain ⟨i, h1, _, h3⟩ := nm_self hc h
 obtain ⟨l1, l2⟩ := loopP_spec (N := rows.length) (nxG_lt rows) rows 0
 cases hl : loopP (nxG rows) rows.length rows 0 with
 | none => exact absurd h3 (by simpa using l1.1 hl i h1)
 | some t =>
  obtain ⟨d, x, e1, e2, e3⟩ := l2 t hl
  refine ⟨t, ?_, ?_⟩
  ·unfold gathR
   rw [hc.lack, hl]
  ·have := (tg_nm hc e3).2.2
   rw [Nat.zero_add, nmI_at e1, e2] at this
   exact this
theorem gathR_lack {rows : List Ru} {s : List UInt8} (h : lackP (rows.map Ru.name) rows = some s) : gathR rows = ([], s, 32) := by
 unfold gathR
 rw [h]
theorem namL_mem {s : List UInt8} : ∀ {l : List Tr}, s ∈ namL l ↔ ∃ t ∈ l, s ∈ namT t
 | [] => by simp [namL]
 | t :: l => by simp [namL, namL_mem (l := l)]
theorem namL_fm : ∀ l : List Tr, namL l = l.flatMap namT
 | [] => rfl
 | t :: l => by simp [namL, namL_fm l]
theorem nam_copyN : ∀ (n : Nat) (t : Tr), t.size ≤ n → namT (copyT t) = namT t
 | 0, t, h => by cases t; simp [Tr.size] at h
 | n + 1, t, h => by
  have hk : ∀ k ∈ t.kids, namT (copyT k) = namT k := fun k hk => nam_copyN n k (by have := Tr.size_kid hk; omega)
  cases t with
  | mk k s lo hi mn mx f ks =>
   rw [copyT, namT, namT, namL_fm, namL_fm, copyL_map]
   have : (ks.map copyT).flatMap namT = ks.flatMap namT := by
    rw [List.flatMap_map]
    have hk' : ∀ k ∈ ks, namT (copyT k) = namT k := hk
    clear hk h
    induction ks with
    | nil => rfl
    | cons a l ih => simp only [List.flatMap_cons]; rw [hk' a (by simp), ih fun k hk => hk' k (by simp [hk])]
   rw [this]
theorem nam_copy (t : Tr) : namT (copyT t) = namT t := nam_copyN _ t (Nat.le_refl _)
theorem ord_st {rows : List Ru} (hc : Cl rows) (ha : ∀ s, ¬ Tg (EdN rows) s s) : ∀ k, k ≤ rows.length → St (nxG rows) rows.length [] (ordS rows k) ∧ ∀ j, j < k → j ∈ (ordS rows k).2
 | 0, _ => ⟨by simpa [ordS] using st_start (nxG rows) rows.length, by simp⟩
 | k + 1, hk => by
  obtain ⟨h1, h2⟩ := ord_st hc ha k (by omega)
  have hf := (ordS_facts rows k (by omega)).2.1
  rw [ordS_succ]
  obtain ⟨a1, a2, new, a3, a4⟩ := thr_spec (nxG_lt rows) (acyc_nm hc ha) rows.length k [] (ordS rows k) h1 (by omega) (by omega) (by simp)
  refine ⟨a1, fun j hj => ?_⟩
  by_cases e : j = k
  ·rw [e]; exact a2
  ·rw [a3]
   exact List.mem_append_left _ (h2 j (by omega))
theorem cf_zero {b : List Bool} (h : ∀ i, i < b.length → b[i]? = some true) : cf b = 0 := by
 unfold cf
 rw [List.length_eq_zero_iff, List.filter_eq_nil_iff]
 intro x hx
 obtain ⟨i, hi⟩ := List.getElem?_of_mem hx
 rw [h i (List.getElem?_eq_some_iff.1 hi).1] at hi
 cases hi
 decide
section
variable {rows : List Ru} (hc : Cl rows) (ha : ∀ s, ¬ Tg (EdN rows) s s)
include hc ha
theorem ordR_len : (ordR rows).length = rows.length := by
 obtain ⟨h1, h2⟩ := ord_st hc ha rows.length (Nat.le_refl _)
 have hf := (ordS_facts rows rows.length (Nat.le_refl _)).2.1
 have : cf (ordS rows rows.length).1 = 0 := cf_zero fun i hi => (h1.been i).2 (.inl (h2 i (by rw [← h1.len]; exact hi)))
 unfold ordR
 rw [List.length_map]
 omega
theorem ordR_mem {x : Ru} : x ∈ ordR rows ↔ ∃ y ∈ rows, x = copyR y := by
 obtain ⟨h1, h2⟩ := ord_st hc ha rows.length (Nat.le_refl _)
 unfold ordR
 constructor
 ·intro h
  obtain ⟨i, hi, rfl⟩ := List.mem_map.1 h
  have hlt := h1.lt hi
  exact ⟨rows[i], by simp, by simp [getR, List.getElem?_eq_getElem hlt]⟩
 ·rintro ⟨y, hy, rfl⟩
  obtain ⟨i, hi⟩ := List.getElem?_of_mem hy
  exact List.mem_map.2 ⟨i, h2 i (List.getElem?_eq_some_iff.1 hi).1, by simp [getR, hi]⟩
theorem ordR_right (hg : ∀ x ∈ rows, x.more = false ∧ gvP (copyR x) = true) : rightG (ordR rows) [] = true := by
 obtain ⟨h1, h2⟩ := ord_st hc ha rows.length (Nat.le_refl _)
 have key : ∀ (b a : List Nat), (ordS rows rows.length).2 = a ++ b → rightG (b.map fun i => copyR (getR rows i)) (a.map (nmI rows)) = true := by
  intro b
  induction b with
  | nil => intro a _; rfl
  | cons k b ih =>
   intro a e
   have hk : k ∈ (ordS rows rows.length).2 := by rw [e]; simp
   have hlt := h1.lt hk
   have hr : rows[k]? = some (getR rows k) := by simp [getR, List.getElem?_eq_getElem hlt]
   have hm := List.mem_of_getElem? hr
   obtain ⟨g1, g2⟩ := hg _ hm
   have hnm := nmI_at hr
   rw [List.map_cons, rightG]
   have c1 : (copyR (getR rows k)).more = false := g1
   have c3 : (copyR (getR rows k)).name ∉ a.map (nmI rows) := by
    intro hh
    obtain ⟨i, hi, ei⟩ := List.mem_map.1 hh
    have hi' : i ∈ (ordS rows rows.length).2 := by rw [e]; simp [hi]
    obtain rfl : i = k := nmI_inj hc (h1.lt hi') hlt (by rw [ei, hnm]; rfl)
    have := h1.nd
    rw [e, List.nodup_append] at this
    exact this.2.2 i hi i (by simp) rfl
   have c4 : ∀ s ∈ namT (copyR (getR rows k)).tree, s ∈ a.map (nmI rows) := by
    intro s hs
    have hs' : s ∈ namT (getR rows k).tree := by simpa [copyR, nam_copy] using hs
    obtain ⟨j, j1, j2, j3, _⟩ := at_name (hc.shut _ hm s hs')
    have : j ∈ a := h1.topo a k b e j (by rw [nxG_at hr]; exact List.mem_map.2 ⟨s, hs', j3⟩)
    exact List.mem_map.2 ⟨j, this, j2⟩
   have c5 : ((namT (copyR (getR rows k)).tree).all fun s => decide (s ∈ a.map (nmI rows))) = true := List.all_eq_true.2 fun s hs => decide_eq_true (c4 s hs)
   have c6 : decide ((copyR (getR rows k)).name ∈ a.map (nmI rows)) = false := decide_eq_false c3
   rw [if_neg (by rw [c1, g2, c5, c6]; decide)]
   have := ih (a ++ [k]) (by rw [e]; simp)
   rw [List.map_append, List.map_singleton, hnm] at this
   exact this
 exact key _ [] (by simp)
end
theorem rightG_at : ∀ {l : List Ru} {ahead : List (List UInt8)} {j : Nat} {x : Ru}, rightG l ahead = true → l[j]? = some x → x.more = false ∧ gvP x = true ∧ ∀ s ∈ namT x.tree, s ∈ ahead ++ (l.take j).map Ru.name
 | [], _, _, _, _, h => by simp at h
 | y :: l, ahead, j, x, hr, h => by
  rw [rightG] at hr
  split at hr
  ·cases hr
  ·rename_i hn
   simp at hn
   cases j with
   | zero =>
    obtain rfl : y = x := by simpa using h
    exact ⟨hn.1, hn.2.1, by simpa using hn.2.2.2⟩
   | succ j =>
    obtain ⟨a1, a2, a3⟩ := rightG_at (j := j) (x := x) hr (by simpa using h)
    exact ⟨a1, a2, by simpa using a3⟩
theorem right_cl {l : List Ru} (h : rightG l [] = true) : Cl l ∧ ∀ i j, EdI (nxG l) i j → j < i := by
 have hshut : ∀ {j x}, l[j]? = some x → ∀ s ∈ namT x.tree, s ∈ (l.take j).map Ru.name := fun hj s hs => by simpa using (rightG_at h hj).2.2 s hs
 have hnew : ∀ {j x}, l[j]? = some x → x.name ∉ (l.take j).map Ru.name := fun hj => by simpa using rightG_new h hj
 have hnd : (l.map Ru.name).Nodup := by
  unfold List.Nodup
  rw [List.pairwise_iff_getElem]
  intro i j hi hj hij e
  have hi' : i < l.length := by simpa using hi
  have hj' : j < l.length := by simpa using hj
  have := hnew (List.getElem?_eq_getElem hj')
  refine this ?_
  simp only [List.getElem_map] at e
  rw [← e]
  refine List.mem_map.2 ⟨l[i], ?_, rfl⟩
  rw [List.mem_iff_getElem?]
  exact ⟨i, by rw [List.getElem?_take_of_lt hij, List.getElem?_eq_getElem hi']⟩
 have hc : Cl l := ⟨hnd, fun x hx s hs => by
  obtain ⟨j, hj⟩ := List.getElem?_of_mem hx
  obtain ⟨y, hy, e⟩ := List.mem_map.1 (hshut hj s hs)
  exact List.mem_map.2 ⟨y, List.mem_of_mem_take hy, e⟩⟩
 refine ⟨hc, fun i j e => ?_⟩
 unfold EdI at e
 cases hi : l[i]? with
 | none =>
  unfold nxG at e
  rw [List.getElem?_map, hi] at e
  simp at e
 | some x =>
  rw [nxG_at hi] at e
  obtain ⟨s, hs, e⟩ := List.mem_map.1 e
  obtain ⟨y, hy, ey⟩ := List.mem_map.1 (hshut hi s hs)
  obtain ⟨k, hk⟩ := List.getElem?_of_mem hy
  have hki : k < i := by
   have := (List.getElem?_eq_some_iff.1 hk).1
   simp at this
   omega
  have hk' : l[k]? = some y := by rw [List.getElem?_take_of_lt hki] at hk; exact hk
  have : posK s (l.map Ru.name) = some k := posK_nd hnd (by simp [hk', ey])
  unfold atP at e
  rw [this] at e
  simp at e
  omega
theorem deepG_none : ∀ {gs : Gs}, (∀ p ∈ gs, fitsP 100 (treeG p) = true) → deepG gs = none
 | [], _ => rfl
 | p :: gs, h => by
  rw [deepG, if_pos (h p (by simp))]
  exact deepG_none fun q hq => h q (by simp [hq])
theorem gvP_iff (x : Ru) : gvP x = true ↔ namedP x.name = true ∧ fitsP 100 x.tree = true := by
 unfold gvP printP
 cases namedP x.name <;> cases fitsP 100 x.tree <;> simp
def gnames : List (List UInt8) := [[97], [98], [99, 50], [100, 45, 101], [102], [103], [104], [105]]
theorem gnames_ok : ∀ s ∈ gnames, namedP s = true ∧ s.length ≤ 3 := by decide
structure GrR (l : List Ru) : Prop where
 pos : 1 ≤ l.length
 len : l.length ≤ 8
 at_ : ∀ (i : Nat) (x : Ru), l[i]? = some x → gnames[i]? = some x.name ∧ x.pos = 0 ∧ x.more = false ∧ fitsN (gnames.take i) 7 x.tree = true
section
variable {l : List Ru} (h : GrR l)
include h
theorem GrR.named {x : Ru} (hx : x ∈ l) : namedP x.name = true ∧ x.name.length ≤ 3 := by
 obtain ⟨i, hi⟩ := List.getElem?_of_mem hx
 exact gnames_ok _ (List.mem_of_getElem? (h.at_ i x hi).1)
theorem GrR.wt {x : Ru} (hx : x ∈ l) : x.tree.wt ≤ 27325 := by
 obtain ⟨i, hi⟩ := List.getElem?_of_mem hx
 have := fitsN_wt (h.at_ i x hi).2.2.2
 have e : wtB 7 = 27325 := by decide
 omega
theorem GrR.lok : LOk l := by
 have hw : wts (l.map Ru.tree) ≤ (l.map Ru.tree).length * 27325 := wts_leN fun t ht => by
  obtain ⟨x, hx, rfl⟩ := List.mem_map.1 ht
  exact h.wt hx
 have hl := h.len
 rw [List.length_map] at hw
 have : l.length * 27325 ≤ 8 * 27325 := Nat.mul_le_mul_right _ hl
 exact ⟨by omega, fun x hx => ⟨by have := (h.named hx).2; omega, by have := h.wt hx; omega⟩, by omega⟩
end
def besT (b : Tr) (s : List UInt8) : Tr := .mk 7 [] 0 0 0 1 true [.mk 5 [] 0 0 0 0 true [b, .mk 1 s 0 0 0 0 true []]]
def moR (x : Ru) (b : Tr) (s : List UInt8) : Ru := ⟨x.name, 0, true, besT b s⟩
def moL (l : List Ru) (j : Nat) (x : Ru) (b : Tr) (s : List UInt8) : List Ru := l.set j { x with tree := orT [x.tree, besT b s] }
section
variable {l : List Ru} (h : GrR l) {j : Nat} {x : Ru} (hj : l[j]? = some x) {b : Tr} (hb : fitsN [] 7 b = true) {s : List UInt8}
theorem copy_fits : ∀ (d : Nat) (t : Tr), fitsP d t = true → fitsP d (copyT t) = true
 | 0, t, h => by simp [fitsP] at h
 | d + 1, t, h => by
  simp only [fitsP, Bool.and_eq_true] at h ⊢
  obtain ⟨h1, h2⟩ := h
  refine ⟨?_, ?_⟩
  ·cases t with
   | mk k s lo hi mn mx f ks =>
    rw [copyT_eq]
    have e1 : (ks.map copyT).isEmpty = ks.isEmpty := by cases ks <;> rfl
    have e2 : (ks.map copyT).length = ks.length := by simp
    unfold aloneP at h1 ⊢
    simp only [Tr.k, Tr.s, Tr.lo, Tr.hi, Tr.mn, Tr.mx, Tr.kids] at h1 ⊢
    simp only [e1, e2]
    exact h1
  ·rw [copyT_eq]
   show (t.kids.map copyT).all (fitsP d) = true
   rw [List.all_map]
   exact List.all_eq_true.2 fun k hk => copy_fits d k (List.all_eq_true.1 h2 k hk)
theorem copy_gv {x : Ru} (h : gvP x = true) : gvP (copyR x) = true := by
 rw [gvP_iff] at h ⊢
 exact ⟨h.1, copy_fits _ _ h.2⟩
end
def gvnT (l : List Ru) (s : List UInt8) : List Tr := (l.filter fun x => decide (x.name = s)).map Ru.tree
theorem gvnT_snoc (l : List Ru) (x : Ru) (s : List UInt8) : gvnT (l ++ [x]) s = gvnT l s ++ (if x.name = s then [x.tree] else []) := by
 unfold gvnT
 rw [List.filter_append, List.map_append]
 by_cases h : x.name = s <;> simp [h]
def lenG : Gs → Nat
 | [] => 0
 | p :: gs => p.2.length + lenG gs
theorem lenG_app (p : Ru × List Tr) : ∀ gs : Gs, lenG (gs ++ [p]) = lenG gs + p.2.length
 | [] => by simp [lenG]
 | q :: gs => by simp only [List.cons_append, lenG, lenG_app p gs]; omega
theorem lenG_set (p q : Ru × List Tr) : ∀ (gs : Gs) (j : Nat), gs[j]? = some p → lenG (gs.set j q) + p.2.length = lenG gs + q.2.length
 | [], j, h => by simp at h
 | x :: gs, 0, h => by simp at h; subst h; simp only [List.set_cons_zero, lenG]; omega
 | x :: gs, j + 1, h => by
  have := lenG_set p q gs j (by simpa using h)
  simp only [List.set_cons_succ, lenG]
  omega
structure GaR (l : List Ru) (gs : Gs) : Prop where
 nd : (nmG gs).Nodup
 sum : lenG gs = l.length
 in_ : ∀ p ∈ gs, p.1 ∈ l ∧ p.1.more = false ∧ p.2 = gvnT l p.1.name ∧ p.2[0]? = some p.1.tree
 all : ∀ x ∈ l, x.name ∈ nmG gs
theorem GaR.nil : GaR [] [] := ⟨by simp [nmG], rfl, fun p hp => (by cases hp), fun x hx => (by cases hx)⟩
theorem gvnT_none {l : List Ru} {gs : Gs} (h : GaR l gs) {s : List UInt8} (hs : s ∉ nmG gs) : gvnT l s = [] := by
 unfold gvnT
 rw [List.map_eq_nil_iff, List.filter_eq_nil_iff]
 intro x hx e
 exact hs (by simpa using (of_decide_eq_true e) ▸ h.all x hx)
theorem GaR.step {l : List Ru} {gs gs' : Gs} {x : Ru} (h : GaR l gs) (hg : gstep gs x = .ok gs') : GaR (l ++ [x]) gs' := by
 unfold gstep at hg
 cases hp : posK x.name (nmG gs) with
 | none =>
  rw [hp] at hg
  simp only at hg
  have hn := posK_none.1 hp
  cases hm : x.more with
  | true => rw [hm] at hg; simp at hg
  | false =>
   rw [hm] at hg
   simp only [Bool.false_eq_true, if_false, GRes.ok.injEq] at hg
   subst hg
   refine ⟨?_, ?_, fun p hpm => ?_, fun y hy => ?_⟩
   ·have e : nmG (gs ++ [(x, [x.tree])]) = nmG gs ++ [x.name] := by simp [nmG]
    rw [e, List.nodup_append]
    exact ⟨h.nd, by simp, fun a ha b hb => by rw [List.mem_singleton.1 hb]; rintro rfl; exact hn ha⟩
   ·rw [lenG_app, h.sum]; simp
   ·rcases List.mem_append.1 hpm with q | q
    ·obtain ⟨a1, a2, a3, a4⟩ := h.in_ p q
     refine ⟨by simp [a1], a2, ?_, a4⟩
     have : ¬ x.name = p.1.name := fun e => hn (by rw [e]; exact List.mem_map_of_mem (f := fun p : Ru × List Tr => p.1.name) q)
     rw [gvnT_snoc, if_neg this, List.append_nil]
     exact a3
    ·obtain rfl := List.mem_singleton.1 q
     refine ⟨by simp, hm, ?_, rfl⟩
     rw [gvnT_snoc, if_pos rfl, gvnT_none h hn]
     rfl
   ·have e : nmG (gs ++ [(x, [x.tree])]) = nmG gs ++ [x.name] := by simp [nmG]
    rw [e]
    rcases List.mem_append.1 hy with hy | hy
    ·exact List.mem_append_left _ (h.all y hy)
    ·rw [List.mem_singleton.1 hy]; simp
 | some j =>
  rw [hp] at hg
  simp only at hg
  cases hm : x.more with
  | false => rw [hm] at hg; simp at hg
  | true =>
   rw [hm] at hg
   simp only [if_true, GRes.ok.injEq] at hg
   subst hg
   obtain ⟨hj, hjn⟩ := posK_some hp
   obtain ⟨q, hq⟩ : ∃ q, gs[j]? = some q := ⟨_, List.getElem?_eq_getElem (by simpa [nmG] using hj)⟩
   have hqn : q.1.name = x.name := by
    unfold nmG at hjn
    rw [List.getElem?_map, hq] at hjn
    simpa using hjn
   have hadd : addG gs j x.tree = gs.set j (q.1, q.2 ++ [x.tree]) := by unfold addG; rw [hq]
   have hnm := nmG_add gs j x.tree
   have hqm := List.mem_of_getElem? hq
   refine ⟨by rw [hnm]; exact h.nd, ?_, fun p hpm => ?_, fun y hy => ?_⟩
   ·have := lenG_set q (q.1, q.2 ++ [x.tree]) gs j hq
    rw [hadd]
    simp only [List.length_append, List.length_singleton] at this ⊢
    have := h.sum
    omega
   ·rw [hadd] at hpm
    obtain ⟨i, hi⟩ := List.getElem?_of_mem hpm
    by_cases e : j = i
    ·subst e
     rw [List.getElem?_set_self (List.getElem?_eq_some_iff.1 hq).1] at hi
     obtain rfl := Option.some.inj hi
     obtain ⟨a1, a2, a3, a4⟩ := h.in_ q hqm
     refine ⟨by simp [a1], a2, ?_, ?_⟩
     ·rw [gvnT_snoc, if_pos hqn.symm, ← a3]
     ·show (q.2 ++ [x.tree])[0]? = _
      rw [List.getElem?_append_left (List.getElem?_eq_some_iff.1 a4).1]
      exact a4
    ·rw [List.getElem?_set_ne e] at hi
     obtain ⟨a1, a2, a3, a4⟩ := h.in_ p (List.mem_of_getElem? hi)
     refine ⟨by simp [a1], a2, ?_, a4⟩
     have : ¬ x.name = p.1.name := fun en => by
      have hd := h.nd
      have h1 := posK_nd hd (j := i) (s := x.name) (by unfold nmG; rw [List.getElem?_map, hi, en]; rfl)
      rw [hp] at h1
      exact e (Option.some.inj h1)
     rw [gvnT_snoc, if_neg this, List.append_nil]
     exact a3
   ·rw [hnm]
    rcases List.mem_append.1 hy with hy | hy
    ·exact h.all y hy
    ·rw [List.mem_singleton.1 hy]; exact List.mem_of_getElem? hjn
theorem gathS_GaR : ∀ {m l : List Ru} {gs gs' : Gs}, GaR l gs → gathS m gs = .ok gs' → GaR (l ++ m) gs'
 | [], l, gs, gs', h, hg => by injection hg with hg; subst hg; simpa using h
 | x :: m, l, gs, gs', h, hg => by
  simp only [gathS] at hg
  cases hs : gstep gs x with
  | bad n e => rw [hs] at hg; cases hg
  | ok g1 =>
   rw [hs] at hg
   have := gathS_GaR (h.step hs) hg
   simpa using this
theorem deepG_all : ∀ {gs : Gs}, deepG gs = none → ∀ p ∈ gs, fitsP 100 (treeG p) = true
 | q :: gs, h, p, hp => by
  rw [deepG] at h
  split at h
  ·rename_i hf
   rcases List.mem_cons.1 hp with rfl | hp
   ·exact hf
   ·exact deepG_all h p hp
  ·cases h
theorem deepG_some : ∀ {gs : Gs} {n : List UInt8}, deepG gs = some n → ∃ p ∈ gs, p.1.name = n
 | q :: gs, n, h => by
  rw [deepG] at h
  split at h
  ·obtain ⟨p, hp, e⟩ := deepG_some h
   exact ⟨p, by simp [hp], e⟩
  ·exact ⟨q, by simp, Option.some.inj h⟩
theorem nam_fits : ∀ {d : Nat} {t : Tr}, fitsP d t = true → ∀ s ∈ namT t, namedP s = true
 | 0, t, h => by simp [fitsP] at h
 | d + 1, t, h => by
  simp only [fitsP, Bool.and_eq_true] at h
  obtain ⟨h1, h3⟩ := h
  intro s hs
  rw [namT_eq] at hs
  split at hs
  ·rename_i e
   obtain rfl := List.mem_singleton.1 hs
   unfold aloneP at h1
   rw [if_pos e] at h1
   simp only [Bool.and_eq_true] at h1
   exact h1.1
  ·obtain ⟨k, hk, hs⟩ := namL_mem.1 hs
   exact nam_fits (List.all_eq_true.1 h3 k hk) s hs
theorem named_ne {s : List UInt8} (h : namedP s = true) : s ≠ [] := by
 rintro rfl
 simp [namedP] at h
mutual
theorem eq_copy : ∀ t : Tr, eqT (copyT t) t = true
 | .mk k s lo hi mn mx f ks => by
  have := eq_copyL ks
  simp [copyT, eqT, this]
theorem eq_copyL : ∀ l : List Tr, eqTs (copyL l) l = true
 | [] => rfl
 | t :: l => by
  have h1 := eq_copy t
  have h2 := eq_copyL l
  simp [copyL, eqTs, h1, h2]
end
structure FineG (l : List Ru) (gs : Gs) : Prop where
 all : l.all gvP = true
 ga : GaR l gs
 gs_ : gathS l [] = .ok gs
 deep : ∀ p ∈ gs, fitsP 100 (treeG p) = true
 cl : Cl (gs.map rowG)
 acyc : ∀ s, ¬ Tg (EdN (gs.map rowG)) s s
theorem gathR_ok {rows : List Ru} {g : List Ru} {n : List UInt8} (hn : (rows.map Ru.name).Nodup) (h : gathR rows = (g, n, 0)) : Cl rows ∧ (∀ s, ¬ Tg (EdN rows) s s) ∧ g = ordR rows ∧ n = [] := by
 unfold gathR at h
 cases hl : lackP (rows.map Ru.name) rows with
 | some s => rw [hl] at h; simp at h
 | none =>
  rw [hl] at h
  simp only at h
  have hc : Cl rows := ⟨hn, lackP_none.1 hl⟩
  cases hp : loopP (nxG rows) rows.length rows 0 with
  | some s => rw [hp] at h; simp at h
  | none =>
   rw [hp] at h
   simp only [Prod.mk.injEq, and_true] at h
   refine ⟨hc, fun s t => ?_, h.1.symm, h.2.symm⟩
   obtain ⟨i, h1, _, h3⟩ := nm_self hc t
   exact absurd h3 (by simpa using (loopP_spec (N := rows.length) (nxG_lt rows) rows 0).1.1 hp i h1)
theorem gathR_err {rows : List Ru} {g : List Ru} {n : List UInt8} {e : Int} (h : gathR rows = (g, n, e)) (he : e ≠ 0) : g = [] ∧ ((e = 32 ∧ lackP (rows.map Ru.name) rows = some n) ∨ (e = 33 ∧ n ∈ rows.map Ru.name)) := by
 unfold gathR at h
 cases hl : lackP (rows.map Ru.name) rows with
 | some s =>
  rw [hl] at h
  simp only [Prod.mk.injEq] at h
  obtain ⟨rfl, rfl, rfl⟩ := h
  exact ⟨rfl, .inl ⟨rfl, rfl⟩⟩
 | none =>
  rw [hl] at h
  simp only at h
  cases hp : loopP (nxG rows) rows.length rows 0 with
  | some s =>
   rw [hp] at h
   simp only [Prod.mk.injEq] at h
   obtain ⟨rfl, rfl, rfl⟩ := h
   obtain ⟨d, x, e1, e2, _⟩ := (loopP_spec (N := rows.length) (nxG_lt rows) rows 0).2 s hp
   exact ⟨rfl, .inr ⟨rfl, List.mem_map.2 ⟨x, List.mem_of_getElem? e1, e2⟩⟩⟩
  | none =>
   rw [hp] at h
   simp only [Prod.mk.injEq] at h
   exact absurd h.2.2.symm he
theorem gathS_bad : ∀ {l : List Ru} {gs : Gs} {n : List UInt8} {e : Int}, gathS l gs = .bad n e → ∃ x ∈ l, x.name = n
 | [], gs, n, e, h => by cases h
 | x :: l, gs, n, e, h => by
  simp only [gathS] at h
  cases hs : gstep gs x with
  | bad n' e' =>
   rw [hs] at h
   injection h with h1 h2
   unfold gstep at hs
   refine ⟨x, by simp, ?_⟩
   split at hs <;> split at hs <;> first | (cases hs; done) | (injection hs with hs _; rw [hs, h1])
  | ok g1 =>
   rw [hs] at h
   obtain ⟨y, hy, e⟩ := gathS_bad h
   exact ⟨y, by simp [hy], e⟩
theorem gatherP_fine {l : List Ru} {g : List Ru} {n : List UInt8} (h : gatherP l = (g, n, 0)) : ∃ gs, FineG l gs ∧ g = ordR (gs.map rowG) ∧ n = [] := by
 unfold gatherP at h
 split at h
 ·rename_i ha
  cases hg : gathS l [] with
  | bad n' e' =>
   rw [hg] at h
   have := gathS_err hg
   simp only [Prod.mk.injEq] at h
   omega
  | ok gs =>
   rw [hg] at h
   simp only at h
   cases hd : deepG gs with
   | some n' => rw [hd] at h; simp at h
   | none =>
    rw [hd] at h
    simp only at h
    have ga : GaR l gs := by simpa using gathS_GaR GaR.nil hg
    obtain ⟨c1, c2, c3, c4⟩ := gathR_ok (by rw [nmG_rows]; exact ga.nd) h
    exact ⟨gs, ⟨ha, ga, hg, deepG_all hd, c1, c2⟩, c3, c4⟩
 ·simp at h
theorem gatherP_err {l : List Ru} {g : List Ru} {n : List UInt8} {e : Int} (h : gatherP l = (g, n, e)) (he : e ≠ 0) : g = [] ∧ (n = [] ↔ e = 2) := by
 unfold gatherP at h
 split at h
 ·rename_i ha
  have nam : ∀ x ∈ l, x.name ≠ [] := fun x hx => named_ne ((gvP_iff x).1 (List.all_eq_true.1 ha x hx)).1
  cases hg : gathS l [] with
  | bad n' e' =>
   rw [hg] at h
   have := gathS_err hg
   simp only [Prod.mk.injEq] at h
   obtain ⟨rfl, rfl, rfl⟩ := h
   obtain ⟨x, hx, ex⟩ := gathS_bad hg
   have := nam x hx
   exact ⟨rfl, ⟨fun e => absurd (ex.trans e) this, fun e => by omega⟩⟩
  | ok gs =>
   rw [hg] at h
   simp only at h
   have ga : GaR l gs := by simpa using gathS_GaR GaR.nil hg
   cases hd : deepG gs with
   | some n' =>
    rw [hd] at h
    simp only [Prod.mk.injEq] at h
    obtain ⟨rfl, rfl, rfl⟩ := h
    obtain ⟨p, hp, ep⟩ := deepG_some hd
    have := nam _ (ga.in_ p hp).1
    exact ⟨rfl, ⟨fun e => absurd (ep.trans e) this, fun e => by omega⟩⟩
   | none =>
    rw [hd] at h
    simp only at h
    obtain ⟨rfl, h2⟩ := gathR_err h he
    refine ⟨rfl, ?_⟩
    rcases h2 with ⟨rfl, h2⟩ | ⟨rfl, h2⟩
    ·obtain ⟨_, x, hx, hs⟩ := lackP_some h2
     obtain ⟨p, hp, rfl⟩ := List.mem_map.1 hx
     have := named_ne (nam_fits (deepG_all hd p hp) _ hs)
     exact ⟨fun e => absurd e this, fun e => by omega⟩
    ·rw [nmG_rows] at h2
     obtain ⟨p, hp, rfl⟩ := List.mem_map.1 h2
     have := nam _ (ga.in_ p hp).1
     exact ⟨fun e => absurd e this, fun e => by omega⟩
 ·simp only [Prod.mk.injEq] at h
  obtain ⟨rfl, rfl, rfl⟩ := h
  exact ⟨rfl, by simp⟩
section
variable {l : List Ru} {gs : Gs} (h : FineG l gs)
include h
theorem FineG.right : rightG (ordR (gs.map rowG)) [] = true := ordR_right h.cl h.acyc fun x hx => by
 obtain ⟨p, hp, rfl⟩ := List.mem_map.1 hx
 obtain ⟨a1, a2, _⟩ := h.ga.in_ p hp
 exact ⟨a2, copy_gv ((gvP_iff _).2 ⟨((gvP_iff _).1 (List.all_eq_true.1 h.all _ a1)).1, h.deep p hp⟩)⟩
theorem FineG.mem {x : Ru} (hx : x ∈ ordR (gs.map rowG)) : ∃ p ∈ gs, x = copyR (rowG p) := by
 obtain ⟨y, hy, rfl⟩ := (ordR_mem h.cl h.acyc).1 hx
 obtain ⟨p, hp, rfl⟩ := List.mem_map.1 hy
 exact ⟨p, hp, rfl⟩
def wantT (ts : List Tr) : Tr := if ts.length = 1 then (ts[0]?).getD zeroT else orT ts
theorem FineG.len : (ordR (gs.map rowG)).length = gs.length := by
 rw [ordR_len h.cl h.acyc, List.length_map]
end
def byN (l : List Ru) (s : List UInt8) : List Ru := l.filter fun x => decide (x.name = s)
def SB (x y : List Ru) : Prop := ∀ s, byN x s = byN y s
theorem SB.symm {x y : List Ru} (h : SB x y) : SB y x := fun s => (h s).symm
theorem SB.mem {x y : List Ru} (h : SB x y) {r : Ru} (hr : r ∈ x) : r ∈ y := by
 have : r ∈ byN x r.name := by simp [byN, hr]
 rw [h] at this
 exact (List.mem_filter.1 this).1
def okF : List Bool → Bool
 | [] => true
 | b :: l => !b && l.all id
theorem okF_snoc {l : List Bool} {b : Bool} (h : okF (l ++ [b]) = true) : okF l = true := by
 cases l with
 | nil => rfl
 | cons c l =>
  simp only [okF, List.cons_append, Bool.and_eq_true, List.all_append] at h ⊢
  exact ⟨h.1, h.2.1⟩
theorem okF_snoc_iff {l : List Bool} {b : Bool} (h : okF l = true) : okF (l ++ [b]) = true ↔ (l = [] ∧ b = false) ∨ (l ≠ [] ∧ b = true) := by
 cases l with
 | nil => cases b <;> simp [okF]
 | cons c l =>
  simp only [okF, Bool.and_eq_true] at h
  simp only [okF, List.cons_append, List.all_append, h.1, h.2]
  cases b <;> simp
theorem byN_snoc (l : List Ru) (x : Ru) (s : List UInt8) : byN (l ++ [x]) s = byN l s ++ (if x.name = s then [x] else []) := by
 unfold byN
 rw [List.filter_append]
 by_cases h : x.name = s <;> simp [h]
theorem gvnT_byN (l : List Ru) (s : List UInt8) : gvnT l s = (byN l s).map Ru.tree := rfl
theorem gathS_snoc (x : Ru) : ∀ (l : List Ru) (gs : Gs), gathS (l ++ [x]) gs = match gathS l gs with | .bad n e => .bad n e | .ok gs' => gstep gs' x
 | [], gs => by
  simp only [gathS, List.nil_append]
  cases gstep gs x <;> rfl
 | y :: l, gs => by
  simp only [gathS, List.cons_append]
  cases gstep gs y with
  | bad n e => rfl
  | ok g => exact gathS_snoc x l g
theorem gathS_okF : ∀ (n : Nat) (l : List Ru), l.length = n → ((∃ gs, gathS l [] = .ok gs) ↔ ∀ s, okF ((byN l s).map Ru.more) = true)
 | 0, l, hn => by
  obtain rfl := List.eq_nil_of_length_eq_zero hn
  simp [gathS, byN, okF]
 | n + 1, l, hn => by
  rcases List.eq_nil_or_concat l with rfl | ⟨m, x, rfl⟩
  ·simp at hn
  rw [List.concat_eq_append] at hn ⊢
  have ih := gathS_okF n m (by simpa using hn)
  rw [gathS_snoc]
  cases hg : gathS m [] with
  | bad n' e' =>
   rw [hg] at ih
   simp only [reduceCtorEq, exists_false, false_iff] at ih ⊢
   intro h
   refine ih fun s => ?_
   have := h s
   rw [byN_snoc] at this
   by_cases c : x.name = s
   ·rw [if_pos c, List.map_append] at this
    exact okF_snoc this
   ·rw [if_neg c, List.append_nil] at this
    exact this
  | ok gs =>
   rw [hg] at ih
   have ihf := ih.1 ⟨gs, rfl⟩
   have ga : GaR m gs := by simpa using gathS_GaR GaR.nil hg
   have hnil : posK x.name (nmG gs) = none ↔ (byN m x.name).map Ru.more = [] := by
    rw [posK_none, List.map_eq_nil_iff]
    constructor
    ·intro h
     unfold byN
     rw [List.filter_eq_nil_iff]
     intro y hy e
     exact h ((of_decide_eq_true e) ▸ ga.all y hy)
    ·intro h hm
     obtain ⟨p, hp, e⟩ := List.mem_map.1 hm
     have : p.1 ∈ byN m x.name := by
      unfold byN
      exact List.mem_filter.2 ⟨(ga.in_ p hp).1, decide_eq_true e⟩
     rw [h] at this
     cases this
   have hstep : (∃ gs', gstep gs x = .ok gs') ↔ okF ((byN m x.name).map Ru.more ++ [x.more]) = true := by
    rw [okF_snoc_iff (ihf x.name)]
    unfold gstep
    cases hp : posK x.name (nmG gs) with
    | none =>
     have := hnil.1 hp
     cases hm : x.more <;> simp [this]
    | some j =>
     have : (byN m x.name).map Ru.more ≠ [] := fun e => by rw [hnil.2 e] at hp; cases hp
     cases hm : x.more <;> simp [this]
   simp only [hstep]
   constructor
   ·intro h s
    rw [byN_snoc]
    by_cases c : x.name = s
    ·subst c
     rw [if_pos rfl, List.map_append]
     exact h
    ·rw [if_neg c, List.append_nil]
     exact ihf s
   ·intro h
    have := h x.name
    rw [byN_snoc, if_pos rfl, List.map_append] at this
    exact this
theorem okF_first {q : List Ru} {r : Ru} (h : okF (q.map Ru.more) = true) (hr : r ∈ q) (hm : r.more = false) : q[0]? = some r := by
 cases q with
 | nil => cases hr
 | cons y q =>
  simp only [List.map_cons, okF, Bool.and_eq_true] at h
  rcases List.mem_cons.1 hr with rfl | hr
  ·rfl
  ·have := List.all_eq_true.1 h.2 r.more (List.mem_map_of_mem hr)
   rw [hm] at this
   cases this
section
variable {x y : List Ru} (h : SB x y) {gs gs' : Gs} (hx : gathS x [] = .ok gs) (hy : gathS y [] = .ok gs')
include h hx hy
theorem sb_mem {p : Ru × List Tr} (hp : p ∈ gs) : p ∈ gs' := by
 have ga : GaR x gs := by simpa using gathS_GaR GaR.nil hx
 have gb : GaR y gs' := by simpa using gathS_GaR GaR.nil hy
 obtain ⟨a1, a2, a3, a4⟩ := ga.in_ p hp
 obtain ⟨q, hq, e⟩ := List.mem_map.1 (gb.all p.1 (h.mem a1))
 have e : q.1.name = p.1.name := e
 obtain ⟨b1, b2, b3, b4⟩ := gb.in_ q hq
 have f1 := okF_first (r := p.1) ((gathS_okF _ x rfl).1 ⟨gs, hx⟩ p.1.name) (List.mem_filter.2 ⟨a1, by simp⟩) a2
 have f2 := okF_first (r := q.1) ((gathS_okF _ y rfl).1 ⟨gs', hy⟩ q.1.name) (List.mem_filter.2 ⟨b1, by simp⟩) b2
 rw [e, ← h, f1] at f2
 have e1 : p.1 = q.1 := Option.some.inj f2
 have e2 : p.2 = q.2 := by
  rw [a3, b3, e, gvnT_byN, gvnT_byN, h]
 have : p = q := Prod.ext e1 e2
 rw [this]
 exact hq
theorem sb_names {s : List UInt8} (hs : s ∈ nmG gs) : s ∈ nmG gs' := by
 obtain ⟨p, hp, rfl⟩ := List.mem_map.1 hs
 exact List.mem_map_of_mem (f := fun p : Ru × List Tr => p.1.name) (sb_mem h hx hy hp)
theorem sb_rows {r : Ru} (hr : r ∈ gs.map rowG) : r ∈ gs'.map rowG := by
 obtain ⟨p, hp, rfl⟩ := List.mem_map.1 hr
 exact List.mem_map_of_mem (sb_mem h hx hy hp)
theorem sb_deep (hd : deepG gs' = none) : deepG gs = none := deepG_none fun p hp => deepG_all hd p (sb_mem h hx hy hp)
theorem sb_lack (hl : lackP ((gs'.map rowG).map Ru.name) (gs'.map rowG) = none) : lackP ((gs.map rowG).map Ru.name) (gs.map rowG) = none := by
 rw [lackP_none] at hl ⊢
 intro r hr s hs
 have := hl r (sb_rows h hx hy hr) s hs
 rw [nmG_rows] at this ⊢
 exact sb_names h.symm hy hx this
theorem sb_ed {s t : List UInt8} (he : EdN (gs.map rowG) s t) : EdN (gs'.map rowG) s t := by
 obtain ⟨r, hr, e1, e2⟩ := he
 exact ⟨r, sb_rows h hx hy hr, e1, e2⟩
theorem sb_len : gs.length = gs'.length := by
 have ga : GaR x gs := by simpa using gathS_GaR GaR.nil hx
 have gb : GaR y gs' := by simpa using gathS_GaR GaR.nil hy
 have := ((List.perm_ext_iff_of_nodup ga.nd gb.nd).2 fun s => ⟨sb_names h hx hy, sb_names h.symm hy hx⟩).length_eq
 simpa [nmG] using this
end
theorem gathR_kinds {rows rows' : List Ru} (hn : (rows.map Ru.name).Nodup) (hn' : (rows'.map Ru.name).Nodup) (h1 : lackP (rows.map Ru.name) rows = none ↔ lackP (rows'.map Ru.name) rows' = none) (h2 : ∀ s t, EdN rows s t ↔ EdN rows' s t) :
  (gathR rows).2.2 = (gathR rows').2.2 := by
 cases hl : lackP (rows.map Ru.name) rows with
 | some s =>
  cases hl' : lackP (rows'.map Ru.name) rows' with
  | none => rw [h1.2 hl'] at hl; cases hl
  | some s' => rw [gathR_lack hl, gathR_lack hl']
 | none =>
  have hl' := h1.1 hl
  have c : Cl rows := ⟨hn, lackP_none.1 hl⟩
  have c' : Cl rows' := ⟨hn', lackP_none.1 hl'⟩
  by_cases ha : ∃ s, Tg (EdN rows) s s
  ·obtain ⟨s, hs⟩ := ha
   obtain ⟨t, e, _⟩ := gathR_loop c hs
   obtain ⟨t', e', _⟩ := gathR_loop c' (Tg.mono (fun a b => (h2 a b).1) hs)
   rw [e, e']
  ·have a1 : ∀ s, ¬ Tg (EdN rows) s s := fun s hs => ha ⟨s, hs⟩
   have a2 : ∀ s, ¬ Tg (EdN rows') s s := fun s hs => a1 s (Tg.mono (fun a b => (h2 a b).2) hs)
   rw [gathR_acyc c a1, gathR_acyc c' a2]
theorem turned {x y : List Ru} (h : SB x y) : (((gatherP x).2.2 = 30 ∨ (gatherP x).2.2 = 31) ∧ ((gatherP y).2.2 = 30 ∨ (gatherP y).2.2 = 31)) ∨
  ((¬ ((gatherP x).2.2 = 30 ∨ (gatherP x).2.2 = 31) ∧ ¬ ((gatherP y).2.2 = 30 ∨ (gatherP y).2.2 = 31)) ∧ (gatherP x).2.2 = (gatherP y).2.2 ∧ (gatherP x).1.length = (gatherP y).1.length ∧
    ∀ r ∈ (gatherP x).1, ∃ j, findG (gatherP y).1 r.name = (j, true) ∧ (gatherP y).1[j]? = some r) := by
 have hall : x.all gvP = y.all gvP := by
  rw [Bool.eq_iff_iff, List.all_eq_true, List.all_eq_true]
  exact ⟨fun k r hr => k r (h.symm.mem hr), fun k r hr => k r (h.mem hr)⟩
 by_cases ha : x.all gvP = true
 ·have hb : y.all gvP = true := by rw [← hall]; exact ha
  have hok : (∃ gs, gathS x [] = .ok gs) ↔ ∃ gs, gathS y [] = .ok gs := by
   rw [gathS_okF _ x rfl, gathS_okF _ y rfl]
   exact ⟨fun k s => by rw [← h]; exact k s, fun k s => by rw [h]; exact k s⟩
  cases hx : gathS x [] with
  | bad n e =>
   cases hy : gathS y [] with
   | ok gs' =>
    obtain ⟨gs, e'⟩ := hok.2 ⟨gs', hy⟩
    rw [hx] at e'
    cases e'
   | bad n' e' =>
    have ex : gatherP x = ([], n, e) := by unfold gatherP; rw [if_pos ha, hx]
    have ey : gatherP y = ([], n', e') := by unfold gatherP; rw [if_pos hb, hy]
    rw [ex, ey]
    exact .inl ⟨gathS_err hx, gathS_err hy⟩
  | ok gs =>
   obtain ⟨gs', hy⟩ := hok.1 ⟨gs, hx⟩
   have ga : GaR x gs := by simpa using gathS_GaR GaR.nil hx
   have gb : GaR y gs' := by simpa using gathS_GaR GaR.nil hy
   refine .inr ?_
   cases hd : deepG gs with
   | some n =>
    cases hd' : deepG gs' with
    | none => rw [sb_deep h hx hy hd'] at hd; cases hd
    | some n' =>
     have ex : gatherP x = ([], n, 21) := by unfold gatherP; rw [if_pos ha, hx]; simp [hd]
     have ey : gatherP y = ([], n', 21) := by unfold gatherP; rw [if_pos hb, hy]; simp [hd']
     rw [ex, ey]
     simp
   | none =>
    have hd' := sb_deep h.symm hy hx hd
    have ex : gatherP x = gathR (gs.map rowG) := by unfold gatherP; rw [if_pos ha, hx]; simp [hd]
    have ey : gatherP y = gathR (gs'.map rowG) := by unfold gatherP; rw [if_pos hb, hy]; simp [hd']
    have hk := gathR_kinds (rows := gs.map rowG) (rows' := gs'.map rowG) (by rw [nmG_rows]; exact ga.nd) (by rw [nmG_rows]; exact gb.nd) ⟨sb_lack h.symm hy hx, sb_lack h hx hy⟩ (fun s t => ⟨sb_ed h hx hy, sb_ed h.symm hy hx⟩)
    obtain ⟨a, n, e, hP⟩ : ∃ a n e, gathR (gs.map rowG) = (a, n, e) := ⟨_, _, _, rfl⟩
    obtain ⟨b, n', f, hP'⟩ : ∃ a n e, gathR (gs'.map rowG) = (a, n, e) := ⟨_, _, _, rfl⟩
    rw [ex, ey]
    rw [hP, hP'] at hk ⊢
    simp only at hk ⊢
    subst hk
    by_cases he : e = 0
    ·subst he
     obtain ⟨c1, c2, rfl, rfl⟩ := gathR_ok (by rw [nmG_rows]; exact ga.nd) hP
     obtain ⟨d1, d2, rfl, rfl⟩ := gathR_ok (by rw [nmG_rows]; exact gb.nd) hP'
     have F' : FineG y gs' := ⟨hb, gb, hy, deepG_all hd', d1, d2⟩
     refine ⟨by simp, rfl, ?_, fun r hr => ?_⟩
     ·rw [ordR_len c1 c2, ordR_len d1 d2]
      simpa using sb_len h hx hy
     ·obtain ⟨z, hz, rfl⟩ := (ordR_mem c1 c2).1 hr
      have hm : copyR z ∈ ordR (gs'.map rowG) := (ordR_mem d1 d2).2 ⟨z, sb_rows h hx hy hz, rfl⟩
      obtain ⟨j, hj⟩ := List.getElem?_of_mem hm
      refine ⟨j, ?_, hj⟩
      have hnd := (right_cl F'.right).1.nd
      unfold findG
      rw [posK_nd hnd (j := j) (by simp [hj])]
    ·obtain ⟨rfl, k1⟩ := gathR_err hP he
     obtain ⟨rfl, k2⟩ := gathR_err hP' he
     refine ⟨?_, rfl, rfl, fun r hr => by cases hr⟩
     rcases k1 with ⟨k, _⟩ | ⟨k, _⟩ <;> subst k <;> simp
 ·have hb : ¬ y.all gvP = true := by rw [← hall]; exact ha
  have ex : gatherP x = ([], [], 2) := by unfold gatherP; rw [if_neg ha]
  have ey : gatherP y = ([], [], 2) := by unfold gatherP; rw [if_neg hb]
  rw [ex, ey]
  simp
def putR (y : List Ru) (r : Ru) (at_ : Nat) : List Ru := y.take at_ ++ r :: y.drop at_
theorem put_sb {x y : List Ru} (h : SB x y) (r : Ru) {k : Nat} (hk : ∀ z ∈ y.drop k, z.name ≠ r.name) : SB (x ++ [r]) (putR y r k) := by
 intro s
 rw [byN_snoc]
 unfold putR
 have e : byN (y.take k ++ r :: y.drop k) s = byN (y.take k) s ++ ((if r.name = s then [r] else []) ++ byN (y.drop k) s) := by
  unfold byN
  rw [List.filter_append, List.filter_cons]
  by_cases c : r.name = s <;> simp [c]
 have e2 : byN y s = byN (y.take k) s ++ byN (y.drop k) s := by
  unfold byN
  rw [← List.filter_append, List.take_append_drop]
 rw [e, h, e2]
 by_cases c : r.name = s
 ·have : byN (y.drop k) s = [] := by
   unfold byN
   rw [List.filter_eq_nil_iff]
   intro z hz e
   exact hk z hz ((of_decide_eq_true e).trans c.symm)
  rw [this]
  simp [c]
 ·simp [c]
theorem put_len (y : List Ru) (r : Ru) (k : Nat) : (putR y r k).length = y.length + 1 := by
 unfold putR
 simp only [List.length_append, List.length_cons, List.length_take, List.length_drop]
 omega
theorem put_wts (y : List Ru) (r : Ru) (k : Nat) : wts ((putR y r k).map Ru.tree) = wts (y.map Ru.tree) + r.tree.wt := by
 have app : ∀ (a b : List Tr), wts (a ++ b) = wts a + wts b := by
  intro a
  induction a with
  | nil => intro b; simp [wts]
  | cons x a ih => intro b; simp only [List.cons_append, wts, ih]; omega
 have e : wts (y.map Ru.tree) = wts ((y.take k).map Ru.tree) + wts ((y.drop k).map Ru.tree) := by
  rw [← app, ← List.map_append, List.take_append_drop]
 unfold putR
 rw [List.map_append, app, List.map_cons, wts, e]
 omega
def rowN (u : List Nat) : AV := .list 1 (u.map fun j => .int .u16 (j : Nat)) .no
set_option maxRecDepth 100000 in
theorem arg_nums {n : Nat} {x : AV} (h : HasE Tryz.prog (Has Tryz.prog n) 53 x) : ∃ U : List Nat, x = .list 1 (U.map fun j => .int .u16 (j : Nat)) .no ∧ (∀ j ∈ U, j ≤ 65535) ∧ U.length ≤ maxLen := by
 obtain ⟨xs, m, rfl, h1, h2⟩ := has_slice Tryz.underlying53 h
 obtain ⟨U, rfl, hU⟩ := choose_list' (p := fun j : Nat => AV.int .u16 (j : Nat)) (q := fun j : Nat => j ≤ 65535) fun x hx => has_u16 Tryz.underlying107 (h2 x hx)
 have hc : Tryz.prog.cellsOf 107 = 1 := by kernel_rfl
 rw [hc]
 exact ⟨U, rfl, hU, by simpa using h1⟩
set_option maxRecDepth 100000 in
theorem arg_rows {n : Nat} {x : AV} (h : HasE Tryz.prog (Has Tryz.prog n) 23 x) : ∃ U : List (List Nat), x = .list 1 (U.map rowN) .no ∧ (∀ u ∈ U, (∀ j ∈ u, j ≤ 65535) ∧ u.length ≤ maxLen) ∧ U.length ≤ maxLen := by
 obtain ⟨xs, m, rfl, h1, h2⟩ := has_slice Tryz.underlying23 h
 obtain ⟨U, rfl, hU⟩ := choose_list' (p := rowN) (q := fun u : List Nat => (∀ j ∈ u, j ≤ 65535) ∧ u.length ≤ maxLen) fun x hx => by
  obtain ⟨u, e, hu, hl⟩ := arg_nums (h2 x hx)
  exact ⟨u, e, hu, hl⟩
 have hc : Tryz.prog.cellsOf 53 = 1 := by kernel_rfl
 rw [hc]
 exact ⟨U, rfl, hU, by simpa using h1⟩
theorem copy_wtN : ∀ (n : Nat) (t : Tr), t.size ≤ n → (copyT t).wt = t.wt
 | 0, t, h => by cases t; simp [Tr.size] at h
 | n + 1, t, h => by
  have hk : ∀ l : List Tr, (∀ k ∈ l, (copyT k).wt = k.wt) → wts (l.map copyT) = wts l := by
   intro l
   induction l with
   | nil => intro _; simp [wts]
   | cons a l ih =>
    intro hl
    have h1 := hl a (by simp)
    have h2 := ih fun k hk => hl k (by simp [hk])
    simp only [List.map_cons, wts]
    omega
  have h1 := hk t.kids fun k hk => copy_wtN n k (by have := Tr.size_kid hk; omega)
  cases t with
  | mk k s lo hi mn mx f ks =>
   rw [wt_eq, wt_eq (Tr.mk k s lo hi mn mx f ks)]
   simp only [copyT, copyL_map, Tr.s, Tr.kids] at h1 ⊢
   omega
theorem copy_wt (t : Tr) : (copyT t).wt = t.wt := copy_wtN _ t (Nat.le_refl _)
theorem elems_rows : ∀ rows : List Ru, elems true 10 (rows.flatMap ruL) rows.length = rows.map ruA
 | [] => rfl
 | x :: l => by
  have h10 : (ruL x).length = 10 := by simp [ruL, Tr.encL_eq]
  simp only [List.flatMap_cons, List.length_cons, elems, List.map_cons, if_true]
  rw [List.take_left' h10, List.drop_left' h10, elems_rows l]
  rfl
theorem onO_frz {H : Heap} {key gb : Nat} {e : TypeId} {rows : List Ru} {f : AV → Heap → Prop} (hg : H[gb]? = some (.grow 10 (rows.flatMap ruL))) (hf : f (.list 10 (rows.map ruA) (.tok key)) ((H.set gb .dead).set key (.tok 10 rows.length e))) : onO (frzA H key 10 e (.gl 10 gb rows.length)) f := by
 have hfl := flat_ru rows
 have : frzA H key 10 e (.gl 10 gb rows.length) = some (.list 10 (rows.map ruA) (.tok key), (H.set gb .dead).set key (.tok 10 rows.length e)) := by
  simp only [frzA, hg]
  rw [if_pos ⟨trivial, trivial, by omega, by omega⟩, elems_rows]
 rw [this, onO_some]
 exact hf
@[simp] theorem frzA_list (h : Heap) (k sz : Nat) (e : TypeId) (s : Nat) (xs : List AV) (r : Rt) : frzA h k sz e (.list s xs r) = some (.list s xs r, h) := rfl
theorem names_ok (h0 : Heap) : M.call 30 [] h0 = some (.list 1 (gnames.map AV.str) .full, h0) := by
 refine call_of tab30 rfl (callF_wp ?_)
 simp [wB30, gnames]
def InvGr (A : List (List Nat)) (ra : Rt) (h0 : Heap) (k : Nat) (σ : Slots) (h : Heap) : Prop := ∃ (i : Nat) (l : List Ru) (gb : Nat), i ≤ A.length ∧ k = A.length - i ∧ GrR l ∧ l.length = (if i = 0 then 1 else i) ∧ h.take h0.length = h0 ∧ h0.length ≤ gb ∧ h[gb]? = some (.grow 10 (l.flatMap ruL)) ∧
 σ 3 = .list 1 (gnames.map AV.str) .full ∧ σ 4 = .gl 10 gb l.length ∧ σ 21 = .list 1 (A.map rowN) ra ∧ σ 22 = .int .i64 (A.length : Nat) ∧ σ 23 = .int .i64 (i : Nat)
theorem grules_ok (A : List (List Nat)) (r : Rt) (hA : ∀ u ∈ A, (∀ j ∈ u, j ≤ 65535) ∧ u.length ≤ 9223372036854775807) (hAl : A.length ≤ 9223372036854775807) (h0 : Heap) :
  ∃ l t q, GrR l ∧ M.call 10 [.list 1 (A.map rowN) r] h0 = some (.list 10 (l.map ruA) (.tok t), h0 ++ q) ∧ (h0 ++ q)[t]? = some (.tok 10 l.length 38) ∧ h0.length ≤ t := by
 obtain ⟨v, h', e, l, t, g1, rfl, g2, g3, g4⟩ : ∃ v h', M.call 10 [.list 1 (A.map rowN) r] h0 = some (v, h') ∧ ∃ l t, GrR l ∧ v = .list 10 (l.map ruA) (.tok t) ∧ h'.take h0.length = h0 ∧ h'[t]? = some (.tok 10 l.length 38) ∧ h0.length ≤ t := by
  refine call_postK tab10 rfl ?_
  generalize hQ : (fun e σ h => isEnd e ∧ ∃ vs, resVals σ h _ = some vs ∧ ∃ l t, GrR l ∧ oneOf vs = .list 10 (l.map ruA) (.tok t) ∧ h.take h0.length = h0 ∧ h[t]? = some (.tok 10 l.length 38) ∧ h0.length ≤ t) = Q
  have L : ∀ (B : List (List Nat)) (rb : Rt) (σ : Slots) (g : Heap), B.length ≤ 8 → (∀ u ∈ B, (∀ j ∈ u, j ≤ 65535) ∧ u.length ≤ 9223372036854775807) → InvGr B rb h0 B.length σ g → Wp M (.loop L10_0) (blkQ 0 (thenQ (Wp M K10_0 Q) Q)) σ g := by
   intro B rb σ g hB8 hB hI
   refine Wp.loop (InvGr B rb h0) ?_ (n := B.length) hI
   clear hI σ g
   rintro k σ g ⟨i, l, gb, hi, rfl, hl, hll, hg, hgb, hrow, s3, s4, s21, s22, s23⟩
   have hlen : h0.length ≤ g.length := by
    have := congrArg List.length hg
    simp at this
    omega
   have hgbl := lt_of_get hrow
   by_cases hlt : i < B.length
   ·obtain ⟨u, hu⟩ : ∃ u, B[i]? = some u := ⟨_, List.getElem?_eq_getElem hlt⟩
    obtain ⟨hu1, hu2⟩ := hB u (List.mem_of_getElem? hu)
    have hltI : (i : Int) < B.length := by omega
    have hadd : IntKind.wrap .i64 ((i : Int) + 1) = ((i + 1 : Nat) : Int) := by rw [wrap64 (by omega) (by omega)]; rfl
    have hrc : (rowN u).cells = [rowN u] := rfl
    have hi8 : i < 8 := by omega
    have hi8I : (i : Int) ≤ 8 := by omega
    have hi8n : ¬ i = 8 := by omega
    obtain ⟨nmi, hnm⟩ : ∃ s, gnames[i]? = some s := ⟨_, List.getElem?_eq_getElem hi8⟩
    have hnl : gnames.length = 8 := rfl
    obtain ⟨t, e1, e2, e3⟩ := grown_okN u hu2 hu1 .no (gnames.take i) .no (by simp; omega) (fun s hs => gnames_ok s (List.mem_of_mem_take hs)) (g ++ [.dead]) (fun t h => by cases h) (fun t h => by cases h)
    have e1' : M.call 23 [rowN u, .list 1 (List.map AV.str (gnames.take i)) .no] (g ++ [.dead]) = some (t.enc, g ++ [.dead]) := e1
    by_cases hi0 : i = 0
    ·subst hi0
     simp at e1'
     obtain ⟨x0, rfl⟩ : ∃ x0, l = [x0] := List.length_eq_one_iff.1 (by simpa using hll)
     have hrow' : ∀ q, (g ++ q)[gb]? = some (.grow 10 (ruL x0)) := fun q => by have := get_left hrow q; simpa using this
     have h10 : (ruL x0).length = 10 := by simp [ruL, Tr.encL_eq]
     simp [-getElem?_pos, -Int.natCast_add, wL10_0, s3, s4, s21, s22, s23, hltI, hlt, hu, hrc, hnm, hnl, e1', hrow', h10]
     have w1 : IntKind.wrap .i64 1 = 1 := by decide
     have hd : (ruL x0).drop 10 = [] := List.drop_of_length_le (by omega)
     have gr' : GrR [⟨nmi, 0, false, t⟩] := ⟨by simp, by simp, fun j x hx => by
      cases j with
      | zero => obtain rfl : _ = x := Option.some.inj hx; exact ⟨hnm, rfl, rfl, e2⟩
      | succ j => simp at hx⟩
     refine ⟨B.length - 1, by omega, 1, _, gb, by omega, rfl, gr', by simp, ?_, hgb, ?_, by simp [s3], by simp [s4], by simp [s21], by simp [s22], by simp [w1]⟩
     ·rw [take_set hgb, List.take_append_of_le_length hlen]
      exact hg
     ·rw [get_set_eq (by simp; omega), hd]
      simp [ruL]
    ·have hi0I : ¬ (i : Int) = 0 := by omega
     simp [-getElem?_pos, -Int.natCast_add, wL10_0, s3, s4, s21, s22, s23, hltI, hlt, hu, hrc, hnm, hnl, hi8I, hi8n, ← List.map_take, e1', hi0, hi0I]
     rw [← appM_gl]
     have hli : l.length = i := by rw [hll, if_neg hi0]
     refine onO_appM (rows := l) (n := h0.length) (x := ⟨nmi, 0, false, t⟩) (.inr ⟨gb, hgb, rfl, get_left hrow _⟩) (by omega) (by simp) (by omega) fun H' b1 b2 b3 b4 => ?_
     rcases b1 with ⟨b1, _⟩ | ⟨gb', c1, c2, c3⟩
     ·simp at b1
     have gr' : GrR (l ++ [⟨nmi, 0, false, t⟩]) := ⟨by simp, by simp; omega, fun j x hx => by
      by_cases hj : j < l.length
      ·rw [List.getElem?_append_left hj] at hx
       exact hl.at_ j x hx
      ·have hjl : j = l.length := by
        have := (List.getElem?_eq_some_iff.1 hx).1
        simp at this
        omega
       subst hjl
       rw [List.getElem?_append_right (Nat.le_refl _)] at hx
       simp at hx
       subst hx
       rw [hli]
       exact ⟨hnm, rfl, rfl, e2⟩⟩
     simp [-getElem?_pos, -Int.natCast_add, s23, hadd]
     refine ⟨B.length - (i + 1), by omega, i + 1, _, gb', by omega, rfl, gr', by simp [hli], ?_, c1, c3, by simp [s3], by simp [c2], by simp [s21], by simp [s22], by simp⟩
     rw [b4, List.take_append_of_le_length hlen]
     exact hg
   ·have hle : i = B.length := by omega
    have hltI : ¬ (i : Int) < B.length := by omega
    simp [-getElem?_pos, -Int.natCast_add, wL10_0, wK10_0, s3, s4, s21, s22, s23, hltI, hlt]
    refine onO_frz (get_left hrow _) ?_
    simp [-getElem?_pos, -Int.natCast_add]
    subst hQ
    simp
    refine ⟨l, hl, _, ⟨rfl, rfl⟩, ?_, get_set_eq (by simp), by omega⟩
    rw [take_set hlen, take_set hgb, List.take_append_of_le_length hlen]
    exact hg
  have hn0 : gnames[0]? = some [97] := rfl
  have hnl : gnames.length = 8 := rfl
  obtain ⟨t0, e1, e2, e3⟩ := grown_okN [] (by simp) (by simp) .full [] .full (by simp) (by simp) (h0 ++ [.dead]) (fun t h => by cases h) (fun t h => by cases h)
  have e1' : M.call 23 [.list 1 [] .full, .list 1 [] .full] (h0 ++ [.dead]) = some (t0.enc, h0 ++ [.dead]) := e1
  have gr0 : GrR [⟨[97], 0, false, t0⟩] := ⟨by simp, by simp, fun i x hx => by
   cases i with
   | zero => obtain rfl : _ = x := Option.some.inj hx; exact ⟨rfl, rfl, rfl, e2⟩
   | succ i => simp at hx⟩
  have st : h0 ++ [AE.grow 10 (AV.str [97] :: AV.int IntKind.i64 0 :: AV.bool false :: t0.encL)] = h0 ++ [AE.grow 10 ([(⟨[97], 0, false, t0⟩ : Ru)].flatMap ruL)] := by simp [ruL]
  by_cases c : 8 < A.length
  ·have cI : (8 : Int) < A.length := by omega
   have c1 : (8 : Int) ≤ A.length := by omega
   have c2 : ¬ 8 = A.length := by omega
   simp [-getElem?_pos, -Int.natCast_add, wB10, names_ok, e1', hn0, hnl, c, cI, c1, c2]
   refine L (A.take 8) .no _ _ (by simp; omega) (fun u hu => hA u (List.mem_of_mem_take hu)) ⟨0, _, h0.length, by omega, by simp, gr0, by simp, by simp, by omega, by rw [st]; simp, by simp, by simp, by simp [List.map_take], ?_, by simp⟩
   have : min 8 A.length = 8 := by omega
   simp [this]
  ·have cI : ¬ (8 : Int) < A.length := by omega
   simp [-getElem?_pos, -Int.natCast_add, wB10, names_ok, e1', hn0, hnl, c, cI]
   refine L A r _ _ (by omega) hA ⟨0, _, h0.length, by omega, by simp, gr0, by simp, by simp, by omega, by rw [st]; simp, by simp, by simp, ?_, by simp, by simp⟩
   have : (A.map rowN).take A.length = A.map rowN := List.take_of_length_le (by simp)
   simp [this]
 have hh : h0 ++ h'.drop h0.length = h' := by
  have := List.take_append_drop h0.length h'
  rwa [g2] at this
 exact ⟨l, t, h'.drop h0.length, g1, by rw [hh]; exact e, by rw [hh]; exact g3, g4⟩
theorem nodes60_ok (t : Tr) (ht : TOk t) (h0 : Heap) : M.call 27 [t.enc, .int .i64 60] h0 = some (.int .i64 (ndT t 60 0), h0) := by
 refine call_of tab27 rfl (callF_wp ?_)
 have := nodes_okN t.size t (Nat.le_refl _) ht 60 0 (by omega) (by omega) (by omega) (by omega)
 simp [wB27, this, Nat.add_assoc]
def fewP : List Ru → Nat → Bool
 | [], _ => true
 | x :: l, i => if 12 ≤ i ∨ ndT x.tree 60 0 > 60 then false else fewP l (i + 1)
def InvFw (l : List Ru) (r : Rt) (h0 : Heap) (R : Bool) (k : Nat) (σ : Slots) (h : Heap) : Prop := ∃ i, i ≤ l.length ∧ k = l.length - i ∧ fewP (l.drop i) i = R ∧ h.take h0.length = h0 ∧ σ 5 = .list 10 (l.map ruA) r ∧ σ 6 = .int .i64 (l.length : Nat) ∧ σ 7 = .int .i64 (i : Nat)
theorem few_ok (l : List Ru) (r : Rt) (hl : l.length ≤ 1000000) (hx : ∀ x ∈ l, TOk x.tree) (h0 : Heap) : M.call 8 [.list 10 (l.map ruA) r] h0 = some (.bool (fewP l 0), h0) := by
 refine call_of tab8 rfl (callF_wp ?_)
 obtain ⟨R, hR⟩ : ∃ R, fewP l 0 = R := ⟨_, rfl⟩
 rw [hR]
 simp [-getElem?_pos, -Int.natCast_add, wB8]
 refine Wp.loop (InvFw l r h0 R) ?_ (n := l.length) ⟨0, Nat.zero_le _, rfl, hR, by simp, by simp, by simp, by simp⟩
 rintro k σ h ⟨i, hi, rfl, hr, hh, s5, s6, s7⟩
 have hlen : h0.length ≤ h.length := by
  have := congrArg List.length hh
  simp at this
  omega
 have ht : ∀ q, (h ++ q).take h0.length = h0 := fun q => by rw [List.take_append_of_le_length hlen]; exact hh
 by_cases hlt : i < l.length
 ·obtain ⟨x, hxi⟩ : ∃ x, l[i]? = some x := ⟨_, List.getElem?_eq_getElem hlt⟩
  have hltI : (i : Int) < l.length := by omega
  have hadd : IntKind.wrap .i64 ((i : Int) + 1) = ((i + 1 : Nat) : Int) := by rw [wrap64 (by omega) (by omega)]; rfl
  have hdr : l.drop i = x :: l.drop (i + 1) := by
   rw [List.drop_eq_getElem_cons hlt]
   congr 1
   rw [List.getElem?_eq_getElem hlt] at hxi
   exact Option.some.inj hxi
  rw [hdr, fewP] at hr
  have nd := nodes60_ok x.tree (hx x (List.mem_of_getElem? hxi))
  by_cases c1 : 12 ≤ i
  ·have c1' : (12 : Int) ≤ i := by omega
   rw [if_pos (.inl c1)] at hr
   subst hr
   simp [-getElem?_pos, -Int.natCast_add, wL8_0, s5, s6, s7, hlt, hltI, hxi, ruA_cells, ruL_take, ruL_agg, ruL_tree, c1, c1']
   rw [finish_of_take (ht _)]
   simp
  ·have c1' : ¬ (12 : Int) ≤ i := by omega
   by_cases c2 : ndT x.tree 60 0 > 60
   ·rw [if_pos (.inr c2)] at hr
    subst hr
    have c2' : (60 : Int) < ndT x.tree 60 0 := by omega
    simp [-getElem?_pos, -Int.natCast_add, wL8_0, s5, s6, s7, hlt, hltI, hxi, ruA_cells, ruL_take, ruL_agg, ruL_tree, enc_agg, enc_cells, encL_take, c1, c1', nd, c2']
    rw [finish_of_take (ht _)]
    simp
   ·rw [if_neg (fun q => q.elim c1 c2)] at hr
    have c2' : ¬ (60 : Int) < ndT x.tree 60 0 := by omega
    simp [-getElem?_pos, -Int.natCast_add, wL8_0, s5, s6, s7, hlt, hltI, hxi, ruA_cells, ruL_take, ruL_agg, ruL_tree, enc_agg, enc_cells, encL_take, c1, c1', nd, c2', hadd]
    exact ⟨l.length - (i + 1), by omega, i + 1, by omega, rfl, hr, ht _, by simp [s5], by simp [s6], by simp⟩
 ·have hltI : ¬ (i : Int) < l.length := by omega
  have hdr : l.drop i = [] := List.drop_of_length_le (by omega)
  rw [hdr, fewP] at hr
  subst hr
  simp [-getElem?_pos, -Int.natCast_add, wL8_0, wK8_0, s5, s6, s7, hlt, hltI]
  rw [finish_of_take hh]
  simp
def InvGv (l : List Ru) (r : Rt) (s : List UInt8) (h0 : Heap) (k : Nat) (σ : Slots) (h : Heap) : Prop := ∃ i q, i ≤ l.length ∧ k = l.length - i ∧ h.take h0.length = h0 ∧ σ 1 = .str s ∧ σ 8 = .list 10 (l.map ruA) r ∧ σ 9 = .int .i64 (l.length : Nat) ∧ σ 10 = .int .i64 (i : Nat) ∧ σ 5 = .list 7 ((gvnT (l.take i) s).map Tr.enc) q ∧ Ow h0.length h 7 36 q (gvnT (l.take i) s).length
def keys1 (l : List (List UInt8)) : List (AV × AV) := l.map fun s => (.str s, .int .i64 1)
def sumL (x : List Ru) (g : List Ru) : Nat := (g.map fun y => (gvnT x y.name).length).sum
def orF (b : Bool) (ts : List Tr) : Tr := .mk 6 [] 0 0 0 0 b ts
def InvFi (led : List (List UInt8)) (rl : Rt) (m : Nat) (nms : List (List UInt8)) (H : Heap) (S : Slots) (k : Nat) (σ : Slots) (h : Heap) : Prop := ∃ i, i ≤ led.length ∧ k = led.length - i ∧ h = H ∧ σ 10 = .map m ∧ σ 122 = .list 1 (led.map AV.str) rl ∧ σ 123 = .int .i64 (led.length : Nat) ∧ σ 124 = .int .i64 (i : Nat) ∧
 σ 6 = S 6 ∧ σ 7 = S 7 ∧ σ 11 = S 11 ∧ σ 13 = S 13 ∧ σ 34 = S 34 ∧ σ 35 = S 35 ∧ σ 36 = S 36 ∧ σ 68 = S 68 ∧ σ 69 = S 69 ∧ σ 70 = S 70
def InvFm (x g : List Ru) (rx rg rg7 : Rt) (p7 m : Nat) (v34 v35 v36 : AV) (k : Nat) (σ : Slots) (h : Heap) : Prop := ∃ i, i ≤ g.length ∧ k = g.length - i ∧ h[p7]? = some (.cells [.list 10 (g.map ruA) rg7]) ∧ h[m]? = some (.amap (keys1 ((g.take i).map Ru.name))) ∧
 σ 6 = .list 10 (x.map ruA) rx ∧ σ 7 = .ptr p7 0 ∧ σ 10 = .map m ∧ σ 11 = .int .i64 (sumL x (g.take i) : Nat) ∧ σ 34 = v34 ∧ σ 35 = v35 ∧ σ 36 = v36 ∧ σ 68 = .list 10 (g.map ruA) rg ∧ σ 69 = .int .i64 (g.length : Nat) ∧ σ 70 = .int .i64 (i : Nat)
theorem FineG.rok {l : List Ru} {gs : Gs} (h : FineG l gs) (hl : LOk l) {x : Ru} (hx : x ∈ ordR (gs.map rowG)) : ROk x := by
 obtain ⟨p, hp, rfl⟩ := h.mem hx
 have := (hl.gs h.gs_).1 p hp
 exact ⟨this.1, by show (copyT (rowG p).tree).wt ≤ _; rw [copy_wt]; exact this.2⟩
def InvFo (v0 v1 : AV) (k : Nat) (σ : Slots) (h : Heap) : Prop := ∃ i, i ≤ 2 ∧ k = 2 - i ∧ σ 34 = .list 1 [v0, v1] .full ∧ σ 35 = .int .i64 2 ∧ σ 36 = .int .i64 (i : Nat)
structure LIn (l : List Ru) : Prop where
 len : l.length ≤ 200000
 nm : ∀ x ∈ l, x.name.length ≤ 20000000
 wt : wts (l.map Ru.tree) ≤ 100000000
theorem LIn.ok {l : List Ru} (h : LIn l) : LOk l := ⟨by have := h.len; omega, fun x hx => ⟨by have := h.nm x hx; omega, by
 have := wts_mem (List.mem_map_of_mem (f := Ru.tree) hx)
 have := h.wt
 omega⟩, by have := h.wt; omega⟩
theorem wts_app2 : ∀ (a b : List Tr), wts (a ++ b) = wts a + wts b
 | [], b => by simp [wts]
 | x :: a, b => by simp only [List.cons_append, wts, wts_app2 a b]; omega
theorem LIn.behind {l : List Ru} (h : LIn l) {l0 : List Ru} (g : GrR l0) : LOk (l0 ++ l) ∧ (l0 ++ l).length ≤ 900000 := by
 have k := g.lok
 have h1 := h.len
 have h2 := g.len
 have hw : wts (l0.map Ru.tree) ≤ (l0.map Ru.tree).length * 27325 := wts_leN fun t ht => by
  obtain ⟨x, hx, rfl⟩ := List.mem_map.1 ht
  exact g.wt hx
 rw [List.length_map] at hw
 have := Nat.mul_le_mul_right 27325 h2
 have h3 := h.wt
 refine ⟨⟨by simp; omega, fun x hx => ?_, ?_⟩, by simp; omega⟩
 ·rcases List.mem_append.1 hx with hx | hx
  ·exact k.all x hx
  ·exact h.ok.all x hx
 ·rw [List.map_append, wts_app2]
  omega
def InvTi (y : List Ru) (q : Rt) (nm : List UInt8) (k0 p10 : Nat) (H : Heap) (S : Slots) (k : Nat) (σ : Slots) (h : Heap) : Prop := ∃ i a, i ≤ y.length ∧ k = y.length - i ∧ h = H ∧ a ≤ i ∧ (∀ z ∈ (y.take i).drop a, z.name ≠ nm) ∧ σ 8 = .list 10 (y.map ruA) q ∧ σ 10 = .ptr p10 0 ∧ σ 11 = .int .i64 (a : Nat) ∧ σ 12 = .int .i64 (i : Nat) ∧
 σ 2 = S 2 ∧ σ 7 = S 7 ∧ σ 41 = S 41 ∧ σ 42 = S 42 ∧ σ 43 = S 43
theorem turn_in (y : List Ru) (q : Rt) (x : Ru) (p10 : Nat) (H : Heap) (hl : y.length ≤ 1000000) (h10 : H[p10]? = some (.cells (ruL x))) (Q : Ex → Slots → Heap → Prop) (S : Slots) (k0 : Nat) (hk0 : k0 ≤ y.length)
  (e8 : S 8 = .list 10 (y.map ruA) q) (e10 : S 10 = .ptr p10 0) (e11 : S 11 = .int .i64 (k0 : Nat)) (e12 : S 12 = .int .i64 (k0 : Nat))
  (hQ : ∀ σ a, a ≤ y.length → (∀ z ∈ y.drop a, z.name ≠ x.name) → σ 8 = .list 10 (y.map ruA) q → σ 10 = .ptr p10 0 → σ 11 = .int .i64 (a : Nat) → σ 2 = S 2 → σ 7 = S 7 → σ 41 = S 41 → σ 42 = S 42 → σ 43 = S 43 → Wp M K5_0 Q σ H) :
  Wp M (.loop L5_0) (blkQ 2 (thenQ (Wp M K5_0 Q) Q)) S H := by
 refine Wp.loop (InvTi y q x.name k0 p10 H S) ?_ (n := y.length - k0) ⟨k0, k0, hk0, rfl, rfl, Nat.le_refl _, fun z hz => (by rw [List.drop_of_length_le (by simp; omega)] at hz; cases hz), e8, e10, e11, e12, rfl, rfl, rfl, rfl, rfl⟩
 clear e8 e10 e11 e12
 rintro k σ g ⟨i, a, hi, rfl, rfl, ha, hz, s8, s10, s11, s12, b2, b7, b41, b42, b43⟩
 by_cases hlt : i < y.length
 ·obtain ⟨w, hw⟩ : ∃ w, y[i]? = some w := ⟨_, List.getElem?_eq_getElem hlt⟩
  have hltI : (i : Int) < y.length := by omega
  have hadd : IntKind.wrap .i64 ((i : Int) + 1) = ((i + 1 : Nat) : Int) := by rw [wrap64 (by omega) (by omega)]; rfl
  by_cases c : w.name = x.name
  ·simp [-getElem?_pos, -Int.natCast_add, wL5_0, s8, s10, s11, s12, hltI, hlt, hw, ruA_cells, ruL_name, h10, c, hadd]
   refine ⟨y.length - (i + 1), by omega, i + 1, i + 1, by omega, rfl, rfl, Nat.le_refl _, fun z hz => ?_, by simp [s8], by simp [s10], by simp, by simp, by simp [b2], by simp [b7], by simp [b41], by simp [b42], by simp [b43]⟩
   rw [List.drop_of_length_le (by simp; omega)] at hz
   cases hz
  ·simp [-getElem?_pos, -Int.natCast_add, wL5_0, s8, s10, s11, s12, hltI, hlt, hw, ruA_cells, ruL_name, h10, c, hadd]
   refine ⟨y.length - (i + 1), by omega, i + 1, a, by omega, rfl, rfl, by omega, fun z hz' => ?_, by simp [s8], by simp [s10], by simp [s11], by simp, by simp [b2], by simp [b7], by simp [b41], by simp [b42], by simp [b43]⟩
   rw [List.take_add_one, hw, List.drop_append_of_le_length (by simp; omega)] at hz'
   rcases List.mem_append.1 hz' with hz' | hz'
   ·exact hz z hz'
   ·simp at hz'
    subst hz'
    exact c
 ·have hltI : ¬ (i : Int) < y.length := by omega
  obtain rfl : i = y.length := by omega
  rw [List.take_length] at hz
  simp [-getElem?_pos, -Int.natCast_add, wL5_0, s8, s10, s11, s12, hltI, hlt]
  exact hQ _ a ha hz (by simp [s8]) (by simp [s10]) (by simp [s11]) (by simp [b2]) (by simp [b7]) (by simp [b41]) (by simp [b42]) (by simp [b43])
def InvTo (x : List Ru) (rx rx7 ro : Rt) (o : List UInt8) (k : Nat) (σ : Slots) (h : Heap) : Prop := ∃ i y q, i ≤ x.length ∧ k = x.length - i ∧ SB (x.take i) y ∧ y.length = i ∧ wts (y.map Ru.tree) = wts ((x.take i).map Ru.tree) ∧ σ 2 = .list 1 (ofBytes o) ro ∧ σ 7 = .list 10 (x.map ruA) rx7 ∧ σ 8 = .list 10 (y.map ruA) q ∧ σ 41 = .list 10 (x.map ruA) rx ∧ σ 42 = .int .i64 (x.length : Nat) ∧ σ 43 = .int .i64 (i : Nat)
theorem turn_out (x : List Ru) (rx rx7 ro : Rt) (o : List UInt8) (hx : x.length ≤ 900000) (ho : o.length ≤ 9223372036854775807) (Q : Ex → Slots → Heap → Prop)
  (hQ : ∀ σ h y q, SB x y → y.length = x.length → wts (y.map Ru.tree) = wts (x.map Ru.tree) → σ 7 = .list 10 (x.map ruA) rx7 → σ 8 = .list 10 (y.map ruA) q → Wp M K5_3 Q σ h) :
  ∀ (σ : Slots) (h : Heap), InvTo x rx rx7 ro o x.length σ h → Wp M (.loop L5_1) (blkQ 0 (thenQ (Wp M K5_3 Q) Q)) σ h := by
 intro σ h hI
 refine Wp.loop (InvTo x rx rx7 ro o) ?_ (n := x.length) hI
 clear hI σ h
 rintro k σ h ⟨i, y, q, hi, rfl, sb, hy, hw, s2, s7, s8, s41, s42, s43⟩
 by_cases hlt : i < x.length
 ·obtain ⟨r, hr⟩ : ∃ r, x[i]? = some r := ⟨_, List.getElem?_eq_getElem hlt⟩
  have hltI : (i : Int) < x.length := by omega
  have hadd : IntKind.wrap .i64 ((i : Int) + 1) = ((i + 1 : Nat) : Int) := by rw [wrap64 (by omega) (by omega)]; rfl
  have htk : x.take (i + 1) = x.take i ++ [r] := by rw [List.take_add_one, hr]; rfl
  -- behind the place's choice
  have body : ∀ (σ' : Slots) (k0 : Nat), k0 ≤ y.length → σ' 8 = .list 10 (y.map ruA) q → σ' 10 = .ptr h.length 0 → σ' 11 = .int .i64 (k0 : Nat) → σ' 12 = .int .i64 (k0 : Nat) → σ' 2 = σ 2 → σ' 7 = σ 7 → σ' 41 = σ 41 → σ' 42 = σ 42 → σ' 43 = σ 43 →
    Wp M (.loop L5_0) (blkQ 2 (thenQ (Wp M K5_0 (blkQ 1 (thenQ (Wp M K5_1 (thenQ (fun σ' h' => ∃ m, m < x.length - i ∧ InvTo x rx rx7 ro o m σ' h') (blkQ 0 (thenQ (Wp M K5_3 Q) Q)))) (thenQ (fun σ' h' => ∃ m, m < x.length - i ∧ InvTo x rx rx7 ro o m σ' h') (blkQ 0 (thenQ (Wp M K5_3 Q) Q)))))) (blkQ 1 (thenQ (Wp M K5_1 (thenQ (fun σ' h' => ∃ m, m < x.length - i ∧ InvTo x rx rx7 ro o m σ' h') (blkQ 0 (thenQ (Wp M K5_3 Q) Q)))) (thenQ (fun σ' h' => ∃ m, m < x.length - i ∧ InvTo x rx rx7 ro o m σ' h') (blkQ 0 (thenQ (Wp M K5_3 Q) Q)))))) ) σ' (h ++ [.cells (ruL r)]) := by
   intro σ' k0 hk0 e8 e10 e11 e12 e2 e7 e41 e42 e43
   refine turn_in y q r h.length _ (by omega) (by simp) _ σ' k0 hk0 e8 e10 e11 e12 (fun σ2 a ha hz t8 t10 t11 t2 t7 t41 t42 t43 => ?_)
   have haI : (a : Int) ≤ y.length := by omega
   have g10 : ∀ z, (h ++ (AE.cells (ruL r) :: z))[h.length]? = some (.cells (ruL r)) := fun z => by simp
   simp [-getElem?_pos, -Int.natCast_add, wK5_0, t8, t10, t11, haI, g10, ruL_take, ruL_agg, Nat.add_assoc]
   refine ⟨by simp [ruA_cells], ?_⟩
   have hsr : sliceRt q true 0 a y.length = .full := rfl
   refine onO_app (n0 := 0) (.inl rfl) (Nat.zero_le _) (by simp) (by simp; omega) (by simp; omega) (fun r1 H1 o1 o2 => ?_)
   simp [-getElem?_pos, -Int.natCast_add, hsr]
   refine onO_app (n0 := 0) (.inl rfl) (Nat.zero_le _) (by rw [o2.len]; simp) (by simp; omega) (by simp; omega) (fun r2 H2 p1 p2 => ?_)
   have hput : (y.map ruA).take a ++ (ruA r :: (y.map ruA).drop a) = (putR y r a).map ruA := by simp [putR, List.map_take, List.map_drop]
   rw [hput]
   simp [-getElem?_pos, -Int.natCast_add, wK5_1, t43, e43, s43, hadd]
   have hsb := put_sb sb r hz
   rw [← htk] at hsb
   exact ⟨x.length - (i + 1), by omega, i + 1, putR y r a, r2, by omega, rfl, hsb, by rw [put_len, hy], by rw [put_wts, hw, htk, List.map_append]; exact (wts_app _ _).symm, by simp [t2, e2, s2], by simp [t7, e7, s7], by simp, by simp [t41, e41, s41], by simp [t42, e42, s42], by simp⟩
  by_cases c1 : i < o.length
  ·have c1I : (i : Int) < o.length := by omega
   obtain ⟨b, hb⟩ : ∃ b, o[i]? = some b := ⟨_, List.getElem?_eq_getElem c1⟩
   have wb : IntKind.wrap .i64 (b.toNat : Int) = (b.toNat : Int) := by have := b.toNat_lt; rw [wrap64 (by omega) (by omega)]
   have wy : IntKind.wrap .i64 ((y.length : Int) + 1) = ((y.length + 1 : Nat) : Int) := by rw [wrap64 (by omega) (by omega)]; rfl
   have hne : ¬ ((y.length + 1 : Nat) : Int) = 0 := by omega
   simp [-getElem?_pos, -Int.natCast_add, wL5_1, s2, s7, s8, s41, s42, s43, hltI, hlt, hr, ruA_cells, ruL_take, ruL_agg, c1, c1I, hb, wb, wy, hne]
   have hm : ((b.toNat : Int) % ((y.length + 1 : Nat) : Int)) = ((b.toNat % (y.length + 1) : Nat) : Int) := (Int.natCast_emod _ _).symm
   have hlt1 := Nat.mod_lt b.toNat (show 0 < y.length + 1 by omega)
   refine body _ (b.toNat % (y.length + 1)) (by omega) ?_ ?_ ?_ ?_ ?_ ?_ ?_ ?_ ?_
   ·simp [s8]
   ·simp
   ·rw [← hm]; simp [-Int.natCast_add]
   ·rw [← hm]; simp [-Int.natCast_add]
   all_goals simp
  ·have c1I : ¬ (i : Int) < o.length := by omega
   simp [-getElem?_pos, -Int.natCast_add, wL5_1, s2, s7, s8, s41, s42, s43, hltI, hlt, hr, ruA_cells, ruL_take, ruL_agg, c1, c1I]
   exact body _ y.length (Nat.le_refl _) (by simp [s8]) (by simp) (by simp) (by simp) (by simp) (by simp) (by simp) (by simp) (by simp)
 ·have hltI : ¬ (i : Int) < x.length := by omega
  obtain rfl : i = x.length := by omega
  rw [List.take_length] at sb hw
  simp [-getElem?_pos, -Int.natCast_add, wL5_1, s42, s43, hltI]
  exact hQ _ _ y q sb hy hw (by simp [s7]) (by simp [s8])
def InvTe (a : List Ru) (ra : Rt) (b : List Ru) (rb : Rt) (p16 : Nat) (k : Nat) (σ : Slots) (h : Heap) : Prop := ∃ i, i ≤ a.length ∧ k = a.length - i ∧ h[p16]? = some (.cells [.list 10 (b.map ruA) rb]) ∧ σ 16 = .ptr p16 0 ∧ σ 148 = .list 10 (a.map ruA) ra ∧ σ 149 = .int .i64 (a.length : Nat) ∧ σ 150 = .int .i64 (i : Nat)
theorem turn_end (a b : List Ru) (ra rb : Rt) (p16 : Nat) (hal : a.length ≤ 1000000) (hbl : b.length ≤ 1000000) (ha : ∀ r ∈ a, TOk r.tree) (hb : ∀ r ∈ a, ∃ j, findG b r.name = (j, true) ∧ b[j]? = some r) :
  ∀ (σ : Slots) (h : Heap), InvTe a ra b rb p16 a.length σ h → Wp M (.loop L5_2) (blkQ 4 (thenQ (Wp M K5_2 (fun e σ h => isEnd e ∧ finish [] h (σ 6) = some (AV.bool true, []))) (fun e σ h => isEnd e ∧ finish [] h (σ 6) = some (AV.bool true, [])))) σ h := by
 intro σ h hI
 refine Wp.loop (InvTe a ra b rb p16) ?_ (n := a.length) hI
 clear hI σ h
 rintro k σ h ⟨i, hi, rfl, h16, s16, s148, s149, s150⟩
 by_cases hlt : i < a.length
 ·obtain ⟨r, hr⟩ : ∃ r, a[i]? = some r := ⟨_, List.getElem?_eq_getElem hlt⟩
  have hrm := List.mem_of_getElem? hr
  have hltI : (i : Int) < a.length := by omega
  have hadd : IntKind.wrap .i64 ((i : Int) + 1) = ((i + 1 : Nat) : Int) := by rw [wrap64 (by omega) (by omega)]; rfl
  obtain ⟨j, j1, j2⟩ := hb r hrm
  have fd := fun h0 => find_ok b rb r.name (by omega) h0
  rw [j1] at fd
  simp only [gmA] at fd
  have tr := fun h0 => trees_ok r.tree r.tree (ha r hrm) (ha r hrm) h0
  rw [eqT_refl] at tr
  have g16 : ∀ q, (h ++ q)[p16]? = some (.cells [.list 10 (b.map ruA) rb]) := fun q => get_left h16 q
  have hjl := (List.getElem?_eq_some_iff.1 j2).1
  have hjI : (j : Int) < b.length := by omega
  simp [-getElem?_pos, -Int.natCast_add, wL5_2, s16, s148, s149, s150, hltI, hlt, hr, ruA_cells, ruL_take, ruL_agg, ruL_name, ruL_tree, ruL_pos, g16, fd, hjI, hjl, j2, enc_agg, enc_cells, encL_take, tr, hadd]
  exact ⟨a.length - (i + 1), by omega, i + 1, by omega, rfl, g16 _, by simp [s16], by simp [s148], by simp [s149], by simp⟩
 ·have hltI : ¬ (i : Int) < a.length := by omega
  simp [-getElem?_pos, -Int.natCast_add, wL5_2, wK5_2, s149, s150, hltI, awake3_ok, fin_nil]
theorem gath_small {l : List Ru} (h : LOk l) : (gatherP l).1.length ≤ l.length ∧ ∀ x ∈ (gatherP l).1, TOk x.tree := by
 obtain ⟨g, n, e, hP⟩ : ∃ g n e, gatherP l = (g, n, e) := ⟨_, _, _, rfl⟩
 rw [hP]
 by_cases he : e = 0
 ·subst he
  obtain ⟨gs, F, rfl, rfl⟩ := gatherP_fine hP
  exact ⟨by rw [F.len]; exact (h.gs F.gs_).2, fun x hx => (F.rok h hx).T⟩
 ·obtain ⟨rfl, _⟩ := gatherP_err hP he
  exact ⟨by simp, fun x hx => by cases hx⟩
theorem turn_tail (x y : List Ru) (rx ry : Rt) (hx : LOk x) (hy : LOk y) (sb : SB x y) (σ : Slots) (h : Heap) (s7 : σ 7 = .list 10 (x.map ruA) rx) (s8 : σ 8 = .list 10 (y.map ruA) ry) :
  Wp M K5_3 (fun e σ h => isEnd e ∧ finish [] h (σ 6) = some (AV.bool true, [])) σ h := by
 obtain ⟨bx, gx⟩ := Classical.axiomOfChoice (fun H => gatherF_ok x rx hx H)
 obtain ⟨by_, gy⟩ := Classical.axiomOfChoice (fun H => gatherF_ok y ry hy H)
 simp only [gmA] at gx gy
 have tu := turned sb
 obtain ⟨l1, l2⟩ := gath_small hx
 obtain ⟨m1, m2⟩ := gath_small hy
 have hxl := hx.len
 have hyl := hy.len
 obtain ⟨a, n, e, hP⟩ : ∃ a n e, gatherP x = (a, n, e) := ⟨_, _, _, rfl⟩
 obtain ⟨b, n', f, hP'⟩ : ∃ a n e, gatherP y = (a, n, e) := ⟨_, _, _, rfl⟩
 rw [hP] at gx tu l1 l2
 rw [hP'] at gy tu m1 m2
 simp only at gx gy tu l1 l2 m1 m2
 rcases tu with ⟨t1, t2⟩ | ⟨⟨t1, t2⟩, rfl, t3, t4⟩
 ·rcases t1 with rfl | rfl <;> rcases t2 with rfl | rfl <;> simp [-getElem?_pos, -Int.natCast_add, wK5_3, s7, s8, gx, gy, awake3_ok, fin_nil]
 ·rw [not_or] at t1
  have t3I : (a.length : Int) = (b.length : Nat) := by omega
  simp [-getElem?_pos, -Int.natCast_add, wK5_3, s7, s8, gx, gy, t1.1, t1.2, t3I]
  exact turn_end a b _ _ (h.length + 1) (by omega) (by omega) l2 t4 _ _ ⟨0, Nat.zero_le _, rfl, by simp; rfl, by simp, by simp; rfl, by simp [t3I], by simp⟩
theorem turn_true (l : List Ru) (r : Rt) (hl : LIn l) (A : List (List Nat)) (ra : Rt) (hA : ∀ u ∈ A, (∀ j ∈ u, j ≤ 65535) ∧ u.length ≤ 9223372036854775807) (hAl : A.length ≤ 9223372036854775807) (o : List UInt8) (ro : Rt) (ho : o.length ≤ 9223372036854775807) :
  M.call 5 [.list 10 (l.map ruA) r, .list 1 (A.map rowN) ra, .list 1 (ofBytes o) ro] [] = some (.bool true, []) := by
 refine call_of tab5 rfl (callF_wp ?_)
 have fw := few_ok l r hl.ok.len (fun x hx => (hl.ok.all x hx).T)
 cases hf : fewP l 0 with
 | false =>
  rw [hf] at fw
  simp [-getElem?_pos, -Int.natCast_add, wB5, fw, awake3_ok, fin_nil]
 | true =>
  rw [hf] at fw
  by_cases c0 : 8 < l.length
  ·have c0' : (8 : Int) < l.length := by omega
   simp [-getElem?_pos, -Int.natCast_add, wB5, fw, c0, c0', awake3_ok, fin_nil]
  have c0' : ¬ (8 : Int) < l.length := by omega
  by_cases c1 : 8 < A.length
  ·have c1' : (8 : Int) < A.length := by omega
   simp [-getElem?_pos, -Int.natCast_add, wB5, fw, c0, c0', c1, c1', awake3_ok, fin_nil]
  ·have c1' : ¬ (8 : Int) < A.length := by omega
   obtain ⟨l0, t, q, g1, g2, g3, g4⟩ := grules_ok A ra hA hAl [.dead]
   simp only [List.singleton_append, List.length_singleton] at g2 g3 g4
   have hlen := g1.len
   have hll := hl.len
   obtain ⟨b1, b2⟩ := hl.behind g1
   simp [-getElem?_pos, -Int.natCast_add, wB5, fw, c0, c0', c1, c1', g2]
   refine onO_app (n0 := 0) (e := 38) (.inr ⟨t, rfl, Nat.zero_le _, by simpa using g3⟩) (Nat.zero_le _) (by simp) (by simp; omega) (by simp; omega) (fun r' H' o1 o2 => ?_)
   rw [← List.map_append]
   simp [-getElem?_pos, -Int.natCast_add, -List.map_append]
   refine turn_out (l0 ++ l) _ _ ro o b2 ho _ (fun σ h y q sb hy hw t7 t8 => turn_tail (l0 ++ l) y _ _ b1 ⟨by omega, fun z hz => b1.all z (sb.symm.mem hz), by rw [hw]; exact b1.wt⟩ sb σ h t7 t8) _ _ ⟨0, [], .full, Nat.zero_le _, rfl, fun s => rfl, rfl, rfl, by simp, by simp; rfl, by simp, by simp; rfl, by simp, by simp⟩
end Go.Proofs.YtcflbdikkcpiaaaGreatDoor
