/-
  rules, plainly: which rules lead to themselves, and the way through rules.
-/
import Derived.Test.YtcflbdikkcpiaaaGreatDoorXQ
set_option linter.unusedVariables false
set_option linter.unusedSimpArgs false
namespace Go.Proofs.YtcflbdikkcpiaaaGreatDoor
open Go Go.Am
inductive Tg {α : Type} (E : α → α → Prop) : α → α → Prop
 | one {a b : α} : E a b → Tg E a b
 | step {a b c : α} : E a b → Tg E b c → Tg E a c
theorem Tg.trans {α : Type} {E : α → α → Prop} {a b c : α} (h : Tg E a b) (k : Tg E b c) : Tg E a c := by
 induction h with
 | one e => exact .step e k
 | step e _ ih => exact .step e (ih k)
theorem Tg.tail {α : Type} {E : α → α → Prop} {a b c : α} (h : Tg E a b) (k : E b c) : Tg E a c := h.trans (.one k)
def EdI (nx : List (List Nat)) (a b : Nat) : Prop := b ∈ nx[a]?.getD []
theorem bfsIn_none {i : Nat} : ∀ {ns : List Nat} {been : List Bool} {todo : List Nat}, bfsIn i ns been todo = none ↔ i ∈ ns
 | [], been, todo => by simp [bfsIn]
 | n :: ns, been, todo => by
  rw [bfsIn]
  by_cases h : n = i
  ·simp [h]
  ·rw [if_neg h]
   have h' : ¬ i = n := fun e => h e.symm
   split <;> rw [bfsIn_none] <;> simp [h']
theorem bfsIn_mem2 {i : Nat} : ∀ {ns : List Nat} {been : List Bool} {todo : List Nat} {b : List Bool} {t : List Nat}, bfsIn i ns been todo = some (b, t) → (∀ n ∈ ns, n < been.length) →
  (∀ n ∈ ns, b[n]? = some true) ∧ (∀ n : Nat, been[n]? = some true → b[n]? = some true) ∧ (∀ n : Nat, b[n]? = some true → been[n]? = some true ∨ (n ∈ ns ∧ n ∈ t)) ∧ (∀ n ∈ todo, n ∈ t) ∧ (∀ n ∈ t, n ∈ todo ∨ n ∈ ns)
 | [], been, todo, b, t, h, _ => by
  simp only [bfsIn, Option.some.injEq, Prod.mk.injEq] at h
  obtain ⟨rfl, rfl⟩ := h
  simp
 | n :: ns, been, todo, b, t, h, hn => by
  have hlt := hn n (by simp)
  simp only [bfsIn] at h
  split at h
  ·cases h
  ·split at h
   ·rename_i h1 h2
    have hf : been[n]? = some true := by
     rw [List.getElem?_eq_getElem hlt] at h2 ⊢
     simp at h2
     rw [h2]
    obtain ⟨a1, a2, a3, a4, a5⟩ := bfsIn_mem2 h fun m hm => hn m (by simp [hm])
    refine ⟨fun m hm => ?_, a2, fun m hm => ?_, a4, fun m hm => ?_⟩
    ·rcases List.mem_cons.1 hm with rfl | hm
     ·exact a2 _ hf
     ·exact a1 m hm
    ·rcases a3 m hm with e | ⟨e1, e2⟩
     ·exact .inl e
     ·exact .inr ⟨by simp [e1], e2⟩
    ·rcases a5 m hm with e | e
     ·exact .inl e
     ·exact .inr (by simp [e])
   ·obtain ⟨a1, a2, a3, a4, a5⟩ := bfsIn_mem2 h fun m hm => by simpa using hn m (by simp [hm])
    have hs : (been.set n true)[n]? = some true := List.getElem?_set_self hlt
    refine ⟨fun m hm => ?_, fun m hm => ?_, fun m hm => ?_, fun m hm => a4 m (by simp [hm]), fun m hm => ?_⟩
    ·rcases List.mem_cons.1 hm with rfl | hm
     ·exact a2 _ hs
     ·exact a1 m hm
    ·refine a2 m ?_
     by_cases e : n = m
     ·subst e; exact hs
     ·rw [List.getElem?_set_ne e]; exact hm
    ·rcases a3 m hm with e | ⟨e1, e2⟩
     ·by_cases e' : n = m
      ·subst e'
       exact .inr ⟨by simp, a4 _ (by simp)⟩
      ·rw [List.getElem?_set_ne e'] at e
       exact .inl e
     ·exact .inr ⟨by simp [e1], e2⟩
    ·rcases a5 m hm with e | e
     ·rcases List.mem_append.1 e with e | e
      ·exact .inl e
      ·obtain rfl := List.mem_singleton.1 e
       exact .inr (by simp)
     ·exact .inr (by simp [e])
theorem shut_not {nx : List (List Nat)} {i : Nat} {been : List Bool} (h : ∀ k, (k = i ∨ been[k]? = some true) → ∀ n ∈ nx[k]?.getD [], n ≠ i ∧ been[n]? = some true) : ¬ Tg (EdI nx) i i := by
 have : ∀ {a c : Nat}, Tg (EdI nx) a c → (a = i ∨ been[a]? = some true) → c ≠ i := by
  intro a c t
  induction t with
  | one e => intro ha; exact (h _ ha _ e).1
  | step e _ ih => intro ha; exact ih (.inr (h _ ha _ e).2)
 exact fun t => this t (.inl rfl) rfl
theorem bfs_spec {nx : List (List Nat)} {N i : Nat} (hnx : ∀ k n : Nat, n ∈ nx[k]?.getD [] → n < N) : ∀ (f : Nat) (been : List Bool) (todo : List Nat), been.length = N → todo.length + cf been ≤ f →
  (∀ k ∈ todo, k = i ∨ Tg (EdI nx) i k) → (∀ k, (k = i ∨ been[k]? = some true) → k ∉ todo → ∀ n ∈ nx[k]?.getD [], n ≠ i ∧ been[n]? = some true) → (bfs nx i f been todo = true ↔ Tg (EdI nx) i i)
 | 0, been, todo, h1, h2, h3, h4 => by
  obtain rfl := List.eq_nil_of_length_eq_zero (show todo.length = 0 by omega)
  have := shut_not fun k hk => h4 k hk (by simp)
  simp [bfs, this]
 | f + 1, been, [], h1, h2, h3, h4 => by
  have := shut_not fun k hk => h4 k hk (by simp)
  simp [bfs, this]
 | f + 1, been, k :: rest, h1, h2, h3, h4 => by
  have hk := h3 k (by simp)
  rw [bfs]
  cases hb : bfsIn i (nx[k]?.getD []) been rest with
  | none =>
   have hi := bfsIn_none.1 hb
   simp only [true_iff]
   rcases hk with rfl | hk
   ·exact .one hi
   ·exact hk.tail hi
  | some q =>
   obtain ⟨b, t⟩ := q
   have hn : ∀ n ∈ nx[k]?.getD [], n < been.length := fun n h => by rw [h1]; exact hnx k n h
   obtain ⟨l1, l2⟩ := bfsIn_some hb hn
   obtain ⟨a1, a2, a3, a4, a5⟩ := bfsIn_mem2 hb hn
   have hni : i ∉ nx[k]?.getD [] := fun h => by rw [bfsIn_none.2 h] at hb; cases hb
   have g4 : ∀ k', (k' = i ∨ b[k']? = some true) → k' ∉ t → ∀ n ∈ nx[k']?.getD [], n ≠ i ∧ b[n]? = some true := by
    intro k' e1 e2 n hn'
    by_cases ek : k' = k
    ·subst ek
     exact ⟨fun e => hni (e ▸ hn'), a1 n hn'⟩
    ·have e3 : k' ∉ k :: rest := fun hm => by
      rcases List.mem_cons.1 hm with e | e
      ·exact ek e
      ·exact e2 (a4 _ e)
     have e4 : k' = i ∨ been[k']? = some true := by
      rcases e1 with e | e
      ·exact .inl e
      ·rcases a3 k' e with e | ⟨_, e⟩
       ·exact .inr e
       ·exact absurd e e2
     obtain ⟨q1, q2⟩ := h4 k' e4 e3 n hn'
     exact ⟨q1, a2 n q2⟩
   simp only
   by_cases ht : t = []
   ·subst ht
    have := shut_not fun k hk => g4 k hk (by simp)
    simp [this]
   ·rw [if_neg ht]
    refine bfs_spec hnx f b t (by omega) (by simp only [List.length_cons] at h2; omega) ?_ g4
    intro m hm
    rcases a5 m hm with e | e
    ·exact h3 m (by simp [e])
    ·refine .inr ?_
     rcases hk with rfl | hk
     ·exact .one e
     ·exact hk.tail e
theorem cf_false (N : Nat) : cf (List.replicate N false) = N := by
 unfold cf
 induction N with
 | zero => rfl
 | succ n ih => simp [List.replicate_succ]
theorem bfs_start {nx : List (List Nat)} {N i : Nat} (hnx : ∀ k n : Nat, n ∈ nx[k]?.getD [] → n < N) : bfs nx i (N + 1) (List.replicate N false) [i] = true ↔ Tg (EdI nx) i i := by
 refine bfs_spec hnx _ _ _ (by simp) (by rw [cf_false]; simp; omega) (fun k hk => .inl (by simpa using hk)) ?_
 intro k hk hm
 rcases hk with rfl | hk
 ·simp at hm
 ·rw [List.getElem?_replicate] at hk
  split at hk <;> simp at hk
theorem loopP_spec {nx : List (List Nat)} {N : Nat} (hnx : ∀ k n : Nat, n ∈ nx[k]?.getD [] → n < N) : ∀ (l : List Ru) (j : Nat),
  (loopP nx N l j = none ↔ ∀ d, d < l.length → ¬ Tg (EdI nx) (j + d) (j + d)) ∧ ∀ s, loopP nx N l j = some s → ∃ d x, l[d]? = some x ∧ x.name = s ∧ Tg (EdI nx) (j + d) (j + d)
 | [], j => by simp [loopP]
 | x :: l, j => by
  obtain ⟨h1, h2⟩ := loopP_spec hnx l (j + 1)
  have hb := bfs_start (i := j) hnx
  rw [loopP]
  by_cases hx : bfs nx j (N + 1) (List.replicate N false) [j] = true
  ·rw [if_pos hx]
   refine ⟨⟨fun h => by (cases h), fun h => ?_⟩, fun s hs => ?_⟩
   ·exact absurd (hb.1 hx) (by simpa using h 0 (by simp))
   ·exact ⟨0, x, rfl, by simpa using hs, by simpa using hb.1 hx⟩
  ·rw [if_neg hx]
   have hno : ¬ Tg (EdI nx) j j := fun t => hx (hb.2 t)
   refine ⟨⟨fun h => ?_, fun h => ?_⟩, fun s hs => ?_⟩
   ·intro d hd
    cases d with
    | zero => simpa using hno
    | succ d =>
     have := h1.1 h d (by simpa using hd)
     rwa [show j + 1 + d = j + (d + 1) by omega] at this
   ·refine h1.2 fun d hd => ?_
    have := h (d + 1) (by simpa using hd)
    rwa [show j + (d + 1) = j + 1 + d by omega] at this
   ·obtain ⟨d, y, e1, e2, e3⟩ := h2 s hs
    exact ⟨d + 1, y, by simpa using e1, e2, by rwa [show j + (d + 1) = j + 1 + d by omega]⟩
def Topo (nx : List (List Nat)) (out : List Nat) : Prop := ∀ a k b, out = a ++ k :: b → ∀ n ∈ nx[k]?.getD [], n ∈ a
theorem Topo.snoc {nx : List (List Nat)} {out : List Nat} {i : Nat} (h : Topo nx out) (hi : ∀ n ∈ nx[i]?.getD [], n ∈ out) : Topo nx (out ++ [i]) := by
 intro a k b e n hn
 rcases List.eq_nil_or_concat b with rfl | ⟨b', z, rfl⟩
 ·have := List.append_inj' e (by simp)
  obtain ⟨rfl, e2⟩ := this
  obtain rfl : i = k := by simpa using e2
  exact hi n hn
 ·rw [List.concat_eq_append, ← List.cons_append, ← List.append_assoc] at e
  obtain ⟨e1, _⟩ := List.append_inj' e (by simp)
  exact h a k b' e1 n hn
structure St (nx : List (List Nat)) (N : Nat) (stack : List Nat) (s : List Bool × List Nat) : Prop where
 len : s.1.length = N
 nd : s.2.Nodup
 topo : Topo nx s.2
 been : ∀ k, s.1[k]? = some true ↔ (k ∈ s.2 ∨ k ∈ stack)
 apart : ∀ k ∈ s.2, k ∉ stack
theorem thr_spec {nx : List (List Nat)} {N : Nat} (hnx : ∀ k n : Nat, n ∈ nx[k]?.getD [] → n < N) (ha : ∀ k, ¬ Tg (EdI nx) k k) : ∀ (f i : Nat) (stack : List Nat) (s : List Bool × List Nat), St nx N stack s → i < N → cf s.1 ≤ f → (∀ k ∈ stack, Tg (EdI nx) k i) →
  St nx N stack (thr nx (f + 1) i s) ∧ i ∈ (thr nx (f + 1) i s).2 ∧ ∃ new, (thr nx (f + 1) i s).2 = s.2 ++ new ∧ ∀ k ∈ new, k = i ∨ Tg (EdI nx) i k
 | f, i, stack, s, hs, hi, hf, hst => by
  have hlen := hs.len
  rw [thr]
  cases hb : s.1[i]?.getD true with
  | true =>
   have hbt : s.1[i]? = some true := by
    rw [List.getElem?_eq_getElem (by omega)] at hb ⊢
    simp at hb
    rw [hb]
   simp only [if_true]
   refine ⟨hs, ?_, [], by simp, by simp⟩
   rcases (hs.been i).1 hbt with h | h
   ·exact h
   ·exact absurd (hst i h) (ha i)
  | false =>
   have hbf : s.1[i]? = some false := by
    rw [List.getElem?_eq_getElem (by omega)] at hb ⊢
    simp at hb
    rw [hb]
   have hcs := cf_set s.1 i hbf
   have hni : i ∉ stack := fun h => ha i (hst i h)
   have hno : i ∉ s.2 := fun h => by rw [(hs.been i).2 (.inl h)] at hbf; cases hbf
   simp only [Bool.false_eq_true, if_false]
   match f, hf with
   | 0, hf => omega
   | f + 1, hf =>
    have fold : ∀ (ns : List Nat) (s : List Bool × List Nat), (∀ n ∈ ns, n ∈ nx[i]?.getD []) → St nx N (i :: stack) s → cf s.1 ≤ f →
      St nx N (i :: stack) (ns.foldl (fun s n => thr nx (f + 1) n s) s) ∧ (∀ n ∈ ns, n ∈ (ns.foldl (fun s n => thr nx (f + 1) n s) s).2) ∧ ∃ new, (ns.foldl (fun s n => thr nx (f + 1) n s) s).2 = s.2 ++ new ∧ ∀ k ∈ new, Tg (EdI nx) i k := by
     intro ns
     induction ns with
     | nil => intro s _ h1 _; exact ⟨h1, by simp, [], by simp, by simp⟩
     | cons n ns ih =>
      intro s hn h1 h3
      have hnn := hn n (by simp)
      have hnN := hnx i n hnn
      obtain ⟨a1, a2, new1, a3, a4⟩ := thr_spec hnx ha f n (i :: stack) s h1 hnN h3 (fun k hk => by
       rcases List.mem_cons.1 hk with rfl | hk
       ·exact .one hnn
       ·exact (hst k hk).tail hnn)
      have hcf := (thr_sum hnx f n s h1.len hnN h3).2.2
      obtain ⟨b1, b2, new2, b3, b4⟩ := ih (thr nx (f + 1) n s) (fun m hm => hn m (by simp [hm])) a1 (by omega)
      rw [List.foldl_cons]
      refine ⟨b1, fun m hm => ?_, new1 ++ new2, by rw [b3, a3]; simp, fun k hk => ?_⟩
      ·rcases List.mem_cons.1 hm with rfl | hm
       ·rw [b3]; simp [a2]
       ·exact b2 m hm
      ·rcases List.mem_append.1 hk with hk | hk
       ·rcases a4 k hk with rfl | h
        ·exact .one hnn
        ·exact .step hnn h
       ·exact b4 k hk
    have hs1 : St nx N (i :: stack) (s.1.set i true, s.2) := by
     refine ⟨by simpa using hlen, hs.nd, hs.topo, fun k => ?_, fun k hk => ?_⟩
     ·by_cases e : i = k
      ·subst e
       simp [List.getElem?_set_self (show i < s.1.length by omega)]
      ·have e' : ¬ k = i := fun h => e h.symm
       simp only [List.getElem?_set_ne e, hs.been k, List.mem_cons, e', false_or]
     ·simp only [List.mem_cons, not_or]
      exact ⟨fun e => hno (e ▸ hk), hs.apart k hk⟩
    obtain ⟨c1, c2, new, c3, c4⟩ := fold (nx[i]?.getD []) (s.1.set i true, s.2) (fun n h => h) hs1 (by simp only; omega)
    generalize ((nx[i]?.getD []).foldl (fun s n => thr nx (f + 1) n s) (s.1.set i true, s.2)) = r at *
    have hir : i ∉ r.2 := fun h => c1.apart i h (by simp)
    refine ⟨⟨c1.len, ?_, c1.topo.snoc c2, fun k => ?_, fun k hk => ?_⟩, by simp, new ++ [i], by simp [c3], fun k hk => ?_⟩
    ·simp only
     rw [List.nodup_append]
     exact ⟨c1.nd, by simp, fun x hx y hy => by rw [List.mem_singleton.1 hy]; exact fun e => hir (e ▸ hx)⟩
    ·simp only [c1.been k, List.mem_cons, List.mem_append, List.mem_singleton, List.not_mem_nil, or_false]
     constructor
     ·rintro (h | h | h)
      ·exact .inl (.inl h)
      ·exact .inl (.inr h)
      ·exact .inr h
     ·rintro ((h | h) | h)
      ·exact .inl h
      ·exact .inr (.inl h)
      ·exact .inr (.inr h)
    ·rcases List.mem_append.1 hk with hk | hk
     ·exact fun h => c1.apart k hk (by simp [h])
     ·rw [List.mem_singleton.1 hk]; exact hni
    ·rcases List.mem_append.1 hk with hk | hk
     ·exact .inr (c4 k hk)
     ·exact .inl (List.mem_singleton.1 hk)
theorem st_start (nx : List (List Nat)) (N : Nat) : St nx N [] (List.replicate N false, []) := by
 refine ⟨by simp, by simp, ?_, ?_, ?_⟩
 ·intro a k b e
  simp at e
 ·intro k
  simp only [List.getElem?_replicate, List.not_mem_nil, or_self, iff_false]
  split <;> simp
 ·intro k hk
  simp at hk
theorem St.lt {nx : List (List Nat)} {N : Nat} {stack : List Nat} {s : List Bool × List Nat} (h : St nx N stack s) {k : Nat} (hk : k ∈ s.2) : k < N := by
 have := (h.been k).2 (.inl hk)
 rw [← h.len]
 exact (List.getElem?_eq_some_iff.1 this).1
theorem Topo.shut {nx : List (List Nat)} {out : List Nat} (h : Topo nx out) {a c : Nat} (t : Tg (EdI nx) a c) (ha : a ∈ out) : c ∈ out := by
 induction t with
 | one e =>
  obtain ⟨x, y, hxy⟩ := List.append_of_mem ha
  have := h x _ y hxy _ e
  rw [hxy]
  simp [this]
 | step e _ ih =>
  obtain ⟨x, y, hxy⟩ := List.append_of_mem ha
  have := h x _ y hxy _ e
  exact ih (by rw [hxy]; simp [this])
def EdN (rows : List Ru) (s t : List UInt8) : Prop := ∃ x ∈ rows, x.name = s ∧ t ∈ namT x.tree
structure Cl (rows : List Ru) : Prop where
 nd : (rows.map Ru.name).Nodup
 shut : ∀ x ∈ rows, ∀ s ∈ namT x.tree, s ∈ rows.map Ru.name
def nmI (rows : List Ru) (i : Nat) : List UInt8 := ((rows.map Ru.name)[i]?).getD []
theorem nmI_at {rows : List Ru} {i : Nat} {x : Ru} (h : rows[i]? = some x) : nmI rows i = x.name := by simp [nmI, h]
theorem posK_nd {s : List UInt8} : ∀ {l : List (List UInt8)} {j : Nat}, l.Nodup → l[j]? = some s → posK s l = some j
 | [], j, _, h => by simp at h
 | x :: l, 0, _, h => by simp at h; simp [posK, h]
 | x :: l, j + 1, hn, h => by
  rw [List.nodup_cons] at hn
  have h' : l[j]? = some s := by simpa using h
  have hx : x ≠ s := fun e => hn.1 (e ▸ List.mem_of_getElem? h')
  simp only [posK]
  rw [if_neg hx, posK_nd hn.2 h']
  rfl
theorem at_name {rows : List Ru} {s : List UInt8} (h : s ∈ rows.map Ru.name) : ∃ j, j < rows.length ∧ nmI rows j = s ∧ atP (rows.map Ru.name) s = j ∧ posK s (rows.map Ru.name) = some j := by
 cases hp : posK s (rows.map Ru.name) with
 | none => exact absurd h (posK_none.1 hp)
 | some j =>
  obtain ⟨h1, h2⟩ := posK_some hp
  exact ⟨j, by simpa using h1, by unfold nmI; rw [h2]; rfl, by unfold atP; rw [hp]; rfl, rfl⟩
theorem nxG_at {rows : List Ru} {i : Nat} {x : Ru} (h : rows[i]? = some x) : (nxG rows)[i]?.getD [] = (namT x.tree).map (atP (rows.map Ru.name)) := by
 unfold nxG nxR
 rw [List.getElem?_map, h]
 rfl
theorem edge_nm {rows : List Ru} (hc : Cl rows) {i j : Nat} (h : EdI (nxG rows) i j) : i < rows.length ∧ j < rows.length ∧ EdN rows (nmI rows i) (nmI rows j) := by
 unfold EdI at h
 cases hi : rows[i]? with
 | none =>
  unfold nxG at h
  rw [List.getElem?_map, hi] at h
  simp at h
 | some x =>
  have hx := List.mem_of_getElem? hi
  rw [nxG_at hi] at h
  obtain ⟨s, hs, e⟩ := List.mem_map.1 h
  obtain ⟨j', h1, h2, h3, _⟩ := at_name (hc.shut x hx s hs)
  obtain rfl : j' = j := by rw [← h3, e]
  exact ⟨(List.getElem?_eq_some_iff.1 hi).1, h1, x, hx, (nmI_at hi).symm, by rw [h2]; exact hs⟩
theorem nmI_inj {rows : List Ru} (hc : Cl rows) {i j : Nat} (hi : i < rows.length) (hj : j < rows.length) (h : nmI rows i = nmI rows j) : i = j := by
 have h1 : (rows.map Ru.name)[i]? = some (nmI rows i) := by unfold nmI; rw [List.getElem?_eq_getElem (by simpa using hi)]; rfl
 have h2 : (rows.map Ru.name)[j]? = some (nmI rows i) := by rw [h]; unfold nmI; rw [List.getElem?_eq_getElem (by simpa using hj)]; rfl
 have := posK_nd hc.nd h1
 rw [posK_nd hc.nd h2] at this
 exact (Option.some.inj this).symm
theorem nm_edge {rows : List Ru} (hc : Cl rows) {s t : List UInt8} (h : EdN rows s t) {i : Nat} (hi : i < rows.length) (hs : nmI rows i = s) : ∃ j, j < rows.length ∧ nmI rows j = t ∧ EdI (nxG rows) i j := by
 obtain ⟨x, hx, e, ht⟩ := h
 obtain ⟨k, hk⟩ := List.getElem?_of_mem hx
 obtain rfl : k = i := nmI_inj hc (List.getElem?_eq_some_iff.1 hk).1 hi (by rw [nmI_at hk, e, hs])
 obtain ⟨j, h1, h2, h3, _⟩ := at_name (hc.shut x hx t ht)
 exact ⟨j, h1, h2, by unfold EdI; rw [nxG_at hk]; exact List.mem_map.2 ⟨t, ht, h3⟩⟩
theorem tg_nm {rows : List Ru} (hc : Cl rows) {i j : Nat} (h : Tg (EdI (nxG rows)) i j) : i < rows.length ∧ j < rows.length ∧ Tg (EdN rows) (nmI rows i) (nmI rows j) := by
 induction h with
 | one e => obtain ⟨h1, h2, h3⟩ := edge_nm hc e; exact ⟨h1, h2, .one h3⟩
 | step e _ ih => obtain ⟨h1, _, h3⟩ := edge_nm hc e; exact ⟨h1, ih.2.1, .step h3 ih.2.2⟩
theorem nm_tg {rows : List Ru} (hc : Cl rows) {s t : List UInt8} (h : Tg (EdN rows) s t) : ∀ i, i < rows.length → nmI rows i = s → ∃ j, j < rows.length ∧ nmI rows j = t ∧ Tg (EdI (nxG rows)) i j := by
 induction h with
 | one e =>
  intro i hi hs
  obtain ⟨j, h1, h2, h3⟩ := nm_edge hc e hi hs
  exact ⟨j, h1, h2, .one h3⟩
 | step e _ ih =>
  intro i hi hs
  obtain ⟨j, h1, h2, h3⟩ := nm_edge hc e hi hs
  obtain ⟨k, k1, k2, k3⟩ := ih j h1 h2
  exact ⟨k, k1, k2, .step h3 k3⟩
theorem tg_from {rows : List Ru} {s t : List UInt8} (h : Tg (EdN rows) s t) : s ∈ rows.map Ru.name := by
 have key : ∀ {s t}, EdN rows s t → s ∈ rows.map Ru.name := fun ⟨x, hx, e, _⟩ => List.mem_map.2 ⟨x, hx, e⟩
 cases h with
 | one e => exact key e
 | step e _ => exact key e
theorem nm_self {rows : List Ru} (hc : Cl rows) {s : List UInt8} (h : Tg (EdN rows) s s) : ∃ i, i < rows.length ∧ nmI rows i = s ∧ Tg (EdI (nxG rows)) i i := by
 obtain ⟨i, h1, h2, _, _⟩ := at_name (tg_from h)
 obtain ⟨j, k1, k2, k3⟩ := nm_tg hc h i h1 h2
 obtain rfl := nmI_inj hc h1 k1 (by rw [h2, k2])
 exact ⟨i, h1, h2, k3⟩
theorem acyc_nm {rows : List Ru} (hc : Cl rows) (ha : ∀ s, ¬ Tg (EdN rows) s s) : ∀ i, ¬ Tg (EdI (nxG rows)) i i := fun i h => ha _ (tg_nm hc h).2.2
theorem lackP_none {nm : List (List UInt8)} : ∀ {l : List Ru}, lackP nm l = none ↔ ∀ x ∈ l, ∀ s ∈ namT x.tree, s ∈ nm
 | [] => by simp [lackP]
 | x :: l => by
  rw [lackP]
  cases hf : (namT x.tree).find? fun s => !decide (s ∈ nm) with
  | some s =>
   have h1 := List.mem_of_find?_eq_some hf
   have h2 := List.find?_some hf
   simp at h2
   simp only [reduceCtorEq, false_iff]
   exact fun h => h2 (h x (by simp) s h1)
  | none =>
   have h0 : ∀ s ∈ namT x.tree, s ∈ nm := by simpa using hf
   simp only [lackP_none (l := l)]
   exact ⟨fun h y hy => by
    rcases List.mem_cons.1 hy with rfl | hy
    ·exact h0
    ·exact h y hy, fun h y hy => h y (by simp [hy])⟩
theorem lackP_some {nm : List (List UInt8)} {s : List UInt8} : ∀ {l : List Ru}, lackP nm l = some s → s ∉ nm ∧ ∃ x ∈ l, s ∈ namT x.tree
 | [], h => by simp [lackP] at h
 | x :: l, h => by
  rw [lackP] at h
  cases hf : (namT x.tree).find? fun s => !decide (s ∈ nm) with
  | some s' =>
   rw [hf] at h
   obtain rfl := Option.some.inj h
   have h2 := List.find?_some hf
   simp at h2
   exact ⟨h2, x, by simp, List.mem_of_find?_eq_some hf⟩
  | none =>
   rw [hf] at h
   obtain ⟨h1, y, hy, h2⟩ := lackP_some h
   exact ⟨h1, y, by simp [hy], h2⟩
def ordR (rows : List Ru) : List Ru := (ordS rows rows.length).2.map fun i => copyR (getR rows i)
theorem namL_mem {s : List UInt8} : ∀ {l : List Tr}, s ∈ namL l ↔ ∃ t ∈ l, s ∈ namT t
 | [] => by simp [namL]
 | t :: l => by simp [namL, namL_mem (l := l)]
theorem namL_fm : ∀ l : List Tr, namL l = l.flatMap namT
 | [] => rfl
 | t :: l => by simp [namL, namL_fm l]
theorem nam_copyN : ∀ (n : Nat) (t : Tr), t.size ≤ n → namT (copyT t) = namT t
 | 0, t, h => by cases t; simp [Tr.size] at h
 | n + 1, t, h => by
  have hk : ∀ k ∈ t.kids, namT (copyT k) = namT k := fun k hk => nam_copyN n k (by have := Tr.size_kid hk; omega)
  cases t with
  | mk k s lo hi mn mx f ks =>
   rw [copyT, namT, namT, namL_fm, namL_fm, copyL_map]
   have : (ks.map copyT).flatMap namT = ks.flatMap namT := by
    rw [List.flatMap_map]
    have hk' : ∀ k ∈ ks, namT (copyT k) = namT k := hk
    clear hk h
    induction ks with
    | nil => rfl
    | cons a l ih => simp only [List.flatMap_cons]; rw [hk' a (by simp), ih fun k hk => hk' k (by simp [hk])]
   rw [this]
theorem nam_copy (t : Tr) : namT (copyT t) = namT t := nam_copyN _ t (Nat.le_refl _)
theorem ord_st {rows : List Ru} (hc : Cl rows) (ha : ∀ s, ¬ Tg (EdN rows) s s) : ∀ k, k ≤ rows.length → St (nxG rows) rows.length [] (ordS rows k) ∧ ∀ j, j < k → j ∈ (ordS rows k).2
 | 0, _ => ⟨by simpa [ordS] using st_start (nxG rows) rows.length, by simp⟩
 | k + 1, hk => by
  obtain ⟨h1, h2⟩ := ord_st hc ha k (by omega)
  have hf := (ordS_facts rows k (by omega)).2.1
  rw [ordS_succ]
  obtain ⟨a1, a2, new, a3, a4⟩ := thr_spec (nxG_lt rows) (acyc_nm hc ha) rows.length k [] (ordS rows k) h1 (by omega) (by omega) (by simp)
  refine ⟨a1, fun j hj => ?_⟩
  by_cases e : j = k
  ·rw [e]; exact a2
  ·rw [a3]
   exact List.mem_append_left _ (h2 j (by omega))
theorem cf_zero {b : List Bool} (h : ∀ i, i < b.length → b[i]? = some true) : cf b = 0 := by
 unfold cf
 rw [List.length_eq_zero_iff, List.filter_eq_nil_iff]
 intro x hx
 obtain ⟨i, hi⟩ := List.getElem?_of_mem hx
 rw [h i (List.getElem?_eq_some_iff.1 hi).1] at hi
 cases hi
 decide
section
variable {rows : List Ru} (hc : Cl rows) (ha : ∀ s, ¬ Tg (EdN rows) s s)
include hc ha
theorem ordR_len : (ordR rows).length = rows.length := by
 obtain ⟨h1, h2⟩ := ord_st hc ha rows.length (Nat.le_refl _)
 have hf := (ordS_facts rows rows.length (Nat.le_refl _)).2.1
 have : cf (ordS rows rows.length).1 = 0 := cf_zero fun i hi => (h1.been i).2 (.inl (h2 i (by rw [← h1.len]; exact hi)))
 unfold ordR
 rw [List.length_map]
 omega
theorem ordR_mem {x : Ru} : x ∈ ordR rows ↔ ∃ y ∈ rows, x = copyR y := by
 obtain ⟨h1, h2⟩ := ord_st hc ha rows.length (Nat.le_refl _)
 unfold ordR
 constructor
 ·intro h
  obtain ⟨i, hi, rfl⟩ := List.mem_map.1 h
  have hlt := h1.lt hi
  exact ⟨rows[i], by simp, by simp [getR, List.getElem?_eq_getElem hlt]⟩
 ·rintro ⟨y, hy, rfl⟩
  obtain ⟨i, hi⟩ := List.getElem?_of_mem hy
  exact List.mem_map.2 ⟨i, h2 i (List.getElem?_eq_some_iff.1 hi).1, by simp [getR, hi]⟩
theorem ordR_right (hg : ∀ x ∈ rows, x.more = false ∧ gvP (copyR x) = true) : rightG (ordR rows) [] = true := by
 obtain ⟨h1, h2⟩ := ord_st hc ha rows.length (Nat.le_refl _)
 have key : ∀ (b a : List Nat), (ordS rows rows.length).2 = a ++ b → rightG (b.map fun i => copyR (getR rows i)) (a.map (nmI rows)) = true := by
  intro b
  induction b with
  | nil => intro a _; rfl
  | cons k b ih =>
   intro a e
   have hk : k ∈ (ordS rows rows.length).2 := by rw [e]; simp
   have hlt := h1.lt hk
   have hr : rows[k]? = some (getR rows k) := by simp [getR, List.getElem?_eq_getElem hlt]
   have hm := List.mem_of_getElem? hr
   obtain ⟨g1, g2⟩ := hg _ hm
   have hnm := nmI_at hr
   rw [List.map_cons, rightG]
   have c1 : (copyR (getR rows k)).more = false := g1
   have c3 : (copyR (getR rows k)).name ∉ a.map (nmI rows) := by
    intro hh
    obtain ⟨i, hi, ei⟩ := List.mem_map.1 hh
    have hi' : i ∈ (ordS rows rows.length).2 := by rw [e]; simp [hi]
    obtain rfl : i = k := nmI_inj hc (h1.lt hi') hlt (by rw [ei, hnm]; rfl)
    have := h1.nd
    rw [e, List.nodup_append] at this
    exact this.2.2 i hi i (by simp) rfl
   have c4 : ∀ s ∈ namT (copyR (getR rows k)).tree, s ∈ a.map (nmI rows) := by
    intro s hs
    have hs' : s ∈ namT (getR rows k).tree := by simpa [copyR, nam_copy] using hs
    obtain ⟨j, j1, j2, j3, _⟩ := at_name (hc.shut _ hm s hs')
    have : j ∈ a := h1.topo a k b e j (by rw [nxG_at hr]; exact List.mem_map.2 ⟨s, hs', j3⟩)
    exact List.mem_map.2 ⟨j, this, j2⟩
   have c5 : ((namT (copyR (getR rows k)).tree).all fun s => decide (s ∈ a.map (nmI rows))) = true := List.all_eq_true.2 fun s hs => decide_eq_true (c4 s hs)
   have c6 : decide ((copyR (getR rows k)).name ∈ a.map (nmI rows)) = false := decide_eq_false c3
   rw [if_neg (by rw [c1, g2, c5, c6]; decide)]
   have := ih (a ++ [k]) (by rw [e]; simp)
   rw [List.map_append, List.map_singleton, hnm] at this
   exact this
 exact key _ [] (by simp)
end
theorem rightG_at : ∀ {l : List Ru} {ahead : List (List UInt8)} {j : Nat} {x : Ru}, rightG l ahead = true → l[j]? = some x → x.more = false ∧ gvP x = true ∧ ∀ s ∈ namT x.tree, s ∈ ahead ++ (l.take j).map Ru.name
 | [], _, _, _, _, h => by simp at h
 | y :: l, ahead, j, x, hr, h => by
  rw [rightG] at hr
  split at hr
  ·cases hr
  ·rename_i hn
   simp at hn
   cases j with
   | zero =>
    obtain rfl : y = x := by simpa using h
    exact ⟨hn.1, hn.2.1, by simpa using hn.2.2.2⟩
   | succ j =>
    obtain ⟨a1, a2, a3⟩ := rightG_at (j := j) (x := x) hr (by simpa using h)
    exact ⟨a1, a2, by simpa using a3⟩
theorem right_cl {l : List Ru} (h : rightG l [] = true) : Cl l ∧ ∀ i j, EdI (nxG l) i j → j < i := by
 have hshut : ∀ {j x}, l[j]? = some x → ∀ s ∈ namT x.tree, s ∈ (l.take j).map Ru.name := fun hj s hs => by simpa using (rightG_at h hj).2.2 s hs
 have hnew : ∀ {j x}, l[j]? = some x → x.name ∉ (l.take j).map Ru.name := fun hj => by simpa using rightG_new h hj
 have hnd : (l.map Ru.name).Nodup := by
  unfold List.Nodup
  rw [List.pairwise_iff_getElem]
  intro i j hi hj hij e
  have hi' : i < l.length := by simpa using hi
  have hj' : j < l.length := by simpa using hj
  have := hnew (List.getElem?_eq_getElem hj')
  refine this ?_
  simp only [List.getElem_map] at e
  rw [← e]
  refine List.mem_map.2 ⟨l[i], ?_, rfl⟩
  rw [List.mem_iff_getElem?]
  exact ⟨i, by rw [List.getElem?_take_of_lt hij, List.getElem?_eq_getElem hi']⟩
 have hc : Cl l := ⟨hnd, fun x hx s hs => by
  obtain ⟨j, hj⟩ := List.getElem?_of_mem hx
  obtain ⟨y, hy, e⟩ := List.mem_map.1 (hshut hj s hs)
  exact List.mem_map.2 ⟨y, List.mem_of_mem_take hy, e⟩⟩
 refine ⟨hc, fun i j e => ?_⟩
 unfold EdI at e
 cases hi : l[i]? with
 | none =>
  unfold nxG at e
  rw [List.getElem?_map, hi] at e
  simp at e
 | some x =>
  rw [nxG_at hi] at e
  obtain ⟨s, hs, e⟩ := List.mem_map.1 e
  obtain ⟨y, hy, ey⟩ := List.mem_map.1 (hshut hi s hs)
  obtain ⟨k, hk⟩ := List.getElem?_of_mem hy
  have hki : k < i := by
   have := (List.getElem?_eq_some_iff.1 hk).1
   simp at this
   omega
  have hk' : l[k]? = some y := by rw [List.getElem?_take_of_lt hki] at hk; exact hk
  have : posK s (l.map Ru.name) = some k := posK_nd hnd (by simp [hk', ey])
  unfold atP at e
  rw [this] at e
  simp at e
  omega
theorem right_acyc {l : List Ru} (h : rightG l [] = true) : ∀ i, ¬ Tg (EdI (nxG l)) i i := by
 have : ∀ {i j}, Tg (EdI (nxG l)) i j → j < i := by
  intro i j t
  induction t with
  | one e => exact (right_cl h).2 _ _ e
  | step e _ ih => have := (right_cl h).2 _ _ e; omega
 exact fun i t => absurd (this t) (by omega)
theorem ledP_mem {rows : List Ru} {a : Nat} {been : List Bool} {t : List UInt8} : ∀ (l : List Ru) (i : Nat), t ∈ ledP rows a been i l ↔ ∃ d x, l[d]? = some x ∧ x.name = t ∧ been[i + d]? = some true ∧ i + d ≠ a
 | [], i => by simp [ledP]
 | x :: l, i => by
  have ih := ledP_mem (rows := rows) (a := a) (been := been) (t := t) l (i + 1)
  have hs : (∃ d y, (x :: l)[d]? = some y ∧ y.name = t ∧ been[i + d]? = some true ∧ i + d ≠ a) ↔ (x.name = t ∧ been[i]? = some true ∧ i ≠ a) ∨ ∃ d y, l[d]? = some y ∧ y.name = t ∧ been[i + 1 + d]? = some true ∧ i + 1 + d ≠ a := by
   constructor
   ·rintro ⟨d, y, h1, h2, h3, h4⟩
    cases d with
    | zero => obtain rfl : x = y := by simpa using h1
              exact .inl ⟨h2, h3, h4⟩
    | succ d => exact .inr ⟨d, y, by simpa using h1, h2, by rwa [show i + 1 + d = i + (d + 1) by omega], by omega⟩
   ·rintro (⟨h2, h3, h4⟩ | ⟨d, y, h1, h2, h3, h4⟩)
    ·exact ⟨0, x, rfl, h2, h3, h4⟩
    ·exact ⟨d + 1, y, by simpa using h1, h2, by rwa [show i + (d + 1) = i + 1 + d by omega], by omega⟩
  rw [hs, ← ih, ledP]
  have hb : (been[i]?.getD false && decide (i ≠ a)) = true ↔ been[i]? = some true ∧ i ≠ a := by
   cases hq : been[i]? with
   | none => simp
   | some b => simp
  by_cases hcond : been[i]? = some true ∧ i ≠ a
  ·rw [if_pos (hb.2 hcond)]
   simp only [List.mem_cons]
   constructor
   ·rintro (h | h)
    ·exact .inl ⟨h.symm, hcond⟩
    ·exact .inr h
   ·rintro (h | h)
    ·exact .inl h.1.symm
    ·exact .inr h
  ·rw [if_neg (fun h => hcond (hb.1 h))]
   constructor
   ·exact .inr
   ·rintro (h | h)
    ·exact absurd h.2 hcond
    ·exact h
theorem leads_spec {l : List Ru} (h : rightG l [] = true) {s : List UInt8} (hs : s ∈ l.map Ru.name) : (leadsP l s).2 = true ∧ ∀ t, t ∈ (leadsP l s).1 ↔ Tg (EdN l) s t := by
 obtain ⟨hc, _⟩ := right_cl h
 have hac := right_acyc h
 obtain ⟨a, a1, a2, _, a4⟩ := at_name hs
 have hf : findG l s = (a, true) := by unfold findG; rw [a4]
 unfold leadsP
 rw [hf, h]
 simp only [Bool.and_self, if_true, true_and]
 intro t
 obtain ⟨b1, b2, new, b3, b4⟩ := thr_spec (N := l.length) (nxG_lt l) hac l.length a [] (List.replicate l.length false, []) (st_start _ _) a1 (by rw [cf_false]; exact Nat.le_refl _) (by simp)
 generalize thr (nxG l) (l.length + 1) a (List.replicate l.length false, []) = r at *
 rw [List.nil_append] at b3
 rw [ledP_mem]
 constructor
 ·rintro ⟨d, x, e1, e2, e3, e4⟩
  rw [Nat.zero_add] at e3 e4
  have hd : d ∈ r.2 := by
   rcases (b1.been d).1 e3 with h | h
   ·exact h
   ·simp at h
  rw [b3] at hd
  rcases b4 d hd with h | h
  ·exact absurd h e4
  ·have := (tg_nm hc h).2.2
   rw [a2, nmI_at e1, e2] at this
   exact this
 ·intro ht
  obtain ⟨j, j1, j2, j3⟩ := nm_tg hc ht a a1 a2
  have hj : j ∈ r.2 := b1.topo.shut j3 b2
  have hr : l[j]? = some l[j] := List.getElem?_eq_getElem j1
  refine ⟨j, l[j], hr, by rw [← nmI_at hr, j2], by rw [Nat.zero_add]; exact (b1.been j).2 (.inl hj), ?_⟩
  rw [Nat.zero_add]
  intro e
  exact hac a (e ▸ j3)
theorem gvP_iff (x : Ru) : gvP x = true ↔ namedP x.name = true ∧ fitsP 100 x.tree = true := by
 unfold gvP printP
 cases namedP x.name <;> cases fitsP 100 x.tree <;> simp
def gnames : List (List UInt8) := [[97], [98], [99, 50], [100, 45, 101], [102], [103], [104], [105]]
theorem gnames_ok : ∀ s ∈ gnames, namedP s = true ∧ s.length ≤ 3 := by decide
structure GrR (l : List Ru) : Prop where
 pos : 1 ≤ l.length
 len : l.length ≤ 8
 at_ : ∀ (i : Nat) (x : Ru), l[i]? = some x → gnames[i]? = some x.name ∧ x.pos = 0 ∧ x.more = false ∧ fitsN (gnames.take i) 7 x.tree = true
section
variable {l : List Ru} (h : GrR l)
include h
theorem GrR.named {x : Ru} (hx : x ∈ l) : namedP x.name = true ∧ x.name.length ≤ 3 := by
 obtain ⟨i, hi⟩ := List.getElem?_of_mem hx
 exact gnames_ok _ (List.mem_of_getElem? (h.at_ i x hi).1)
theorem GrR.wt {x : Ru} (hx : x ∈ l) : x.tree.wt ≤ 27325 := by
 obtain ⟨i, hi⟩ := List.getElem?_of_mem hx
 have := fitsN_wt (h.at_ i x hi).2.2.2
 have e : wtB 7 = 27325 := by decide
 omega
theorem GrR.lok : LOk l := by
 have hw : wts (l.map Ru.tree) ≤ (l.map Ru.tree).length * 27325 := wts_leN fun t ht => by
  obtain ⟨x, hx, rfl⟩ := List.mem_map.1 ht
  exact h.wt hx
 have hl := h.len
 rw [List.length_map] at hw
 have : l.length * 27325 ≤ 8 * 27325 := Nat.mul_le_mul_right _ hl
 exact ⟨by omega, fun x hx => ⟨by have := (h.named hx).2; omega, by have := h.wt hx; omega⟩, by omega⟩
end
def besT (b : Tr) (s : List UInt8) : Tr := .mk 7 [] 0 0 0 1 true [.mk 5 [] 0 0 0 0 true [b, .mk 1 s 0 0 0 0 true []]]
def moR (x : Ru) (b : Tr) (s : List UInt8) : Ru := ⟨x.name, 0, true, besT b s⟩
def moL (l : List Ru) (j : Nat) (x : Ru) (b : Tr) (s : List UInt8) : List Ru := l.set j { x with tree := orT [x.tree, besT b s] }
section
variable {l : List Ru} (h : GrR l) {j : Nat} {x : Ru} (hj : l[j]? = some x) {b : Tr} (hb : fitsN [] 7 b = true) {s : List UInt8}
theorem copy_fits : ∀ (d : Nat) (t : Tr), fitsP d t = true → fitsP d (copyT t) = true
 | 0, t, h => by simp [fitsP] at h
 | d + 1, t, h => by
  simp only [fitsP, Bool.and_eq_true] at h ⊢
  obtain ⟨h1, h2⟩ := h
  refine ⟨?_, ?_⟩
  ·cases t with
   | mk k s lo hi mn mx f ks =>
    rw [copyT_eq]
    have e1 : (ks.map copyT).isEmpty = ks.isEmpty := by cases ks <;> rfl
    have e2 : (ks.map copyT).length = ks.length := by simp
    unfold aloneP at h1 ⊢
    simp only [Tr.k, Tr.s, Tr.lo, Tr.hi, Tr.mn, Tr.mx, Tr.kids] at h1 ⊢
    simp only [e1, e2]
    exact h1
  ·rw [copyT_eq]
   show (t.kids.map copyT).all (fitsP d) = true
   rw [List.all_map]
   exact List.all_eq_true.2 fun k hk => copy_fits d k (List.all_eq_true.1 h2 k hk)
theorem copy_gv {x : Ru} (h : gvP x = true) : gvP (copyR x) = true := by
 rw [gvP_iff] at h ⊢
 exact ⟨h.1, copy_fits _ _ h.2⟩
end
def gvnT (l : List Ru) (s : List UInt8) : List Tr := (l.filter fun x => decide (x.name = s)).map Ru.tree
theorem gvnT_snoc (l : List Ru) (x : Ru) (s : List UInt8) : gvnT (l ++ [x]) s = gvnT l s ++ (if x.name = s then [x.tree] else []) := by
 unfold gvnT
 rw [List.filter_append, List.map_append]
 by_cases h : x.name = s <;> simp [h]
def lenG : Gs → Nat
 | [] => 0
 | p :: gs => p.2.length + lenG gs
theorem lenG_app (p : Ru × List Tr) : ∀ gs : Gs, lenG (gs ++ [p]) = lenG gs + p.2.length
 | [] => by simp [lenG]
 | q :: gs => by simp only [List.cons_append, lenG, lenG_app p gs]; omega
theorem lenG_set (p q : Ru × List Tr) : ∀ (gs : Gs) (j : Nat), gs[j]? = some p → lenG (gs.set j q) + p.2.length = lenG gs + q.2.length
 | [], j, h => by simp at h
 | x :: gs, 0, h => by simp at h; subst h; simp only [List.set_cons_zero, lenG]; omega
 | x :: gs, j + 1, h => by
  have := lenG_set p q gs j (by simpa using h)
  simp only [List.set_cons_succ, lenG]
  omega
structure GaR (l : List Ru) (gs : Gs) : Prop where
 nd : (nmG gs).Nodup
 sum : lenG gs = l.length
 in_ : ∀ p ∈ gs, p.1 ∈ l ∧ p.1.more = false ∧ p.2 = gvnT l p.1.name ∧ p.2[0]? = some p.1.tree
 all : ∀ x ∈ l, x.name ∈ nmG gs
theorem GaR.nil : GaR [] [] := ⟨by simp [nmG], rfl, fun p hp => (by cases hp), fun x hx => (by cases hx)⟩
theorem gvnT_none {l : List Ru} {gs : Gs} (h : GaR l gs) {s : List UInt8} (hs : s ∉ nmG gs) : gvnT l s = [] := by
 unfold gvnT
 rw [List.map_eq_nil_iff, List.filter_eq_nil_iff]
 intro x hx e
 exact hs (by simpa using (of_decide_eq_true e) ▸ h.all x hx)
theorem GaR.step {l : List Ru} {gs gs' : Gs} {x : Ru} (h : GaR l gs) (hg : gstep gs x = .ok gs') : GaR (l ++ [x]) gs' := by
 unfold gstep at hg
 cases hp : posK x.name (nmG gs) with
 | none =>
  rw [hp] at hg
  simp only at hg
  have hn := posK_none.1 hp
  cases hm : x.more with
  | true => rw [hm] at hg; simp at hg
  | false =>
   rw [hm] at hg
   simp only [Bool.false_eq_true, if_false, GRes.ok.injEq] at hg
   subst hg
   refine ⟨?_, ?_, fun p hpm => ?_, fun y hy => ?_⟩
   ·have e : nmG (gs ++ [(x, [x.tree])]) = nmG gs ++ [x.name] := by simp [nmG]
    rw [e, List.nodup_append]
    exact ⟨h.nd, by simp, fun a ha b hb => by rw [List.mem_singleton.1 hb]; rintro rfl; exact hn ha⟩
   ·rw [lenG_app, h.sum]; simp
   ·rcases List.mem_append.1 hpm with q | q
    ·obtain ⟨a1, a2, a3, a4⟩ := h.in_ p q
     refine ⟨by simp [a1], a2, ?_, a4⟩
     have : ¬ x.name = p.1.name := fun e => hn (by rw [e]; exact List.mem_map_of_mem (f := fun p : Ru × List Tr => p.1.name) q)
     rw [gvnT_snoc, if_neg this, List.append_nil]
     exact a3
    ·obtain rfl := List.mem_singleton.1 q
     refine ⟨by simp, hm, ?_, rfl⟩
     rw [gvnT_snoc, if_pos rfl, gvnT_none h hn]
     rfl
   ·have e : nmG (gs ++ [(x, [x.tree])]) = nmG gs ++ [x.name] := by simp [nmG]
    rw [e]
    rcases List.mem_append.1 hy with hy | hy
    ·exact List.mem_append_left _ (h.all y hy)
    ·rw [List.mem_singleton.1 hy]; simp
 | some j =>
  rw [hp] at hg
  simp only at hg
  cases hm : x.more with
  | false => rw [hm] at hg; simp at hg
  | true =>
   rw [hm] at hg
   simp only [if_true, GRes.ok.injEq] at hg
   subst hg
   obtain ⟨hj, hjn⟩ := posK_some hp
   obtain ⟨q, hq⟩ : ∃ q, gs[j]? = some q := ⟨_, List.getElem?_eq_getElem (by simpa [nmG] using hj)⟩
   have hqn : q.1.name = x.name := by
    unfold nmG at hjn
    rw [List.getElem?_map, hq] at hjn
    simpa using hjn
   have hadd : addG gs j x.tree = gs.set j (q.1, q.2 ++ [x.tree]) := by unfold addG; rw [hq]
   have hnm := nmG_add gs j x.tree
   have hqm := List.mem_of_getElem? hq
   refine ⟨by rw [hnm]; exact h.nd, ?_, fun p hpm => ?_, fun y hy => ?_⟩
   ·have := lenG_set q (q.1, q.2 ++ [x.tree]) gs j hq
    rw [hadd]
    simp only [List.length_append, List.length_singleton] at this ⊢
    have := h.sum
    omega
   ·rw [hadd] at hpm
    obtain ⟨i, hi⟩ := List.getElem?_of_mem hpm
    by_cases e : j = i
    ·subst e
     rw [List.getElem?_set_self (List.getElem?_eq_some_iff.1 hq).1] at hi
     obtain rfl := Option.some.inj hi
     obtain ⟨a1, a2, a3, a4⟩ := h.in_ q hqm
     refine ⟨by simp [a1], a2, ?_, ?_⟩
     ·rw [gvnT_snoc, if_pos hqn.symm, ← a3]
     ·show (q.2 ++ [x.tree])[0]? = _
      rw [List.getElem?_append_left (List.getElem?_eq_some_iff.1 a4).1]
      exact a4
    ·rw [List.getElem?_set_ne e] at hi
     obtain ⟨a1, a2, a3, a4⟩ := h.in_ p (List.mem_of_getElem? hi)
     refine ⟨by simp [a1], a2, ?_, a4⟩
     have : ¬ x.name = p.1.name := fun en => by
      have hd := h.nd
      have h1 := posK_nd hd (j := i) (s := x.name) (by unfold nmG; rw [List.getElem?_map, hi, en]; rfl)
      rw [hp] at h1
      exact e (Option.some.inj h1)
     rw [gvnT_snoc, if_neg this, List.append_nil]
     exact a3
   ·rw [hnm]
    rcases List.mem_append.1 hy with hy | hy
    ·exact h.all y hy
    ·rw [List.mem_singleton.1 hy]; exact List.mem_of_getElem? hjn
theorem gathS_GaR : ∀ {m l : List Ru} {gs gs' : Gs}, GaR l gs → gathS m gs = .ok gs' → GaR (l ++ m) gs'
 | [], l, gs, gs', h, hg => by injection hg with hg; subst hg; simpa using h
 | x :: m, l, gs, gs', h, hg => by
  simp only [gathS] at hg
  cases hs : gstep gs x with
  | bad n e => rw [hs] at hg; cases hg
  | ok g1 =>
   rw [hs] at hg
   have := gathS_GaR (h.step hs) hg
   simpa using this
theorem deepG_all : ∀ {gs : Gs}, deepG gs = none → ∀ p ∈ gs, fitsP 100 (treeG p) = true
 | q :: gs, h, p, hp => by
  rw [deepG] at h
  split at h
  ·rename_i hf
   rcases List.mem_cons.1 hp with rfl | hp
   ·exact hf
   ·exact deepG_all h p hp
  ·cases h
theorem deepG_some : ∀ {gs : Gs} {n : List UInt8}, deepG gs = some n → ∃ p ∈ gs, p.1.name = n
 | q :: gs, n, h => by
  rw [deepG] at h
  split at h
  ·obtain ⟨p, hp, e⟩ := deepG_some h
   exact ⟨p, by simp [hp], e⟩
  ·exact ⟨q, by simp, Option.some.inj h⟩
theorem nam_fits : ∀ {d : Nat} {t : Tr}, fitsP d t = true → ∀ s ∈ namT t, namedP s = true
 | 0, t, h => by simp [fitsP] at h
 | d + 1, t, h => by
  simp only [fitsP, Bool.and_eq_true] at h
  obtain ⟨h1, h3⟩ := h
  intro s hs
  rw [namT_eq] at hs
  split at hs
  ·rename_i e
   obtain rfl := List.mem_singleton.1 hs
   unfold aloneP at h1
   rw [if_pos e] at h1
   simp only [Bool.and_eq_true] at h1
   exact h1.1
  ·obtain ⟨k, hk, hs⟩ := namL_mem.1 hs
   exact nam_fits (List.all_eq_true.1 h3 k hk) s hs
theorem named_ne {s : List UInt8} (h : namedP s = true) : s ≠ [] := by
 rintro rfl
 simp [namedP] at h
mutual
theorem eq_copy : ∀ t : Tr, eqT (copyT t) t = true
 | .mk k s lo hi mn mx f ks => by
  have := eq_copyL ks
  simp [copyT, eqT, this]
theorem eq_copyL : ∀ l : List Tr, eqTs (copyL l) l = true
 | [] => rfl
 | t :: l => by
  have h1 := eq_copy t
  have h2 := eq_copyL l
  simp [copyL, eqTs, h1, h2]
end
structure FineG (l : List Ru) (gs : Gs) : Prop where
 all : l.all gvP = true
 ga : GaR l gs
 gs_ : gathS l [] = .ok gs
 deep : ∀ p ∈ gs, fitsP 100 (treeG p) = true
 cl : Cl (gs.map rowG)
 acyc : ∀ s, ¬ Tg (EdN (gs.map rowG)) s s
theorem gathR_ok {rows : List Ru} {g : List Ru} {n : List UInt8} (hn : (rows.map Ru.name).Nodup) (h : gathR rows = (g, n, 0)) : Cl rows ∧ (∀ s, ¬ Tg (EdN rows) s s) ∧ g = ordR rows ∧ n = [] := by
 unfold gathR at h
 cases hl : lackP (rows.map Ru.name) rows with
 | some s => rw [hl] at h; simp at h
 | none =>
  rw [hl] at h
  simp only at h
  have hc : Cl rows := ⟨hn, lackP_none.1 hl⟩
  cases hp : loopP (nxG rows) rows.length rows 0 with
  | some s => rw [hp] at h; simp at h
  | none =>
   rw [hp] at h
   simp only [Prod.mk.injEq, and_true] at h
   refine ⟨hc, fun s t => ?_, h.1.symm, h.2.symm⟩
   obtain ⟨i, h1, _, h3⟩ := nm_self hc t
   exact absurd h3 (by simpa using (loopP_spec (N := rows.length) (nxG_lt rows) rows 0).1.1 hp i h1)
theorem gathR_err {rows : List Ru} {g : List Ru} {n : List UInt8} {e : Int} (h : gathR rows = (g, n, e)) (he : e ≠ 0) : g = [] ∧ ((e = 32 ∧ lackP (rows.map Ru.name) rows = some n) ∨ (e = 33 ∧ n ∈ rows.map Ru.name)) := by
 unfold gathR at h
 cases hl : lackP (rows.map Ru.name) rows with
 | some s =>
  rw [hl] at h
  simp only [Prod.mk.injEq] at h
  obtain ⟨rfl, rfl, rfl⟩ := h
  exact ⟨rfl, .inl ⟨rfl, rfl⟩⟩
 | none =>
  rw [hl] at h
  simp only at h
  cases hp : loopP (nxG rows) rows.length rows 0 with
  | some s =>
   rw [hp] at h
   simp only [Prod.mk.injEq] at h
   obtain ⟨rfl, rfl, rfl⟩ := h
   obtain ⟨d, x, e1, e2, _⟩ := (loopP_spec (N := rows.length) (nxG_lt rows) rows 0).2 s hp
   exact ⟨rfl, .inr ⟨rfl, List.mem_map.2 ⟨x, List.mem_of_getElem? e1, e2⟩⟩⟩
  | none =>
   rw [hp] at h
   simp only [Prod.mk.injEq] at h
   exact absurd h.2.2.symm he
theorem gathS_bad : ∀ {l : List Ru} {gs : Gs} {n : List UInt8} {e : Int}, gathS l gs = .bad n e → ∃ x ∈ l, x.name = n
 | [], gs, n, e, h => by cases h
 | x :: l, gs, n, e, h => by
  simp only [gathS] at h
  cases hs : gstep gs x with
  | bad n' e' =>
   rw [hs] at h
   injection h with h1 h2
   unfold gstep at hs
   refine ⟨x, by simp, ?_⟩
   split at hs <;> split at hs <;> first | (cases hs; done) | (injection hs with hs _; rw [hs, h1])
  | ok g1 =>
   rw [hs] at h
   obtain ⟨y, hy, e⟩ := gathS_bad h
   exact ⟨y, by simp [hy], e⟩
theorem gatherP_fine {l : List Ru} {g : List Ru} {n : List UInt8} (h : gatherP l = (g, n, 0)) : ∃ gs, FineG l gs ∧ g = ordR (gs.map rowG) ∧ n = [] := by
 unfold gatherP at h
 split at h
 ·rename_i ha
  cases hg : gathS l [] with
  | bad n' e' =>
   rw [hg] at h
   have := gathS_err hg
   simp only [Prod.mk.injEq] at h
   omega
  | ok gs =>
   rw [hg] at h
   simp only at h
   cases hd : deepG gs with
   | some n' => rw [hd] at h; simp at h
   | none =>
    rw [hd] at h
    simp only at h
    have ga : GaR l gs := by simpa using gathS_GaR GaR.nil hg
    obtain ⟨c1, c2, c3, c4⟩ := gathR_ok (by rw [nmG_rows]; exact ga.nd) h
    exact ⟨gs, ⟨ha, ga, hg, deepG_all hd, c1, c2⟩, c3, c4⟩
 ·simp at h
theorem gatherP_err {l : List Ru} {g : List Ru} {n : List UInt8} {e : Int} (h : gatherP l = (g, n, e)) (he : e ≠ 0) : g = [] ∧ (n = [] ↔ e = 2) := by
 unfold gatherP at h
 split at h
 ·rename_i ha
  have nam : ∀ x ∈ l, x.name ≠ [] := fun x hx => named_ne ((gvP_iff x).1 (List.all_eq_true.1 ha x hx)).1
  cases hg : gathS l [] with
  | bad n' e' =>
   rw [hg] at h
   have := gathS_err hg
   simp only [Prod.mk.injEq] at h
   obtain ⟨rfl, rfl, rfl⟩ := h
   obtain ⟨x, hx, ex⟩ := gathS_bad hg
   have := nam x hx
   exact ⟨rfl, ⟨fun e => absurd (ex.trans e) this, fun e => by omega⟩⟩
  | ok gs =>
   rw [hg] at h
   simp only at h
   have ga : GaR l gs := by simpa using gathS_GaR GaR.nil hg
   cases hd : deepG gs with
   | some n' =>
    rw [hd] at h
    simp only [Prod.mk.injEq] at h
    obtain ⟨rfl, rfl, rfl⟩ := h
    obtain ⟨p, hp, ep⟩ := deepG_some hd
    have := nam _ (ga.in_ p hp).1
    exact ⟨rfl, ⟨fun e => absurd (ep.trans e) this, fun e => by omega⟩⟩
   | none =>
    rw [hd] at h
    simp only at h
    obtain ⟨rfl, h2⟩ := gathR_err h he
    refine ⟨rfl, ?_⟩
    rcases h2 with ⟨rfl, h2⟩ | ⟨rfl, h2⟩
    ·obtain ⟨_, x, hx, hs⟩ := lackP_some h2
     obtain ⟨p, hp, rfl⟩ := List.mem_map.1 hx
     have := named_ne (nam_fits (deepG_all hd p hp) _ hs)
     exact ⟨fun e => absurd e this, fun e => by omega⟩
    ·rw [nmG_rows] at h2
     obtain ⟨p, hp, rfl⟩ := List.mem_map.1 h2
     have := nam _ (ga.in_ p hp).1
     exact ⟨fun e => absurd e this, fun e => by omega⟩
 ·simp only [Prod.mk.injEq] at h
  obtain ⟨rfl, rfl, rfl⟩ := h
  exact ⟨rfl, by simp⟩
section
variable {l : List Ru} {gs : Gs} (h : FineG l gs)
include h
theorem FineG.right : rightG (ordR (gs.map rowG)) [] = true := ordR_right h.cl h.acyc fun x hx => by
 obtain ⟨p, hp, rfl⟩ := List.mem_map.1 hx
 obtain ⟨a1, a2, _⟩ := h.ga.in_ p hp
 exact ⟨a2, copy_gv ((gvP_iff _).2 ⟨((gvP_iff _).1 (List.all_eq_true.1 h.all _ a1)).1, h.deep p hp⟩)⟩
theorem FineG.mem {x : Ru} (hx : x ∈ ordR (gs.map rowG)) : ∃ p ∈ gs, x = copyR (rowG p) := by
 obtain ⟨y, hy, rfl⟩ := (ordR_mem h.cl h.acyc).1 hx
 obtain ⟨p, hp, rfl⟩ := List.mem_map.1 hy
 exact ⟨p, hp, rfl⟩
def wantT (ts : List Tr) : Tr := if ts.length = 1 then (ts[0]?).getD zeroT else orT ts
theorem FineG.tree {x : Ru} (hx : x ∈ ordR (gs.map rowG)) : gvnT l x.name ≠ [] ∧ x.more = false ∧ eqT x.tree (wantT (gvnT l x.name)) = true := by
 obtain ⟨p, hp, rfl⟩ := h.mem hx
 obtain ⟨a1, a2, a3, a4⟩ := h.ga.in_ p hp
 have e : gvnT l (copyR (rowG p)).name = p.2 := a3.symm
 rw [e]
 refine ⟨fun e => by rw [e] at a4; simp at a4, a2, ?_⟩
 show eqT (copyT (treeG p)) _ = true
 unfold wantT treeG
 by_cases hl : p.2.length = 1
 ·rw [if_pos hl, if_neg (by omega), a4]
  exact eq_copy _
 ·have : 1 < p.2.length := by
   have := (List.getElem?_eq_some_iff.1 a4).1
   omega
  rw [if_neg hl, if_pos this]
  exact eq_copy _
theorem FineG.led {i : Nat} {x : Ru} (hx : (ordR (gs.map rowG))[i]? = some x) : (leadsP (ordR (gs.map rowG)) x.name).2 = true ∧ ∀ s ∈ (leadsP (ordR (gs.map rowG)) x.name).1, s ∈ ((ordR (gs.map rowG)).take i).map Ru.name := by
 generalize hg : ordR (gs.map rowG) = g at *
 have hr : rightG g [] = true := by rw [← hg]; exact h.right
 obtain ⟨l1, l2⟩ := leads_spec hr (s := x.name) (List.mem_map_of_mem (List.mem_of_getElem? hx))
 refine ⟨l1, fun s hs => ?_⟩
 have hcl := right_cl hr
 obtain ⟨j, j1, j2, j3⟩ := nm_tg hcl.1 ((l2 s).1 hs) i (List.getElem?_eq_some_iff.1 hx).1 (nmI_at hx)
 have lt : ∀ {i j}, Tg (EdI (nxG g)) i j → j < i := by
  intro i j t
  induction t with
  | one e => exact hcl.2 _ _ e
  | step e _ ih => have := hcl.2 _ _ e; omega
 have := lt j3
 refine List.mem_map.2 ⟨g[j], ?_, ?_⟩
 ·rw [List.mem_iff_getElem?]
  exact ⟨j, by rw [List.getElem?_take_of_lt this, List.getElem?_eq_getElem j1]⟩
 ·rw [← j2]
  exact (nmI_at (List.getElem?_eq_getElem j1)).symm
theorem FineG.len : (ordR (gs.map rowG)).length = gs.length := by
 rw [ordR_len h.cl h.acyc, List.length_map]
theorem FineG.new {i : Nat} {x : Ru} (hx : (ordR (gs.map rowG))[i]? = some x) : x.name ∉ ((ordR (gs.map rowG)).take i).map Ru.name := by simpa using rightG_new h.right hx
theorem FineG.names : ((ordR (gs.map rowG)).map Ru.name).Perm (nmG gs) := by
 have hn := (right_cl h.right).1.nd
 rw [List.perm_ext_iff_of_nodup hn h.ga.nd]
 intro s
 constructor
 ·intro hs
  obtain ⟨x, hx, rfl⟩ := List.mem_map.1 hs
  obtain ⟨p, hp, rfl⟩ := h.mem hx
  exact List.mem_map_of_mem (f := fun p : Ru × List Tr => p.1.name) hp
 ·intro hs
  obtain ⟨p, hp, rfl⟩ := List.mem_map.1 hs
  exact List.mem_map.2 ⟨copyR (rowG p), (ordR_mem h.cl h.acyc).2 ⟨rowG p, List.mem_map_of_mem hp, rfl⟩, rfl⟩
theorem FineG.sum : ((ordR (gs.map rowG)).map fun x => (gvnT l x.name).length).sum = l.length := by
 have h1 := (h.names.map fun s => (gvnT l s).length).sum_nat
 rw [List.map_map] at h1
 have h2 : ((nmG gs).map fun s => (gvnT l s).length).sum = lenG gs := by
  have key : ∀ gs : Gs, (∀ p ∈ gs, p.2 = gvnT l p.1.name) → ((nmG gs).map fun s => (gvnT l s).length).sum = lenG gs := by
   intro gs
   induction gs with
   | nil => intro _; rfl
   | cons p gs ih =>
    intro hh
    have := ih fun q hq => hh q (by simp [hq])
    unfold nmG at this ⊢
    simp only [List.map_cons, List.sum_cons, lenG]
    rw [this, ← hh p (by simp)]
  exact key gs fun p hp => (h.ga.in_ p hp).2.2.1
 rw [← h.ga.sum, ← h2]
 exact h1
end
def rowN (u : List Nat) : AV := .list 1 (u.map fun j => .int .u16 (j : Nat)) .no
set_option maxRecDepth 100000 in
theorem arg_nums {n : Nat} {x : AV} (h : HasE Tryz.prog (Has Tryz.prog n) 53 x) : ∃ U : List Nat, x = .list 1 (U.map fun j => .int .u16 (j : Nat)) .no ∧ (∀ j ∈ U, j ≤ 65535) ∧ U.length ≤ maxLen := by
 obtain ⟨xs, m, rfl, h1, h2⟩ := has_slice Tryz.underlying53 h
 obtain ⟨U, rfl, hU⟩ := choose_list' (p := fun j : Nat => AV.int .u16 (j : Nat)) (q := fun j : Nat => j ≤ 65535) fun x hx => has_u16 Tryz.underlying107 (h2 x hx)
 have hc : Tryz.prog.cellsOf 107 = 1 := by kernel_rfl
 rw [hc]
 exact ⟨U, rfl, hU, by simpa using h1⟩
set_option maxRecDepth 100000 in
theorem arg_rows {n : Nat} {x : AV} (h : HasE Tryz.prog (Has Tryz.prog n) 23 x) : ∃ U : List (List Nat), x = .list 1 (U.map rowN) .no ∧ (∀ u ∈ U, (∀ j ∈ u, j ≤ 65535) ∧ u.length ≤ maxLen) ∧ U.length ≤ maxLen := by
 obtain ⟨xs, m, rfl, h1, h2⟩ := has_slice Tryz.underlying23 h
 obtain ⟨U, rfl, hU⟩ := choose_list' (p := rowN) (q := fun u : List Nat => (∀ j ∈ u, j ≤ 65535) ∧ u.length ≤ maxLen) fun x hx => by
  obtain ⟨u, e, hu, hl⟩ := arg_nums (h2 x hx)
  exact ⟨u, e, hu, hl⟩
 have hc : Tryz.prog.cellsOf 53 = 1 := by kernel_rfl
 rw [hc]
 exact ⟨U, rfl, hU, by simpa using h1⟩
theorem copy_wtN : ∀ (n : Nat) (t : Tr), t.size ≤ n → (copyT t).wt = t.wt
 | 0, t, h => by cases t; simp [Tr.size] at h
 | n + 1, t, h => by
  have hk : ∀ l : List Tr, (∀ k ∈ l, (copyT k).wt = k.wt) → wts (l.map copyT) = wts l := by
   intro l
   induction l with
   | nil => intro _; simp [wts]
   | cons a l ih =>
    intro hl
    have h1 := hl a (by simp)
    have h2 := ih fun k hk => hl k (by simp [hk])
    simp only [List.map_cons, wts]
    omega
  have h1 := hk t.kids fun k hk => copy_wtN n k (by have := Tr.size_kid hk; omega)
  cases t with
  | mk k s lo hi mn mx f ks =>
   rw [wt_eq, wt_eq (Tr.mk k s lo hi mn mx f ks)]
   simp only [copyT, copyL_map, Tr.s, Tr.kids] at h1 ⊢
   omega
theorem copy_wt (t : Tr) : (copyT t).wt = t.wt := copy_wtN _ t (Nat.le_refl _)
theorem elems_rows : ∀ rows : List Ru, elems true 10 (rows.flatMap ruL) rows.length = rows.map ruA
 | [] => rfl
 | x :: l => by
  have h10 : (ruL x).length = 10 := by simp [ruL, Tr.encL_eq]
  simp only [List.flatMap_cons, List.length_cons, elems, List.map_cons, if_true]
  rw [List.take_left' h10, List.drop_left' h10, elems_rows l]
  rfl
theorem onO_frz {H : Heap} {key gb : Nat} {e : TypeId} {rows : List Ru} {f : AV → Heap → Prop} (hg : H[gb]? = some (.grow 10 (rows.flatMap ruL))) (hf : f (.list 10 (rows.map ruA) (.tok key)) ((H.set gb .dead).set key (.tok 10 rows.length e))) : onO (frzA H key 10 e (.gl 10 gb rows.length)) f := by
 have hfl := flat_ru rows
 have : frzA H key 10 e (.gl 10 gb rows.length) = some (.list 10 (rows.map ruA) (.tok key), (H.set gb .dead).set key (.tok 10 rows.length e)) := by
  simp only [frzA, hg]
  rw [if_pos ⟨trivial, trivial, by omega, by omega⟩, elems_rows]
 rw [this, onO_some]
 exact hf
@[simp] theorem frzA_list (h : Heap) (k sz : Nat) (e : TypeId) (s : Nat) (xs : List AV) (r : Rt) : frzA h k sz e (.list s xs r) = some (.list s xs r, h) := rfl
theorem names_ok (h0 : Heap) : M.call 30 [] h0 = some (.list 1 (gnames.map AV.str) .full, h0) := by
 refine call_of tab30 rfl (callF_wp ?_)
 simp [wB30, gnames]
def InvGr (A : List (List Nat)) (ra : Rt) (h0 : Heap) (k : Nat) (σ : Slots) (h : Heap) : Prop := ∃ (i : Nat) (l : List Ru) (gb : Nat), i ≤ A.length ∧ k = A.length - i ∧ GrR l ∧ l.length = (if i = 0 then 1 else i) ∧ h.take h0.length = h0 ∧ h0.length ≤ gb ∧ h[gb]? = some (.grow 10 (l.flatMap ruL)) ∧
 σ 3 = .list 1 (gnames.map AV.str) .full ∧ σ 4 = .gl 10 gb l.length ∧ σ 21 = .list 1 (A.map rowN) ra ∧ σ 22 = .int .i64 (A.length : Nat) ∧ σ 23 = .int .i64 (i : Nat)
theorem grules_ok (A : List (List Nat)) (r : Rt) (hA : ∀ u ∈ A, (∀ j ∈ u, j ≤ 65535) ∧ u.length ≤ 9223372036854775807) (hAl : A.length ≤ 9223372036854775807) (h0 : Heap) :
  ∃ l t q, GrR l ∧ M.call 10 [.list 1 (A.map rowN) r] h0 = some (.list 10 (l.map ruA) (.tok t), h0 ++ q) ∧ (h0 ++ q)[t]? = some (.tok 10 l.length 38) ∧ h0.length ≤ t := by
 obtain ⟨v, h', e, l, t, g1, rfl, g2, g3, g4⟩ : ∃ v h', M.call 10 [.list 1 (A.map rowN) r] h0 = some (v, h') ∧ ∃ l t, GrR l ∧ v = .list 10 (l.map ruA) (.tok t) ∧ h'.take h0.length = h0 ∧ h'[t]? = some (.tok 10 l.length 38) ∧ h0.length ≤ t := by
  refine call_postK tab10 rfl ?_
  generalize hQ : (fun e σ h => isEnd e ∧ ∃ vs, resVals σ h _ = some vs ∧ ∃ l t, GrR l ∧ oneOf vs = .list 10 (l.map ruA) (.tok t) ∧ h.take h0.length = h0 ∧ h[t]? = some (.tok 10 l.length 38) ∧ h0.length ≤ t) = Q
  have L : ∀ (B : List (List Nat)) (rb : Rt) (σ : Slots) (g : Heap), B.length ≤ 8 → (∀ u ∈ B, (∀ j ∈ u, j ≤ 65535) ∧ u.length ≤ 9223372036854775807) → InvGr B rb h0 B.length σ g → Wp M (.loop L10_0) (blkQ 0 (thenQ (Wp M K10_0 Q) Q)) σ g := by
   intro B rb σ g hB8 hB hI
   refine Wp.loop (InvGr B rb h0) ?_ (n := B.length) hI
   clear hI σ g
   rintro k σ g ⟨i, l, gb, hi, rfl, hl, hll, hg, hgb, hrow, s3, s4, s21, s22, s23⟩
   have hlen : h0.length ≤ g.length := by
    have := congrArg List.length hg
    simp at this
    omega
   have hgbl := lt_of_get hrow
   by_cases hlt : i < B.length
   ·obtain ⟨u, hu⟩ : ∃ u, B[i]? = some u := ⟨_, List.getElem?_eq_getElem hlt⟩
    obtain ⟨hu1, hu2⟩ := hB u (List.mem_of_getElem? hu)
    have hltI : (i : Int) < B.length := by omega
    have hadd : IntKind.wrap .i64 ((i : Int) + 1) = ((i + 1 : Nat) : Int) := by rw [wrap64 (by omega) (by omega)]; rfl
    have hrc : (rowN u).cells = [rowN u] := rfl
    have hi8 : i < 8 := by omega
    have hi8I : (i : Int) ≤ 8 := by omega
    have hi8n : ¬ i = 8 := by omega
    obtain ⟨nmi, hnm⟩ : ∃ s, gnames[i]? = some s := ⟨_, List.getElem?_eq_getElem hi8⟩
    have hnl : gnames.length = 8 := rfl
    obtain ⟨t, e1, e2, e3⟩ := grown_okN u hu2 hu1 .no (gnames.take i) .no (by simp; omega) (fun s hs => gnames_ok s (List.mem_of_mem_take hs)) (g ++ [.dead]) (fun t h => by cases h) (fun t h => by cases h)
    have e1' : M.call 23 [rowN u, .list 1 (List.map AV.str (gnames.take i)) .no] (g ++ [.dead]) = some (t.enc, g ++ [.dead]) := e1
    by_cases hi0 : i = 0
    ·subst hi0
     simp at e1'
     obtain ⟨x0, rfl⟩ : ∃ x0, l = [x0] := List.length_eq_one_iff.1 (by simpa using hll)
     have hrow' : ∀ q, (g ++ q)[gb]? = some (.grow 10 (ruL x0)) := fun q => by have := get_left hrow q; simpa using this
     have h10 : (ruL x0).length = 10 := by simp [ruL, Tr.encL_eq]
     simp [-getElem?_pos, -Int.natCast_add, wL10_0, s3, s4, s21, s22, s23, hltI, hlt, hu, hrc, hnm, hnl, e1', hrow', h10]
     have w1 : IntKind.wrap .i64 1 = 1 := by decide
     have hd : (ruL x0).drop 10 = [] := List.drop_of_length_le (by omega)
     have gr' : GrR [⟨nmi, 0, false, t⟩] := ⟨by simp, by simp, fun j x hx => by
      cases j with
      | zero => obtain rfl : _ = x := Option.some.inj hx; exact ⟨hnm, rfl, rfl, e2⟩
      | succ j => simp at hx⟩
     refine ⟨B.length - 1, by omega, 1, _, gb, by omega, rfl, gr', by simp, ?_, hgb, ?_, by simp [s3], by simp [s4], by simp [s21], by simp [s22], by simp [w1]⟩
     ·rw [take_set hgb, List.take_append_of_le_length hlen]
      exact hg
     ·rw [get_set_eq (by simp; omega), hd]
      simp [ruL]
    ·have hi0I : ¬ (i : Int) = 0 := by omega
     simp [-getElem?_pos, -Int.natCast_add, wL10_0, s3, s4, s21, s22, s23, hltI, hlt, hu, hrc, hnm, hnl, hi8I, hi8n, ← List.map_take, e1', hi0, hi0I]
     rw [← appM_gl]
     have hli : l.length = i := by rw [hll, if_neg hi0]
     refine onO_appM (rows := l) (n := h0.length) (x := ⟨nmi, 0, false, t⟩) (.inr ⟨gb, hgb, rfl, get_left hrow _⟩) (by omega) (by simp) (by omega) fun H' b1 b2 b3 b4 => ?_
     rcases b1 with ⟨b1, _⟩ | ⟨gb', c1, c2, c3⟩
     ·simp at b1
     have gr' : GrR (l ++ [⟨nmi, 0, false, t⟩]) := ⟨by simp, by simp; omega, fun j x hx => by
      by_cases hj : j < l.length
      ·rw [List.getElem?_append_left hj] at hx
       exact hl.at_ j x hx
      ·have hjl : j = l.length := by
        have := (List.getElem?_eq_some_iff.1 hx).1
        simp at this
        omega
       subst hjl
       rw [List.getElem?_append_right (Nat.le_refl _)] at hx
       simp at hx
       subst hx
       rw [hli]
       exact ⟨hnm, rfl, rfl, e2⟩⟩
     simp [-getElem?_pos, -Int.natCast_add, s23, hadd]
     refine ⟨B.length - (i + 1), by omega, i + 1, _, gb', by omega, rfl, gr', by simp [hli], ?_, c1, c3, by simp [s3], by simp [c2], by simp [s21], by simp [s22], by simp⟩
     rw [b4, List.take_append_of_le_length hlen]
     exact hg
   ·have hle : i = B.length := by omega
    have hltI : ¬ (i : Int) < B.length := by omega
    simp [-getElem?_pos, -Int.natCast_add, wL10_0, wK10_0, s3, s4, s21, s22, s23, hltI, hlt]
    refine onO_frz (get_left hrow _) ?_
    simp [-getElem?_pos, -Int.natCast_add]
    subst hQ
    simp
    refine ⟨l, hl, _, ⟨rfl, rfl⟩, ?_, get_set_eq (by simp), by omega⟩
    rw [take_set hlen, take_set hgb, List.take_append_of_le_length hlen]
    exact hg
  have hn0 : gnames[0]? = some [97] := rfl
  have hnl : gnames.length = 8 := rfl
  obtain ⟨t0, e1, e2, e3⟩ := grown_okN [] (by simp) (by simp) .full [] .full (by simp) (by simp) (h0 ++ [.dead]) (fun t h => by cases h) (fun t h => by cases h)
  have e1' : M.call 23 [.list 1 [] .full, .list 1 [] .full] (h0 ++ [.dead]) = some (t0.enc, h0 ++ [.dead]) := e1
  have gr0 : GrR [⟨[97], 0, false, t0⟩] := ⟨by simp, by simp, fun i x hx => by
   cases i with
   | zero => obtain rfl : _ = x := Option.some.inj hx; exact ⟨rfl, rfl, rfl, e2⟩
   | succ i => simp at hx⟩
  have st : h0 ++ [AE.grow 10 (AV.str [97] :: AV.int IntKind.i64 0 :: AV.bool false :: t0.encL)] = h0 ++ [AE.grow 10 ([(⟨[97], 0, false, t0⟩ : Ru)].flatMap ruL)] := by simp [ruL]
  by_cases c : 8 < A.length
  ·have cI : (8 : Int) < A.length := by omega
   have c1 : (8 : Int) ≤ A.length := by omega
   have c2 : ¬ 8 = A.length := by omega
   simp [-getElem?_pos, -Int.natCast_add, wB10, names_ok, e1', hn0, hnl, c, cI, c1, c2]
   refine L (A.take 8) .no _ _ (by simp; omega) (fun u hu => hA u (List.mem_of_mem_take hu)) ⟨0, _, h0.length, by omega, by simp, gr0, by simp, by simp, by omega, by rw [st]; simp, by simp, by simp, by simp [List.map_take], ?_, by simp⟩
   have : min 8 A.length = 8 := by omega
   simp [this]
  ·have cI : ¬ (8 : Int) < A.length := by omega
   simp [-getElem?_pos, -Int.natCast_add, wB10, names_ok, e1', hn0, hnl, c, cI]
   refine L A r _ _ (by omega) hA ⟨0, _, h0.length, by omega, by simp, gr0, by simp, by simp, by omega, by rw [st]; simp, by simp, by simp, ?_, by simp, by simp⟩
   have : (A.map rowN).take A.length = A.map rowN := List.take_of_length_le (by simp)
   simp [this]
 have hh : h0 ++ h'.drop h0.length = h' := by
  have := List.take_append_drop h0.length h'
  rwa [g2] at this
 exact ⟨l, t, h'.drop h0.length, g1, by rw [hh]; exact e, by rw [hh]; exact g3, g4⟩
theorem nodes60_ok (t : Tr) (ht : TOk t) (h0 : Heap) : M.call 27 [t.enc, .int .i64 60] h0 = some (.int .i64 (ndT t 60 0), h0) := by
 refine call_of tab27 rfl (callF_wp ?_)
 have := nodes_okN t.size t (Nat.le_refl _) ht 60 0 (by omega) (by omega) (by omega) (by omega)
 simp [wB27, this, Nat.add_assoc]
def fewP : List Ru → Nat → Bool
 | [], _ => true
 | x :: l, i => if 12 ≤ i ∨ ndT x.tree 60 0 > 60 then false else fewP l (i + 1)
def InvFw (l : List Ru) (r : Rt) (h0 : Heap) (R : Bool) (k : Nat) (σ : Slots) (h : Heap) : Prop := ∃ i, i ≤ l.length ∧ k = l.length - i ∧ fewP (l.drop i) i = R ∧ h.take h0.length = h0 ∧ σ 5 = .list 10 (l.map ruA) r ∧ σ 6 = .int .i64 (l.length : Nat) ∧ σ 7 = .int .i64 (i : Nat)
theorem few_ok (l : List Ru) (r : Rt) (hl : l.length ≤ 1000000) (hx : ∀ x ∈ l, TOk x.tree) (h0 : Heap) : M.call 8 [.list 10 (l.map ruA) r] h0 = some (.bool (fewP l 0), h0) := by
 refine call_of tab8 rfl (callF_wp ?_)
 obtain ⟨R, hR⟩ : ∃ R, fewP l 0 = R := ⟨_, rfl⟩
 rw [hR]
 simp [-getElem?_pos, -Int.natCast_add, wB8]
 refine Wp.loop (InvFw l r h0 R) ?_ (n := l.length) ⟨0, Nat.zero_le _, rfl, hR, by simp, by simp, by simp, by simp⟩
 rintro k σ h ⟨i, hi, rfl, hr, hh, s5, s6, s7⟩
 have hlen : h0.length ≤ h.length := by
  have := congrArg List.length hh
  simp at this
  omega
 have ht : ∀ q, (h ++ q).take h0.length = h0 := fun q => by rw [List.take_append_of_le_length hlen]; exact hh
 by_cases hlt : i < l.length
 ·obtain ⟨x, hxi⟩ : ∃ x, l[i]? = some x := ⟨_, List.getElem?_eq_getElem hlt⟩
  have hltI : (i : Int) < l.length := by omega
  have hadd : IntKind.wrap .i64 ((i : Int) + 1) = ((i + 1 : Nat) : Int) := by rw [wrap64 (by omega) (by omega)]; rfl
  have hdr : l.drop i = x :: l.drop (i + 1) := by
   rw [List.drop_eq_getElem_cons hlt]
   congr 1
   rw [List.getElem?_eq_getElem hlt] at hxi
   exact Option.some.inj hxi
  rw [hdr, fewP] at hr
  have nd := nodes60_ok x.tree (hx x (List.mem_of_getElem? hxi))
  by_cases c1 : 12 ≤ i
  ·have c1' : (12 : Int) ≤ i := by omega
   rw [if_pos (.inl c1)] at hr
   subst hr
   simp [-getElem?_pos, -Int.natCast_add, wL8_0, s5, s6, s7, hlt, hltI, hxi, ruA_cells, ruL_take, ruL_agg, ruL_tree, c1, c1']
   rw [finish_of_take (ht _)]
   simp
  ·have c1' : ¬ (12 : Int) ≤ i := by omega
   by_cases c2 : ndT x.tree 60 0 > 60
   ·rw [if_pos (.inr c2)] at hr
    subst hr
    have c2' : (60 : Int) < ndT x.tree 60 0 := by omega
    simp [-getElem?_pos, -Int.natCast_add, wL8_0, s5, s6, s7, hlt, hltI, hxi, ruA_cells, ruL_take, ruL_agg, ruL_tree, enc_agg, enc_cells, encL_take, c1, c1', nd, c2']
    rw [finish_of_take (ht _)]
    simp
   ·rw [if_neg (fun q => q.elim c1 c2)] at hr
    have c2' : ¬ (60 : Int) < ndT x.tree 60 0 := by omega
    simp [-getElem?_pos, -Int.natCast_add, wL8_0, s5, s6, s7, hlt, hltI, hxi, ruA_cells, ruL_take, ruL_agg, ruL_tree, enc_agg, enc_cells, encL_take, c1, c1', nd, c2', hadd]
    exact ⟨l.length - (i + 1), by omega, i + 1, by omega, rfl, hr, ht _, by simp [s5], by simp [s6], by simp⟩
 ·have hltI : ¬ (i : Int) < l.length := by omega
  have hdr : l.drop i = [] := List.drop_of_length_le (by omega)
  rw [hdr, fewP] at hr
  subst hr
  simp [-getElem?_pos, -Int.natCast_add, wL8_0, wK8_0, s5, s6, s7, hlt, hltI]
  rw [finish_of_take hh]
  simp
def InvGv (l : List Ru) (r : Rt) (s : List UInt8) (h0 : Heap) (k : Nat) (σ : Slots) (h : Heap) : Prop := ∃ i q, i ≤ l.length ∧ k = l.length - i ∧ h.take h0.length = h0 ∧ σ 1 = .str s ∧ σ 8 = .list 10 (l.map ruA) r ∧ σ 9 = .int .i64 (l.length : Nat) ∧ σ 10 = .int .i64 (i : Nat) ∧ σ 5 = .list 7 ((gvnT (l.take i) s).map Tr.enc) q ∧ Ow h0.length h 7 36 q (gvnT (l.take i) s).length
theorem gvnT_len (l : List Ru) (s : List UInt8) : (gvnT l s).length ≤ l.length := by
 unfold gvnT
 rw [List.length_map]
 exact List.length_filter_le _ _
theorem givenT_ok (l : List Ru) (r : Rt) (s : List UInt8) (hl : l.length ≤ 1000000) (h0 : Heap) : ∃ b, M.call 21 [.list 10 (l.map ruA) r, .str s] h0 = some (.list 7 ((gvnT l s).map Tr.enc) (rtB b), h0) := by
 suffices key : ∃ x, M.call 21 [.list 10 (l.map ruA) r, .str s] h0 = some x ∧ ∃ b, x = (.list 7 ((gvnT l s).map Tr.enc) (rtB b), h0) by
  obtain ⟨x, e, b, rfl⟩ := key
  exact ⟨b, e⟩
 refine call_post tab21 rfl ?_
 generalize hQ : (fun e σ h => isEnd e ∧ ∃ vs, resVals σ h _ = some vs ∧ ∃ x, finish h0 h (oneOf vs) = some x ∧ ∃ b, x = (.list 7 ((gvnT l s).map Tr.enc) (rtB b), h0)) = Q
 have hlow : ∀ ts : List Tr, AV.lows h0.length (ts.map Tr.enc) := fun ts => trs_low _ ts
 have fin : ∀ (σ : Slots) (h : Heap) (q : Rt), h.take h0.length = h0 → (q = .full ∨ ∃ u, q = .tok u ∧ h0.length ≤ u) → σ 4 = .list 7 ((gvnT l s).map Tr.enc) q → Q .ret σ h := by
  intro σ h q e1 e3 e4
  subst hQ
  have hlow' := hlow (gvnT l s)
  generalize (gvnT l s).map Tr.enc = xs at *
  rcases e3 with rfl | ⟨u, rfl, hu⟩
  ·simp [e4]
   rw [finish_of_take e1]
   simp [clean, clean2, clean1, hlow', AV.low]
   exact ⟨_, _, ⟨rfl, rfl⟩, .inr ⟨rfl, rfl⟩⟩
  ·have hu' : ¬ u < h0.length := by omega
   simp [e4]
   rw [finish_of_take e1]
   simp [clean, clean2, clean1, hlow', AV.low, hu']
   exact ⟨_, _, ⟨rfl, rfl⟩, .inl ⟨rfl, rfl⟩⟩
 simp [-getElem?_pos, -Int.natCast_add, wB21]
 refine Wp.loop (InvGv l r s h0) ?_ (n := l.length) ⟨0, .full, Nat.zero_le _, rfl, by simp, by simp, by simp, by simp, by simp, by simp [gvnT], .inl rfl⟩
 rintro k σ g ⟨i, q, hi, rfl, hg, s1, s8, s9, s10, s5, how⟩
 have hgl : h0.length ≤ g.length := by
  have := congrArg List.length hg
  simp at this
  omega
 by_cases hlt : i < l.length
 ·obtain ⟨x, hxi⟩ : ∃ x, l[i]? = some x := ⟨_, List.getElem?_eq_getElem hlt⟩
  have hltI : (i : Int) < l.length := by omega
  have hadd : IntKind.wrap .i64 ((i : Int) + 1) = ((i + 1 : Nat) : Int) := by rw [wrap64 (by omega) (by omega)]; rfl
  have htk : l.take (i + 1) = l.take i ++ [x] := by rw [List.take_add_one, hxi]; rfl
  have hsn := gvnT_snoc (l.take i) x s
  rw [← htk] at hsn
  have hll := gvnT_len (l.take i) s
  rw [List.length_take] at hll
  by_cases c : x.name = s
  ·rw [if_pos c] at hsn
   have hm : (gvnT (l.take i) s).map Tr.enc ++ [x.tree.enc] = (gvnT (l.take (i + 1)) s).map Tr.enc := by rw [hsn]; simp
   have hln : (gvnT (l.take i) s).length + 1 = (gvnT (l.take (i + 1)) s).length := by rw [hsn]; simp
   simp [-getElem?_pos, -Int.natCast_add, wL21_0, s1, s8, s9, s10, s5, hltI, hlt, hxi, ruA_cells, ruL_take, ruL_agg, ruL_name, ruL_tree, enc_agg, enc_cells, encL_take, c, hadd]
   refine onO_app (n0 := h0.length) (by simpa using how.app _) (by omega) (by simp) (by simp; omega) (by simp; omega) (fun r' H' o1 o2 => ?_)
   rw [hm]
   have o3 : H'.take h0.length = h0 := by rw [o2.take, List.take_append_of_le_length hgl]; exact hg
   simp [-getElem?_pos, -Int.natCast_add, s10, hadd]
   refine ⟨l.length - (i + 1), by omega, i + 1, r', by omega, rfl, o3, by simp [s1], by simp [s8], by simp [s9], by simp, by simp, ?_⟩
   rw [← hln]
   simpa using o1
  ·rw [if_neg c, List.append_nil] at hsn
   simp [-getElem?_pos, -Int.natCast_add, wL21_0, s1, s8, s9, s10, s5, hltI, hlt, hxi, ruA_cells, ruL_take, ruL_agg, ruL_name, c, hadd]
   refine ⟨l.length - (i + 1), by omega, i + 1, q, by omega, rfl, by rw [List.take_append_of_le_length hgl]; exact hg, by simp [s1], by simp [s8], by simp [s9], by simp, by simp [s5, hsn], ?_⟩
   rw [hsn]
   exact how.app _
 ·have hltI : ¬ (i : Int) < l.length := by omega
  have hle : i = l.length := by omega
  subst hle
  rw [List.take_length] at s5
  simp [-getElem?_pos, -Int.natCast_add, wL21_0, wK21_0, s8, s9, s10, hltI]
  refine fin _ _ q hg ?_ (by simp [s5])
  rcases how with rfl | ⟨u, rfl, hu, _⟩
  ·exact .inl rfl
  ·exact .inr ⟨u, rfl, hu⟩
theorem led_len' (l : List Ru) (s : List UInt8) : (leadsP l s).1.length ≤ l.length := by
 have key : ∀ (rows : List Ru) (a : Nat) (been : List Bool) (l : List Ru) (i : Nat), (ledP rows a been i l).length ≤ l.length := by
  intro rows a been l
  induction l with
  | nil => intro i; simp [ledP]
  | cons x l ih =>
   intro i
   have := ih (i + 1)
   rw [ledP]
   split <;> simp <;> omega
 unfold leadsP
 split
 ·exact key _ _ _ _ _
 ·simp
def keys1 (l : List (List UInt8)) : List (AV × AV) := l.map fun s => (.str s, .int .i64 1)
theorem find_keys1 (s : List UInt8) : ∀ (l : List (List UInt8)) (i : Nat), mapFind (.str s) (keys1 l) i = some ((posK s l).map fun j => (i + j, .int .i64 1))
 | [], i => rfl
 | x :: l, i => by
  simp only [keys1, List.map_cons, mapFind, keyEq, posK]
  by_cases h : x = s
  ·subst h
   simp
  ·have hb : (s == x) = false := by simpa using fun e : s = x => h e.symm
   rw [hb, if_neg h]
   simp only
   have := find_keys1 s l (i + 1)
   unfold keys1 at this
   rw [this]
   cases posK s l with
   | none => rfl
   | some j =>
    simp only [Option.map_some, Option.some.injEq, Prod.mk.injEq, and_true]
    omega
def sumL (x : List Ru) (g : List Ru) : Nat := (g.map fun y => (gvnT x y.name).length).sum
theorem sumL_snoc (x g : List Ru) (y : Ru) : sumL x (g ++ [y]) = sumL x g + (gvnT x y.name).length := by simp [sumL]
def orF (b : Bool) (ts : List Tr) : Tr := .mk 6 [] 0 0 0 0 b ts
theorem eqT_orF (a : Tr) (b c : Bool) (ts : List Tr) : eqT a (.mk 6 [] 0 0 0 0 b ts) = eqT a (.mk 6 [] 0 0 0 0 c ts) := by
 cases a; rfl
def InvFi (led : List (List UInt8)) (rl : Rt) (m : Nat) (nms : List (List UInt8)) (H : Heap) (S : Slots) (k : Nat) (σ : Slots) (h : Heap) : Prop := ∃ i, i ≤ led.length ∧ k = led.length - i ∧ h = H ∧ σ 10 = .map m ∧ σ 122 = .list 1 (led.map AV.str) rl ∧ σ 123 = .int .i64 (led.length : Nat) ∧ σ 124 = .int .i64 (i : Nat) ∧
 σ 6 = S 6 ∧ σ 7 = S 7 ∧ σ 11 = S 11 ∧ σ 13 = S 13 ∧ σ 34 = S 34 ∧ σ 35 = S 35 ∧ σ 36 = S 36 ∧ σ 68 = S 68 ∧ σ 69 = S 69 ∧ σ 70 = S 70
theorem front_led (led : List (List UInt8)) (rl : Rt) (m : Nat) (nms : List (List UInt8)) (H : Heap) (S : Slots) (hl : led.length ≤ 1000000) (hm : H[m]? = some (.amap (keys1 nms))) (hin : ∀ s ∈ led, s ∈ nms) (Q : Ex → Slots → Heap → Prop)
  (hQ : ∀ σ, σ 10 = .map m → σ 6 = S 6 → σ 7 = S 7 → σ 11 = S 11 → σ 13 = S 13 → σ 34 = S 34 → σ 35 = S 35 → σ 36 = S 36 → σ 68 = S 68 → σ 69 = S 69 → σ 70 = S 70 → Wp M K4_0 Q σ H) :
  ∀ (σ : Slots) (g : Heap), InvFi led rl m nms H S led.length σ g → Wp M (.loop L4_0) (blkQ 4 (thenQ (Wp M K4_0 Q) Q)) σ g := by
 intro σ g hI
 refine Wp.loop (InvFi led rl m nms H S) ?_ (n := led.length) hI
 clear hI σ g
 rintro k σ g ⟨i, hi, rfl, rfl, s10, s122, s123, s124, a6, a7, a11, a13, a34, a35, a36, a68, a69, a70⟩
 by_cases hlt : i < led.length
 ·obtain ⟨s, hs⟩ : ∃ s, led[i]? = some s := ⟨_, List.getElem?_eq_getElem hlt⟩
  have hltI : (i : Int) < led.length := by omega
  have hadd : IntKind.wrap .i64 ((i : Int) + 1) = ((i + 1 : Nat) : Int) := by rw [wrap64 (by omega) (by omega)]; rfl
  obtain ⟨j, hj⟩ : ∃ j, posK s nms = some j := by
   cases hp : posK s nms with
   | none => exact absurd (hin s (List.mem_of_getElem? hs)) (posK_none.1 hp)
   | some j => exact ⟨j, rfl⟩
  simp [-getElem?_pos, -Int.natCast_add, wL4_0, s10, s122, s123, s124, hlt, hltI, hs, hadd, hm, find_keys1, hj]
  exact ⟨led.length - (i + 1), by omega, i + 1, by omega, rfl, rfl, by simp [s10], by simp [s122], by simp [s123], by simp, by simp [a6], by simp [a7], by simp [a11], by simp [a13], by simp [a34], by simp [a35], by simp [a36], by simp [a68], by simp [a69], by simp [a70]⟩
 ·have hltI : ¬ (i : Int) < led.length := by omega
  simp [-getElem?_pos, -Int.natCast_add, wL4_0, s123, s124, hlt, hltI]
  refine hQ _ ?_ ?_ ?_ ?_ ?_ ?_ ?_ ?_ ?_ ?_ ?_
  ·simp [s10]
  ·simp [a6]
  ·simp [a7]
  ·simp [a11]
  ·simp [a13]
  ·simp [a34]
  ·simp [a35]
  ·simp [a36]
  ·simp [a68]
  ·simp [a69]
  ·simp [a70]
theorem front_led' (led : List (List UInt8)) (rl : Rt) (m : Nat) (nms : List (List UInt8)) (H : Heap) (hl : led.length ≤ 1000000) (hm : H[m]? = some (.amap (keys1 nms))) (hin : ∀ s ∈ led, s ∈ nms) (Q : Ex → Slots → Heap → Prop) (S : Slots)
  (h10 : S 10 = .map m) (h122 : S 122 = .list 1 (led.map AV.str) rl) (h123 : S 123 = .int .i64 (led.length : Nat)) (h124 : S 124 = .int .i64 0)
  (hQ : ∀ σ, σ 10 = .map m → σ 6 = S 6 → σ 7 = S 7 → σ 11 = S 11 → σ 13 = S 13 → σ 34 = S 34 → σ 35 = S 35 → σ 36 = S 36 → σ 68 = S 68 → σ 69 = S 69 → σ 70 = S 70 → Wp M K4_0 Q σ H) :
  Wp M (.loop L4_0) (blkQ 4 (thenQ (Wp M K4_0 Q) Q)) S H :=
 front_led led rl m nms H S hl hm hin Q hQ S H ⟨0, Nat.zero_le _, rfl, rfl, h10, h122, h123, h124, rfl, rfl, rfl, rfl, rfl, rfl, rfl, rfl, rfl, rfl⟩
def InvFm (x g : List Ru) (rx rg rg7 : Rt) (p7 m : Nat) (v34 v35 v36 : AV) (k : Nat) (σ : Slots) (h : Heap) : Prop := ∃ i, i ≤ g.length ∧ k = g.length - i ∧ h[p7]? = some (.cells [.list 10 (g.map ruA) rg7]) ∧ h[m]? = some (.amap (keys1 ((g.take i).map Ru.name))) ∧
 σ 6 = .list 10 (x.map ruA) rx ∧ σ 7 = .ptr p7 0 ∧ σ 10 = .map m ∧ σ 11 = .int .i64 (sumL x (g.take i) : Nat) ∧ σ 34 = v34 ∧ σ 35 = v35 ∧ σ 36 = v36 ∧ σ 68 = .list 10 (g.map ruA) rg ∧ σ 69 = .int .i64 (g.length : Nat) ∧ σ 70 = .int .i64 (i : Nat)
theorem front_mid (x g : List Ru) (rx rg rg7 : Rt) (p7 m : Nat) (hpm : p7 ≠ m) (v34 v35 v36 : AV) (hxl : x.length ≤ 1000000) (hgl : g.length ≤ 1000000) (hg : ∀ y ∈ g, ROk y)
  (hwT : ∀ y ∈ g, ∀ b, TOk (orF b (gvnT x y.name))) (ht : ∀ y ∈ g, gvnT x y.name ≠ [] ∧ y.more = false ∧ eqT y.tree (wantT (gvnT x y.name)) = true)
  (hled : ∀ i y, g[i]? = some y → (leadsP g y.name).2 = true ∧ ∀ s ∈ (leadsP g y.name).1, s ∈ (g.take i).map Ru.name) (hnew : ∀ i y, g[i]? = some y → y.name ∉ (g.take i).map Ru.name) (hsum : sumL x g ≤ 1000000) (Q : Ex → Slots → Heap → Prop)
  (hQ : ∀ σ h, σ 6 = .list 10 (x.map ruA) rx → σ 11 = .int .i64 (sumL x g : Nat) → σ 34 = v34 → σ 35 = v35 → σ 36 = v36 → Wp M K4_2 Q σ h) :
  ∀ (σ : Slots) (h : Heap), InvFm x g rx rg rg7 p7 m v34 v35 v36 g.length σ h → Wp M (.loop L4_1) (blkQ 2 (thenQ (Wp M K4_2 Q) Q)) σ h := by
 intro σ h hI
 refine Wp.loop (InvFm x g rx rg rg7 p7 m v34 v35 v36) ?_ (n := g.length) hI
 clear hI σ h
 rintro k σ h ⟨i, hi, rfl, h7, hm, s6, s7, s10, s11, s34, s35, s36, s68, s69, s70⟩
 by_cases hlt : i < g.length
 ·obtain ⟨y, hy⟩ : ∃ y, g[i]? = some y := ⟨_, List.getElem?_eq_getElem hlt⟩
  have hym := List.mem_of_getElem? hy
  have hltI : (i : Int) < g.length := by omega
  have hadd : IntKind.wrap .i64 ((i : Int) + 1) = ((i + 1 : Nat) : Int) := by rw [wrap64 (by omega) (by omega)]; rfl
  obtain ⟨t1, t2, t3⟩ := ht y hym
  obtain ⟨l1, l2⟩ := hled i y hy
  have hn := posK_none.2 (hnew i y hy)
  have htn : (g.take (i + 1)).map Ru.name = (g.take i).map Ru.name ++ [y.name] := by rw [List.take_add_one, hy]; simp
  generalize hnms : (g.take i).map Ru.name = nms at *
  have gv := fun h0 => givenT_ok x rx y.name hxl h0
  obtain ⟨bg, gv'⟩ := Classical.axiomOfChoice gv
  have ld := fun r h0 => leads_ok g r y.name hgl hg h0
  rw [l1] at ld
  obtain ⟨bl, ld'⟩ := Classical.axiomOfChoice (ld rg7)
  simp only [gmA] at ld'
  have g7 : ∀ q, (h ++ q)[p7]? = some (.cells [.list 10 (g.map ruA) rg7]) := fun q => get_left h7 q
  have gm : ∀ q, (h ++ q)[m]? = some (.amap (keys1 nms)) := fun q => get_left hm q
  have htk : g.take (i + 1) = g.take i ++ [y] := by rw [List.take_add_one, hy]; rfl
  have hsn := sumL_snoc x (g.take i) y
  rw [← htk] at hsn
  have hll := gvnT_len x y.name
  have hsl : sumL x (g.take i) + (gvnT x y.name).length ≤ 1000000 := by
   rw [← hsn]
   refine Nat.le_trans ?_ hsum
   have : sumL x g = sumL x (g.take (i + 1)) + sumL x (g.drop (i + 1)) := by
    unfold sumL
    rw [← List.sum_append, ← List.map_append, List.take_append_drop]
   omega
  have hws : IntKind.wrap .i64 ((sumL x (g.take i) : Int) + ((gvnT x y.name).length : Int)) = ((sumL x (g.take (i + 1)) : Nat) : Int) := by rw [wrap64 (by omega) (by omega), hsn]; omega
  have hml := lt_of_get hm
  have h7l := lt_of_get h7
  have h0 : ¬ ((gvnT x y.name).length : Int) = 0 := by
   have := List.length_pos_iff.2 t1
   omega
  have h0n : ¬ (gvnT x y.name).length = 0 := by omega
  have next : ∀ (σ' : Slots) (H : Heap), (∀ (i : Nat) (e : AE), h[i]? = some e → i ≠ m → H[i]? = some e) → H[m]? = some (.amap (keys1 ((g.take (i + 1)).map Ru.name))) → σ' 6 = σ 6 → σ' 7 = σ 7 → σ' 10 = σ 10 → σ' 11 = .int .i64 (sumL x (g.take (i + 1)) : Nat) → σ' 34 = σ 34 → σ' 35 = σ 35 → σ' 36 = σ 36 → σ' 68 = σ 68 → σ' 69 = σ 69 → σ' 70 = .int .i64 (i + 1 : Nat) → ∃ m', m' < g.length - i ∧ InvFm x g rx rg rg7 p7 m v34 v35 v36 m' σ' H := by
   intro σ' H hH hHm e6 e7 e10 e11 e34 e35 e36 e68 e69 e70
   exact ⟨g.length - (i + 1), by omega, i + 1, by omega, rfl, hH _ _ h7 hpm, hHm, by rw [e6, s6], by rw [e7, s7], by rw [e10, s10], e11, by rw [e34, s34], by rw [e35, s35], by rw [e36, s36], by rw [e68, s68], by rw [e69, s69], e70⟩
  have upd : keys1 nms ++ [(.str y.name, .int .i64 1)] = keys1 ((g.take (i + 1)).map Ru.name) := by
   rw [htn]; simp [keys1]
  have w1 : IntKind.wrap .i64 1 = 1 := by decide
  have hmi : keys1 nms ++ [(AV.str y.name, AV.int IntKind.i64 1)] = keys1 ((g.take (i + 1)).map Ru.name) := upd
  have e2 : (ruL y)[2]? = some (.bool false) := by rw [← t2]; rfl
  by_cases c : (gvnT x y.name).length = 1
  ·have cI : ((gvnT x y.name).length : Int) = 1 := by omega
   obtain ⟨t0, e0⟩ := List.length_eq_one_iff.1 c
   have hws1 := hws
   rw [cI] at hws1
   have tr := fun h0 => trees_ok y.tree t0 (hg y hym).T (by
    have := (hwT y hym true)
    unfold orF at this
    exact this.kid (by rw [e0]; simp [Tr.kids])) h0
   have t3' : eqT y.tree t0 = true := by
    rw [e0] at t3
    simpa [wantT] using t3
   rw [t3'] at tr
   have eg : (gvnT x y.name)[0]? = some t0 := by rw [e0]; rfl
   simp [-getElem?_pos, -Int.natCast_add, wL4_1, s6, s7, s10, s11, s34, s35, s36, s68, s69, s70, hlt, hltI, hy, ruA_cells, ruL_take, ruL_agg, ruL_name, ruL_tree, gv', cI, c, eg, enc_cells, encL_take, enc_agg, g7, gm, ld', find_keys1, hn, hws, hws1, h0, h0n, tr, t2, e2]
   refine front_led' (leadsP g y.name).1 _ m nms _ (by have := led_len' g y.name; omega) (gm _) l2 _ _ (by simp [s10]) (by simp; rfl) (by simp) (by simp) (fun σ' b10 b6 b7 b11 b13 b34 b35 b36 b68 b69 b70 => ?_)
   simp at b13
   have b70' : σ' 70 = .int .i64 (i : Nat) := by rw [b70]; simp [s70]
   have hne : ¬ h.length = m := by omega
   have gml : m < (h ++ [AE.cells (ruL y), AE.cells (ruL y)]).length := by simp; omega
   simp [-getElem?_pos, -Int.natCast_add, wK4_0, wK4_1, b10, b13, b70', gm, find_keys1, hn, hadd, ruL_name, w1, hmi]
   refine next _ _ (fun i' e he hi' => by rw [get_set_ne (Ne.symm hi')]; exact get_left he _) ?_ ?_ ?_ ?_ ?_ ?_ ?_ ?_ ?_ ?_ ?_
   ·rw [List.map_take]
    exact get_set_eq (by rw [List.length_append]; omega)
   ·simp [b6]
   ·simp [b7]
   ·simp [b10, s10]
   ·simp [b11]
   ·simp [b34]
   ·simp [b35]
   ·simp [b36]
   ·simp [b68]
   ·simp [b69]
   ·simp
  ·have cI : ¬ ((gvnT x y.name).length : Int) = 1 := by omega
   have tr := fun b h0 => trees_ok y.tree (orF b (gvnT x y.name)) (hg y hym).T (hwT y hym b) h0
   have t3' : ∀ b, eqT y.tree (orF b (gvnT x y.name)) = true := fun b => by
    unfold wantT at t3
    rw [if_neg c] at t3
    rw [← t3]
    exact eqT_orF _ _ _ _
   simp only [t3'] at tr
   have oe : ∀ b, (orF b (gvnT x y.name)).enc = .agg [.int .u8 6, .str [], .int .u8 0, .int .u8 0, .int .i64 0, .int .i64 0, .list 7 ((gvnT x y.name).map Tr.enc) (rtB b)] := fun b => by simp [Tr.enc, Tr.encL_eq, orF, Tr.k, Tr.s, Tr.lo, Tr.hi, Tr.mn, Tr.mx, Tr.kids, Tr.full]
   simp only [oe] at tr
   simp [-getElem?_pos, -Int.natCast_add, wL4_1, s6, s7, s10, s11, s34, s35, s36, s68, s69, s70, hlt, hltI, hy, ruA_cells, ruL_take, ruL_agg, ruL_name, ruL_tree, gv', cI, c, enc_cells, encL_take, enc_agg, g7, gm, ld', find_keys1, hn, hws, h0, h0n, tr, t2, e2]
   refine front_led' (leadsP g y.name).1 _ m nms _ (by have := led_len' g y.name; omega) (gm _) l2 _ _ (by simp [s10]) (by simp; rfl) (by simp) (by simp) (fun σ' b10 b6 b7 b11 b13 b34 b35 b36 b68 b69 b70 => ?_)
   simp at b13
   have b70' : σ' 70 = .int .i64 (i : Nat) := by rw [b70]; simp [s70]
   have hne : ¬ h.length = m := by omega
   have gml : m < (h ++ [AE.cells (ruL y), AE.cells (ruL y)]).length := by simp; omega
   simp [-getElem?_pos, -Int.natCast_add, wK4_0, wK4_1, b10, b13, b70', gm, find_keys1, hn, hadd, ruL_name, w1, hmi]
   refine next _ _ (fun i' e he hi' => by rw [get_set_ne (Ne.symm hi')]; exact get_left he _) ?_ ?_ ?_ ?_ ?_ ?_ ?_ ?_ ?_ ?_ ?_
   ·rw [List.map_take]
    exact get_set_eq (by rw [List.length_append]; omega)
   ·simp [b6]
   ·simp [b7]
   ·simp [b10, s10]
   ·simp [b11]
   ·simp [b34]
   ·simp [b35]
   ·simp [b36]
   ·simp [b68]
   ·simp [b69]
   ·simp
 ·have hltI : ¬ (i : Int) < g.length := by omega
  have hle : i = g.length := by omega
  subst hle
  rw [List.take_length] at s11
  simp [-getElem?_pos, -Int.natCast_add, wL4_1, s69, s70, hlt, hltI]
  refine hQ _ _ ?_ ?_ ?_ ?_ ?_
  ·simp [s6]
  ·simp [s11]
  ·simp [s34]
  ·simp [s35]
  ·simp [s36]
theorem wts_gvn (s : List UInt8) : ∀ l : List Ru, wts (gvnT l s) ≤ wts (l.map Ru.tree)
 | [] => by simp [gvnT, wts]
 | x :: l => by
  have ih := wts_gvn s l
  unfold gvnT at ih ⊢
  by_cases e : x.name = s
  ·simp [e, wts]; omega
  ·simp [e, wts]; omega
theorem orF_ok {x : List Ru} (h : wts (x.map Ru.tree) ≤ 900000000) (s : List UInt8) (b : Bool) : TOk (orF b (gvnT x s)) := by
 refine TOk_wt ?_
 have := wts_gvn s x
 rw [wt_eq]
 simp only [orF, Tr.s, Tr.kids, List.length_nil]
 omega
theorem FineG.rok {l : List Ru} {gs : Gs} (h : FineG l gs) (hl : LOk l) {x : Ru} (hx : x ∈ ordR (gs.map rowG)) : ROk x := by
 obtain ⟨p, hp, rfl⟩ := h.mem hx
 have := (hl.gs h.gs_).1 p hp
 exact ⟨this.1, by show (copyT (rowG p).tree).wt ≤ _; rw [copy_wt]; exact this.2⟩
def InvFo (v0 v1 : AV) (k : Nat) (σ : Slots) (h : Heap) : Prop := ∃ i, i ≤ 2 ∧ k = 2 - i ∧ σ 34 = .list 1 [v0, v1] .full ∧ σ 35 = .int .i64 2 ∧ σ 36 = .int .i64 (i : Nat)
theorem front_out (x0 x1 : List Ru) (r0 r1 : Rt) (h0 : LOk x0) (h1 : LOk x1) (h0' : x0.length ≤ 900000) (h1' : x1.length ≤ 900000) (σ : Slots) (g : Heap) (s34 : σ 34 = .list 1 [.list 10 (x0.map ruA) r0, .list 10 (x1.map ruA) r1] .full) (s35 : σ 35 = .int .i64 2) (s36 : σ 36 = .int .i64 0) :
  Wp M (.loop L4_2) (blkQ 0 (thenQ (Wp M K4_4 (fun e σ h => isEnd e ∧ finish [] h (σ 4) = some (AV.bool true, []))) (fun e σ h => isEnd e ∧ finish [] h (σ 4) = some (AV.bool true, [])))) σ g := by
 refine Wp.loop (InvFo (.list 10 (x0.map ruA) r0) (.list 10 (x1.map ruA) r1)) ?_ (n := 2) ⟨0, by omega, rfl, s34, s35, s36⟩
 clear s34 s35 s36 σ g
 rintro k σ h ⟨i, hi, rfl, s34, s35, s36⟩
 by_cases hlt : i < 2
 ·have hltI : (i : Int) < 2 := by omega
  have hadd : IntKind.wrap .i64 ((i : Int) + 1) = ((i + 1 : Nat) : Int) := by rw [wrap64 (by omega) (by omega)]; rfl
  obtain ⟨x, rx, hx, hxl, hc⟩ : ∃ x rx, LOk x ∧ x.length ≤ 900000 ∧ [AV.list 10 (x0.map ruA) r0, .list 10 (x1.map ruA) r1][i]? = some (.list 10 (x.map ruA) rx) := by
   match i, hlt with
   | 0, _ => exact ⟨x0, r0, h0, h0', rfl⟩
   | 1, _ => exact ⟨x1, r1, h1, h1', rfl⟩
  have next : ∀ (σ' : Slots) (H : Heap), σ' 34 = σ 34 → σ' 35 = σ 35 → σ' 36 = .int .i64 (i + 1 : Nat) → ∃ m', m' < 2 - i ∧ InvFo (.list 10 (x0.map ruA) r0) (.list 10 (x1.map ruA) r1) m' σ' H := by
   intro σ' H e34 e35 e36
   exact ⟨2 - (i + 1), by omega, i + 1, by omega, rfl, by rw [e34, s34], by rw [e35, s35], e36⟩
  generalize hvs : [AV.list 10 (x0.map ruA) r0, .list 10 (x1.map ruA) r1] = vs at *
  obtain ⟨bg, gk⟩ := Classical.axiomOfChoice (fun H => gatherF_ok x rx hx H)
  obtain ⟨g, n, e, hP⟩ : ∃ g n e, gatherP x = (g, n, e) := ⟨_, _, _, rfl⟩
  rw [hP] at gk
  simp only [gmA] at gk
  by_cases he : e = 0
  ·subst he
   obtain ⟨gs, F, rfl, rfl⟩ := gatherP_fine hP
   have gr := fun r H => gright_ok (ordR (gs.map rowG)) r (by rw [F.len]; have := (hx.gs F.gs_).2; omega) (fun y hy => F.rok hx hy) H
   rw [F.right] at gr
   simp only [gmA] at gr
   simp [-getElem?_pos, -Int.natCast_add, wL4_2, s34, s35, s36, hltI, hc, gk, gr]
   have hsum := F.sum
   have hgl := F.len
   have hgsl := (hx.gs F.gs_).2
   refine front_mid x (ordR (gs.map rowG)) rx _ _ h.length (h.length + 1) (by omega) (σ 34) (σ 35) (σ 36) (by omega) (by omega) (fun y hy => F.rok hx hy) (fun y _ b => orF_ok hx.wt _ b) (fun y hy => F.tree hy) (fun i y hy => F.led hy) (fun i y hy => F.new hy) (by unfold sumL; omega) _ (fun σ' H a6 a11 a34 a35 a36 => ?_) _ _ ⟨0, Nat.zero_le _, rfl, by simp; rfl, by simp [keys1], by simp, by simp, by simp, by simp [sumL], by simp, by simp, by simp, by simp; rfl, by simp, by simp⟩
   have hs : sumL x (ordR (gs.map rowG)) = x.length := hsum
   rw [hs] at a11
   rw [s36] at a36
   simp [-getElem?_pos, -Int.natCast_add, wK4_2, wK4_3, a6, a11, a36, hadd]
   exact next _ _ (by simp [a34]) (by simp [a35]) (by simp)
  ·obtain ⟨rfl, hn⟩ := gatherP_err hP he
   have heI : ¬ e = 0 := he
   by_cases h2 : e = 2
   ·have := hn.2 h2
    subst this
    subst h2
    simp [-getElem?_pos, -Int.natCast_add, wL4_2, s34, s35, s36, hltI, hc, gk]
    simp [-getElem?_pos, -Int.natCast_add, wK4_3, s36, hadd]
    exact next _ _ (by simp) (by simp) (by simp)
   ·have hnn : ¬ n = [] := fun q => h2 (hn.1 q)
    simp [-getElem?_pos, -Int.natCast_add, wL4_2, s34, s35, s36, hltI, hc, gk, he, h2, hnn]
    simp [-getElem?_pos, -Int.natCast_add, wK4_3, s36, hadd]
    exact next _ _ (by simp) (by simp) (by simp)
 ·have hltI : ¬ (i : Int) < 2 := by omega
  simp [-getElem?_pos, -Int.natCast_add, wL4_2, wK4_4, s35, s36, hltI, awake3_ok, fin_nil]
structure LIn (l : List Ru) : Prop where
 len : l.length ≤ 200000
 nm : ∀ x ∈ l, x.name.length ≤ 20000000
 wt : wts (l.map Ru.tree) ≤ 100000000
theorem LIn.ok {l : List Ru} (h : LIn l) : LOk l := ⟨by have := h.len; omega, fun x hx => ⟨by have := h.nm x hx; omega, by
 have := wts_mem (List.mem_map_of_mem (f := Ru.tree) hx)
 have := h.wt
 omega⟩, by have := h.wt; omega⟩
theorem wts_app2 : ∀ (a b : List Tr), wts (a ++ b) = wts a + wts b
 | [], b => by simp [wts]
 | x :: a, b => by simp only [List.cons_append, wts, wts_app2 a b]; omega
theorem LIn.behind {l : List Ru} (h : LIn l) {l0 : List Ru} (g : GrR l0) : LOk (l0 ++ l) ∧ (l0 ++ l).length ≤ 900000 := by
 have k := g.lok
 have h1 := h.len
 have h2 := g.len
 have hw : wts (l0.map Ru.tree) ≤ (l0.map Ru.tree).length * 27325 := wts_leN fun t ht => by
  obtain ⟨x, hx, rfl⟩ := List.mem_map.1 ht
  exact g.wt hx
 rw [List.length_map] at hw
 have := Nat.mul_le_mul_right 27325 h2
 have h3 := h.wt
 refine ⟨⟨by simp; omega, fun x hx => ?_, ?_⟩, by simp; omega⟩
 ·rcases List.mem_append.1 hx with hx | hx
  ·exact k.all x hx
  ·exact h.ok.all x hx
 ·rw [List.map_append, wts_app2]
  omega
theorem front_true (l : List Ru) (r : Rt) (hl : LIn l) (A : List (List Nat)) (ra : Rt) (hA : ∀ u ∈ A, (∀ j ∈ u, j ≤ 65535) ∧ u.length ≤ 9223372036854775807) (hAl : A.length ≤ 9223372036854775807) :
  M.call 4 [.list 10 (l.map ruA) r, .list 1 (A.map rowN) ra] [] = some (.bool true, []) := by
 refine call_of tab4 rfl (callF_wp ?_)
 have fw := few_ok l r hl.ok.len (fun x hx => (hl.ok.all x hx).T)
 cases hf : fewP l 0 with
 | false =>
  rw [hf] at fw
  simp [-getElem?_pos, -Int.natCast_add, wB4, fw, awake3_ok, fin_nil]
 | true =>
  rw [hf] at fw
  by_cases c1 : 8 < A.length
  ·have c1' : (8 : Int) < A.length := by omega
   simp [-getElem?_pos, -Int.natCast_add, wB4, fw, c1, c1', awake3_ok, fin_nil]
  ·have c1' : ¬ (8 : Int) < A.length := by omega
   obtain ⟨l0, t, q, g1, g2, g3, g4⟩ := grules_ok A ra hA hAl [.dead]
   simp only [List.singleton_append, List.length_singleton] at g2 g3 g4
   have hlen := g1.len
   have hll := hl.len
   obtain ⟨b1, b2⟩ := hl.behind g1
   simp [-getElem?_pos, -Int.natCast_add, wB4, fw, c1, c1', g2]
   refine onO_app (n0 := 0) (e := 38) (.inr ⟨t, rfl, Nat.zero_le _, by simpa using g3⟩) (Nat.zero_le _) (by simp) (by simp; omega) (by simp; omega) (fun r' H' o1 o2 => ?_)
   rw [← List.map_append]
   simp [-getElem?_pos, -Int.natCast_add, -List.map_append]
   exact front_out l (l0 ++ l) _ _ hl.ok b1 (by omega) b2 _ _ (by simp; exact ⟨rfl, rfl⟩) (by simp) (by simp)
end Go.Proofs.YtcflbdikkcpiaaaGreatDoor
