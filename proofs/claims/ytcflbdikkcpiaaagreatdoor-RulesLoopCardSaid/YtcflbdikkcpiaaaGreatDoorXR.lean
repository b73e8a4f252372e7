/-
  rules, plainly: which rules lead to themselves, and the way through rules.
-/
import Derived.Test.YtcflbdikkcpiaaaGreatDoorXQ
set_option linter.unusedVariables false
set_option linter.unusedSimpArgs false
namespace Go.Proofs.YtcflbdikkcpiaaaGreatDoor
open Go Go.Am
inductive Tg {α : Type} (E : α → α → Prop) : α → α → Prop
 | one {a b : α} : E a b → Tg E a b
 | step {a b c : α} : E a b → Tg E b c → Tg E a c
theorem Tg.trans {α : Type} {E : α → α → Prop} {a b c : α} (h : Tg E a b) (k : Tg E b c) : Tg E a c := by
 induction h with
 | one e => exact .step e k
 | step e _ ih => exact .step e (ih k)
theorem Tg.tail {α : Type} {E : α → α → Prop} {a b c : α} (h : Tg E a b) (k : E b c) : Tg E a c := h.trans (.one k)
theorem Tg.mono {α : Type} {E F : α → α → Prop} (hEF : ∀ a b, E a b → F a b) {a b : α} (h : Tg E a b) : Tg F a b := by
 induction h with
 | one e => exact .one (hEF _ _ e)
 | step e _ ih => exact .step (hEF _ _ e) ih
def EdI (nx : List (List Nat)) (a b : Nat) : Prop := b ∈ nx[a]?.getD []
theorem bfsIn_none {i : Nat} : ∀ {ns : List Nat} {been : List Bool} {todo : List Nat}, bfsIn i ns been todo = none ↔ i ∈ ns
 | [], been, todo => by simp [bfsIn]
 | n :: ns, been, todo => by
  rw [bfsIn]
  by_cases h : n = i
  ·simp [h]
  ·rw [if_neg h]
   have h' : ¬ i = n := fun e => h e.symm
   split <;> rw [bfsIn_none] <;> simp [h']
theorem bfsIn_mem2 {i : Nat} : ∀ {ns : List Nat} {been : List Bool} {todo : List Nat} {b : List Bool} {t : List Nat}, bfsIn i ns been todo = some (b, t) → (∀ n ∈ ns, n < been.length) →
  (∀ n ∈ ns, b[n]? = some true) ∧ (∀ n : Nat, been[n]? = some true → b[n]? = some true) ∧ (∀ n : Nat, b[n]? = some true → been[n]? = some true ∨ (n ∈ ns ∧ n ∈ t)) ∧ (∀ n ∈ todo, n ∈ t) ∧ (∀ n ∈ t, n ∈ todo ∨ n ∈ ns)
 | [], been, todo, b, t, h, _ => by
  simp only [bfsIn, Option.some.injEq, Prod.mk.injEq] at h
  obtain ⟨rfl, rfl⟩ := h
  simp
 | n :: ns, been, todo, b, t, h, hn => by
  have hlt := hn n (by simp)
  simp only [bfsIn] at h
  split at h
  ·cases h
  ·split at h
   ·rename_i h1 h2
    have hf : been[n]? = some true := by
     rw [List.getElem?_eq_getElem hlt] at h2 ⊢
     simp at h2
     rw [h2]
    obtain ⟨a1, a2, a3, a4, a5⟩ := bfsIn_mem2 h fun m hm => hn m (by simp [hm])
    refine ⟨fun m hm => ?_, a2, fun m hm => ?_, a4, fun m hm => ?_⟩
    ·rcases List.mem_cons.1 hm with rfl | hm
     ·exact a2 _ hf
     ·exact a1 m hm
    ·rcases a3 m hm with e | ⟨e1, e2⟩
     ·exact .inl e
     ·exact .inr ⟨by simp [e1], e2⟩
    ·rcases a5 m hm with e | e
     ·exact .inl e
     ·exact .inr (by simp [e])
   ·obtain ⟨a1, a2, a3, a4, a5⟩ := bfsIn_mem2 h fun m hm => by simpa using hn m (by simp [hm])
    have hs : (been.set n true)[n]? = some true := List.getElem?_set_self hlt
    refine ⟨fun m hm => ?_, fun m hm => ?_, fun m hm => ?_, fun m hm => a4 m (by simp [hm]), fun m hm => ?_⟩
    ·rcases List.mem_cons.1 hm with rfl | hm
     ·exact a2 _ hs
     ·exact a1 m hm
    ·refine a2 m ?_
     by_cases e : n = m
     ·subst e; exact hs
     ·rw [List.getElem?_set_ne e]; exact hm
    ·rcases a3 m hm with e | ⟨e1, e2⟩
     ·by_cases e' : n = m
      ·subst e'
       exact .inr ⟨by simp, a4 _ (by simp)⟩
      ·rw [List.getElem?_set_ne e'] at e
       exact .inl e
     ·exact .inr ⟨by simp [e1], e2⟩
    ·rcases a5 m hm with e | e
     ·rcases List.mem_append.1 e with e | e
      ·exact .inl e
      ·obtain rfl := List.mem_singleton.1 e
       exact .inr (by simp)
     ·exact .inr (by simp [e])
theorem shut_not {nx : List (List Nat)} {i : Nat} {been : List Bool} (h : ∀ k, (k = i ∨ been[k]? = some true) → ∀ n ∈ nx[k]?.getD [], n ≠ i ∧ been[n]? = some true) : ¬ Tg (EdI nx) i i := by
 have : ∀ {a c : Nat}, Tg (EdI nx) a c → (a = i ∨ been[a]? = some true) → c ≠ i := by
  intro a c t
  induction t with
  | one e => intro ha; exact (h _ ha _ e).1
  | step e _ ih => intro ha; exact ih (.inr (h _ ha _ e).2)
 exact fun t => this t (.inl rfl) rfl
theorem bfs_spec {nx : List (List Nat)} {N i : Nat} (hnx : ∀ k n : Nat, n ∈ nx[k]?.getD [] → n < N) : ∀ (f : Nat) (been : List Bool) (todo : List Nat), been.length = N → todo.length + cf been ≤ f →
  (∀ k ∈ todo, k = i ∨ Tg (EdI nx) i k) → (∀ k, (k = i ∨ been[k]? = some true) → k ∉ todo → ∀ n ∈ nx[k]?.getD [], n ≠ i ∧ been[n]? = some true) → (bfs nx i f been todo = true ↔ Tg (EdI nx) i i)
 | 0, been, todo, h1, h2, h3, h4 => by
  obtain rfl := List.eq_nil_of_length_eq_zero (show todo.length = 0 by omega)
  have := shut_not fun k hk => h4 k hk (by simp)
  simp [bfs, this]
 | f + 1, been, [], h1, h2, h3, h4 => by
  have := shut_not fun k hk => h4 k hk (by simp)
  simp [bfs, this]
 | f + 1, been, k :: rest, h1, h2, h3, h4 => by
  have hk := h3 k (by simp)
  rw [bfs]
  cases hb : bfsIn i (nx[k]?.getD []) been rest with
  | none =>
   have hi := bfsIn_none.1 hb
   simp only [true_iff]
   rcases hk with rfl | hk
   ·exact .one hi
   ·exact hk.tail hi
  | some q =>
   obtain ⟨b, t⟩ := q
   have hn : ∀ n ∈ nx[k]?.getD [], n < been.length := fun n h => by rw [h1]; exact hnx k n h
   obtain ⟨l1, l2⟩ := bfsIn_some hb hn
   obtain ⟨a1, a2, a3, a4, a5⟩ := bfsIn_mem2 hb hn
   have hni : i ∉ nx[k]?.getD [] := fun h => by rw [bfsIn_none.2 h] at hb; cases hb
   have g4 : ∀ k', (k' = i ∨ b[k']? = some true) → k' ∉ t → ∀ n ∈ nx[k']?.getD [], n ≠ i ∧ b[n]? = some true := by
    intro k' e1 e2 n hn'
    by_cases ek : k' = k
    ·subst ek
     exact ⟨fun e => hni (e ▸ hn'), a1 n hn'⟩
    ·have e3 : k' ∉ k :: rest := fun hm => by
      rcases List.mem_cons.1 hm with e | e
      ·exact ek e
      ·exact e2 (a4 _ e)
     have e4 : k' = i ∨ been[k']? = some true := by
      rcases e1 with e | e
      ·exact .inl e
      ·rcases a3 k' e with e | ⟨_, e⟩
       ·exact .inr e
       ·exact absurd e e2
     obtain ⟨q1, q2⟩ := h4 k' e4 e3 n hn'
     exact ⟨q1, a2 n q2⟩
   simp only
   by_cases ht : t = []
   ·subst ht
    have := shut_not fun k hk => g4 k hk (by simp)
    simp [this]
   ·rw [if_neg ht]
    refine bfs_spec hnx f b t (by omega) (by simp only [List.length_cons] at h2; omega) ?_ g4
    intro m hm
    rcases a5 m hm with e | e
    ·exact h3 m (by simp [e])
    ·refine .inr ?_
     rcases hk with rfl | hk
     ·exact .one e
     ·exact hk.tail e
theorem cf_false (N : Nat) : cf (List.replicate N false) = N := by
 unfold cf
 induction N with
 | zero => rfl
 | succ n ih => simp [List.replicate_succ]
theorem bfs_start {nx : List (List Nat)} {N i : Nat} (hnx : ∀ k n : Nat, n ∈ nx[k]?.getD [] → n < N) : bfs nx i (N + 1) (List.replicate N false) [i] = true ↔ Tg (EdI nx) i i := by
 refine bfs_spec hnx _ _ _ (by simp) (by rw [cf_false]; simp; omega) (fun k hk => .inl (by simpa using hk)) ?_
 intro k hk hm
 rcases hk with rfl | hk
 ·simp at hm
 ·rw [List.getElem?_replicate] at hk
  split at hk <;> simp at hk
theorem loopP_spec {nx : List (List Nat)} {N : Nat} (hnx : ∀ k n : Nat, n ∈ nx[k]?.getD [] → n < N) : ∀ (l : List Ru) (j : Nat),
  (loopP nx N l j = none ↔ ∀ d, d < l.length → ¬ Tg (EdI nx) (j + d) (j + d)) ∧ ∀ s, loopP nx N l j = some s → ∃ d x, l[d]? = some x ∧ x.name = s ∧ Tg (EdI nx) (j + d) (j + d)
 | [], j => by simp [loopP]
 | x :: l, j => by
  obtain ⟨h1, h2⟩ := loopP_spec hnx l (j + 1)
  have hb := bfs_start (i := j) hnx
  rw [loopP]
  by_cases hx : bfs nx j (N + 1) (List.replicate N false) [j] = true
  ·rw [if_pos hx]
   refine ⟨⟨fun h => by (cases h), fun h => ?_⟩, fun s hs => ?_⟩
   ·exact absurd (hb.1 hx) (by simpa using h 0 (by simp))
   ·exact ⟨0, x, rfl, by simpa using hs, by simpa using hb.1 hx⟩
  ·rw [if_neg hx]
   have hno : ¬ Tg (EdI nx) j j := fun t => hx (hb.2 t)
   refine ⟨⟨fun h => ?_, fun h => ?_⟩, fun s hs => ?_⟩
   ·intro d hd
    cases d with
    | zero => simpa using hno
    | succ d =>
     have := h1.1 h d (by simpa using hd)
     rwa [show j + 1 + d = j + (d + 1) by omega] at this
   ·refine h1.2 fun d hd => ?_
    have := h (d + 1) (by simpa using hd)
    rwa [show j + (d + 1) = j + 1 + d by omega] at this
   ·obtain ⟨d, y, e1, e2, e3⟩ := h2 s hs
    exact ⟨d + 1, y, by simpa using e1, e2, by rwa [show j + (d + 1) = j + 1 + d by omega]⟩
def Topo (nx : List (List Nat)) (out : List Nat) : Prop := ∀ a k b, out = a ++ k :: b → ∀ n ∈ nx[k]?.getD [], n ∈ a
theorem Topo.snoc {nx : List (List Nat)} {out : List Nat} {i : Nat} (h : Topo nx out) (hi : ∀ n ∈ nx[i]?.getD [], n ∈ out) : Topo nx (out ++ [i]) := by
 intro a k b e n hn
 rcases List.eq_nil_or_concat b with rfl | ⟨b', z, rfl⟩
 ·have := List.append_inj' e (by simp)
  obtain ⟨rfl, e2⟩ := this
  obtain rfl : i = k := by simpa using e2
  exact hi n hn
 ·rw [List.concat_eq_append, ← List.cons_append, ← List.append_assoc] at e
  obtain ⟨e1, _⟩ := List.append_inj' e (by simp)
  exact h a k b' e1 n hn
structure St (nx : List (List Nat)) (N : Nat) (stack : List Nat) (s : List Bool × List Nat) : Prop where
 len : s.1.length = N
 nd : s.2.Nodup
 topo : Topo nx s.2
 been : ∀ k, s.1[k]? = some true ↔ (k ∈ s.2 ∨ k ∈ stack)
 apart : ∀ k ∈ s.2, k ∉ stack
theorem thr_spec {nx : List (List Nat)} {N : Nat} (hnx : ∀ k n : Nat, n ∈ nx[k]?.getD [] → n < N) (ha : ∀ k, ¬ Tg (EdI nx) k k) : ∀ (f i : Nat) (stack : List Nat) (s : List Bool × List Nat), St nx N stack s → i < N → cf s.1 ≤ f → (∀ k ∈ stack, Tg (EdI nx) k i) →
  St nx N stack (thr nx (f + 1) i s) ∧ i ∈ (thr nx (f + 1) i s).2 ∧ ∃ new, (thr nx (f + 1) i s).2 = s.2 ++ new ∧ ∀ k ∈ new, k = i ∨ Tg (EdI nx) i k
 | f, i, stack, s, hs, hi, hf, hst => by
  have hlen := hs.len
  rw [thr]
  cases hb : s.1[i]?.getD true with
  | true =>
   have hbt : s.1[i]? = some true := by
    rw [List.getElem?_eq_getElem (by omega)] at hb ⊢
    simp at hb
    rw [hb]
   simp only [if_true]
   refine ⟨hs, ?_, [], by simp, by simp⟩
   rcases (hs.been i).1 hbt with h | h
   ·exact h
   ·exact absurd (hst i h) (ha i)
  | false =>
   have hbf : s.1[i]? = some false := by
    rw [List.getElem?_eq_getElem (by omega)] at hb ⊢
    simp at hb
    rw [hb]
   have hcs := cf_set s.1 i hbf
   have hni : i ∉ stack := fun h => ha i (hst i h)
   have hno : i ∉ s.2 := fun h => by rw [(hs.been i).2 (.inl h)] at hbf; cases hbf
   simp only [Bool.false_eq_true, if_false]
   match f, hf with
   | 0, hf => omega
   | f + 1, hf =>
    have fold : ∀ (ns : List Nat) (s : List Bool × List Nat), (∀ n ∈ ns, n ∈ nx[i]?.getD []) → St nx N (i :: stack) s → cf s.1 ≤ f →
      St nx N (i :: stack) (ns.foldl (fun s n => thr nx (f + 1) n s) s) ∧ (∀ n ∈ ns, n ∈ (ns.foldl (fun s n => thr nx (f + 1) n s) s).2) ∧ ∃ new, (ns.foldl (fun s n => thr nx (f + 1) n s) s).2 = s.2 ++ new ∧ ∀ k ∈ new, Tg (EdI nx) i k := by
     intro ns
     induction ns with
     | nil => intro s _ h1 _; exact ⟨h1, by simp, [], by simp, by simp⟩
     | cons n ns ih =>
      intro s hn h1 h3
      have hnn := hn n (by simp)
      have hnN := hnx i n hnn
      obtain ⟨a1, a2, new1, a3, a4⟩ := thr_spec hnx ha f n (i :: stack) s h1 hnN h3 (fun k hk => by
       rcases List.mem_cons.1 hk with rfl | hk
       ·exact .one hnn
       ·exact (hst k hk).tail hnn)
      have hcf := (thr_sum hnx f n s h1.len hnN h3).2.2
      obtain ⟨b1, b2, new2, b3, b4⟩ := ih (thr nx (f + 1) n s) (fun m hm => hn m (by simp [hm])) a1 (by omega)
      rw [List.foldl_cons]
      refine ⟨b1, fun m hm => ?_, new1 ++ new2, by rw [b3, a3]; simp, fun k hk => ?_⟩
      ·rcases List.mem_cons.1 hm with rfl | hm
       ·rw [b3]; simp [a2]
       ·exact b2 m hm
      ·rcases List.mem_append.1 hk with hk | hk
       ·rcases a4 k hk with rfl | h
        ·exact .one hnn
        ·exact .step hnn h
       ·exact b4 k hk
    have hs1 : St nx N (i :: stack) (s.1.set i true, s.2) := by
     refine ⟨by simpa using hlen, hs.nd, hs.topo, fun k => ?_, fun k hk => ?_⟩
     ·by_cases e : i = k
      ·subst e
       simp [List.getElem?_set_self (show i < s.1.length by omega)]
      ·have e' : ¬ k = i := fun h => e h.symm
       simp only [List.getElem?_set_ne e, hs.been k, List.mem_cons, e', false_or]
     ·simp only [List.mem_cons, not_or]
      exact ⟨fun e => hno (e ▸ hk), hs.apart k hk⟩
    obtain ⟨c1, c2, new, c3, c4⟩ := fold (nx[i]?.getD []) (s.1.set i true, s.2) (fun n h => h) hs1 (by simp only; omega)
    generalize ((nx[i]?.getD []).foldl (fun s n => thr nx (f + 1) n s) (s.1.set i true, s.2)) = r at *
    have hir : i ∉ r.2 := fun h => c1.apart i h (by simp)
    refine ⟨⟨c1.len, ?_, c1.topo.snoc c2, fun k => ?_, fun k hk => ?_⟩, by simp, new ++ [i], by simp [c3], fun k hk => ?_⟩
    ·simp only
     rw [List.nodup_append]
     exact ⟨c1.nd, by simp, fun x hx y hy => by rw [List.mem_singleton.1 hy]; exact fun e => hir (e ▸ hx)⟩
    ·simp only [c1.been k, List.mem_cons, List.mem_append, List.mem_singleton, List.not_mem_nil, or_false]
     constructor
     ·rintro (h | h | h)
      ·exact .inl (.inl h)
      ·exact .inl (.inr h)
      ·exact .inr h
     ·rintro ((h | h) | h)
      ·exact .inl h
      ·exact .inr (.inl h)
      ·exact .inr (.inr h)
    ·rcases List.mem_append.1 hk with hk | hk
     ·exact fun h => c1.apart k hk (by simp [h])
     ·rw [List.mem_singleton.1 hk]; exact hni
    ·rcases List.mem_append.1 hk with hk | hk
     ·exact .inr (c4 k hk)
     ·exact .inl (List.mem_singleton.1 hk)
theorem st_start (nx : List (List Nat)) (N : Nat) : St nx N [] (List.replicate N false, []) := by
 refine ⟨by simp, by simp, ?_, ?_, ?_⟩
 ·intro a k b e
  simp at e
 ·intro k
  simp only [List.getElem?_replicate, List.not_mem_nil, or_self, iff_false]
  split <;> simp
 ·intro k hk
  simp at hk
theorem St.lt {nx : List (List Nat)} {N : Nat} {stack : List Nat} {s : List Bool × List Nat} (h : St nx N stack s) {k : Nat} (hk : k ∈ s.2) : k < N := by
 have := (h.been k).2 (.inl hk)
 rw [← h.len]
 exact (List.getElem?_eq_some_iff.1 this).1
theorem Topo.shut {nx : List (List Nat)} {out : List Nat} (h : Topo nx out) {a c : Nat} (t : Tg (EdI nx) a c) (ha : a ∈ out) : c ∈ out := by
 induction t with
 | one e =>
  obtain ⟨x, y, hxy⟩ := List.append_of_mem ha
  have := h x _ y hxy _ e
  rw [hxy]
  simp [this]
 | step e _ ih =>
  obtain ⟨x, y, hxy⟩ := List.append_of_mem ha
  have := h x _ y hxy _ e
  exact ih (by rw [hxy]; simp [this])
def EdN (rows : List Ru) (s t : List UInt8) : Prop := ∃ x ∈ rows, x.name = s ∧ t ∈ namT x.tree
structure Cl (rows : List Ru) : Prop where
 nd : (rows.map Ru.name).Nodup
 shut : ∀ x ∈ rows, ∀ s ∈ namT x.tree, s ∈ rows.map Ru.name
def nmI (rows : List Ru) (i : Nat) : List UInt8 := ((rows.map Ru.name)[i]?).getD []
theorem nmI_at {rows : List Ru} {i : Nat} {x : Ru} (h : rows[i]? = some x) : nmI rows i = x.name := by simp [nmI, h]
theorem posK_nd {s : List UInt8} : ∀ {l : List (List UInt8)} {j : Nat}, l.Nodup → l[j]? = some s → posK s l = some j
 | [], j, _, h => by simp at h
 | x :: l, 0, _, h => by simp at h; simp [posK, h]
 | x :: l, j + 1, hn, h => by
  rw [List.nodup_cons] at hn
  have h' : l[j]? = some s := by simpa using h
  have hx : x ≠ s := fun e => hn.1 (e ▸ List.mem_of_getElem? h')
  simp only [posK]
  rw [if_neg hx, posK_nd hn.2 h']
  rfl
theorem at_name {rows : List Ru} {s : List UInt8} (h : s ∈ rows.map Ru.name) : ∃ j, j < rows.length ∧ nmI rows j = s ∧ atP (rows.map Ru.name) s = j ∧ posK s (rows.map Ru.name) = some j := by
 cases hp : posK s (rows.map Ru.name) with
 | none => exact absurd h (posK_none.1 hp)
 | some j =>
  obtain ⟨h1, h2⟩ := posK_some hp
  exact ⟨j, by simpa using h1, by unfold nmI; rw [h2]; rfl, by unfold atP; rw [hp]; rfl, rfl⟩
theorem nxG_at {rows : List Ru} {i : Nat} {x : Ru} (h : rows[i]? = some x) : (nxG rows)[i]?.getD [] = (namT x.tree).map (atP (rows.map Ru.name)) := by
 unfold nxG nxR
 rw [List.getElem?_map, h]
 rfl
theorem edge_nm {rows : List Ru} (hc : Cl rows) {i j : Nat} (h : EdI (nxG rows) i j) : i < rows.length ∧ j < rows.length ∧ EdN rows (nmI rows i) (nmI rows j) := by
 unfold EdI at h
 cases hi : rows[i]? with
 | none =>
  unfold nxG at h
  rw [List.getElem?_map, hi] at h
  simp at h
 | some x =>
  have hx := List.mem_of_getElem? hi
  rw [nxG_at hi] at h
  obtain ⟨s, hs, e⟩ := List.mem_map.1 h
  obtain ⟨j', h1, h2, h3, _⟩ := at_name (hc.shut x hx s hs)
  obtain rfl : j' = j := by rw [← h3, e]
  exact ⟨(List.getElem?_eq_some_iff.1 hi).1, h1, x, hx, (nmI_at hi).symm, by rw [h2]; exact hs⟩
theorem nmI_inj {rows : List Ru} (hc : Cl rows) {i j : Nat} (hi : i < rows.length) (hj : j < rows.length) (h : nmI rows i = nmI rows j) : i = j := by
 have h1 : (rows.map Ru.name)[i]? = some (nmI rows i) := by unfold nmI; rw [List.getElem?_eq_getElem (by simpa using hi)]; rfl
 have h2 : (rows.map Ru.name)[j]? = some (nmI rows i) := by rw [h]; unfold nmI; rw [List.getElem?_eq_getElem (by simpa using hj)]; rfl
 have := posK_nd hc.nd h1
 rw [posK_nd hc.nd h2] at this
 exact (Option.some.inj this).symm
theorem nm_edge {rows : List Ru} (hc : Cl rows) {s t : List UInt8} (h : EdN rows s t) {i : Nat} (hi : i < rows.length) (hs : nmI rows i = s) : ∃ j, j < rows.length ∧ nmI rows j = t ∧ EdI (nxG rows) i j := by
 obtain ⟨x, hx, e, ht⟩ := h
 obtain ⟨k, hk⟩ := List.getElem?_of_mem hx
 obtain rfl : k = i := nmI_inj hc (List.getElem?_eq_some_iff.1 hk).1 hi (by rw [nmI_at hk, e, hs])
 obtain ⟨j, h1, h2, h3, _⟩ := at_name (hc.shut x hx t ht)
 exact ⟨j, h1, h2, by unfold EdI; rw [nxG_at hk]; exact List.mem_map.2 ⟨t, ht, h3⟩⟩
theorem tg_nm {rows : List Ru} (hc : Cl rows) {i j : Nat} (h : Tg (EdI (nxG rows)) i j) : i < rows.length ∧ j < rows.length ∧ Tg (EdN rows) (nmI rows i) (nmI rows j) := by
 induction h with
 | one e => obtain ⟨h1, h2, h3⟩ := edge_nm hc e; exact ⟨h1, h2, .one h3⟩
 | step e _ ih => obtain ⟨h1, _, h3⟩ := edge_nm hc e; exact ⟨h1, ih.2.1, .step h3 ih.2.2⟩
theorem nm_tg {rows : List Ru} (hc : Cl rows) {s t : List UInt8} (h : Tg (EdN rows) s t) : ∀ i, i < rows.length → nmI rows i = s → ∃ j, j < rows.length ∧ nmI rows j = t ∧ Tg (EdI (nxG rows)) i j := by
 induction h with
 | one e =>
  intro i hi hs
  obtain ⟨j, h1, h2, h3⟩ := nm_edge hc e hi hs
  exact ⟨j, h1, h2, .one h3⟩
 | step e _ ih =>
  intro i hi hs
  obtain ⟨j, h1, h2, h3⟩ := nm_edge hc e hi hs
  obtain ⟨k, k1, k2, k3⟩ := ih j h1 h2
  exact ⟨k, k1, k2, .step h3 k3⟩
theorem tg_from {rows : List Ru} {s t : List UInt8} (h : Tg (EdN rows) s t) : s ∈ rows.map Ru.name := by
 have key : ∀ {s t}, EdN rows s t → s ∈ rows.map Ru.name := fun ⟨x, hx, e, _⟩ => List.mem_map.2 ⟨x, hx, e⟩
 cases h with
 | one e => exact key e
 | step e _ => exact key e
theorem nm_self {rows : List Ru} (hc : Cl rows) {s : List UInt8} (h : Tg (EdN rows) s s) : ∃ i, i < rows.length ∧ nmI rows i = s ∧ Tg (EdI (nxG rows)) i i := by
 obtain ⟨i, h1, h2, _, _⟩ := at_name (tg_from h)
 obtain ⟨j, k1, k2, k3⟩ := nm_tg hc h i h1 h2
 obtain rfl := nmI_inj hc h1 k1 (by rw [h2, k2])
 exact ⟨i, h1, h2, k3⟩
theorem acyc_nm {rows : List Ru} (hc : Cl rows) (ha : ∀ s, ¬ Tg (EdN rows) s s) : ∀ i, ¬ Tg (EdI (nxG rows)) i i := fun i h => ha _ (tg_nm hc h).2.2
theorem lackP_none {nm : List (List UInt8)} : ∀ {l : List Ru}, lackP nm l = none ↔ ∀ x ∈ l, ∀ s ∈ namT x.tree, s ∈ nm
 | [] => by simp [lackP]
 | x :: l => by
  rw [lackP]
  cases hf : (namT x.tree).find? fun s => !decide (s ∈ nm) with
  | some s =>
   have h1 := List.mem_of_find?_eq_some hf
   have h2 := List.find?_some hf
   simp at h2
   simp only [reduceCtorEq, false_iff]
   exact fun h => h2 (h x (by simp) s h1)
  | none =>
   have h0 : ∀ s ∈ namT x.tree, s ∈ nm := by simpa using hf
   simp only [lackP_none (l := l)]
   exact ⟨fun h y hy => by
    rcases List.mem_cons.1 hy with rfl | hy
    ·exact h0
    ·exact h y hy, fun h y hy => h y (by simp [hy])⟩
theorem lackP_some {nm : List (List UInt8)} {s : List UInt8} : ∀ {l : List Ru}, lackP nm l = some s → s ∉ nm ∧ ∃ x ∈ l, s ∈ namT x.tree
 | [], h => by simp [lackP] at h
 | x :: l, h => by
  rw [lackP] at h
  cases hf : (namT x.tree).find? fun s => !decide (s ∈ nm) with
  | some s' =>
   rw [hf] at h
   obtain rfl := Option.some.inj h
   have h2 := List.find?_some hf
   simp at h2
   exact ⟨h2, x, by simp, List.mem_of_find?_eq_some hf⟩
  | none =>
   rw [hf] at h
   obtain ⟨h1, y, hy, h2⟩ := lackP_some h
   exact ⟨h1, y, by simp [hy], h2⟩
theorem Cl.lack {rows : List Ru} (hc : Cl rows) : lackP (rows.map Ru.name) rows = none := lackP_none.2 hc.shut
def ordR (rows : List Ru) : List Ru := (ordS rows rows.length).2.map fun i => copyR (getR rows i)
theorem gathR_acyc {rows : List Ru} (hc : Cl rows) (ha : ∀ s, ¬ Tg (EdN rows) s s) : gathR rows = (ordR rows, [], 0) := by
 unfold gathR
 rw [hc.lack, (loopP_spec (N := rows.length) (nxG_lt rows) rows 0).1.2 fun d _ h => acyc_nm hc ha _ h]
 rfl
theorem gathR_loop {rows : List Ru} (hc : Cl rows) {s : List UInt8} (h : Tg (EdN rows) s s) : ∃ t, gathR rows = ([], t, 33) ∧ Tg (EdN rows) t t := by
 obtain ⟨i, h1, _, h3⟩ := nm_self hc h
 obtain ⟨l1, l2⟩ := loopP_spec (N := rows.length) (nxG_lt rows) rows 0
 cases hl : loopP (nxG rows) rows.length rows 0 with
 | none => exact absurd h3 (by simpa using l1.1 hl i h1)
 | some t =>
  obtain ⟨d, x, e1, e2, e3⟩ := l2 t hl
  refine ⟨t, ?_, ?_⟩
  ·unfold gathR
   rw [hc.lack, hl]
  ·have := (tg_nm hc e3).2.2
   rw [Nat.zero_add, nmI_at e1, e2] at this
   exact this
theorem gathR_lack {rows : List Ru} {s : List UInt8} (h : lackP (rows.map Ru.name) rows = some s) : gathR rows = ([], s, 32) := by
 unfold gathR
 rw [h]
theorem namL_mem {s : List UInt8} : ∀ {l : List Tr}, s ∈ namL l ↔ ∃ t ∈ l, s ∈ namT t
 | [] => by simp [namL]
 | t :: l => by simp [namL, namL_mem (l := l)]
theorem namL_fm : ∀ l : List Tr, namL l = l.flatMap namT
 | [] => rfl
 | t :: l => by simp [namL, namL_fm l]
theorem nam_copyN : ∀ (n : Nat) (t : Tr), t.size ≤ n → namT (copyT t) = namT t
 | 0, t, h => by cases t; simp [Tr.size] at h
 | n + 1, t, h => by
  have hk : ∀ k ∈ t.kids, namT (copyT k) = namT k := fun k hk => nam_copyN n k (by have := Tr.size_kid hk; omega)
  cases t with
  | mk k s lo hi mn mx f ks =>
   rw [copyT, namT, namT, namL_fm, namL_fm, copyL_map]
   have : (ks.map copyT).flatMap namT = ks.flatMap namT := by
    rw [List.flatMap_map]
    have hk' : ∀ k ∈ ks, namT (copyT k) = namT k := hk
    clear hk h
    induction ks with
    | nil => rfl
    | cons a l ih => simp only [List.flatMap_cons]; rw [hk' a (by simp), ih fun k hk => hk' k (by simp [hk])]
   rw [this]
theorem nam_copy (t : Tr) : namT (copyT t) = namT t := nam_copyN _ t (Nat.le_refl _)
theorem ord_st {rows : List Ru} (hc : Cl rows) (ha : ∀ s, ¬ Tg (EdN rows) s s) : ∀ k, k ≤ rows.length → St (nxG rows) rows.length [] (ordS rows k) ∧ ∀ j, j < k → j ∈ (ordS rows k).2
 | 0, _ => ⟨by simpa [ordS] using st_start (nxG rows) rows.length, by simp⟩
 | k + 1, hk => by
  obtain ⟨h1, h2⟩ := ord_st hc ha k (by omega)
  have hf := (ordS_facts rows k (by omega)).2.1
  rw [ordS_succ]
  obtain ⟨a1, a2, new, a3, a4⟩ := thr_spec (nxG_lt rows) (acyc_nm hc ha) rows.length k [] (ordS rows k) h1 (by omega) (by omega) (by simp)
  refine ⟨a1, fun j hj => ?_⟩
  by_cases e : j = k
  ·rw [e]; exact a2
  ·rw [a3]
   exact List.mem_append_left _ (h2 j (by omega))
theorem cf_zero {b : List Bool} (h : ∀ i, i < b.length → b[i]? = some true) : cf b = 0 := by
 unfold cf
 rw [List.length_eq_zero_iff, List.filter_eq_nil_iff]
 intro x hx
 obtain ⟨i, hi⟩ := List.getElem?_of_mem hx
 rw [h i (List.getElem?_eq_some_iff.1 hi).1] at hi
 cases hi
 decide
section
variable {rows : List Ru} (hc : Cl rows) (ha : ∀ s, ¬ Tg (EdN rows) s s)
include hc ha
theorem ordR_len : (ordR rows).length = rows.length := by
 obtain ⟨h1, h2⟩ := ord_st hc ha rows.length (Nat.le_refl _)
 have hf := (ordS_facts rows rows.length (Nat.le_refl _)).2.1
 have : cf (ordS rows rows.length).1 = 0 := cf_zero fun i hi => (h1.been i).2 (.inl (h2 i (by rw [← h1.len]; exact hi)))
 unfold ordR
 rw [List.length_map]
 omega
theorem ordR_mem {x : Ru} : x ∈ ordR rows ↔ ∃ y ∈ rows, x = copyR y := by
 obtain ⟨h1, h2⟩ := ord_st hc ha rows.length (Nat.le_refl _)
 unfold ordR
 constructor
 ·intro h
  obtain ⟨i, hi, rfl⟩ := List.mem_map.1 h
  have hlt := h1.lt hi
  exact ⟨rows[i], by simp, by simp [getR, List.getElem?_eq_getElem hlt]⟩
 ·rintro ⟨y, hy, rfl⟩
  obtain ⟨i, hi⟩ := List.getElem?_of_mem hy
  exact List.mem_map.2 ⟨i, h2 i (List.getElem?_eq_some_iff.1 hi).1, by simp [getR, hi]⟩
theorem ordR_ed (s t : List UInt8) : EdN (ordR rows) s t ↔ EdN rows s t := by
 unfold EdN
 constructor
 ·rintro ⟨x, hx, e1, e2⟩
  obtain ⟨y, hy, rfl⟩ := (ordR_mem hc ha).1 hx
  exact ⟨y, hy, e1, by simpa [copyR, nam_copy] using e2⟩
 ·rintro ⟨y, hy, e1, e2⟩
  exact ⟨copyR y, (ordR_mem hc ha).2 ⟨y, hy, rfl⟩, e1, by simpa [copyR, nam_copy] using e2⟩
theorem ordR_right (hg : ∀ x ∈ rows, x.more = false ∧ gvP (copyR x) = true) : rightG (ordR rows) [] = true := by
 obtain ⟨h1, h2⟩ := ord_st hc ha rows.length (Nat.le_refl _)
 have key : ∀ (b a : List Nat), (ordS rows rows.length).2 = a ++ b → rightG (b.map fun i => copyR (getR rows i)) (a.map (nmI rows)) = true := by
  intro b
  induction b with
  | nil => intro a _; rfl
  | cons k b ih =>
   intro a e
   have hk : k ∈ (ordS rows rows.length).2 := by rw [e]; simp
   have hlt := h1.lt hk
   have hr : rows[k]? = some (getR rows k) := by simp [getR, List.getElem?_eq_getElem hlt]
   have hm := List.mem_of_getElem? hr
   obtain ⟨g1, g2⟩ := hg _ hm
   have hnm := nmI_at hr
   rw [List.map_cons, rightG]
   have c1 : (copyR (getR rows k)).more = false := g1
   have c3 : (copyR (getR rows k)).name ∉ a.map (nmI rows) := by
    intro hh
    obtain ⟨i, hi, ei⟩ := List.mem_map.1 hh
    have hi' : i ∈ (ordS rows rows.length).2 := by rw [e]; simp [hi]
    obtain rfl : i = k := nmI_inj hc (h1.lt hi') hlt (by rw [ei, hnm]; rfl)
    have := h1.nd
    rw [e, List.nodup_append] at this
    exact this.2.2 i hi i (by simp) rfl
   have c4 : ∀ s ∈ namT (copyR (getR rows k)).tree, s ∈ a.map (nmI rows) := by
    intro s hs
    have hs' : s ∈ namT (getR rows k).tree := by simpa [copyR, nam_copy] using hs
    obtain ⟨j, j1, j2, j3, _⟩ := at_name (hc.shut _ hm s hs')
    have : j ∈ a := h1.topo a k b e j (by rw [nxG_at hr]; exact List.mem_map.2 ⟨s, hs', j3⟩)
    exact List.mem_map.2 ⟨j, this, j2⟩
   have c5 : ((namT (copyR (getR rows k)).tree).all fun s => decide (s ∈ a.map (nmI rows))) = true := List.all_eq_true.2 fun s hs => decide_eq_true (c4 s hs)
   have c6 : decide ((copyR (getR rows k)).name ∈ a.map (nmI rows)) = false := decide_eq_false c3
   rw [if_neg (by rw [c1, g2, c5, c6]; decide)]
   have := ih (a ++ [k]) (by rw [e]; simp)
   rw [List.map_append, List.map_singleton, hnm] at this
   exact this
 exact key _ [] (by simp)
end
theorem rightG_at : ∀ {l : List Ru} {ahead : List (List UInt8)} {j : Nat} {x : Ru}, rightG l ahead = true → l[j]? = some x → x.more = false ∧ gvP x = true ∧ ∀ s ∈ namT x.tree, s ∈ ahead ++ (l.take j).map Ru.name
 | [], _, _, _, _, h => by simp at h
 | y :: l, ahead, j, x, hr, h => by
  rw [rightG] at hr
  split at hr
  ·cases hr
  ·rename_i hn
   simp at hn
   cases j with
   | zero =>
    obtain rfl : y = x := by simpa using h
    exact ⟨hn.1, hn.2.1, by simpa using hn.2.2.2⟩
   | succ j =>
    obtain ⟨a1, a2, a3⟩ := rightG_at (j := j) (x := x) hr (by simpa using h)
    exact ⟨a1, a2, by simpa using a3⟩
theorem right_cl {l : List Ru} (h : rightG l [] = true) : Cl l ∧ ∀ i j, EdI (nxG l) i j → j < i := by
 have hshut : ∀ {j x}, l[j]? = some x → ∀ s ∈ namT x.tree, s ∈ (l.take j).map Ru.name := fun hj s hs => by simpa using (rightG_at h hj).2.2 s hs
 have hnew : ∀ {j x}, l[j]? = some x → x.name ∉ (l.take j).map Ru.name := fun hj => by simpa using rightG_new h hj
 have hnd : (l.map Ru.name).Nodup := by
  unfold List.Nodup
  rw [List.pairwise_iff_getElem]
  intro i j hi hj hij e
  have hi' : i < l.length := by simpa using hi
  have hj' : j < l.length := by simpa using hj
  have := hnew (List.getElem?_eq_getElem hj')
  refine this ?_
  simp only [List.getElem_map] at e
  rw [← e]
  refine List.mem_map.2 ⟨l[i], ?_, rfl⟩
  rw [List.mem_iff_getElem?]
  exact ⟨i, by rw [List.getElem?_take_of_lt hij, List.getElem?_eq_getElem hi']⟩
 have hc : Cl l := ⟨hnd, fun x hx s hs => by
  obtain ⟨j, hj⟩ := List.getElem?_of_mem hx
  obtain ⟨y, hy, e⟩ := List.mem_map.1 (hshut hj s hs)
  exact List.mem_map.2 ⟨y, List.mem_of_mem_take hy, e⟩⟩
 refine ⟨hc, fun i j e => ?_⟩
 unfold EdI at e
 cases hi : l[i]? with
 | none =>
  unfold nxG at e
  rw [List.getElem?_map, hi] at e
  simp at e
 | some x =>
  rw [nxG_at hi] at e
  obtain ⟨s, hs, e⟩ := List.mem_map.1 e
  obtain ⟨y, hy, ey⟩ := List.mem_map.1 (hshut hi s hs)
  obtain ⟨k, hk⟩ := List.getElem?_of_mem hy
  have hki : k < i := by
   have := (List.getElem?_eq_some_iff.1 hk).1
   simp at this
   omega
  have hk' : l[k]? = some y := by rw [List.getElem?_take_of_lt hki] at hk; exact hk
  have : posK s (l.map Ru.name) = some k := posK_nd hnd (by simp [hk', ey])
  unfold atP at e
  rw [this] at e
  simp at e
  omega
theorem right_acyc {l : List Ru} (h : rightG l [] = true) : ∀ i, ¬ Tg (EdI (nxG l)) i i := by
 have : ∀ {i j}, Tg (EdI (nxG l)) i j → j < i := by
  intro i j t
  induction t with
  | one e => exact (right_cl h).2 _ _ e
  | step e _ ih => have := (right_cl h).2 _ _ e; omega
 exact fun i t => absurd (this t) (by omega)
theorem ledP_mem {rows : List Ru} {a : Nat} {been : List Bool} {t : List UInt8} : ∀ (l : List Ru) (i : Nat), t ∈ ledP rows a been i l ↔ ∃ d x, l[d]? = some x ∧ x.name = t ∧ been[i + d]? = some true ∧ i + d ≠ a
 | [], i => by simp [ledP]
 | x :: l, i => by
  have ih := ledP_mem (rows := rows) (a := a) (been := been) (t := t) l (i + 1)
  have hs : (∃ d y, (x :: l)[d]? = some y ∧ y.name = t ∧ been[i + d]? = some true ∧ i + d ≠ a) ↔ (x.name = t ∧ been[i]? = some true ∧ i ≠ a) ∨ ∃ d y, l[d]? = some y ∧ y.name = t ∧ been[i + 1 + d]? = some true ∧ i + 1 + d ≠ a := by
   constructor
   ·rintro ⟨d, y, h1, h2, h3, h4⟩
    cases d with
    | zero => obtain rfl : x = y := by simpa using h1
              exact .inl ⟨h2, h3, h4⟩
    | succ d => exact .inr ⟨d, y, by simpa using h1, h2, by rwa [show i + 1 + d = i + (d + 1) by omega], by omega⟩
   ·rintro (⟨h2, h3, h4⟩ | ⟨d, y, h1, h2, h3, h4⟩)
    ·exact ⟨0, x, rfl, h2, h3, h4⟩
    ·exact ⟨d + 1, y, by simpa using h1, h2, by rwa [show i + (d + 1) = i + 1 + d by omega], by omega⟩
  rw [hs, ← ih, ledP]
  have hb : (been[i]?.getD false && decide (i ≠ a)) = true ↔ been[i]? = some true ∧ i ≠ a := by
   cases hq : been[i]? with
   | none => simp
   | some b => simp
  by_cases hcond : been[i]? = some true ∧ i ≠ a
  ·rw [if_pos (hb.2 hcond)]
   simp only [List.mem_cons]
   constructor
   ·rintro (h | h)
    ·exact .inl ⟨h.symm, hcond⟩
    ·exact .inr h
   ·rintro (h | h)
    ·exact .inl h.1.symm
    ·exact .inr h
  ·rw [if_neg (fun h => hcond (hb.1 h))]
   constructor
   ·exact .inr
   ·rintro (h | h)
    ·exact absurd h.2 hcond
    ·exact h
theorem leads_spec {l : List Ru} (h : rightG l [] = true) {s : List UInt8} (hs : s ∈ l.map Ru.name) : (leadsP l s).2 = true ∧ ∀ t, t ∈ (leadsP l s).1 ↔ Tg (EdN l) s t := by
 obtain ⟨hc, _⟩ := right_cl h
 have hac := right_acyc h
 obtain ⟨a, a1, a2, _, a4⟩ := at_name hs
 have hf : findG l s = (a, true) := by unfold findG; rw [a4]
 unfold leadsP
 rw [hf, h]
 simp only [Bool.and_self, if_true, true_and]
 intro t
 obtain ⟨b1, b2, new, b3, b4⟩ := thr_spec (N := l.length) (nxG_lt l) hac l.length a [] (List.replicate l.length false, []) (st_start _ _) a1 (by rw [cf_false]; exact Nat.le_refl _) (by simp)
 generalize thr (nxG l) (l.length + 1) a (List.replicate l.length false, []) = r at *
 rw [List.nil_append] at b3
 rw [ledP_mem]
 constructor
 ·rintro ⟨d, x, e1, e2, e3, e4⟩
  rw [Nat.zero_add] at e3 e4
  have hd : d ∈ r.2 := by
   rcases (b1.been d).1 e3 with h | h
   ·exact h
   ·simp at h
  rw [b3] at hd
  rcases b4 d hd with h | h
  ·exact absurd h e4
  ·have := (tg_nm hc h).2.2
   rw [a2, nmI_at e1, e2] at this
   exact this
 ·intro ht
  obtain ⟨j, j1, j2, j3⟩ := nm_tg hc ht a a1 a2
  have hj : j ∈ r.2 := b1.topo.shut j3 b2
  have hr : l[j]? = some l[j] := List.getElem?_eq_getElem j1
  refine ⟨j, l[j], hr, by rw [← nmI_at hr, j2], by rw [Nat.zero_add]; exact (b1.been j).2 (.inl hj), ?_⟩
  rw [Nat.zero_add]
  intro e
  exact hac a (e ▸ j3)
theorem fitsP_le : ∀ (d e : Nat) (t : Tr), d ≤ e → fitsP d t = true → fitsP e t = true
 | 0, e, t, _, h => by simp [fitsP] at h
 | d + 1, 0, t, hd, h => by omega
 | d + 1, e + 1, t, hd, h => by
  simp only [fitsP, Bool.and_eq_true] at h ⊢
  exact ⟨h.1, List.all_eq_true.2 fun k hk => fitsP_le d e k (by omega) (List.all_eq_true.1 h.2 k hk)⟩
theorem nam_fitsN {nm : List (List UInt8)} : ∀ {d : Nat} {t : Tr}, fitsN nm d t = true → ∀ s ∈ namT t, s ∈ nm
 | 0, t, h => by simp [fitsN] at h
 | d + 1, t, h => by
  simp only [fitsN, Bool.and_eq_true, Bool.or_eq_true, bne_iff_ne, decide_eq_true_eq] at h
  obtain ⟨_, h1, _, h3⟩ := h
  intro s hs
  rw [namT_eq] at hs
  split at hs
  ·rename_i e
   rcases h1 with h1 | h1
   ·exact absurd e h1
   ·obtain rfl := List.mem_singleton.1 hs; exact h1
  ·obtain ⟨k, hk, hs⟩ := namL_mem.1 hs
   exact nam_fitsN (List.all_eq_true.1 h3 k hk) s hs
theorem gathS_new : ∀ (l : List Ru) (gs : Gs), (∀ x ∈ l, x.more = false) → (nmG gs ++ l.map Ru.name).Nodup → gathS l gs = .ok (gs ++ l.map fun x => (x, [x.tree]))
 | [], gs, _, _ => by simp [gathS]
 | x :: l, gs, hm, hn => by
  have h1 : x.name ∉ nmG gs := by
   rw [List.nodup_append] at hn
   intro h
   exact hn.2.2 _ h x.name (by simp) rfl
  have h2 := gathS_new l (gs ++ [(x, [x.tree])]) (fun y hy => hm y (by simp [hy])) (by simpa [nmG] using hn)
  simp only [gathS, gstep, posK_none.2 h1, hm x (by simp), Bool.false_eq_true, if_false]
  rw [h2]
  simp
theorem gathS_app : ∀ (l m : List Ru) (gs gs' : Gs), gathS l gs = .ok gs' → gathS (l ++ m) gs = gathS m gs'
 | [], m, gs, gs', h => by injection h with h; subst h; rfl
 | x :: l, m, gs, gs', h => by
  simp only [gathS, List.cons_append] at h ⊢
  cases hg : gstep gs x with
  | bad n e => rw [hg] at h; cases h
  | ok g => rw [hg] at h; exact gathS_app l m g gs' h
theorem deepG_none : ∀ {gs : Gs}, (∀ p ∈ gs, fitsP 100 (treeG p) = true) → deepG gs = none
 | [], _ => rfl
 | p :: gs, h => by
  rw [deepG, if_pos (h p (by simp))]
  exact deepG_none fun q hq => h q (by simp [hq])
theorem gvP_iff (x : Ru) : gvP x = true ↔ namedP x.name = true ∧ fitsP 100 x.tree = true := by
 unfold gvP printP
 cases namedP x.name <;> cases fitsP 100 x.tree <;> simp
def gnames : List (List UInt8) := [[97], [98], [99, 50], [100, 45, 101], [102], [103], [104], [105]]
theorem gnames_ok : ∀ s ∈ gnames, namedP s = true ∧ s.length ≤ 3 := by decide
theorem gnames_nd (n : Nat) : (gnames.take n).Nodup := (List.take_sublist _ _).nodup (by decide)
structure GrR (l : List Ru) : Prop where
 pos : 1 ≤ l.length
 len : l.length ≤ 8
 at_ : ∀ (i : Nat) (x : Ru), l[i]? = some x → gnames[i]? = some x.name ∧ x.pos = 0 ∧ x.more = false ∧ fitsN (gnames.take i) 7 x.tree = true
section
variable {l : List Ru} (h : GrR l)
include h
theorem GrR.names : l.map Ru.name = gnames.take l.length := by
 apply List.ext_getElem?
 intro i
 rw [List.getElem?_map]
 by_cases hi : i < l.length
 ·rw [List.getElem?_take_of_lt hi, List.getElem?_eq_getElem hi, (h.at_ i _ (List.getElem?_eq_getElem hi)).1]; rfl
 ·rw [List.getElem?_eq_none (by omega), List.getElem?_eq_none (by simp; omega)]; rfl
theorem GrR.nd : (l.map Ru.name).Nodup := by rw [h.names]; exact gnames_nd _
theorem GrR.more {x : Ru} (hx : x ∈ l) : x.more = false := by
 obtain ⟨i, hi⟩ := List.getElem?_of_mem hx
 exact (h.at_ i x hi).2.2.1
theorem GrR.fits {x : Ru} (hx : x ∈ l) : fitsP 7 x.tree = true := by
 obtain ⟨i, hi⟩ := List.getElem?_of_mem hx
 exact fitsN_P (h.at_ i x hi).2.2.2
theorem GrR.named {x : Ru} (hx : x ∈ l) : namedP x.name = true ∧ x.name.length ≤ 3 := by
 obtain ⟨i, hi⟩ := List.getElem?_of_mem hx
 exact gnames_ok _ (List.mem_of_getElem? (h.at_ i x hi).1)
theorem GrR.wt {x : Ru} (hx : x ∈ l) : x.tree.wt ≤ 27325 := by
 obtain ⟨i, hi⟩ := List.getElem?_of_mem hx
 have := fitsN_wt (h.at_ i x hi).2.2.2
 have e : wtB 7 = 27325 := by decide
 omega
theorem GrR.gv {x : Ru} (hx : x ∈ l) : gvP x = true := (gvP_iff x).2 ⟨(h.named hx).1, fitsP_le 7 100 _ (by omega) (h.fits hx)⟩
theorem GrR.right : rightG l [] = true := by
 have key : ∀ (b a : List Ru), l = a ++ b → rightG b (a.map Ru.name) = true := by
  intro b
  induction b with
  | nil => intro a _; rfl
  | cons x b ih =>
   intro a e
   have hx : l[a.length]? = some x := by rw [e]; simp
   have hm := List.mem_of_getElem? hx
   obtain ⟨h1, h2, h3, h4⟩ := h.at_ _ x hx
   have hlt := (List.getElem?_eq_some_iff.1 hx).1
   have hta : a.map Ru.name = gnames.take a.length := by
    have := congrArg (List.take a.length) h.names
    rw [e, List.map_append, List.take_left' (by simp), List.take_take, ← e, Nat.min_eq_left (by omega)] at this
    exact this
   have c3 : x.name ∉ a.map Ru.name := by
    have := h.nd
    rw [e, List.map_append, List.nodup_append] at this
    intro hh
    exact this.2.2 _ hh x.name (by simp) rfl
   have c4 : ((namT x.tree).all fun s => decide (s ∈ a.map Ru.name)) = true := List.all_eq_true.2 fun s hs => decide_eq_true (by rw [hta]; exact nam_fitsN h4 s hs)
   rw [rightG, if_neg (by rw [h3, h.gv hm, c4, decide_eq_false c3]; decide)]
   have := ih (a ++ [x]) (by rw [e]; simp)
   rw [List.map_append, List.map_singleton] at this
   exact this
 exact key l [] rfl
theorem GrR.cl : Cl l := (right_cl h.right).1
theorem GrR.acyc (s : List UInt8) : ¬ Tg (EdN l) s s := fun t => by
 obtain ⟨i, _, _, t'⟩ := nm_self h.cl t
 exact right_acyc h.right i t'
theorem GrR.lok : LOk l := by
 have hw : wts (l.map Ru.tree) ≤ (l.map Ru.tree).length * 27325 := wts_leN fun t ht => by
  obtain ⟨x, hx, rfl⟩ := List.mem_map.1 ht
  exact h.wt hx
 have hl := h.len
 rw [List.length_map] at hw
 have : l.length * 27325 ≤ 8 * 27325 := Nat.mul_le_mul_right _ hl
 exact ⟨by omega, fun x hx => ⟨by have := (h.named hx).2; omega, by have := h.wt hx; omega⟩, by omega⟩
theorem GrR.gathS : gathS l [] = .ok (l.map fun x => (x, [x.tree])) := by
 have := gathS_new l [] (fun x hx => h.more hx) (by simpa [nmG] using h.nd)
 simpa using this
theorem GrR.gath : gatherP l = (ordR l, [], 0) := by
 unfold gatherP
 rw [if_pos (List.all_eq_true.2 fun x hx => h.gv hx), h.gathS]
 have hd : deepG (l.map fun x => (x, [x.tree])) = none := deepG_none fun p hp => by
  obtain ⟨x, hx, rfl⟩ := List.mem_map.1 hp
  exact fitsP_le 7 100 _ (by omega) (h.fits hx)
 have hr : (l.map fun x => (x, [x.tree])).map rowG = l := by
  rw [List.map_map]
  exact List.map_id' _
 simp only [hd, hr]
 exact gathR_acyc h.cl h.acyc
end
def besT (b : Tr) (s : List UInt8) : Tr := .mk 7 [] 0 0 0 1 true [.mk 5 [] 0 0 0 0 true [b, .mk 1 s 0 0 0 0 true []]]
def moR (x : Ru) (b : Tr) (s : List UInt8) : Ru := ⟨x.name, 0, true, besT b s⟩
def moL (l : List Ru) (j : Nat) (x : Ru) (b : Tr) (s : List UInt8) : List Ru := l.set j { x with tree := orT [x.tree, besT b s] }
theorem besT_fits {b : Tr} {s : List UInt8} (hb : fitsP 7 b = true) (hs : namedP s = true) : fitsP 9 (besT b s) = true := by
 have h1 : fitsP 7 (.mk 1 s 0 0 0 0 true []) = true := by
  simp [fitsP, aloneP, Tr.k, Tr.s, Tr.lo, Tr.hi, Tr.mn, Tr.mx, Tr.kids, hs]
 have h2 : aloneP (.mk 5 [] 0 0 0 0 true [b, .mk 1 s 0 0 0 0 true []]) = true := by simp [aloneP, Tr.k, Tr.s, Tr.lo, Tr.hi, Tr.mn, Tr.mx, Tr.kids]
 have h3 : fitsP 8 (.mk 5 [] 0 0 0 0 true [b, .mk 1 s 0 0 0 0 true []]) = true := by
  rw [fitsP, h2]
  simp [Tr.kids, hb, h1]
 have h4 : aloneP (besT b s) = true := by simp [besT, aloneP, Tr.k, Tr.s, Tr.lo, Tr.hi, Tr.mn, Tr.mx, Tr.kids]
 rw [fitsP, h4]
 simp [besT, Tr.kids] at h3 ⊢
 exact h3
theorem besT_nam {b : Tr} {s : List UInt8} (hb : namT b = []) : namT (besT b s) = [s] := by
 simp [besT, namT, namL, hb]
theorem gath_mo {l : List Ru} (h : GrR l) {j : Nat} {x : Ru} (hj : l[j]? = some x) {b : Tr} (hb : fitsN [] 7 b = true) {s : List UInt8} (hs : namedP s = true) : gatherP (l ++ [moR x b s]) = gathR (moL l j x b s) := by
 have hx := List.mem_of_getElem? hj
 have hf := besT_fits (fitsN_P hb) hs
 have hg : gvP (moR x b s) = true := (gvP_iff _).2 ⟨(h.named hx).1, fitsP_le 9 100 _ (by omega) hf⟩
 have hp : posK x.name (nmG (l.map fun x => (x, [x.tree]))) = some j := by
  have : nmG (l.map fun x => (x, [x.tree])) = l.map Ru.name := by simp [nmG]
  rw [this]
  exact posK_nd h.nd (by simp [hj])
 have hgs : (l.map fun x => (x, [x.tree]))[j]? = some (x, [x.tree]) := by simp [hj]
 unfold gatherP
 rw [if_pos (List.all_eq_true.2 fun y hy => by
  rcases List.mem_append.1 hy with hy | hy
  ·exact h.gv hy
  ·obtain rfl := List.mem_singleton.1 hy; exact hg), gathS_app _ _ _ _ h.gathS]
 simp only [Go.Proofs.YtcflbdikkcpiaaaGreatDoor.gathS, gstep]
 have hnm : (moR x b s).name = x.name := rfl
 rw [hnm, hp]
 simp only [show (moR x b s).more = true from rfl, if_true]
 unfold addG
 rw [hgs]
 simp only [List.singleton_append]
 have ht : (moR x b s).tree = besT b s := rfl
 rw [ht]
 have hd : deepG ((l.map fun x => (x, [x.tree])).set j (x, [x.tree, besT b s])) = none := deepG_none fun p hp => by
  rcases List.mem_or_eq_of_mem_set hp with hp | rfl
  ·obtain ⟨x, hx, rfl⟩ := List.mem_map.1 hp
   exact fitsP_le 7 100 _ (by omega) (h.fits hx)
  ·show fitsP 100 (orT [x.tree, besT b s]) = true
   have ha : aloneP (orT [x.tree, besT b s]) = true := by simp [orT, aloneP, Tr.k, Tr.s, Tr.lo, Tr.hi, Tr.mn, Tr.mx, Tr.kids]
   rw [fitsP, ha]
   simp [orT, Tr.kids, fitsP_le 7 99 _ (by omega) (h.fits hx), fitsP_le 9 99 _ (by omega) hf]
 have hr : ((l.map fun x => (x, [x.tree])).set j (x, [x.tree, besT b s])).map rowG = moL l j x b s := by
  rw [List.map_set, List.map_map]
  unfold moL
  congr 1
  exact List.map_id' _
 simp only [hd, hr]
section
variable {l : List Ru} (h : GrR l) {j : Nat} {x : Ru} (hj : l[j]? = some x) {b : Tr} (hb : fitsN [] 7 b = true) {s : List UInt8}
include hj in
theorem moL_names : (moL l j x b s).map Ru.name = l.map Ru.name := by
 unfold moL
 rw [List.map_set]
 apply List.ext_getElem?
 intro i
 by_cases e : j = i
 ·subst e
  rw [List.getElem?_set_self (by simpa using (List.getElem?_eq_some_iff.1 hj).1)]
  simp [hj]
 ·rw [List.getElem?_set_ne e]
theorem moL_mem {y : Ru} (hy : y ∈ moL l j x b s) : y ∈ l ∨ y = { x with tree := orT [x.tree, besT b s] } := List.mem_or_eq_of_mem_set hy
include hb in
theorem mo_nam : namT (orT [x.tree, besT b s]) = namT x.tree ++ [s] := by
 have hb0 : namT b = [] := List.eq_nil_iff_forall_not_mem.2 fun s hs => by simpa using nam_fitsN hb s hs
 simp [orT, namT, namL, besT_nam hb0]
include hj hb in
theorem moL_ed (a c : List UInt8) : EdN (moL l j x b s) a c ↔ EdN l a c ∨ (a = x.name ∧ c = s) := by
 have hlt := (List.getElem?_eq_some_iff.1 hj).1
 have hin : ({ x with tree := orT [x.tree, besT b s] } : Ru) ∈ moL l j x b s := List.mem_of_getElem? (i := j) (by unfold moL; rw [List.getElem?_set_self hlt])
 constructor
 ·rintro ⟨y, hy, e1, e2⟩
  rcases moL_mem hy with hy | rfl
  ·exact .inl ⟨y, hy, e1, e2⟩
  ·simp only [mo_nam hb] at e1 e2
   rcases List.mem_append.1 e2 with e2 | e2
   ·exact .inl ⟨x, List.mem_of_getElem? hj, e1, e2⟩
   ·exact .inr ⟨e1.symm, by simpa using e2⟩
 ·rintro (⟨y, hy, e1, e2⟩ | ⟨rfl, rfl⟩)
  ·by_cases e : y = x
   ·subst e
    exact ⟨_, hin, e1, by simp only [mo_nam hb]; exact List.mem_append_left _ e2⟩
   ·obtain ⟨i, hi⟩ := List.getElem?_of_mem hy
    have hne : j ≠ i := fun q => by subst q; rw [hj] at hi; exact e (Option.some.inj hi).symm
    exact ⟨y, List.mem_of_getElem? (i := i) (by unfold moL; rw [List.getElem?_set_ne hne]; exact hi), e1, e2⟩
  ·exact ⟨_, hin, rfl, by simp only [mo_nam hb]; simp⟩
theorem tg_more {α : Type} {E F : α → α → Prop} {p q : α} (hF : ∀ a c, F a c → E a c ∨ (a = p ∧ c = q)) {a c : α} (t : Tg F a c) : Tg E a c ∨ ((a = p ∨ Tg E a p) ∧ (q = c ∨ Tg F q c)) := by
 induction t with
 | one e =>
  rcases hF _ _ e with e | ⟨rfl, rfl⟩
  ·exact .inl (.one e)
  ·exact .inr ⟨.inl rfl, .inl rfl⟩
 | step e k ih =>
  rcases hF _ _ e with e | ⟨rfl, rfl⟩
  ·rcases ih with ih | ⟨ih, k⟩
   ·exact .inl (.step e ih)
   ·refine .inr ⟨.inr ?_, k⟩
    rcases ih with rfl | ih
    ·exact .one e
    ·exact .step e ih
  ·exact .inr ⟨.inl rfl, .inr k⟩
theorem tg_last {α : Type} {E F : α → α → Prop} {p q : α} (hF : ∀ a c, F a c → E a c ∨ (a = p ∧ c = q)) {a c : α} (t : Tg F a c) : Tg E a c ∨ q = c ∨ Tg E q c := by
 induction t with
 | one e =>
  rcases hF _ _ e with e | ⟨rfl, rfl⟩
  ·exact .inl (.one e)
  ·exact .inr (.inl rfl)
 | step e k ih =>
  rcases ih with ih | ih
  ·rcases hF _ _ e with e | ⟨rfl, rfl⟩
   ·exact .inl (.step e ih)
   ·exact .inr (.inr ih)
  ·exact .inr ih
include h hj hb in
theorem moL_cl (hs : s ∈ l.map Ru.name) : Cl (moL l j x b s) := by
 refine ⟨by rw [moL_names hj]; exact h.nd, fun y hy t ht => ?_⟩
 rw [moL_names hj]
 rcases moL_mem hy with hy | rfl
 ·exact h.cl.shut y hy t ht
 ·simp only [mo_nam hb] at ht
  rcases List.mem_append.1 ht with ht | ht
  ·exact h.cl.shut x (List.mem_of_getElem? hj) t ht
  ·rw [List.mem_singleton.1 ht]; exact hs
theorem copy_fits : ∀ (d : Nat) (t : Tr), fitsP d t = true → fitsP d (copyT t) = true
 | 0, t, h => by simp [fitsP] at h
 | d + 1, t, h => by
  simp only [fitsP, Bool.and_eq_true] at h ⊢
  obtain ⟨h1, h2⟩ := h
  refine ⟨?_, ?_⟩
  ·cases t with
   | mk k s lo hi mn mx f ks =>
    rw [copyT_eq]
    have e1 : (ks.map copyT).isEmpty = ks.isEmpty := by cases ks <;> rfl
    have e2 : (ks.map copyT).length = ks.length := by simp
    unfold aloneP at h1 ⊢
    simp only [Tr.k, Tr.s, Tr.lo, Tr.hi, Tr.mn, Tr.mx, Tr.kids] at h1 ⊢
    simp only [e1, e2]
    exact h1
  ·rw [copyT_eq]
   show (t.kids.map copyT).all (fitsP d) = true
   rw [List.all_map]
   exact List.all_eq_true.2 fun k hk => copy_fits d k (List.all_eq_true.1 h2 k hk)
theorem copy_gv {x : Ru} (h : gvP x = true) : gvP (copyR x) = true := by
 rw [gvP_iff] at h ⊢
 exact ⟨h.1, copy_fits _ _ h.2⟩
include h in
theorem GrR.ordRight : rightG (ordR l) [] = true := ordR_right h.cl h.acyc fun x hx => ⟨h.more hx, copy_gv (h.gv hx)⟩
include h in
theorem GrR.leads {t : List UInt8} (ht : t ∈ l.map Ru.name) : (leadsP (ordR l) t).2 = true ∧ ∀ c, c ∈ (leadsP (ordR l) t).1 ↔ Tg (EdN l) t c := by
 have hm : t ∈ (ordR l).map Ru.name := by
  obtain ⟨y, hy, rfl⟩ := List.mem_map.1 ht
  exact List.mem_map.2 ⟨copyR y, (ordR_mem h.cl h.acyc).2 ⟨y, hy, rfl⟩, rfl⟩
 obtain ⟨h1, h2⟩ := leads_spec h.ordRight hm
 refine ⟨h1, fun c => (h2 c).trans ⟨?_, ?_⟩⟩
 ·exact Tg.mono fun a b => (ordR_ed h.cl h.acyc a b).1
 ·exact Tg.mono fun a b => (ordR_ed h.cl h.acyc a b).2
include h hj hb in
theorem mo_loop (hn : namedP s = true) (hs : s ∈ l.map Ru.name) (hl : x.name = s ∨ x.name ∈ (leadsP (ordR l) s).1) : ∃ t, gatherP (l ++ [moR x b s]) = ([], t, 33) ∧ (t = x.name ∨ t = s ∨ t ∈ (leadsP (ordR l) s).1) := by
 have ed := moL_ed hj hb (s := s)
 rw [gath_mo h hj hb hn]
 obtain ⟨_, l2⟩ := h.leads hs
 have one : EdN (moL l j x b s) x.name s := (ed _ _).2 (.inr ⟨rfl, rfl⟩)
 have cyc : Tg (EdN (moL l j x b s)) x.name x.name := by
  rcases hl with e | hl
  ·have := one
   rw [← e] at this
   rw [← e]
   exact .one this
  ·exact .step one (Tg.mono (fun a c e => (ed a c).2 (.inl e)) ((l2 _).1 hl))
 obtain ⟨t, e1, e2⟩ := gathR_loop (moL_cl h hj hb hs) cyc
 refine ⟨t, e1, ?_⟩
 rcases tg_last (fun a c => (ed a c).1) e2 with q | q | q
 ·exact absurd q (h.acyc t)
 ·exact .inr (.inl q.symm)
 ·exact .inr (.inr ((l2 _).2 q))
include h hj hb in
theorem mo_fine (hn : namedP s = true) (hs : s ∈ l.map Ru.name) (hl : ¬ (x.name = s ∨ x.name ∈ (leadsP (ordR l) s).1)) : ∃ g, gatherP (l ++ [moR x b s]) = (g, [], 0) ∧ g.length = l.length := by
 have ed := moL_ed hj hb (s := s)
 obtain ⟨_, l2⟩ := h.leads hs
 rw [not_or] at hl
 have ac : ∀ t, ¬ Tg (EdN (moL l j x b s)) t t := by
  intro t ht
  rcases tg_more (fun a c => (ed a c).1) ht with q | ⟨q1, q2⟩
  ·exact h.acyc t q
  ·-- from the new edge's end on back to its start
   have back : s = x.name ∨ Tg (EdN (moL l j x b s)) s x.name := by
    rcases q1 with rfl | q1 <;> rcases q2 with rfl | q2
    ·exact .inl rfl
    ·exact .inr q2
    ·exact .inr (Tg.mono (fun a c e => (ed a c).2 (.inl e)) q1)
    ·exact .inr (q2.trans (Tg.mono (fun a c e => (ed a c).2 (.inl e)) q1))
   rcases back with e | q
   ·exact hl.1 e.symm
   ·rcases tg_last (fun a c => (ed a c).1) q with q | q | q
    ·exact hl.2 ((l2 _).2 q)
    ·exact hl.1 q.symm
    ·exact hl.2 ((l2 _).2 q)
 have hc := moL_cl h hj hb hs
 refine ⟨_, by rw [gath_mo h hj hb hn]; exact gathR_acyc hc ac, ?_⟩
 rw [ordR_len hc ac]
 simp [moL]
include h hj hb in
theorem mo_none (hn : namedP s = true) (hs : s ∉ l.map Ru.name) : gatherP (l ++ [moR x b s]) = ([], s, 32) := by
 rw [gath_mo h hj hb hn]
 refine gathR_lack ?_
 rw [moL_names hj]
 cases hp : lackP (l.map Ru.name) (moL l j x b s) with
 | none =>
  have hlt := (List.getElem?_eq_some_iff.1 hj).1
  have hin : ({ x with tree := orT [x.tree, besT b s] } : Ru) ∈ moL l j x b s := List.mem_of_getElem? (i := j) (by unfold moL; rw [List.getElem?_set_self hlt])
  exact absurd (lackP_none.1 hp _ hin s (by simp only [mo_nam hb]; simp)) hs
 | some t =>
  obtain ⟨h1, y, hy, h2⟩ := lackP_some hp
  rcases moL_mem hy with hy | rfl
  ·exact absurd (h.cl.shut y hy t h2) h1
  ·simp only [mo_nam hb] at h2
   rcases List.mem_append.1 h2 with h2 | h2
   ·exact absurd (h.cl.shut x (List.mem_of_getElem? hj) t h2) h1
   ·rw [List.mem_singleton.1 h2]
end
def rowN (u : List Nat) : AV := .list 1 (u.map fun j => .int .u16 (j : Nat)) .no
set_option maxRecDepth 100000 in
theorem arg_nums {n : Nat} {x : AV} (h : HasE Tryz.prog (Has Tryz.prog n) 53 x) : ∃ U : List Nat, x = .list 1 (U.map fun j => .int .u16 (j : Nat)) .no ∧ (∀ j ∈ U, j ≤ 65535) ∧ U.length ≤ maxLen := by
 obtain ⟨xs, m, rfl, h1, h2⟩ := has_slice Tryz.underlying53 h
 obtain ⟨U, rfl, hU⟩ := choose_list' (p := fun j : Nat => AV.int .u16 (j : Nat)) (q := fun j : Nat => j ≤ 65535) fun x hx => has_u16 Tryz.underlying107 (h2 x hx)
 have hc : Tryz.prog.cellsOf 107 = 1 := by kernel_rfl
 rw [hc]
 exact ⟨U, rfl, hU, by simpa using h1⟩
set_option maxRecDepth 100000 in
theorem arg_rows {n : Nat} {x : AV} (h : HasE Tryz.prog (Has Tryz.prog n) 23 x) : ∃ U : List (List Nat), x = .list 1 (U.map rowN) .no ∧ (∀ u ∈ U, (∀ j ∈ u, j ≤ 65535) ∧ u.length ≤ maxLen) ∧ U.length ≤ maxLen := by
 obtain ⟨xs, m, rfl, h1, h2⟩ := has_slice Tryz.underlying23 h
 obtain ⟨U, rfl, hU⟩ := choose_list' (p := rowN) (q := fun u : List Nat => (∀ j ∈ u, j ≤ 65535) ∧ u.length ≤ maxLen) fun x hx => by
  obtain ⟨u, e, hu, hl⟩ := arg_nums (h2 x hx)
  exact ⟨u, e, hu, hl⟩
 have hc : Tryz.prog.cellsOf 53 = 1 := by kernel_rfl
 rw [hc]
 exact ⟨U, rfl, hU, by simpa using h1⟩
theorem copy_wtN : ∀ (n : Nat) (t : Tr), t.size ≤ n → (copyT t).wt = t.wt
 | 0, t, h => by cases t; simp [Tr.size] at h
 | n + 1, t, h => by
  have hk : ∀ l : List Tr, (∀ k ∈ l, (copyT k).wt = k.wt) → wts (l.map copyT) = wts l := by
   intro l
   induction l with
   | nil => intro _; simp [wts]
   | cons a l ih =>
    intro hl
    have h1 := hl a (by simp)
    have h2 := ih fun k hk => hl k (by simp [hk])
    simp only [List.map_cons, wts]
    omega
  have h1 := hk t.kids fun k hk => copy_wtN n k (by have := Tr.size_kid hk; omega)
  cases t with
  | mk k s lo hi mn mx f ks =>
   rw [wt_eq, wt_eq (Tr.mk k s lo hi mn mx f ks)]
   simp only [copyT, copyL_map, Tr.s, Tr.kids] at h1 ⊢
   omega
theorem copy_wt (t : Tr) : (copyT t).wt = t.wt := copy_wtN _ t (Nat.le_refl _)
theorem elems_rows : ∀ rows : List Ru, elems true 10 (rows.flatMap ruL) rows.length = rows.map ruA
 | [] => rfl
 | x :: l => by
  have h10 : (ruL x).length = 10 := by simp [ruL, Tr.encL_eq]
  simp only [List.flatMap_cons, List.length_cons, elems, List.map_cons, if_true]
  rw [List.take_left' h10, List.drop_left' h10, elems_rows l]
  rfl
theorem onO_frz {H : Heap} {key gb : Nat} {e : TypeId} {rows : List Ru} {f : AV → Heap → Prop} (hg : H[gb]? = some (.grow 10 (rows.flatMap ruL))) (hf : f (.list 10 (rows.map ruA) (.tok key)) ((H.set gb .dead).set key (.tok 10 rows.length e))) : onO (frzA H key 10 e (.gl 10 gb rows.length)) f := by
 have hfl := flat_ru rows
 have : frzA H key 10 e (.gl 10 gb rows.length) = some (.list 10 (rows.map ruA) (.tok key), (H.set gb .dead).set key (.tok 10 rows.length e)) := by
  simp only [frzA, hg]
  rw [if_pos ⟨trivial, trivial, by omega, by omega⟩, elems_rows]
 rw [this, onO_some]
 exact hf
@[simp] theorem frzA_list (h : Heap) (k sz : Nat) (e : TypeId) (s : Nat) (xs : List AV) (r : Rt) : frzA h k sz e (.list s xs r) = some (.list s xs r, h) := rfl
theorem names_ok (h0 : Heap) : M.call 30 [] h0 = some (.list 1 (gnames.map AV.str) .full, h0) := by
 refine call_of tab30 rfl (callF_wp ?_)
 simp [wB30, gnames]
def InvGr (A : List (List Nat)) (ra : Rt) (h0 : Heap) (k : Nat) (σ : Slots) (h : Heap) : Prop := ∃ (i : Nat) (l : List Ru) (gb : Nat), i ≤ A.length ∧ k = A.length - i ∧ GrR l ∧ l.length = (if i = 0 then 1 else i) ∧ h.take h0.length = h0 ∧ h0.length ≤ gb ∧ h[gb]? = some (.grow 10 (l.flatMap ruL)) ∧
 σ 3 = .list 1 (gnames.map AV.str) .full ∧ σ 4 = .gl 10 gb l.length ∧ σ 21 = .list 1 (A.map rowN) ra ∧ σ 22 = .int .i64 (A.length : Nat) ∧ σ 23 = .int .i64 (i : Nat)
theorem grules_ok (A : List (List Nat)) (r : Rt) (hA : ∀ u ∈ A, (∀ j ∈ u, j ≤ 65535) ∧ u.length ≤ 9223372036854775807) (hAl : A.length ≤ 9223372036854775807) (h0 : Heap) :
  ∃ l t q, GrR l ∧ M.call 10 [.list 1 (A.map rowN) r] h0 = some (.list 10 (l.map ruA) (.tok t), h0 ++ q) ∧ (h0 ++ q)[t]? = some (.tok 10 l.length 38) ∧ h0.length ≤ t := by
 obtain ⟨v, h', e, l, t, g1, rfl, g2, g3, g4⟩ : ∃ v h', M.call 10 [.list 1 (A.map rowN) r] h0 = some (v, h') ∧ ∃ l t, GrR l ∧ v = .list 10 (l.map ruA) (.tok t) ∧ h'.take h0.length = h0 ∧ h'[t]? = some (.tok 10 l.length 38) ∧ h0.length ≤ t := by
  refine call_postK tab10 rfl ?_
  generalize hQ : (fun e σ h => isEnd e ∧ ∃ vs, resVals σ h _ = some vs ∧ ∃ l t, GrR l ∧ oneOf vs = .list 10 (l.map ruA) (.tok t) ∧ h.take h0.length = h0 ∧ h[t]? = some (.tok 10 l.length 38) ∧ h0.length ≤ t) = Q
  have L : ∀ (B : List (List Nat)) (rb : Rt) (σ : Slots) (g : Heap), B.length ≤ 8 → (∀ u ∈ B, (∀ j ∈ u, j ≤ 65535) ∧ u.length ≤ 9223372036854775807) → InvGr B rb h0 B.length σ g → Wp M (.loop L10_0) (blkQ 0 (thenQ (Wp M K10_0 Q) Q)) σ g := by
   intro B rb σ g hB8 hB hI
   refine Wp.loop (InvGr B rb h0) ?_ (n := B.length) hI
   clear hI σ g
   rintro k σ g ⟨i, l, gb, hi, rfl, hl, hll, hg, hgb, hrow, s3, s4, s21, s22, s23⟩
   have hlen : h0.length ≤ g.length := by
    have := congrArg List.length hg
    simp at this
    omega
   have hgbl := lt_of_get hrow
   by_cases hlt : i < B.length
   ·obtain ⟨u, hu⟩ : ∃ u, B[i]? = some u := ⟨_, List.getElem?_eq_getElem hlt⟩
    obtain ⟨hu1, hu2⟩ := hB u (List.mem_of_getElem? hu)
    have hltI : (i : Int) < B.length := by omega
    have hadd : IntKind.wrap .i64 ((i : Int) + 1) = ((i + 1 : Nat) : Int) := by rw [wrap64 (by omega) (by omega)]; rfl
    have hrc : (rowN u).cells = [rowN u] := rfl
    have hi8 : i < 8 := by omega
    have hi8I : (i : Int) ≤ 8 := by omega
    have hi8n : ¬ i = 8 := by omega
    obtain ⟨nmi, hnm⟩ : ∃ s, gnames[i]? = some s := ⟨_, List.getElem?_eq_getElem hi8⟩
    have hnl : gnames.length = 8 := rfl
    obtain ⟨t, e1, e2, e3⟩ := grown_okN u hu2 hu1 .no (gnames.take i) .no (by simp; omega) (fun s hs => gnames_ok s (List.mem_of_mem_take hs)) (g ++ [.dead]) (fun t h => by cases h) (fun t h => by cases h)
    have e1' : M.call 23 [rowN u, .list 1 (List.map AV.str (gnames.take i)) .no] (g ++ [.dead]) = some (t.enc, g ++ [.dead]) := e1
    by_cases hi0 : i = 0
    ·subst hi0
     simp at e1'
     obtain ⟨x0, rfl⟩ : ∃ x0, l = [x0] := List.length_eq_one_iff.1 (by simpa using hll)
     have hrow' : ∀ q, (g ++ q)[gb]? = some (.grow 10 (ruL x0)) := fun q => by have := get_left hrow q; simpa using this
     have h10 : (ruL x0).length = 10 := by simp [ruL, Tr.encL_eq]
     simp [-getElem?_pos, -Int.natCast_add, wL10_0, s3, s4, s21, s22, s23, hltI, hlt, hu, hrc, hnm, hnl, e1', hrow', h10]
     have w1 : IntKind.wrap .i64 1 = 1 := by decide
     have hd : (ruL x0).drop 10 = [] := List.drop_of_length_le (by omega)
     have gr' : GrR [⟨nmi, 0, false, t⟩] := ⟨by simp, by simp, fun j x hx => by
      cases j with
      | zero => obtain rfl : _ = x := Option.some.inj hx; exact ⟨hnm, rfl, rfl, e2⟩
      | succ j => simp at hx⟩
     refine ⟨B.length - 1, by omega, 1, _, gb, by omega, rfl, gr', by simp, ?_, hgb, ?_, by simp [s3], by simp [s4], by simp [s21], by simp [s22], by simp [w1]⟩
     ·rw [take_set hgb, List.take_append_of_le_length hlen]
      exact hg
     ·rw [get_set_eq (by simp; omega), hd]
      simp [ruL]
    ·have hi0I : ¬ (i : Int) = 0 := by omega
     simp [-getElem?_pos, -Int.natCast_add, wL10_0, s3, s4, s21, s22, s23, hltI, hlt, hu, hrc, hnm, hnl, hi8I, hi8n, ← List.map_take, e1', hi0, hi0I]
     rw [← appM_gl]
     have hli : l.length = i := by rw [hll, if_neg hi0]
     refine onO_appM (rows := l) (n := h0.length) (x := ⟨nmi, 0, false, t⟩) (.inr ⟨gb, hgb, rfl, get_left hrow _⟩) (by omega) (by simp) (by omega) fun H' b1 b2 b3 b4 => ?_
     rcases b1 with ⟨b1, _⟩ | ⟨gb', c1, c2, c3⟩
     ·simp at b1
     have gr' : GrR (l ++ [⟨nmi, 0, false, t⟩]) := ⟨by simp, by simp; omega, fun j x hx => by
      by_cases hj : j < l.length
      ·rw [List.getElem?_append_left hj] at hx
       exact hl.at_ j x hx
      ·have hjl : j = l.length := by
        have := (List.getElem?_eq_some_iff.1 hx).1
        simp at this
        omega
       subst hjl
       rw [List.getElem?_append_right (Nat.le_refl _)] at hx
       simp at hx
       subst hx
       rw [hli]
       exact ⟨hnm, rfl, rfl, e2⟩⟩
     simp [-getElem?_pos, -Int.natCast_add, s23, hadd]
     refine ⟨B.length - (i + 1), by omega, i + 1, _, gb', by omega, rfl, gr', by simp [hli], ?_, c1, c3, by simp [s3], by simp [c2], by simp [s21], by simp [s22], by simp⟩
     rw [b4, List.take_append_of_le_length hlen]
     exact hg
   ·have hle : i = B.length := by omega
    have hltI : ¬ (i : Int) < B.length := by omega
    simp [-getElem?_pos, -Int.natCast_add, wL10_0, wK10_0, s3, s4, s21, s22, s23, hltI, hlt]
    refine onO_frz (get_left hrow _) ?_
    simp [-getElem?_pos, -Int.natCast_add]
    subst hQ
    simp
    refine ⟨l, hl, _, ⟨rfl, rfl⟩, ?_, get_set_eq (by simp), by omega⟩
    rw [take_set hlen, take_set hgb, List.take_append_of_le_length hlen]
    exact hg
  have hn0 : gnames[0]? = some [97] := rfl
  have hnl : gnames.length = 8 := rfl
  obtain ⟨t0, e1, e2, e3⟩ := grown_okN [] (by simp) (by simp) .full [] .full (by simp) (by simp) (h0 ++ [.dead]) (fun t h => by cases h) (fun t h => by cases h)
  have e1' : M.call 23 [.list 1 [] .full, .list 1 [] .full] (h0 ++ [.dead]) = some (t0.enc, h0 ++ [.dead]) := e1
  have gr0 : GrR [⟨[97], 0, false, t0⟩] := ⟨by simp, by simp, fun i x hx => by
   cases i with
   | zero => obtain rfl : _ = x := Option.some.inj hx; exact ⟨rfl, rfl, rfl, e2⟩
   | succ i => simp at hx⟩
  have st : h0 ++ [AE.grow 10 (AV.str [97] :: AV.int IntKind.i64 0 :: AV.bool false :: t0.encL)] = h0 ++ [AE.grow 10 ([(⟨[97], 0, false, t0⟩ : Ru)].flatMap ruL)] := by simp [ruL]
  by_cases c : 8 < A.length
  ·have cI : (8 : Int) < A.length := by omega
   have c1 : (8 : Int) ≤ A.length := by omega
   have c2 : ¬ 8 = A.length := by omega
   simp [-getElem?_pos, -Int.natCast_add, wB10, names_ok, e1', hn0, hnl, c, cI, c1, c2]
   refine L (A.take 8) .no _ _ (by simp; omega) (fun u hu => hA u (List.mem_of_mem_take hu)) ⟨0, _, h0.length, by omega, by simp, gr0, by simp, by simp, by omega, by rw [st]; simp, by simp, by simp, by simp [List.map_take], ?_, by simp⟩
   have : min 8 A.length = 8 := by omega
   simp [this]
  ·have cI : ¬ (8 : Int) < A.length := by omega
   simp [-getElem?_pos, -Int.natCast_add, wB10, names_ok, e1', hn0, hnl, c, cI]
   refine L A r _ _ (by omega) hA ⟨0, _, h0.length, by omega, by simp, gr0, by simp, by simp, by omega, by rw [st]; simp, by simp, by simp, ?_, by simp, by simp⟩
   have : (A.map rowN).take A.length = A.map rowN := List.take_of_length_le (by simp)
   simp [this]
 have hh : h0 ++ h'.drop h0.length = h' := by
  have := List.take_append_drop h0.length h'
  rwa [g2] at this
 exact ⟨l, t, h'.drop h0.length, g1, by rw [hh]; exact e, by rw [hh]; exact g3, g4⟩
theorem more_ok (l : List Ru) (x : Ru) (b : Tr) (s : List UInt8) (r : Rt) (p9 p13 p15 : Nat) (h : Heap) (hl : l.length ≤ 1000) (h1 : 1 ≤ l.length) (e9 : h[p9]? = some (.cells [.list 10 (l.map ruA) r])) (e13 : h[p13]? = some (.cells [.str x.name])) (e15 : h[p15]? = some (.cells b.encL)) :
  M.call 24 [.str s, .ptr p15 0, .ptr p9 0, .ptr p13 0] h = some (.list 10 ((l ++ [moR x b s]).map ruA) .no, h) := by
 refine call_of tab24 rfl (callF_wp ?_)
 have g9 : ∀ q, (h ++ q)[p9]? = some (.cells [.list 10 (l.map ruA) r]) := fun q => get_left e9 q
 have g13 : ∀ q, (h ++ q)[p13]? = some (.cells [.str x.name]) := fun q => get_left e13 q
 have g15 : ∀ q, (h ++ q)[p15]? = some (.cells b.encL) := fun q => get_left e15 q
 have hne : l.map ruA ≠ [] := fun e => by simp at e; subst e; simp at h1
 have hbl : b.encL.length = 7 := by simp
 simp [-getElem?_pos, -Int.natCast_add, wB24, e9, e13, e15, g9, g13, g15]
 refine onO_appK (xs := []) trivial hne (by simp; omega) (by simp; omega) ?_
 simp [-getElem?_pos, -Int.natCast_add, e9, e13, e15, g9, g13, g15, kill]
 have hru : ruA (moR x b s) = AV.agg [.str x.name, .int .i64 0, .bool true, .int .u8 7, .str [], .int .u8 0, .int .u8 0, .int .i64 0, .int .i64 1, .list 7 [.agg [.int .u8 5, .str [], .int .u8 0, .int .u8 0, .int .i64 0, .int .i64 0, .list 7 [b.enc, .agg [.int .u8 1, .str s, .int .u8 0, .int .u8 0, .int .i64 0, .int .i64 0, .list 7 [] .full]] .full]] .full] := by
  simp [ruA, moR, besT, Tr.encL_eq, Tr.enc, Tr.k, Tr.s, Tr.lo, Tr.hi, Tr.mn, Tr.mx, Tr.kids, Tr.full, rtB]
 rw [← hru]
 refine onO_appK (xs := l.map ruA) (ys := [ruA (moR x b s)]) ?_ (by simp) (by simp; omega) (by simp; omega) ?_
 ·show _ = _
  simp
 simp [-getElem?_pos, -Int.natCast_add, e9, e13, e15, g9, g13, g15, kill]
 refine ⟨by have := lt_of_get e13; omega, ?_⟩
 rw [finish_of_take (by rw [take_set (by omega)]; simp)]
 have hlow : AV.lows h.length (l.map ruA ++ [ruA (moR x b s)]) := by
  have := rus_low h.length (l ++ [moR x b s])
  simpa using this
 have h2 : ¬ h.length + 1 + 1 < h.length := by omega
 simp [clean1_tok, hlow, h2]
def ledB (x : List UInt8) (b : Bool) (led : List (List UInt8)) : Bool := led.foldl (fun b s => b || decide (s = x)) b
theorem ledB_eq (x : List UInt8) : ∀ (led : List (List UInt8)) (b : Bool), ledB x b led = (b || decide (x ∈ led))
 | [], b => by simp [ledB]
 | s :: led, b => by
  have : ledB x b (s :: led) = ledB x (b || decide (s = x)) led := rfl
  rw [this, ledB_eq x led]
  by_cases e : s = x
  ·simp [e]
  ·have e' : ¬ x = s := fun q => e q.symm
   simp [e, e']
theorem GrR.ordOk {l : List Ru} (h : GrR l) {x : Ru} (hx : x ∈ ordR l) : ROk x ∧ x.tree.wt ≤ 27325 := by
 obtain ⟨y, hy, rfl⟩ := (ordR_mem h.cl h.acyc).1 hx
 have h1 := (h.named hy).2
 have h2 := h.wt hy
 refine ⟨⟨by show y.name.length ≤ _; omega, ?_⟩, ?_⟩
 all_goals
  show (copyT y.tree).wt ≤ _
  rw [copy_wt]
  omega
theorem besT_wt (b : Tr) (s : List UInt8) : (besT b s).wt = 48 + b.wt + 3 * s.length := by
 simp [besT, Tr.wt, wts]
 omega
theorem GrR.moOk {l : List Ru} (h : GrR l) {x : Ru} (hx : x ∈ l) {b : Tr} (hb : b.wt ≤ 30000) {s : List UInt8} (hs : s.length ≤ 1000) : LOk (l ++ [moR x b s]) := by
 have k := h.lok
 have hl := h.len
 have e : wts ((l ++ [moR x b s]).map Ru.tree) = wts (l.map Ru.tree) + (besT b s).wt := by
  rw [List.map_append]
  exact wts_app _ _
 have hw : wts (l.map Ru.tree) ≤ (l.map Ru.tree).length * 27325 := wts_leN fun t ht => by
  obtain ⟨x, hx, rfl⟩ := List.mem_map.1 ht
  exact h.wt hx
 rw [List.length_map] at hw
 have := Nat.mul_le_mul_right 27325 hl
 have hm := besT_wt b s
 refine ⟨by simp; omega, fun y hy => ?_, by omega⟩
 rcases List.mem_append.1 hy with hy | hy
 ·exact k.all y hy
 ·obtain rfl := List.mem_singleton.1 hy
  have := (h.named hx).2
  exact ⟨by show x.name.length ≤ _; omega, by show (besT b s).wt ≤ _; omega⟩
def InvL1 (nm yn : List UInt8) (led : List (List UInt8)) (rl : Rt) (R : Bool) (q : Nat) (H : Heap) (k : Nat) (σ : Slots) (h : Heap) : Prop := ∃ (i : Nat) (bb : Bool), i ≤ led.length ∧ k = led.length - i ∧ ledB nm bb (led.drop i) = R ∧ h = H ∧ σ 19 = .bool bb ∧ σ 92 = .int .i64 (i : Nat) ∧ σ 90 = .list 1 (led.map AV.str) rl ∧ σ 91 = .int .i64 (led.length : Nat) ∧
 σ 9 = .ptr 0 0 ∧ σ 10 = .ptr (q + 1) 0 ∧ σ 13 = .ptr (q + 2) 0 ∧ σ 14 = .str yn ∧ σ 16 = .fn 24 [.ptr (q + 3) 0, .ptr 0 0, .ptr (q + 2) 0]
theorem loop1 (nm yn : List UInt8) (led : List (List UInt8)) (rl : Rt) (R : Bool) (q : Nat) (H : Heap) (hl : led.length ≤ 1000) (h13 : H[q + 2]? = some (.cells [.str nm])) (Q : Ex → Slots → Heap → Prop)
  (hQ : ∀ σ, σ 19 = .bool R → σ 9 = .ptr 0 0 → σ 10 = .ptr (q + 1) 0 → σ 13 = .ptr (q + 2) 0 → σ 14 = .str yn → σ 16 = .fn 24 [.ptr (q + 3) 0, .ptr 0 0, .ptr (q + 2) 0] → Wp M K6_2 Q σ H) :
  ∀ (σ : Slots) (g : Heap), InvL1 nm yn led rl R q H led.length σ g → Wp M (.loop L6_0) (blkQ 0 (thenQ (Wp M K6_2 Q) Q)) σ g := by
 intro σ g hI
 refine Wp.loop (InvL1 nm yn led rl R q H) ?_ (n := led.length) hI
 clear hI σ g
 rintro k σ g ⟨i, bb, hi, rfl, hR, rfl, s19, s92, s90, s91, s9, s10, s13, s14, s16⟩
 by_cases hlt : i < led.length
 ·obtain ⟨s, hs⟩ : ∃ s, led[i]? = some s := ⟨_, List.getElem?_eq_getElem hlt⟩
  have hltI : (i : Int) < led.length := by omega
  have hadd : IntKind.wrap .i64 ((i : Int) + 1) = ((i + 1 : Nat) : Int) := by rw [wrap64 (by omega) (by omega)]; rfl
  have hdr : led.drop i = s :: led.drop (i + 1) := by
   rw [List.drop_eq_getElem_cons hlt]
   congr 1
   rw [List.getElem?_eq_getElem hlt] at hs
   exact Option.some.inj hs
  rw [hdr] at hR
  have hR' : ledB nm (bb || decide (s = nm)) (led.drop (i + 1)) = R := hR
  cases bb with
  | true =>
   simp [-getElem?_pos, -Int.natCast_add, wL6_0, s19, s92, s90, s91, s9, s10, s13, s14, s16, hlt, hltI, hs, hadd, h13]
   exact ⟨led.length - (i + 1), by omega, i + 1, true, by omega, rfl, by simpa using hR', rfl, by simp, by simp, by simp [s90], by simp [s91], by simp [s9], by simp [s10], by simp [s13], by simp [s14], by simp [s16]⟩
  | false =>
   simp [-getElem?_pos, -Int.natCast_add, wL6_0, s19, s92, s90, s91, s9, s10, s13, s14, s16, hlt, hltI, hs, hadd, h13]
   exact ⟨led.length - (i + 1), by omega, i + 1, decide (s = nm), by omega, rfl, by simpa using hR', rfl, by simp, by simp, by simp [s90], by simp [s91], by simp [s9], by simp [s10], by simp [s13], by simp [s14], by simp [s16]⟩
 ·have hltI : ¬ (i : Int) < led.length := by omega
  have hdr : led.drop i = [] := List.drop_of_length_le (by omega)
  rw [hdr] at hR
  simp [-getElem?_pos, -Int.natCast_add, wL6_0, s92, s91, hlt, hltI]
  have hR' : bb = R := hR
  subst hR'
  refine hQ _ ?_ ?_ ?_ ?_ ?_ ?_
  ·simp [s19]
  ·simp [s9]
  ·simp [s10]
  ·simp [s13]
  ·simp [s14]
  ·simp [s16]
def InvL2 (nm xn : List UInt8) (led : List (List UInt8)) (rl : Rt) (R : Bool) (q : Nat) (f16 : AV) (H : Heap) (k : Nat) (σ : Slots) (h : Heap) : Prop := ∃ (i : Nat) (bb : Bool), i ≤ led.length ∧ k = led.length - i ∧ ledB nm bb (led.drop i) = R ∧ h = H ∧ σ 27 = .bool bb ∧ σ 136 = .int .i64 (i : Nat) ∧ σ 134 = .list 1 (led.map AV.str) rl ∧ σ 135 = .int .i64 (led.length : Nat) ∧
 σ 23 = .str nm ∧ σ 16 = f16
theorem loop2 (nm xn : List UInt8) (led : List (List UInt8)) (rl : Rt) (R : Bool) (q : Nat) (f16 : AV) (H : Heap) (hl : led.length ≤ 1000) (Q : Ex → Slots → Heap → Prop)
  (hQ : ∀ σ, σ 27 = .bool R → σ 16 = f16 → Wp M K6_0 Q σ H) :
  ∀ (σ : Slots) (g : Heap), InvL2 nm xn led rl R q f16 H led.length σ g → Wp M (.loop L6_1) (blkQ 2 (thenQ (Wp M K6_0 Q) Q)) σ g := by
 intro σ g hI
 refine Wp.loop (InvL2 nm xn led rl R q f16 H) ?_ (n := led.length) hI
 clear hI σ g
 rintro k σ g ⟨i, bb, hi, rfl, hR, rfl, s19, s92, s90, s91, s23, s16⟩
 by_cases hlt : i < led.length
 ·obtain ⟨s, hs⟩ : ∃ s, led[i]? = some s := ⟨_, List.getElem?_eq_getElem hlt⟩
  have hltI : (i : Int) < led.length := by omega
  have hadd : IntKind.wrap .i64 ((i : Int) + 1) = ((i + 1 : Nat) : Int) := by rw [wrap64 (by omega) (by omega)]; rfl
  have hdr : led.drop i = s :: led.drop (i + 1) := by
   rw [List.drop_eq_getElem_cons hlt]
   congr 1
   rw [List.getElem?_eq_getElem hlt] at hs
   exact Option.some.inj hs
  rw [hdr] at hR
  have hR' : ledB nm (bb || decide (s = nm)) (led.drop (i + 1)) = R := hR
  cases bb with
  | true =>
   simp [-getElem?_pos, -Int.natCast_add, wL6_1, s19, s92, s90, s91, s23, s16, hlt, hltI, hs, hadd]
   exact ⟨led.length - (i + 1), by omega, i + 1, true, by omega, rfl, by simpa using hR', rfl, by simp, by simp, by simp [s90], by simp [s91], by simp [s23], by simp [s16]⟩
  | false =>
   simp [-getElem?_pos, -Int.natCast_add, wL6_1, s19, s92, s90, s91, s23, s16, hlt, hltI, hs, hadd]
   exact ⟨led.length - (i + 1), by omega, i + 1, decide (s = nm), by omega, rfl, by simpa using hR', rfl, by simp, by simp, by simp [s90], by simp [s91], by simp [s23], by simp [s16]⟩
 ·have hltI : ¬ (i : Int) < led.length := by omega
  have hdr : led.drop i = [] := List.drop_of_length_le (by omega)
  rw [hdr] at hR
  simp [-getElem?_pos, -Int.natCast_add, wL6_1, s92, s91, hlt, hltI]
  have hR' : bb = R := hR
  subst hR'
  refine hQ _ ?_ ?_
  ·simp [s19]
  ·simp [s16]
theorem ledP_len (rows : List Ru) (a : Nat) (been : List Bool) : ∀ (l : List Ru) (i : Nat), (ledP rows a been i l).length ≤ l.length
 | [], _ => by simp [ledP]
 | x :: l, i => by
  have := ledP_len rows a been l (i + 1)
  rw [ledP]
  split <;> simp <;> omega
theorem led_len (l : List Ru) (s : List UInt8) : (leadsP l s).1.length ≤ l.length := by
 unfold leadsP
 split
 ·exact ledP_len _ _ _ _ _
 ·simp
def z9 : List UInt8 := [122, 45, 57]
theorem loop_tail (l : List Ru) (h : GrR l) (x y : Ru) (j : Nat) (hx : l[j]? = some x) (hy : y ∈ l) (b : Tr) (hb : fitsN [] 7 b = true) (q : Nat) (H : Heap) (rt : Rt) (rg : Bool) (e0 : H[0]? = some (.cells [.list 10 (l.map ruA) rt])) (e10 : H[q + 1]? = some (.cells [.list 10 ((ordR l).map ruA) (rtB rg)])) (e13 : H[q + 2]? = some (.cells [.str x.name])) (e15 : H[q + 3]? = some (.cells b.encL))
  (σ : Slots) (s19 : σ 19 = .bool (ledB x.name (decide (x.name = y.name)) (leadsP (ordR l) y.name).1)) (s9 : σ 9 = .ptr 0 0) (s10 : σ 10 = .ptr (q + 1) 0) (s13 : σ 13 = .ptr (q + 2) 0) (s14 : σ 14 = .str y.name) (s16 : σ 16 = .fn 24 [.ptr (q + 3) 0, .ptr 0 0, .ptr (q + 2) 0]) :
  Wp M K6_2 (fun e σ h => isEnd e ∧ finish [] h (σ 8) = some (AV.bool true, [])) σ H := by
 have hxm := List.mem_of_getElem? hx
 have hlen := h.len
 have hpos := h.pos
 have ho : (ordR l).length = l.length := ordR_len h.cl h.acyc
 have hbw : b.wt ≤ 30000 := by
  have := fitsN_wt hb
  have e : wtB 7 = 27325 := by decide
  omega
 have fin : ∀ (σ : Slots) (h : Heap), σ 8 = .bool true → isEnd .ret ∧ finish [] h (σ 8) = some (AV.bool true, []) := by
  intro σ h e
  simp [e, fin_nil]
 have mo := fun (s : List UInt8) (H' : Heap) (hH : ∀ (i : Nat) (e : AE), H[i]? = some e → H'[i]? = some e) => more_ok l x b s rt 0 (q + 2) (q + 3) H' (by omega) hpos (hH _ _ e0) (hH _ _ e13) (hH _ _ e15)
 have gk := fun (s : List UInt8) (hs : s.length ≤ 1000) h0 => gatherF_ok (l ++ [moR x b s]) .no (h.moOk hxm hbw hs) h0
 have hyn := h.named hy
 have hym : y.name ∈ l.map Ru.name := List.mem_map_of_mem hy
 have gy := gk y.name (by omega)
 obtain ⟨by_, gy'⟩ := Classical.axiomOfChoice gy
 have gz := gk z9 (by decide)
 obtain ⟨bz, gz'⟩ := Classical.axiomOfChoice gz
 have ld := fun h0 => leads_ok (ordR l) (rtB rg) y.name (by omega) (fun z hz => (h.ordOk hz).1) h0
 obtain ⟨ly1, ly2⟩ := h.leads hym
 rw [ly1] at ld
 obtain ⟨bl, ld'⟩ := Classical.axiomOfChoice ld
 have mz : gatherP (l ++ [moR x b z9]) = ([], z9, 32) := mo_none h hx hb (by decide) (by
  rw [h.names]
  intro hh
  exact absurd (List.mem_of_mem_take hh) (by decide))
 rw [mz] at gz'
 have yes : ∀ (σ : Slots) (H' : Heap), (∀ (i : Nat) (e : AE), H[i]? = some e → H'[i]? = some e) → σ 16 = .fn 24 [.ptr (q + 3) 0, .ptr 0 0, .ptr (q + 2) 0] → Wp M K6_1 (fun e σ h => isEnd e ∧ finish [] h (σ 8) = some (AV.bool true, [])) σ H' := by
  intro σ H' hH t16
  have m1 := mo z9 (H' ++ [AE.dead]) (fun i e he => by exact get_left (hH i e he) _)
  unfold z9 at m1 gz'
  simp [gmA] at m1 gz'
  simp [-getElem?_pos, -Int.natCast_add, wK6_1, t16, m1, gz', awake3_ok, fin_nil]
 have m0 := mo y.name (H ++ [AE.dead]) (fun i e he => get_left he _)
 have led_len : (leadsP (ordR l) y.name).1.length ≤ 1000 := by
  have := led_len (ordR l) y.name
  omega
 have g10 : ∀ q', (H ++ q')[q + 1]? = some (.cells [.list 10 ((ordR l).map ruA) (rtB rg)]) := fun q' => get_left e10 q'
 have g13 : ∀ q', (H ++ q')[q + 2]? = some (.cells [.str x.name]) := fun q' => get_left e13 q'
 have g0 : ∀ q', (H ++ q')[0]? = some (.cells [.list 10 (l.map ruA) rt]) := fun q' => get_left e0 q'
 rw [ledB_eq] at s19
 simp only [gmA] at gy' ld'
 generalize hled : (leadsP (ordR l) y.name).1 = led at *
 by_cases hl : x.name = y.name ∨ x.name ∈ led
 ·obtain ⟨tn, mo1, mo2⟩ := mo_loop h hx hb hyn.1 hym (by rw [hled]; exact hl)
  rw [mo1] at gy'
  rw [hled] at mo2
  have hB : (decide (x.name = y.name) || decide (x.name ∈ led)) = true := by simpa using hl
  rw [hB] at s19
  simp at gy'
  have two : ∀ (σ : Slots) (H' : Heap) (rl : Rt), (∀ (i : Nat) (e : AE), H[i]? = some e → H'[i]? = some e) → InvL2 tn x.name led rl true q (.fn 24 [.ptr (q + 3) 0, .ptr 0 0, .ptr (q + 2) 0]) H' led.length σ H' →
    Wp M (.loop L6_1) (blkQ 2 (thenQ (Wp M K6_0 (thenQ (Wp M K6_1 fun e σ h => isEnd e ∧ finish [] h (σ 8) = some (AV.bool true, [])) fun e σ h => isEnd e ∧ finish [] h (σ 8) = some (AV.bool true, []))) (thenQ (Wp M K6_1 fun e σ h => isEnd e ∧ finish [] h (σ 8) = some (AV.bool true, [])) fun e σ h => isEnd e ∧ finish [] h (σ 8) = some (AV.bool true, [])))) σ H' := by
   intro σ H' rl hH hI
   refine loop2 tn x.name led rl true q _ H' led_len _ (fun σ' t27 t16 => ?_) σ H' hI
   simp [-getElem?_pos, -Int.natCast_add, wK6_0, t27]
   exact yes _ _ hH (by simp [t16])
  have hBB : ∀ bb, (bb = true → tn = x.name ∨ tn = y.name) → (tn = x.name ∨ tn = y.name → bb = true) → ledB tn bb led = true := by
   intro bb h1 h2
   rw [ledB_eq]
   rcases mo2 with m | m | m
   ·rw [h2 (.inl m)]; rfl
   ·rw [h2 (.inr m)]; rfl
   ·simp [m]
  by_cases c1 : tn = x.name
  ·subst c1
   simp [-getElem?_pos, -Int.natCast_add, wK6_2, s9, s10, s13, s14, s16, s19, m0, gy', g10, g13, g0, ld', ruA_cells]
   exact two _ _ _ (fun i e he => get_left he _) ⟨0, true, Nat.zero_le _, rfl, hBB _ (fun _ => .inl rfl) (fun _ => rfl), rfl, by simp, by simp, by simp; rfl, by simp, by simp, by simp [s16]⟩
  ·simp [-getElem?_pos, -Int.natCast_add, wK6_2, s9, s10, s13, s14, s16, s19, m0, gy', g10, g13, g0, ld', ruA_cells, c1]
   exact two _ _ _ (fun i e he => get_left he _) ⟨0, decide (tn = y.name), Nat.zero_le _, rfl, hBB _ (fun e => .inr (by simpa using e)) (fun e => by rcases e with e | e; exact absurd e c1; simpa using e), rfl, by simp, by simp, by simp; rfl, by simp, by simp, by simp [s16]⟩
 ·obtain ⟨g, mo1, mo2⟩ := mo_fine h hx hb hyn.1 hym (by rw [hled]; exact hl)
  rw [mo1] at gy'
  have hB : (decide (x.name = y.name) || decide (x.name ∈ led)) = false := by simpa using hl
  rw [hB] at s19
  simp at gy'
  have hgI : (g.length : Int) = (l.length : Nat) := by omega
  simp [-getElem?_pos, -Int.natCast_add, wK6_2, s9, s10, s13, s14, s16, s19, m0, gy', g10, g13, g0, hgI]
  exact yes _ _ (fun i e he => get_left he _) (by simp [s16])
theorem loop_true (A : List (List Nat)) (r : Rt) (hA : ∀ u ∈ A, (∀ j ∈ u, j ≤ 65535) ∧ u.length ≤ 9223372036854775807) (hAl : A.length ≤ 9223372036854775807) (i k : Nat) (hi : i < 256) (hk : k < 256) (u : List Nat) (hu : (∀ j ∈ u, j ≤ 65535) ∧ u.length ≤ 9223372036854775807) :
  M.call 6 [.list 1 (A.map rowN) r, .int .u8 (i : Nat), .int .u8 (k : Nat), rowN u] [] = some (.bool true, []) := by
 refine call_of tab6 rfl (callF_wp ?_)
 have hru : lenV (rowN u) = some (.int .i64 (u.length : Nat)) := by simp [rowN]
 by_cases c1 : 8 < A.length
 ·have c1' : (8 : Int) < A.length := by omega
  simp [-getElem?_pos, -Int.natCast_add, wB6, c1, c1', awake3_ok, fin_nil]
 have c1' : ¬ (8 : Int) < A.length := by omega
 by_cases c2 : 60 < u.length
 ·have c2' : (60 : Int) < u.length := by omega
  simp [-getElem?_pos, -Int.natCast_add, wB6, c1, c1', c2, c2', hru, awake3_ok, fin_nil]
 have c2' : ¬ (60 : Int) < u.length := by omega
 obtain ⟨l, t, q, g1, g2, g3, g4⟩ := grules_ok A r hA hAl [.dead]
 simp only [List.singleton_append] at g2 g3
 have gk := fun r h0 => gatherF_ok l r g1.lok h0
 rw [g1.gath] at gk
 simp only at gk
 have hpos := g1.pos
 have hlen := g1.len
 have ho : (ordR l).length = l.length := ordR_len g1.cl g1.acyc
 have hoI : ((ordR l).length : Int) = (l.length : Nat) := by omega
 obtain ⟨b1, gk1⟩ := gk (.tok t) (.cells [.list 10 (l.map ruA) (.tok t)] :: q ++ [.dead])
 simp [gmA] at gk1
 have hi0 : ¬ l.length = 0 := by omega
 have hi0I : ¬ (l.length : Int) = 0 := by omega
 have him : i % l.length < l.length := Nat.mod_lt _ (by omega)
 have hkm : k % l.length < l.length := Nat.mod_lt _ (by omega)
 have hmi : (i : Int) % (l.length : Int) = ((i % l.length : Nat) : Int) := (Int.natCast_emod _ _).symm
 have hmk : (k : Int) % (l.length : Int) = ((k % l.length : Nat) : Int) := (Int.natCast_emod _ _).symm
 have hti : ((i : Int).tmod (l.length : Int)) = ((i % l.length : Nat) : Int) := tmod_cast _ _
 have htk : ((k : Int).tmod (l.length : Int)) = ((k % l.length : Nat) : Int) := tmod_cast _ _
 generalize i % l.length = ii at *
 generalize k % l.length = kk at *
 have himI : (ii : Int) < l.length := by omega
 have hkmI : (kk : Int) < l.length := by omega
 obtain ⟨x, hx⟩ : ∃ x, l[ii]? = some x := ⟨_, List.getElem?_eq_getElem him⟩
 obtain ⟨y, hy⟩ : ∃ y, l[kk]? = some y := ⟨_, List.getElem?_eq_getElem hkm⟩
 have wi : IntKind.wrap .i64 (i : Nat) = (i : Nat) := wrap64 (by omega) (by omega)
 have wk : IntKind.wrap .i64 (k : Nat) = (k : Nat) := wrap64 (by omega) (by omega)
 obtain ⟨bt, gw, gf, _⟩ := grown_okN u hu.2 hu.1 .no [] .full (by simp) (by simp) (.cells [.list 10 (l.map ruA) (.tok t)] :: (q ++ [.cells [.list 10 ((ordR l).map ruA) (rtB b1)], .cells [.str x.name], .dead])) (fun t h => by cases h) (fun t h => by cases h)
 have gw' : M.call 23 [rowN u, .list 1 [] .full] (.cells [.list 10 (l.map ruA) (.tok t)] :: (q ++ [.cells [.list 10 ((ordR l).map ruA) (rtB b1)], .cells [.str x.name], .dead])) = some (bt.enc, .cells [.list 10 (l.map ruA) (.tok t)] :: (q ++ [.cells [.list 10 ((ordR l).map ruA) (rtB b1)], .cells [.str x.name], .dead])) := gw
 have ld := fun h0 => leads_ok (ordR l) (rtB b1) y.name (by omega) (fun z hz => (g1.ordOk hz).1) h0
 obtain ⟨ly1, ly2⟩ := g1.leads (List.mem_map_of_mem (f := Ru.name) (List.mem_of_getElem? hy))
 rw [ly1] at ld
 obtain ⟨bl, ld'⟩ := Classical.axiomOfChoice ld
 clear ld
 simp only [gmA] at ld'
 simp [-getElem?_pos, -Int.natCast_add, wB6, c1, c1', c2, c2', hru, g2, gk1, hoI, wi, wk, hi0, hi0I, hmi, hmk, hti, htk, himI, hkmI, him, hkm, hx, hy, ruA_cells, ruL_name, gw', ld', enc_cells, encL_take, Nat.add_assoc]
 refine loop1 x.name y.name (leadsP (ordR l) y.name).1 _ (ledB x.name (decide (x.name = y.name)) (leadsP (ordR l) y.name).1) q.length _ (by have := led_len (ordR l) y.name; omega) (by simp) _ (fun σ t19 t9 t10 t13 t14 t16 => ?_) _ _ ⟨0, decide (x.name = y.name), Nat.zero_le _, rfl, rfl, rfl, by simp, by simp, by simp; rfl, by simp, by simp, by simp, by simp, by simp, by simp⟩
 exact loop_tail l g1 x y ii hx (List.mem_of_getElem? hy) bt gf q.length _ (.tok t) b1 (by simp) (by simp) (by simp) (by simp) σ t19 t9 t10 t13 t14 t16
set_option maxRecDepth 100000 in
theorem RulesLoop_law (xs : List AV) (h : HasArgs Tryz.prog [23, 5, 5, 53] xs) : (lim XS T).call 6 xs [] = some (.bool true, []) := by
 obtain ⟨a0, r0, n0, rfl, h0, h⟩ := h
 obtain ⟨a1, r1, n1, rfl, h1, h⟩ := h
 obtain ⟨a2, r2, n2, rfl, h2, h⟩ := h
 obtain ⟨a3, r3, n3, rfl, h3, h⟩ := h
 obtain rfl := args_nil h
 obtain ⟨U, rfl, hU, lU⟩ := arg_rows h0
 obtain ⟨i, rfl⟩ := has_u8 Tryz.underlying5 h1
 obtain ⟨k, rfl⟩ := has_u8 Tryz.underlying5 h2
 obtain ⟨u, rfl, hu, lu⟩ := arg_nums h3
 have hm : maxLen ≤ 9223372036854775807 := by unfold maxLen; omega
 exact loop_true U .no (fun u hu => ⟨(hU u hu).1, by have := (hU u hu).2; omega⟩) (by omega) i.toNat k.toNat (by have := i.toNat_lt; omega) (by have := k.toNat_lt; omega) u ⟨hu, by omega⟩
end Go.Proofs.YtcflbdikkcpiaaaGreatDoor
