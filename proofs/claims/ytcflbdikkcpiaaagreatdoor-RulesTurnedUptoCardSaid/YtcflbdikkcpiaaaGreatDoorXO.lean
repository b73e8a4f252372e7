/-
  rules: which name no rule has.
-/
import Derived.Test.YtcflbdikkcpiaaaGreatDoorXN
set_option linter.unusedVariables false
set_option linter.unusedSimpArgs false
namespace Go.Proofs.YtcflbdikkcpiaaaGreatDoor
open Go Go.Am
theorem of_take {h h0 : Heap} (ht : h.take h0.length = h0) {i : Nat} {e : AE} (hi : h0[i]? = some e) : h[i]? = some e := by
 have := lt_of_get hi
 rw [← ht, List.getElem?_take_of_lt this] at hi
 exact hi
theorem finish_set {h : Heap} {q : Nat} {e : AE} (hl : e.low h.length) (v : AV) : finish h (h.set q e) v = (clean (h.set q e) h.length v).map fun v' => (v', h.set q e) := by
 unfold finish
 cases clean (h.set q e) h.length v with
 | none => rfl
 | some v' =>
  simp only
  rw [if_pos, List.take_of_length_le (by simp)]
  ·rfl
  ·intro i hi
   rw [List.getElem?_set]
   by_cases e0 : q = i
   ·subst e0
    rw [if_pos rfl, if_pos hi]
    refine .inr fun e' he => ?_
    injection he with he
    subst he
    exact hl
   ·rw [if_neg e0]; exact .inl rfl
def lackP (nm : List (List UInt8)) : List Ru → Option (List UInt8)
 | [] => none
 | x :: l => match (namT x.tree).find? fun s => !decide (s ∈ nm) with | some s => some s | none => lackP nm l
theorem eachS_find (nm : List (List UInt8)) : ∀ (l : List (List UInt8)) (st : List UInt8), eachS (fun st s => if s ∈ nm then (true, st) else (false, s)) l st = match l.find? fun s => !decide (s ∈ nm) with | some s => (false, s) | none => (true, st)
 | [], st => rfl
 | s :: l, st => by
  by_cases h : s ∈ nm
  ·simp [eachS, h, eachS_find nm l st]
  ·simp [eachS, h]
theorem lacks1_ok (nm : List (List UInt8)) (s st : List UInt8) (bl : AV) (m p q : Nat) (h : Heap) (h1 : h[m]? = some (.amap (keysE nm 0))) (h2 : h[p]? = some (.cells [bl, .map m])) (h3 : h[q]? = some (.cells [.str st])) (hm : q ≠ m) (hp : q ≠ p) :
  M.call 50 [.str s, .ptr p 0, .ptr q 0] h = some (.bool (decide (s ∈ nm)), h.set q (.cells [.str (if s ∈ nm then st else s)])) := by
 refine call_of tab50 rfl (callF_wp ?_)
 have hq := lt_of_get h3
 cases hpk : posK s nm with
 | none =>
  have hin := posK_none.1 hpk
  simp [-getElem?_pos, wB50, h1, h2, h3, find_keys, hpk, hin]
  rw [finish_set (by simp [AE.low, AV.lows, AV.low])]
  simp
 | some j =>
  have hin : s ∈ nm := List.mem_of_getElem? (posK_some hpk).2
  have hset : h.set q (.cells [.str st]) = h := by
   apply List.ext_getElem?
   intro i
   rw [List.getElem?_set]
   split
   ·rename_i e
    subst e
    first | exact h3.symm | rw [if_pos hq, h3]
   ·rfl
  simp [-getElem?_pos, wB50, h1, h2, h3, find_keys, hpk, hin, hset]
def InvLk (bl : AV) (m : Nat) (rows : List Ru) (R : Option (List UInt8)) (h0 : Heap) (k : Nat) (σ : Slots) (h : Heap) : Prop := ∃ i st, i ≤ rows.length ∧ k = rows.length - i ∧ lackP (rows.map Ru.name) (rows.drop i) = R ∧ h.take h0.length = h0 ∧ h0.length + 2 ≤ h.length ∧ h[h0.length]? = some (.cells [bl, .map m]) ∧ h[h0.length + 1]? = some (.cells [.str st]) ∧ σ 1 = .ptr h0.length 0 ∧ σ 4 = .ptr (h0.length + 1) 0 ∧ σ 9 = bl ∧ σ 10 = .int .i64 (rows.length : Nat) ∧ σ 11 = .int .i64 (i : Nat)
theorem lacks_ok (bl : AV) (m k : Nat) (rows : List Ru) (hl : rows.length ≤ 1000000) (hT : ∀ x ∈ rows, TOk x.tree) (h0 : Heap) (hb : BLg h0 k bl rows) (hm : h0[m]? = some (.amap (keysE (rows.map Ru.name) 0))) :
  M.call 33 [.agg [bl, .map m]] h0 = some (.tup [.str ((lackP (rows.map Ru.name) rows).getD []), .bool (lackP (rows.map Ru.name) rows).isSome], h0) := by
 refine call_of tab33 rfl (callF_wp ?_)
 have hml := lt_of_get hm
 obtain ⟨R, hR⟩ : ∃ R, lackP (rows.map Ru.name) rows = R := ⟨_, rfl⟩
 rw [hR]
 generalize hQ : (fun e σ h => isEnd e ∧ ∃ vs, resVals σ h [ARes.tmp 2, ARes.tmp 3] = some vs ∧ finish h0 h (oneOf vs) = some (.tup [.str (R.getD []), .bool R.isSome], h0)) = Q
 have hend : ∀ (σ : Slots) (h : Heap), h.take h0.length = h0 → σ 2 = .str (R.getD []) → σ 3 = .bool R.isSome → Q .ret σ h := by
  intro σ h e1 e2 e3
  subst hQ
  simp [e2, e3]
  rw [finish_of_take e1]
  simp
 have hlen : lenV bl = some (.int .i64 (rows.length : Nat)) := by
  rcases hb with ⟨rfl, rfl⟩ | ⟨gb, _, rfl, _⟩
  ·rfl
  ·simp
 have L : ∀ (σ : Slots) (g : Heap), g.take h0.length = h0 → h0.length + 2 ≤ g.length → g[h0.length]? = some (.cells [bl, .map m]) → g[h0.length + 1]? = some (.cells [.str []]) → σ 1 = .ptr h0.length 0 → σ 4 = .ptr (h0.length + 1) 0 → σ 9 = bl → σ 10 = .int .i64 (rows.length : Nat) → σ 11 = .int .i64 0 →
   Wp M (.loop L33_0) (blkQ 0 (thenQ (Wp M K33_0 Q) Q)) σ g := by
  intro σ g hg hgl g1 g2 s1 s4 s9 s10 s11
  refine Wp.loop (InvLk bl m rows R h0) ?_ (n := rows.length) ⟨0, [], Nat.zero_le _, rfl, by simpa using hR, hg, hgl, g1, g2, s1, s4, s9, s10, s11⟩
  clear s1 s4 s9 s10 s11 g1 g2 hg hgl σ g
  rintro j σ g ⟨i, st, hi, rfl, hr, hg, hgl, g1, g2, s1, s4, s9, s10, s11⟩
  by_cases hlt : i < rows.length
  ·obtain ⟨x, hxi⟩ : ∃ x, rows[i]? = some x := ⟨_, List.getElem?_eq_getElem hlt⟩
   have hd : rows.drop i = x :: rows.drop (i + 1) := by
    rw [List.drop_eq_getElem_cons hlt]
    congr 1
    rw [List.getElem?_eq_getElem hlt] at hxi
    exact Option.some.inj hxi
   have hltI : (i : Int) < rows.length := by omega
   have hadd : IntKind.wrap .i64 ((i : Int) + 1) = ((i + 1 : Nat) : Int) := by rw [wrap64 (by omega) (by omega)]; rfl
   obtain ⟨gb, rfl, hgb⟩ : ∃ gb, bl = .gl 10 gb rows.length ∧ h0[gb]? = some (.grow 10 (rows.flatMap ruL)) := by
    rcases hb with ⟨rfl, _⟩ | ⟨gb, _, e, q⟩
    ·simp at hlt
    ·exact ⟨gb, e, q⟩
   obtain ⟨cs, hcs⟩ : ∃ cs, rows.flatMap ruL = cs := ⟨_, rfl⟩
   rw [hcs] at hgb
   obtain ⟨c1, c2, c4, _, _⟩ := row_facts hxi hcs
   have c3 : min 10 (cs.length - i * 10) = 10 := by omega
   have take' : ∀ q, (g ++ q).take h0.length = h0 := fun q => by rw [List.take_append_of_le_length (by omega)]; exact hg
   have hgr : ∀ q, (g ++ q)[gb]? = some (.grow 10 cs) := fun q => of_take (take' q) hgb
   rw [hd, lackP] at hr
   obtain ⟨g', e1, e2⟩ := each_ok (St := List UInt8) (I := fun st h => h.take h0.length = h0 ∧ h0.length + 2 ≤ h.length ∧ h[h0.length]? = some (.cells [.gl 10 gb rows.length, .map m]) ∧ h[h0.length + 1]? = some (.cells [.str st])) (step := fun st s => if s ∈ rows.map Ru.name then (true, st) else (false, s)) (f := 50) (caps := [.ptr h0.length 0, .ptr (h0.length + 1) 0])
    (fun _ h q k => ⟨by rw [List.take_append_of_le_length (by omega)]; exact k.1, by simp; omega, get_left k.2.2.1 q, get_left k.2.2.2 q⟩)
    (fun st s h k => ⟨h.set (h0.length + 1) (.cells [.str (if s ∈ rows.map Ru.name then st else s)]), by
     have := lacks1_ok (rows.map Ru.name) s st (.gl 10 gb rows.length) m h0.length (h0.length + 1) h (of_take k.1 hm) k.2.2.1 k.2.2.2 (by omega) (by omega)
     rw [this]
     by_cases hin : s ∈ rows.map Ru.name
     ·rw [if_pos hin]; simp [hin]
     ·rw [if_neg hin]; simp [hin], by rw [take_set (by omega)]; exact k.1, by simp; exact k.2.1, by rw [get_set_ne (by omega)]; exact k.2.2.1, by
     rw [get_set_eq (by omega)]
     by_cases hin : s ∈ rows.map Ru.name
     ·simp only [if_pos hin]
     ·simp only [if_neg hin]⟩)
    x.tree (hT x (List.mem_of_getElem? hxi)) st (g ++ [.cells (ruL x)]) ⟨take' _, by simp; omega, get_left g1 _, get_left g2 _⟩
   rw [eachS_find] at e1 e2
   cases hf : (namT x.tree).find? fun s => !decide (s ∈ rows.map Ru.name) with
   | none =>
    rw [hf] at e1 e2 hr
    simp only at e1 e2 hr
    simp [-getElem?_pos, -Int.natCast_add, wL33_0, s1, s4, s9, s10, s11, hltI, hlt, hgr, c1, c2, c3, c4, ruA_cells, ruL_take, ruL_agg, ruL_tree, e1, hadd]
    exact ⟨rows.length - (i + 1), by omega, i + 1, st, by omega, rfl, hr, e2.1, e2.2.1, e2.2.2.1, e2.2.2.2, by simp [s1], by simp [s4], by simp [s9], by simp [s10], by simp⟩
   | some s =>
    rw [hf] at e1 e2 hr
    simp only at e1 e2 hr
    have e5 := e2.2.2.2
    simp [-getElem?_pos, -Int.natCast_add, wL33_0, s1, s4, s9, s10, s11, hltI, hlt, hgr, c1, c2, c3, c4, ruA_cells, ruL_take, ruL_agg, ruL_tree, e1, e5]
    refine hend _ _ e2.1 ?_ ?_ <;> simp [← hr]
  ·obtain rfl : i = rows.length := by omega
   simp only [List.drop_length, lackP] at hr
   simp [-getElem?_pos, -Int.natCast_add, wL33_0, wK33_0, s1, s4, s9, s10, s11]
   refine hend _ _ hg ?_ ?_ <;> simp [← hr]
 simp [-getElem?_pos, -Int.natCast_add, wB33, Nat.add_assoc, hlen]
 refine L _ _ ?_ ?_ ?_ ?_ ?_ ?_ ?_ ?_ ?_ <;> simp
def ints (l : List Nat) : List AV := l.map fun (j : Nat) => .int .i64 j
@[simp] theorem ints_len (l : List Nat) : (ints l).length = l.length := by simp [ints]
def atP (nm : List (List UInt8)) (s : List UInt8) : Nat := (posK s nm).getD 0
def nxR (nm : List (List UInt8)) (x : Ru) : List Nat := (namT x.tree).map (atP nm)
structure NXI (bl : AV) (m N q5 i : Nat) (nm : List (List UInt8)) (rows : List Ru) (h0 : Heap) (st : List Nat) (h : Heap) : Prop where
 take : h.take h0.length = h0
 len : h0.length + 3 ≤ h.length
 q5le : h0.length + 3 ≤ q5
 b1 : h[h0.length]? = some (.cells [bl, .map m])
 b4 : h[h0.length + 2]? = some (.cells [.sl 1 (h0.length + 1) 0 N N])
 b5 : h[q5]? = some (.cells [.int .i64 (i : Nat)])
 cs : ∃ cs r, h[h0.length + 1]? = some (.cells cs) ∧ cs.length = N ∧ i < N ∧ (∀ (j : Nat) (x : Ru), j < i → rows[j]? = some x → ∃ r, cs[j]? = some (.list 1 (ints (nxR nm x)) r)) ∧ (∀ j, i < j → j < N → cs[j]? = some (.list 1 [] .full)) ∧ cs[i]? = some (.list 1 (ints st) r) ∧
  ((st = [] ∧ r = .full) ∨ ∃ t, r = .tok t ∧ h0.length + 3 ≤ t ∧ h[t]? = some (.tok 1 st.length 3))
theorem NXI.app {bl : AV} {m N q5 i : Nat} {nm : List (List UInt8)} {rows : List Ru} {h0 : Heap} {st : List Nat} {h : Heap} (k : NXI bl m N q5 i nm rows h0 st h) (q : List AE) : NXI bl m N q5 i nm rows h0 st (h ++ q) := by
 obtain ⟨cs, r, k1, k2, k2', k3, k4, k5, k6⟩ := k.cs
 refine ⟨by rw [List.take_append_of_le_length (by have := k.len; omega)]; exact k.take, by have := k.len; simp; omega, k.q5le, get_left k.b1 q, get_left k.b4 q, get_left k.b5 q, cs, r, get_left k1 q, k2, k2', k3, k4, k5, ?_⟩
 rcases k6 with k6 | ⟨t, e1, e2, e3⟩
 ·exact .inl k6
 ·exact .inr ⟨t, e1, e2, get_left e3 q⟩
theorem set_split {α : Type} {cs : List α} {i : Nat} (v : α) (h : i < cs.length) : cs.take i ++ v :: cs.drop (i + 1) = cs.set i v := by
 rw [List.set_eq_take_append_cons_drop, if_pos h]
theorem nx_set {nm : List (List UInt8)} {rows : List Ru} {cs : List AV} {N i : Nat} {v : AV} (k2 : cs.length = N) (k2' : i < N) (k3 : ∀ (j : Nat) (x : Ru), j < i → rows[j]? = some x → ∃ r, cs[j]? = some (.list 1 (ints (nxR nm x)) r)) (k4 : ∀ j, i < j → j < N → cs[j]? = some (.list 1 [] .full)) :
  (cs.set i v).length = N ∧ i < N ∧ (∀ (j : Nat) (x : Ru), j < i → rows[j]? = some x → ∃ r, (cs.set i v)[j]? = some (.list 1 (ints (nxR nm x)) r)) ∧ (∀ j, i < j → j < N → (cs.set i v)[j]? = some (.list 1 [] .full)) ∧ (cs.set i v)[i]? = some v := by
 refine ⟨by simpa using k2, k2', fun j x h1 h2 => ?_, fun j h1 h2 => ?_, ?_⟩
 ·obtain ⟨r, e⟩ := k3 j x h1 h2
  exact ⟨r, by rw [List.getElem?_set_ne (by omega)]; exact e⟩
 ·rw [List.getElem?_set_ne (by omega)]; exact k4 j h1 h2
 ·rw [List.getElem?_set_self (by omega)]
theorem loops1_ok {bl : AV} {m N q5 i : Nat} {nm : List (List UInt8)} {rows : List Ru} {h0 : Heap} {st : List Nat} {h : Heap} (k : NXI bl m N q5 i nm rows h0 st h) (hm : h0[m]? = some (.amap (keysE nm 0))) (hst : st.length ≤ 1000000000000) (s : List UInt8) :
  ∃ h', M.call 51 [.str s, .ptr (h0.length + 2) 0, .ptr q5 0, .ptr h0.length 0] h = some (.bool true, h') ∧ NXI bl m N q5 i nm rows h0 (st ++ [atP nm s]) h' := by
 obtain ⟨cs, r, k1, k2, k2', k3, k4, k5, k6⟩ := k.cs
 have hm' : ∀ q, (h ++ q)[m]? = some (.amap (keysE nm 0)) := fun q => get_left (of_take k.take hm) q
 have hml := lt_of_get hm
 have hiI : (i : Int) < N := by omega
 have h1 := fun q => get_left k.b1 q
 have h4 := fun q => get_left k.b4 q
 have h5 := fun q => get_left k.b5 q
 have hc := fun q => get_left k1 q
 have hfind : mapFind (.str s) (keysE nm 0) 0 = some ((posK s nm).map fun j => (j, .int .i64 (j : Nat))) := by
  rw [find_keys]
  cases posK s nm <;> simp
 have hlk : ∀ H : Heap, lookV (.int .i64 0) false (some ((posK s nm).map fun j => (j, AV.int .i64 (j : Nat)))) H = some (.int .i64 (atP nm s : Nat), H) := by
  intro H
  unfold atP
  cases posK s nm <;> simp
 obtain ⟨v, h', e1, e2⟩ : ∃ v h', M.call 51 [.str s, .ptr (h0.length + 2) 0, .ptr q5 0, .ptr h0.length 0] h = some (v, h') ∧ (v = .bool true ∧ NXI bl m N q5 i nm rows h0 (st ++ [atP nm s]) h') := by
  refine call_postK tab51 rfl ?_
  simp [-getElem?_pos, -Int.natCast_add, wB51, h1, h4, h5, hc, hm', hfind, hlk, hiI, k2', k5, k2]
  have hgl := k.len
  have hq5 := k.q5le
  have hcl := lt_of_get k1
  have h5l := lt_of_get k.b5
  have h45 : q5 ≠ h0.length := by omega
  rcases k6 with ⟨rfl, rfl⟩ | ⟨t, rfl, t1, t2⟩
  ·refine onO_appK (xs := ints []) trivial (by simp) (by simp) (by simp) ?_
   simp [-getElem?_pos, -Int.natCast_add, kill, h1, h4, h5, hc, hiI, k2', k5, k2]
   rw [set_split _ (by omega)]
   obtain ⟨m1, m2, m3, m4, m5⟩ := nx_set (v := .list 1 [.int .i64 (atP nm s : Nat)] (.tok h.length)) k2 k2' k3 k4
   refine ⟨by omega, ⟨by omega, by omega⟩, ⟨?_, ?_, hq5, ?_, ?_, ?_, _, .tok h.length, get_set_eq (by simp; omega), m1, m2, m3, m4, m5, .inr ⟨h.length, rfl, hgl, ?_⟩⟩⟩
   ·rw [take_set (by omega), List.take_append_of_le_length (by omega)]; exact k.take
   ·simp; omega
   ·rw [get_set_ne (by omega)]; exact h1 _
   ·rw [get_set_ne (by omega)]; exact h4 _
   ·rw [get_set_ne (by omega)]; exact h5 _
   ·rw [get_set_ne (by omega)]; simp
  ·have htl := lt_of_get t2
   have hk1 : ∀ q, (h ++ q).set t .dead = h.set t .dead ++ q := fun q => by rw [List.set_append_left _ _ htl]
   have hk2 : ∀ x q, (h.set t .dead ++ .dead :: q).set h.length x = h.set t .dead ++ x :: q := fun x q => by rw [List.set_append_right _ _ (by simp)]; simp
   have hk3 : ∀ q, (h.set t .dead ++ q)[h0.length + 1]? = some (.cells cs) := fun q => get_left (by rw [get_set_ne (by omega)]; exact k1) q
   refine onO_appK (by show (h ++ [.dead])[t]? = _; rw [ints_len]; exact get_left t2 _) (by simp) (by simp; omega) (by simp; omega) ?_
   simp [-getElem?_pos, -Int.natCast_add, kill, hk1, hk2, hk3, hiI, k2', k5, k2]
   rw [set_split _ (by omega)]
   have ht4 : h0.length + 2 ≠ t := fun e => by rw [← e, k.b4] at t2; cases t2
   have ht5 : q5 ≠ t := fun e => by rw [← e, k.b5] at t2; cases t2
   obtain ⟨m1, m2, m3, m4, m5⟩ := nx_set (v := .list 1 (ints st ++ [.int .i64 (atP nm s : Nat)]) (.tok h.length)) k2 k2' k3 k4
   refine ⟨by omega, ⟨⟨by omega, ht4⟩, by omega, ht5⟩, ⟨?_, ?_, hq5, ?_, ?_, ?_, _, .tok h.length, get_set_eq (by simp; omega), m1, m2, m3, m4, ?_, .inr ⟨h.length, rfl, hgl, ?_⟩⟩⟩
   ·rw [take_set (by omega), List.take_append_of_le_length (by simp; omega), take_set (by omega)]; exact k.take
   ·simp; omega
   ·rw [get_set_ne (by omega)]; exact get_left (by rw [get_set_ne (by omega)]; exact k.b1) _
   ·rw [get_set_ne (by omega)]; exact get_left (by rw [get_set_ne (Ne.symm ht4)]; exact k.b4) _
   ·rw [get_set_ne (by omega)]; exact get_left (by rw [get_set_ne (Ne.symm ht5)]; exact k.b5) _
   ·rw [m5]; simp [ints]
   ·rw [get_set_ne (by omega), List.getElem?_append_right (by simp)]; simp
 exact ⟨h', by rw [e1, e2.1], e2.2⟩
mutual
theorem namT_len : ∀ t : Tr, (namT t).length ≤ t.wt
 | .mk k s lo hi mn mx f ks => by
  have := namL_len ks
  rw [namT]
  simp only [Tr.wt]
  split
  ·simp; omega
  ·omega
theorem namL_len : ∀ l : List Tr, (namL l).length ≤ wts l
 | [] => by simp [namL]
 | t :: l => by
  have h1 := namT_len t
  have h2 := namL_len l
  simp only [namL, wts, List.length_append]
  omega
end
theorem eachS_nx (nm : List (List UInt8)) : ∀ (l : List (List UInt8)) (st : List Nat), eachS (fun st s => (true, st ++ [atP nm s])) l st = (true, st ++ l.map (atP nm))
 | [], st => by simp [eachS]
 | s :: l, st => by simp [eachS, eachS_nx nm l]
structure NX (bl : AV) (m N i : Nat) (nm : List (List UInt8)) (rows : List Ru) (h0 h : Heap) : Prop where
 take : h.take h0.length = h0
 len : h0.length + 3 ≤ h.length
 b1 : h[h0.length]? = some (.cells [bl, .map m])
 b4 : h[h0.length + 2]? = some (.cells [.sl 1 (h0.length + 1) 0 N N])
 cs : ∃ cs, h[h0.length + 1]? = some (.cells cs) ∧ cs.length = N ∧ (∀ (j : Nat) (x : Ru), j < i → rows[j]? = some x → ∃ r, cs[j]? = some (.list 1 (ints (nxR nm x)) r)) ∧ (∀ j, i ≤ j → j < N → cs[j]? = some (.list 1 [] .full))
def InvLn (gb m : Nat) (nm : List (List UInt8)) (rows : List Ru) (h0 : Heap) (k : Nat) (σ : Slots) (h : Heap) : Prop := ∃ i, i ≤ rows.length ∧ k = rows.length - i ∧ NX (.gl 10 gb rows.length) m rows.length i nm rows h0 h ∧ σ 1 = .ptr h0.length 0 ∧ σ 4 = .ptr (h0.length + 2) 0 ∧ σ 2 = .str [] ∧ σ 3 = .bool false ∧ σ 19 = .gl 10 gb rows.length ∧ σ 20 = .int .i64 (rows.length : Nat) ∧ σ 21 = .int .i64 (i : Nat)
theorem loops_nx (gb m : Nat) (nm : List (List UInt8)) (rows : List Ru) (hl : rows.length ≤ 1000000) (hx : ∀ x ∈ rows, ROk x) (h0 : Heap) (hgb : h0[gb]? = some (.grow 10 (rows.flatMap ruL))) (hm : h0[m]? = some (.amap (keysE nm 0))) (Q : Ex → Slots → Heap → Prop)
  (hK : ∀ σ h, NX (.gl 10 gb rows.length) m rows.length rows.length nm rows h0 h → σ 1 = .ptr h0.length 0 → σ 4 = .ptr (h0.length + 2) 0 → σ 2 = .str [] → σ 3 = .bool false → Wp M K34_3 Q σ h) :
  ∀ (σ : Slots) (g : Heap), NX (.gl 10 gb rows.length) m rows.length 0 nm rows h0 g → σ 1 = .ptr h0.length 0 → σ 4 = .ptr (h0.length + 2) 0 → σ 2 = .str [] → σ 3 = .bool false → σ 19 = .gl 10 gb rows.length → σ 20 = .int .i64 (rows.length : Nat) → σ 21 = .int .i64 0 →
   Wp M (.loop L34_0) (blkQ 0 (thenQ (Wp M K34_3 Q) Q)) σ g := by
 intro σ g hg s1 s4 s2 s3 s19 s20 s21
 refine Wp.loop (InvLn gb m nm rows h0) ?_ (n := rows.length) ⟨0, Nat.zero_le _, rfl, hg, s1, s4, s2, s3, s19, s20, s21⟩
 clear s1 s4 s2 s3 s19 s20 s21 hg σ g
 rintro k σ g ⟨i, hi, rfl, hG, s1, s4, s2, s3, s19, s20, s21⟩
 by_cases hlt : i < rows.length
 ·obtain ⟨x, hxi⟩ : ∃ x, rows[i]? = some x := ⟨_, List.getElem?_eq_getElem hlt⟩
  have hr := hx x (List.mem_of_getElem? hxi)
  have hltI : (i : Int) < rows.length := by omega
  have hadd : IntKind.wrap .i64 ((i : Int) + 1) = ((i + 1 : Nat) : Int) := by rw [wrap64 (by omega) (by omega)]; rfl
  obtain ⟨cs, hcs⟩ : ∃ cs, rows.flatMap ruL = cs := ⟨_, rfl⟩
  rw [hcs] at hgb
  obtain ⟨c1, c2, c4, _, _⟩ := row_facts hxi hcs
  have c3 : min 10 (cs.length - i * 10) = 10 := by omega
  have hgl := hG.len
  have take' : ∀ q, (g ++ q).take h0.length = h0 := fun q => by rw [List.take_append_of_le_length (by omega)]; exact hG.take
  have hgr : ∀ q, (g ++ q)[gb]? = some (.grow 10 cs) := fun q => of_take (take' q) hgb
  have hgr0 : g[gb]? = some (.grow 10 cs) := of_take hG.take hgb
  obtain ⟨ds, d1, d2, d3, d4⟩ := hG.cs
  have hnl := namT_len x.tree
  obtain ⟨g', e1, e2⟩ := each_okB (St := List Nat) (I := fun st h => NXI (.gl 10 gb rows.length) m rows.length g.length i nm rows h0 st h) (step := fun st s => (true, st ++ [atP nm s])) (f := 51) (caps := [.ptr (h0.length + 2) 0, .ptr g.length 0, .ptr h0.length 0]) List.length 1000000000 (fun _ _ => by simp)
   (fun _ h q k => k.app q) (fun st s h hk k => loops1_ok k hm (by omega) s) x.tree hr.T [] (g ++ [.cells [.int .i64 (i : Nat)], .cells (ruL x)]) (by simp; have := hr.2; omega)
   ⟨take' _, by simp; omega, by omega, get_left hG.b1 _, get_left hG.b4 _, by simp, ds, .full, get_left d1 _, d2, hlt, d3, fun j h1 h2 => d4 j (by omega) h2, d4 i (Nat.le_refl _) hlt, .inl ⟨rfl, rfl⟩⟩
  rw [eachS_nx] at e1 e2
  simp only [List.nil_append] at e2
  simp [-getElem?_pos, -Int.natCast_add, wL34_0, s1, s4, s19, s20, s21, hltI, hlt, hgr, hgr0, c1, c2, c3, c4, ruA_cells, ruL_take, ruL_agg, ruL_tree, e1, hadd, Nat.add_assoc]
  obtain ⟨ds', r, f1, f2, f3, f4, f5, f6, f7⟩ := e2.cs
  refine ⟨rows.length - (i + 1), by omega, i + 1, by omega, rfl, ⟨e2.take, e2.len, e2.b1, e2.b4, ds', f1, f2, fun j y h1 h2 => ?_, fun j h1 h2 => f5 j (by omega) h2⟩, by simp [s1], by simp [s4], by simp [s2], by simp [s3], by simp [s19], by simp [s20], by simp⟩
  by_cases hj : j = i
  ·subst hj
   rw [hxi] at h2
   injection h2 with h2
   subst h2
   exact ⟨r, f6⟩
  ·exact f4 j y (by omega) h2
 ·obtain rfl : i = rows.length := by omega
  simp [-getElem?_pos, -Int.natCast_add, wL34_0, s1, s4, s19, s20, s21]
  exact hK _ _ hG (by simp [s1]) (by simp [s4]) (by simp [s2]) (by simp [s3])
def bfsIn (i : Nat) : List Nat → List Bool → List Nat → Option (List Bool × List Nat)
 | [], been, todo => some (been, todo)
 | n :: ns, been, todo => if n = i then none else if been[n]?.getD true then bfsIn i ns been todo else bfsIn i ns (been.set n true) (todo ++ [n])
def cf (b : List Bool) : Nat := (b.filter (!·)).length
def bfs (nx : List (List Nat)) (i : Nat) : Nat → List Bool → List Nat → Bool
 | 0, _, _ => false
 | _ + 1, _, [] => false
 | f + 1, been, k :: rest => match bfsIn i (nx[k]?.getD []) been rest with | none => true | some (b, t) => if t = [] then false else bfs nx i f b t
theorem cf_set : ∀ (b : List Bool) (n : Nat), b[n]? = some false → cf (b.set n true) + 1 = cf b
 | [], n, h => by simp at h
 | x :: b, 0, h => by simp at h; subst h; simp [cf]
 | x :: b, n + 1, h => by
  have := cf_set b n (by simpa using h)
  cases x <;> simp [cf] at this ⊢ <;> omega
theorem bfsIn_some {i : Nat} : ∀ {ns : List Nat} {been : List Bool} {todo : List Nat} {b : List Bool} {t : List Nat}, bfsIn i ns been todo = some (b, t) → (∀ n ∈ ns, n < been.length) → b.length = been.length ∧ t.length + cf b = todo.length + cf been
 | [], been, todo, b, t, h, _ => by
  simp only [bfsIn, Option.some.injEq, Prod.mk.injEq] at h
  obtain ⟨rfl, rfl⟩ := h
  exact ⟨rfl, rfl⟩
 | n :: ns, been, todo, b, t, h, hn => by
  simp only [bfsIn] at h
  split at h
  ·cases h
  ·split at h
   ·exact bfsIn_some h fun m hm => hn m (by simp [hm])
   ·rename_i h1 h2
    have hlt := hn n (by simp)
    have hf : been[n]? = some false := by
     rw [List.getElem?_eq_getElem hlt] at h2 ⊢
     simp at h2
     rw [h2]
    obtain ⟨e1, e2⟩ := bfsIn_some h fun m hm => by simpa using hn m (by simp [hm])
    have := cf_set been n hf
    simp at e1 e2
    exact ⟨e1, by omega⟩
structure BF (bl : AV) (m : Nat) (nm : List (List UInt8)) (rows : List Ru) (x : Ru) (p8 kb : Nat) (h0 : Heap) (been : List Bool) (todo : List Nat) (r : Rt) (h : Heap) : Prop where
 nx : NX bl m rows.length rows.length nm rows h0 h
 c8 : h[p8]? = some (.cells (ruL x))
 p8n : h0.length + 3 ≤ p8
 ck : h[kb]? = some (.cells (been.map AV.bool))
 kbn : h0.length + 3 ≤ kb
 bn : been.length = rows.length
 ow : r = .full ∨ ∃ t, r = .tok t ∧ h0.length + 3 ≤ t ∧ h[t]? = some (.tok 1 todo.length 3)
theorem NX.app {bl : AV} {m N i : Nat} {nm : List (List UInt8)} {rows : List Ru} {h0 h : Heap} (k : NX bl m N i nm rows h0 h) (q : List AE) : NX bl m N i nm rows h0 (h ++ q) := by
 obtain ⟨cs, k1, k2, k3, k4⟩ := k.cs
 exact ⟨by rw [List.take_append_of_le_length (by have := k.len; omega)]; exact k.take, by have := k.len; simp; omega, get_left k.b1 q, get_left k.b4 q, cs, get_left k1 q, k2, k3, k4⟩
theorem NX.set {bl : AV} {m N i : Nat} {nm : List (List UInt8)} {rows : List Ru} {h0 h : Heap} (k : NX bl m N i nm rows h0 h) {a : Nat} (e : AE) (ha : h0.length + 3 ≤ a) : NX bl m N i nm rows h0 (h.set a e) := by
 obtain ⟨cs, k1, k2, k3, k4⟩ := k.cs
 exact ⟨by rw [take_set (by omega)]; exact k.take, by simp; exact k.len, by rw [get_set_ne (by omega)]; exact k.b1, by rw [get_set_ne (by omega)]; exact k.b4, cs, by rw [get_set_ne (by omega)]; exact k1, k2, k3, k4⟩
section
variable {bl : AV} {m : Nat} {nm : List (List UInt8)} {rows : List Ru} {x : Ru} {p8 kb : Nat} {h0 : Heap} {been : List Bool} {todo : List Nat} {r : Rt} {h : Heap}
theorem BF.app (k : BF bl m nm rows x p8 kb h0 been todo r h) (q : List AE) : BF bl m nm rows x p8 kb h0 been todo r (h ++ q) :=
 ⟨k.nx.app q, get_left k.c8 q, k.p8n, get_left k.ck q, k.kbn, k.bn, by
  rcases k.ow with e | ⟨t, e1, e2, e3⟩
  ·exact .inl e
  ·exact .inr ⟨t, e1, e2, get_left e3 q⟩⟩
theorem BF.mark (k : BF bl m nm rows x p8 kb h0 been todo r h) (n : Nat) : BF bl m nm rows x p8 kb h0 (been.set n true) todo r (h.set kb (.cells ((been.set n true).map AV.bool))) := by
 have hp : kb ≠ p8 := fun e => by
  have h1 := k.ck
  rw [e, k.c8] at h1
  injection h1 with h1
  injection h1 with h1
  have : (ruL x)[0]? = (been.map AV.bool)[0]? := by rw [h1]
  rw [ruL_name] at this
  cases been with
  | nil => simp at this
  | cons b l => simp at this
 refine ⟨k.nx.set _ k.kbn, by rw [get_set_ne hp]; exact k.c8, k.p8n, get_set_eq (lt_of_get k.ck), k.kbn, by simpa using k.bn, ?_⟩
 rcases k.ow with e | ⟨t, e1, e2, e3⟩
 ·exact .inl e
 ·refine .inr ⟨t, e1, e2, ?_⟩
  rw [get_set_ne (fun e => by rw [← e, k.ck] at e3; cases e3)]
  exact e3
theorem BF.push (k : BF bl m nm rows x p8 kb h0 been todo r h) (n : Nat) {key : Nat} (hkey : key = h.length) (ht : todo.length ≤ 1000000000000) {f : AV → Heap → Prop} (hf : ∀ h', BF bl m nm rows x p8 kb h0 been (todo ++ [n]) (.tok key) h' → f (.list 1 (ints (todo ++ [n])) (.tok key)) h') :
  onO (appA (h ++ [.dead]) key 1 8 3 (.list 1 (ints todo) r) (.list 1 [.int .i64 (n : Nat)] .full)) f := by
 subst hkey
 have hgl := k.nx.len
 have he : ints todo ++ [.int .i64 (n : Nat)] = ints (todo ++ [n]) := by simp [ints]
 have hl : (ints todo).length + [AV.int .i64 (n : Nat)].length = (todo ++ [n]).length := by simp
 rcases k.ow with rfl | ⟨t, rfl, e2, e3⟩
 ·refine onO_appK trivial (by simp) (by simp; omega) (by simp; omega) ?_
  rw [he, hl]
  refine hf _ ?_
  have hkk : (kill (h ++ [.dead]) .full).set h.length (.tok 1 (todo ++ [n]).length 3) = h ++ [.tok 1 (todo ++ [n]).length 3] := by simp [kill]
  rw [hkk]
  have := k.app [.tok 1 (todo ++ [n]).length 3]
  exact ⟨this.nx, this.c8, this.p8n, this.ck, this.kbn, this.bn, .inr ⟨h.length, rfl, hgl, by simp⟩⟩
 ·have htl := lt_of_get e3
  refine onO_appK (by show (h ++ [.dead])[t]? = _; rw [ints_len]; exact get_left e3 _) (by simp) (by simp; omega) (by simp; omega) ?_
  rw [he, hl]
  refine hf _ ?_
  have hkk : (kill (h ++ [.dead]) (.tok t)).set h.length (.tok 1 (todo ++ [n]).length 3) = h.set t .dead ++ [.tok 1 (todo ++ [n]).length 3] := by
   simp only [kill]
   rw [List.set_append_left _ _ htl, List.set_append_right _ _ (by simp)]
   simp
  rw [hkk]
  have htp : t ≠ p8 := fun e => by rw [e, k.c8] at e3; cases e3
  have htk : t ≠ kb := fun e => by rw [e, k.ck] at e3; cases e3
  exact ⟨(k.nx.set _ e2).app _, get_left (by rw [get_set_ne htp]; exact k.c8) _, k.p8n, get_left (by rw [get_set_ne htk]; exact k.ck) _, k.kbn, k.bn, .inr ⟨h.length, rfl, hgl, by rw [List.getElem?_append_right (by simp)]; simp⟩⟩
end
def keepB (bl : AV) (N i p8 kb : Nat) (h0 : Heap) (σ : Slots) : Prop := σ 1 = .ptr h0.length 0 ∧ σ 4 = .ptr (h0.length + 2) 0 ∧ σ 7 = .int .i64 (i : Nat) ∧ σ 8 = .ptr p8 0 ∧ σ 9 = .sl 1 kb 0 N N ∧ σ 32 = bl ∧ σ 33 = .int .i64 (N : Nat) ∧ σ 34 = .int .i64 (i : Nat) ∧ σ 2 = .str [] ∧ σ 3 = .bool false
theorem keepB.of {bl : AV} {N i p8 kb : Nat} {h0 : Heap} {σ σ' : Slots} (k : keepB bl N i p8 kb h0 σ) (h : ∀ j, j ≤ 4 ∨ 7 ≤ j ∧ j ≤ 9 ∨ 32 ≤ j ∧ j ≤ 34 → σ' j = σ j) : keepB bl N i p8 kb h0 σ' := by
 obtain ⟨k1, k2, k3, k4, k5, k6, k7, k8, k9, k10⟩ := k
 exact ⟨by rw [h _ (by omega)]; exact k1, by rw [h _ (by omega)]; exact k2, by rw [h _ (by omega)]; exact k3, by rw [h _ (by omega)]; exact k4, by rw [h _ (by omega)]; exact k5, by rw [h _ (by omega)]; exact k6, by rw [h _ (by omega)]; exact k7, by rw [h _ (by omega)]; exact k8, by rw [h _ (by omega)]; exact k9, by rw [h _ (by omega)]; exact k10⟩
def InvBi (bl : AV) (m : Nat) (nm : List (List UInt8)) (rows : List Ru) (x : Ru) (i p8 kb : Nat) (h0 : Heap) (ns : List Nat) (rr : Rt) (R : Option (List Bool × List Nat)) (k : Nat) (σ : Slots) (h : Heap) : Prop :=
 ∃ j been todo r, j ≤ ns.length ∧ k = ns.length - j ∧ bfsIn i (ns.drop j) been todo = R ∧ todo.length + cf been ≤ rows.length + 1 ∧ BF bl m nm rows x p8 kb h0 been todo r h ∧ keepB bl rows.length i p8 kb h0 σ ∧ σ 10 = .list 1 (ints todo) r ∧ σ 56 = .list 1 (ints ns) rr ∧ σ 57 = .int .i64 (ns.length : Nat) ∧ σ 58 = .int .i64 (j : Nat)
theorem loops_in {bl : AV} {m : Nat} {nm : List (List UInt8)} {rows : List Ru} {x : Ru} {i p8 kb : Nat} {h0 : Heap} {ns : List Nat} {rr : Rt} {been : List Bool} {todo : List Nat} {r : Rt} (hl : rows.length ≤ 1000000) (hnl : ns.length ≤ 1000000000000) (hns : ∀ n ∈ ns, n < rows.length) (Q : Ex → Slots → Heap → Prop)
  (hfound : bfsIn i ns been todo = none → ∀ σ h, h.take h0.length = h0 → σ 2 = .str x.name → σ 3 = .bool true → Q .ret σ h)
  (hdone : ∀ σ h b t r', bfsIn i ns been todo = some (b, t) → BF bl m nm rows x p8 kb h0 b t r' h → keepB bl rows.length i p8 kb h0 σ → σ 10 = .list 1 (ints t) r' → Wp M K34_0 Q σ h) :
  ∀ (σ : Slots) (g : Heap), todo.length + cf been ≤ rows.length + 1 → BF bl m nm rows x p8 kb h0 been todo r g → keepB bl rows.length i p8 kb h0 σ → σ 10 = .list 1 (ints todo) r → σ 56 = .list 1 (ints ns) rr → σ 57 = .int .i64 (ns.length : Nat) → σ 58 = .int .i64 0 →
   Wp M (.loop L34_1) (blkQ 6 (thenQ (Wp M K34_0 Q) Q)) σ g := by
 intro σ g hcf hg hkp s10 s56 s57 s58
 obtain ⟨R, hR⟩ : ∃ R, bfsIn i ns been todo = R := ⟨_, rfl⟩
 rw [hR] at hfound hdone
 refine Wp.loop (InvBi bl m nm rows x i p8 kb h0 ns rr R) ?_ (n := ns.length) ⟨0, been, todo, r, Nat.zero_le _, rfl, by simpa using hR, hcf, hg, hkp, s10, s56, s57, s58⟩
 clear s10 s56 s57 s58 hkp hg hcf σ g hR
 rintro k σ g ⟨j, been, todo, r, hj, rfl, hr, hcf, hG, hkp, s10, s56, s57, s58⟩
 have hkp' := hkp
 obtain ⟨s1, s4, s7, s8, s9, s32, s33, s34, s2, s3⟩ := hkp'
 by_cases hlt : j < ns.length
 ·obtain ⟨n, hnj⟩ : ∃ n, ns[j]? = some n := ⟨_, List.getElem?_eq_getElem hlt⟩
  have hd : ns.drop j = n :: ns.drop (j + 1) := by
   rw [List.drop_eq_getElem_cons hlt]
   congr 1
   rw [List.getElem?_eq_getElem hlt] at hnj
   exact Option.some.inj hnj
  have hnN := hns n (List.mem_of_getElem? hnj)
  have hltI : (j : Int) < ns.length := by omega
  have hadd : IntKind.wrap .i64 ((j : Int) + 1) = ((j + 1 : Nat) : Int) := by rw [wrap64 (by omega) (by omega)]; rfl
  have hin : (ints ns)[j]? = some (.int .i64 (n : Nat)) := by simp [ints, hnj]
  have hnI : (n : Int) < rows.length := by omega
  have hbn := hG.bn
  rw [hd, bfsIn] at hr
  by_cases hni : n = i
  ·have hnii : (n : Int) = (i : Int) := by omega
   rw [if_pos hni] at hr
   simp [-getElem?_pos, -Int.natCast_add, wL34_1, s7, s8, s9, s10, s56, s57, s58, hltI, hlt, hin, hnii, hG.c8, ruL_name]
   exact hfound hr.symm _ _ hG.nx.take (by simp) (by simp)
  ·have hnii : ¬ (n : Int) = (i : Int) := by omega
   rw [if_neg hni] at hr
   obtain ⟨bv, hbv⟩ : ∃ bv, been[n]? = some bv := ⟨_, List.getElem?_eq_getElem (by omega)⟩
   rw [hbv] at hr
   have hkc := hG.ck
   cases bv with
   | true =>
    simp only [Option.getD_some, if_true] at hr
    simp [-getElem?_pos, -Int.natCast_add, wL34_1, wJ34_0, s7, s8, s9, s10, s56, s57, s58, hltI, hlt, hin, hnii, hni, hnI, hnN, hkc, hbv, hadd]
    refine ⟨ns.length - (j + 1), by omega, j + 1, been, todo, r, by omega, rfl, hr, hcf, hG, hkp.of fun q hq => ?_, by simp [s10], by simp [s56], by simp [s57], by simp⟩
    simp [put]
    rcases hq with hq | hq | hq <;> (repeat rw [if_neg (by omega)])
   | false =>
    simp only [Option.getD_some, Bool.false_eq_true, if_false] at hr
    have hcs := cf_set been n hbv
    have hst : (been.map AV.bool).take n ++ .bool true :: (been.map AV.bool).drop (n + 1) = (been.set n true).map AV.bool := by
     rw [set_split _ (by simp; omega), List.map_set]
    simp [-getElem?_pos, -Int.natCast_add, wL34_1, wJ34_0, s7, s8, s9, s10, s56, s57, s58, hltI, hlt, hin, hnii, hni, hnI, hnN, hkc, hbv, hadd, hbn]
    refine ⟨by omega, ?_⟩
    rw [hst]
    refine BF.push (hG.mark n) n (by simp) (by omega) fun h' hB => ?_
    simp [-getElem?_pos, -Int.natCast_add, wJ34_0, s58, hadd]
    refine ⟨ns.length - (j + 1), by omega, j + 1, been.set n true, todo ++ [n], _, by omega, rfl, hr, by simp; omega, hB, hkp.of fun q hq => ?_, by simp, by simp [s56], by simp [s57], by simp⟩
    simp [put]
    rcases hq with hq | hq | hq <;> (repeat rw [if_neg (by omega)])
 ·obtain rfl : j = ns.length := by omega
  simp only [List.drop_length, bfsIn] at hr
  simp [-getElem?_pos, -Int.natCast_add, wL34_1, s56, s57, s58]
  refine hdone _ _ been todo r hr.symm hG (hkp.of fun q hq => ?_) (by simp [s10])
  simp [put]
  intro hq2
  omega
theorem bfsIn_mem {i : Nat} : ∀ {ns : List Nat} {been : List Bool} {todo : List Nat} {b : List Bool} {t : List Nat}, bfsIn i ns been todo = some (b, t) → ∀ n ∈ t, n ∈ todo ∨ n ∈ ns
 | [], been, todo, b, t, h, n, hn => by
  simp only [bfsIn, Option.some.injEq, Prod.mk.injEq] at h
  obtain ⟨rfl, rfl⟩ := h
  exact .inl hn
 | m :: ns, been, todo, b, t, h, n, hn => by
  simp only [bfsIn] at h
  split at h
  ·cases h
  ·split at h
   ·rcases bfsIn_mem h n hn with q | q
    ·exact .inl q
    ·exact .inr (by simp [q])
   ·rcases bfsIn_mem h n hn with q | q
    ·rcases List.mem_append.1 q with q | q
     ·exact .inl q
     ·simp at q; exact .inr (by simp [q])
    ·exact .inr (by simp [q])
theorem atP_lt {nm : List (List UInt8)} (h : 0 < nm.length) (s : List UInt8) : atP nm s < nm.length := by
 unfold atP
 cases hp : posK s nm with
 | none => simpa using h
 | some j => exact (posK_some hp).1
theorem BF.pop {bl : AV} {m : Nat} {nm : List (List UInt8)} {rows : List Ru} {x : Ru} {p8 kb : Nat} {h0 : Heap} {been : List Bool} {k0 : Nat} {todo : List Nat} {r : Rt} {h : Heap} (k : BF bl m nm rows x p8 kb h0 been (k0 :: todo) r h) {key : Nat} (hkey : key = h.length) (σ : Slots) {f : AV → Heap → Prop}
  (hf : ∀ r' h', BF bl m nm rows x p8 kb h0 been todo r' h' → f (.list 1 (ints todo) r') h') : onO (sliceTA σ (h ++ [.dead]) key 1 (.list 1 (ints (k0 :: todo)) r) (.c (.int .i64 1))) f := by
 subst hkey
 have hgl := k.nx.len
 have hb : bnd σ (some (.c (.int .i64 1))) (ints (k0 :: todo)).length 0 = some 1 := by simp [bnd, AX.ev]; omega
 have hd : (ints (k0 :: todo)).drop 1 = ints todo := by simp [ints]
 rcases k.ow with rfl | ⟨t, rfl, e2, e3⟩
 ·simp only [sliceTA, hb, if_true, hd]
  rw [onO_some]
  have := k.app [.dead]
  exact hf _ _ ⟨this.nx, this.c8, this.p8n, this.ck, this.kbn, this.bn, .inl rfl⟩
 ·have htl := lt_of_get e3
  have hge : (h ++ [AE.dead])[t]? = some (.tok 1 (k0 :: todo).length 3) := get_left e3 _
  simp only [sliceTA, hb, if_true, hd, hge]
  rw [if_pos (by simp), onO_some, ints_len]
  refine hf _ _ ?_
  have hkk : ((h ++ [AE.dead]).set t .dead).set h.length (.tok 1 ((k0 :: todo).length - 1) 3) = h.set t .dead ++ [.tok 1 todo.length 3] := by
   rw [List.set_append_left _ _ htl, List.set_append_right _ _ (by simp)]
   simp
  rw [hkk]
  have htp : t ≠ p8 := fun e => by rw [e, k.c8] at e3; cases e3
  have htk : t ≠ kb := fun e => by rw [e, k.ck] at e3; cases e3
  exact ⟨(k.nx.set _ e2).app _, get_left (by rw [get_set_ne htp]; exact k.c8) _, k.p8n, get_left (by rw [get_set_ne htk]; exact k.ck) _, k.kbn, k.bn, .inr ⟨h.length, rfl, hgl, by rw [List.getElem?_append_right (by simp)]; simp⟩⟩
def InvBo (bl : AV) (m : Nat) (nm : List (List UInt8)) (rows : List Ru) (x : Ru) (i p8 kb : Nat) (h0 : Heap) (R : Bool) (k : Nat) (σ : Slots) (h : Heap) : Prop :=
 ∃ been todo r, k = todo.length + cf been ∧ todo ≠ [] ∧ (∀ n ∈ todo, n < rows.length) ∧ bfs (rows.map (nxR nm)) i k been todo = R ∧ k ≤ rows.length + 1 ∧ BF bl m nm rows x p8 kb h0 been todo r h ∧ keepB bl rows.length i p8 kb h0 σ ∧ σ 10 = .list 1 (ints todo) r
theorem loops_out {bl : AV} {m : Nat} {rows : List Ru} {x : Ru} {i p8 kb : Nat} {h0 : Heap} (hl : rows.length ≤ 1000000) (hx : ∀ x ∈ rows, ROk x) (Q : Ex → Slots → Heap → Prop) {R : Bool}
  (hfound : R = true → ∀ σ h, h.take h0.length = h0 → σ 2 = .str x.name → σ 3 = .bool true → Q .ret σ h)
  (hdone : R = false → ∀ σ h, NX bl m rows.length rows.length (rows.map Ru.name) rows h0 h → keepB bl rows.length i p8 kb h0 σ → Q (.exit 3) σ h) :
  ∀ (k : Nat) (σ : Slots) (g : Heap), InvBo bl m (rows.map Ru.name) rows x i p8 kb h0 R k σ g → Wp M (.loop L34_2) (blkQ 4 Q) σ g := by
 intro k σ g hI
 refine Wp.loop (InvBo bl m (rows.map Ru.name) rows x i p8 kb h0 R) ?_ (n := k) hI
 clear hI
 rintro k σ g ⟨been, todo, r, hk, hne, htd, hr, hkb, hG, hkp, s10⟩
 have hkp' := hkp
 obtain ⟨s1, s4, s7, s8, s9, s32, s33, s34, s2, s3⟩ := hkp'
 match todo, hne with
 | k0 :: todo, _ =>
  obtain ⟨f, rfl⟩ : ∃ f, k = f + 1 := ⟨k - 1, by simp at hk; omega⟩
  have hk0 := htd k0 (by simp)
  have hk0I : (k0 : Int) < rows.length := by omega
  obtain ⟨y, hy⟩ : ∃ y, rows[k0]? = some y := ⟨_, List.getElem?_eq_getElem hk0⟩
  have hyr := hx y (List.mem_of_getElem? hy)
  have hnl := namT_len y.tree
  have hin : (ints (k0 :: todo))[0]? = some (.int .i64 (k0 : Nat)) := by simp [ints]
  have hposN : 0 < todo.length + 1 := by omega
  rw [bfs] at hr
  have hget : (rows.map (nxR (rows.map Ru.name)))[k0]?.getD [] = nxR (rows.map Ru.name) y := by simp [hy]
  rw [hget] at hr
  have hns : ∀ n ∈ nxR (rows.map Ru.name) y, n < rows.length := by
   intro n hn
   obtain ⟨s, _, rfl⟩ := List.mem_map.1 hn
   have := atP_lt (nm := rows.map Ru.name) (by simp; omega) s
   simpa using this
  simp [-getElem?_pos, -Int.natCast_add, wL34_2, s10, hin]
  refine BF.pop hG rfl _ fun r' h' hB => ?_
  obtain ⟨cs, d1, d2, d3, _⟩ := hB.nx.cs
  obtain ⟨rr, hrr⟩ := d3 k0 y hk0 hy
  have hb4 := hB.nx.b4
  simp [-getElem?_pos, -Int.natCast_add, s4, hb4, d1, hk0, hk0I, hrr]
  refine loops_in (rr := rr) (nm := rows.map Ru.name) (i := i) (ns := nxR (rows.map Ru.name) y) (been := been) (todo := todo) hl (by have := hyr.2; simp [nxR]; omega) hns _ (fun hb σ' h' t1 t2 t3 => ?_) (fun σ' h2 b t r2 hb hB2 hk2 t10 => ?_) _ _ ?_ hB (hkp.of fun q hq => ?_) ?_ ?_ ?_ ?_
  ·rw [hb] at hr
   simp only at hr
   simp
   exact hfound hr.symm _ _ t1 t2 t3
  ·rw [hb] at hr
   simp only at hr
   obtain ⟨m1, m2⟩ := bfsIn_some hb (fun n hn => by have := hns n hn; have := hG.bn; omega)
   have hmem := bfsIn_mem hb
   by_cases ht : t = []
   ·subst ht
    simp only [if_true] at hr
    simp [-getElem?_pos, -Int.natCast_add, wK34_0, t10, ints]
    refine hdone hr.symm _ _ hB2.nx (hk2.of fun q hq => ?_)
    simp [put]
    rcases hq with hq | hq | hq <;> (repeat rw [if_neg (by omega)])
   ·rw [if_neg ht] at hr
    have htl : ¬ t.length = 0 := fun e => ht (List.eq_nil_of_length_eq_zero e)
    have htl2 : ¬ (t.length : Int) = 0 := by omega
    simp [-getElem?_pos, -Int.natCast_add, wK34_0, t10, htl, htl2, ht]
    simp only [List.length_cons] at hk
    refine ⟨f, by omega, b, t, r2, by omega, ht, fun n hn => ?_, hr, by omega, hB2, hk2.of fun q hq => ?_, by simp [t10]⟩
    ·rcases hmem n hn with q | q
     ·exact htd n (by simp [q])
     ·exact hns n q
    ·simp [put]
     rcases hq with hq | hq | hq <;> (repeat rw [if_neg (by omega)])
  ·simp only [List.length_cons] at hk
   omega
  ·simp [put]
   rcases hq with hq | hq | hq <;> (repeat rw [if_neg (by omega)])
  ·simp
  ·simp
  ·simp
  ·simp
def loopP (nx : List (List Nat)) (N : Nat) : List Ru → Nat → Option (List UInt8)
 | [], _ => none
 | x :: l, i => if bfs nx i (N + 1) (List.replicate N false) [i] then some x.name else loopP nx N l (i + 1)
theorem cf_rep (N : Nat) : cf (List.replicate N false) = N := by
 unfold cf
 induction N with
 | zero => rfl
 | succ n ih => simp [List.replicate_succ]
def InvL3 (gb m : Nat) (rows : List Ru) (h0 : Heap) (R : Option (List UInt8)) (k : Nat) (σ : Slots) (h : Heap) : Prop := ∃ i, i ≤ rows.length ∧ k = rows.length - i ∧ loopP (rows.map (nxR (rows.map Ru.name))) rows.length (rows.drop i) i = R ∧ NX (.gl 10 gb rows.length) m rows.length rows.length (rows.map Ru.name) rows h0 h ∧
 σ 1 = .ptr h0.length 0 ∧ σ 4 = .ptr (h0.length + 2) 0 ∧ σ 2 = .str [] ∧ σ 3 = .bool false ∧ σ 32 = .gl 10 gb rows.length ∧ σ 33 = .int .i64 (rows.length : Nat) ∧ σ 34 = .int .i64 (i : Nat)
theorem loops_all {gb m : Nat} {rows : List Ru} {h0 : Heap} (hl : rows.length ≤ 1000000) (hx : ∀ x ∈ rows, ROk x) (hgb : h0[gb]? = some (.grow 10 (rows.flatMap ruL))) (Q : Ex → Slots → Heap → Prop) {R : Option (List UInt8)}
  (hQ : ∀ e (σ : Slots) h, e = .ret → h.take h0.length = h0 → σ 2 = .str (R.getD []) → σ 3 = .bool R.isSome → Q e σ h) :
  ∀ (k : Nat) (σ : Slots) (g : Heap), InvL3 gb m rows h0 R k σ g → Wp M (.loop L34_3) (blkQ 2 (thenQ (Wp M K34_2 Q) Q)) σ g := by
 intro k σ g hI
 refine Wp.loop (InvL3 gb m rows h0 R) ?_ (n := k) hI
 clear hI
 rintro k σ g ⟨i, hi, rfl, hr, hG, s1, s4, s2, s3, s32, s33, s34⟩
 by_cases hlt : i < rows.length
 ·obtain ⟨x, hxi⟩ : ∃ x, rows[i]? = some x := ⟨_, List.getElem?_eq_getElem hlt⟩
  have hd : rows.drop i = x :: rows.drop (i + 1) := by
   rw [List.drop_eq_getElem_cons hlt]
   congr 1
   rw [List.getElem?_eq_getElem hlt] at hxi
   exact Option.some.inj hxi
  have hltI : (i : Int) < rows.length := by omega
  have hadd : IntKind.wrap .i64 ((i : Int) + 1) = ((i + 1 : Nat) : Int) := by rw [wrap64 (by omega) (by omega)]; rfl
  obtain ⟨cs, hcs⟩ : ∃ cs, rows.flatMap ruL = cs := ⟨_, rfl⟩
  rw [hcs] at hgb
  obtain ⟨c1, c2, c4, _, _⟩ := row_facts hxi hcs
  have c3 : min 10 (cs.length - i * 10) = 10 := by omega
  have hgl := hG.len
  have hgr : ∀ q, (g ++ q)[gb]? = some (.grow 10 cs) := fun q => get_left (of_take hG.take hgb) q
  have hgr0 : g[gb]? = some (.grow 10 cs) := of_take hG.take hgb
  have hb1 : ∀ q, (g ++ q)[h0.length]? = some (.cells [.gl 10 gb rows.length, .map m]) := fun q => get_left hG.b1 q
  have hrep : (rows.length : Nat) ≤ 70368744177664 := by omega
  have hrepI : ((rows.length : Nat) : Int) ≤ 70368744177664 := by omega
  rw [hd, loopP] at hr
  simp [-getElem?_pos, -Int.natCast_add, wL34_3, s1, s4, s32, s33, s34, hltI, hlt, hgr, hgr0, c1, c2, c3, c4, ruA_cells, ruL_take, ruL_agg, hb1, hrep, hrepI, Nat.add_assoc]
  refine loops_out (m := m) (x := x) (i := i) (p8 := g.length) (kb := g.length + 1) (R := bfs (rows.map (nxR (rows.map Ru.name))) i (rows.length + 1) (List.replicate rows.length false) [i]) (h0 := h0) (rows := rows) (bl := .gl 10 gb rows.length) hl hx _ (fun hR σ' h' t1 t2 t3 => ?_) (fun hR σ' h' hN hk => ?_) (rows.length + 1) _ _
   ⟨List.replicate rows.length false, [i], .full, by rw [cf_rep]; simp; omega, by simp, by simp; exact hlt, rfl, Nat.le_refl _, ⟨hG.app _, by simp, by omega, by rw [List.getElem?_append_right (by omega)]; simp, by omega, by simp, .inl rfl⟩, ⟨?_, ?_, ?_, ?_, ?_, ?_, ?_, ?_, ?_, ?_⟩, ?_⟩
  ·rw [hR] at hr
   simp only [if_true] at hr
   simp
   refine hQ _ _ _ rfl t1 ?_ ?_ <;> simp [← hr, t2, t3]
  ·rw [hR] at hr
   simp only [Bool.false_eq_true, if_false] at hr
   obtain ⟨u1, u4, u7, u8, u9, u32, u33, u34, u2, u3⟩ := hk
   simp [-getElem?_pos, -Int.natCast_add, wK34_1, u34, hadd]
   exact ⟨rows.length - (i + 1), by omega, i + 1, by omega, rfl, hr, hN, by simp [u1], by simp [u4], by simp [u2], by simp [u3], by simp [u32], by simp [u33], by simp⟩
  all_goals simp [s1, s4, s2, s3, s32, s33, s34, ints]
 ·obtain rfl : i = rows.length := by omega
  simp only [List.drop_length, loopP] at hr
  simp [-getElem?_pos, -Int.natCast_add, wL34_3, wK34_2, s33, s34]
  refine hQ _ _ _ rfl hG.take ?_ ?_ <;> simp [← hr]
theorem loops_ok (gb m : Nat) (rows : List Ru) (hl : rows.length ≤ 1000000) (hx : ∀ x ∈ rows, ROk x) (h0 : Heap) (hgb : h0[gb]? = some (.grow 10 (rows.flatMap ruL))) (hm : h0[m]? = some (.amap (keysE (rows.map Ru.name) 0))) :
  M.call 34 [.agg [.gl 10 gb rows.length, .map m]] h0 = some (.tup [.str ((loopP (rows.map (nxR (rows.map Ru.name))) rows.length rows 0).getD []), .bool (loopP (rows.map (nxR (rows.map Ru.name))) rows.length rows 0).isSome], h0) := by
 refine call_of tab34 rfl (callF_wp ?_)
 obtain ⟨R, hR⟩ : ∃ R, loopP (rows.map (nxR (rows.map Ru.name))) rows.length rows 0 = R := ⟨_, rfl⟩
 rw [hR]
 obtain ⟨Q, hQ⟩ : ∃ Q, scpQ (fun e σ h => isEnd e ∧ finish h0 h (.tup [σ 2, σ 3]) = some (.tup [.str (R.getD []), .bool R.isSome], h0)) = Q := ⟨_, rfl⟩
 have hend : ∀ e (σ : Slots) h, e = .ret → h.take h0.length = h0 → σ 2 = .str (R.getD []) → σ 3 = .bool R.isSome → Q e σ h := by
  intro e σ h e0 e1 e2 e3
  subst hQ
  subst e0
  simp [e2, e3]
  rw [finish_of_take e1]
  simp
 have hrep : (rows.length : Nat) ≤ 70368744177664 := by omega
 have hrepI : ((rows.length : Nat) : Int) ≤ 70368744177664 := by omega
 have hrep24 : ((rows.length : Nat) : Int) * 24 ≤ 70368744177664 := by omega
 have L := loops_nx gb m (rows.map Ru.name) rows hl hx h0 hgb hm Q (fun σ h hN s1 s4 s2 s3 => by
  simp [-getElem?_pos, -Int.natCast_add, wK34_3, s1, s4, hN.b1]
  refine loops_all (gb := gb) (m := m) hl hx hgb Q hend rows.length _ _ ⟨0, Nat.zero_le _, rfl, by simpa using hR, hN, ?_, ?_, ?_, ?_, ?_, ?_, ?_⟩ <;> simp [s1, s4, s2, s3])
 simp [-getElem?_pos, -Int.natCast_add, wB34, Nat.add_assoc, hrep, hrepI, hrep24]
 rw [hQ]
 refine L _ _ ⟨?_, ?_, ?_, ?_, List.replicate rows.length (.list 1 [] .full), ?_, ?_, fun j x hj _ => by omega, fun j _ hj => by simp [hj]⟩ ?_ ?_ ?_ ?_ ?_ ?_ ?_ <;> simp
end Go.Proofs.YtcflbdikkcpiaaaGreatDoor
