/-
  The round trip, the parser's half: what a right tree's tokens are read as.
-/
import Derived.Test.YtcflbdikkcpiaaaGreatDoorXK
set_option linter.unusedVariables false
set_option linter.unusedSimpArgs false
namespace Go.Proofs.YtcflbdikkcpiaaaGreatDoor
open Go Go.Am
mutual
def normT : Tr → Tr
 | .mk k s lo hi mn mx _ ks => if k = 7 then .mk 7 [] 0 0 mn mx false (normL ks) else if k = 5 ∨ k = 6 then .mk k [] 0 0 0 0 false (normL ks) else .mk k s lo hi 0 0 true []
def normL : List Tr → List Tr
 | [] => []
 | t :: ts => normT t :: normL ts
end
theorem normL_map : ∀ l : List Tr, normL l = l.map normT
 | [] => by simp [normL]
 | t :: l => by simp only [normL, List.map_cons, normL_map l]
theorem normT_eq (t : Tr) : normT t = if t.k = 7 then .mk 7 [] 0 0 t.mn t.mx false (t.kids.map normT) else if t.k = 5 ∨ t.k = 6 then .mk t.k [] 0 0 0 0 false (t.kids.map normT) else .mk t.k t.s t.lo t.hi 0 0 true [] := by
 cases t
 simp only [normT, Tr.k, Tr.s, Tr.lo, Tr.hi, Tr.mn, Tr.mx, Tr.kids, normL_map]
 rfl
def leafTok (t : Tr) : Tok := if t.k = 1 then { kind := 1, text := t.s } else if t.k = 2 then { kind := 10, text := t.s } else if t.k = 3 then { kind := 11, text := t.s } else { kind := 12, lo := t.lo, hi := t.hi }
mutual
def tkT : Tr → List Tok
 | .mk k s lo hi mn mx r ks => if k = 7 then { kind := 9, mn := mn, mx := mx } :: tkB 7 [] ks else if k = 5 then tkB 5 [] ks else if k = 6 then tkB 6 [{ kind := 4 }] ks else [leafTok (.mk k s lo hi mn mx r ks)]
def tkB (m : UInt8) (sep : List Tok) : List Tr → List Tok
 | [] => []
 | t :: ts => (if needs m t.k then { kind := 5 } :: (tkT t ++ [{ kind := 6 }]) else tkT t) ++ (if ts.isEmpty then [] else sep ++ tkB m sep ts)
end
def bt (m : UInt8) (t : Tr) : List Tok := if needs m t.k then { kind := 5 } :: (tkT t ++ [{ kind := 6 }]) else tkT t
theorem tkB_cons (m : UInt8) (sep : List Tok) (t : Tr) (ts : List Tr) : tkB m sep (t :: ts) = bt m t ++ (if ts.isEmpty then [] else sep ++ tkB m sep ts) := by simp only [tkB, bt]
theorem tkT_eq (t : Tr) : tkT t = if t.k = 7 then { kind := 9, mn := t.mn, mx := t.mx } :: tkB 7 [] t.kids else if t.k = 5 then tkB 5 [] t.kids else if t.k = 6 then tkB 6 [{ kind := 4 }] t.kids else [leafTok t] := by
 cases t
 simp only [tkT, Tr.k, Tr.mn, Tr.mx, Tr.kids]
 rfl
theorem drop_kd {L : List Tok} {a : Nat} {x : Tok} {r : List Tok} (h : L.drop a = x :: r) : L[a]? = some x ∧ kd L a = x.kind ∧ L.drop (a + 1) = r := by
 have h1 : L[a]? = some x := by
  have := congrArg (fun l : List Tok => l[0]?) h
  simpa using this
 refine ⟨h1, kd_of h1, ?_⟩
 have := congrArg List.tail h
 simpa using this
theorem drop_kd0 {L : List Tok} {a : Nat} (h : L.drop a = []) : kd L a = 0 := by
 have : L.length ≤ a := by simpa using h
 simp [kd, List.getElem?_eq_none this]
def stopR (post : List Tok) : Prop := ∀ x r, post = x :: r → begins x.kind = false
def stopC (post : List Tok) : Prop := ∀ x r, post = x :: r → begins x.kind = false ∧ x.kind ≠ 4
theorem stop_kd {L post : List Tok} {a : Nat} (h : L.drop a = post) (hs : stopR post) : begins (kd L a) = false := by
 match post, h with
 | [], h => rw [drop_kd0 h]; decide
 | x :: r, h => rw [(drop_kd h).2.1]; exact hs x r rfl
theorem stop_kd4 {L post : List Tok} {a : Nat} (h : L.drop a = post) (hs : stopC post) : kd L a ≠ 4 := by
 match post, h with
 | [], h => rw [drop_kd0 h]; decide
 | x :: r, h => rw [(drop_kd h).2.1]; exact (hs x r rfl).2
theorem stopC.R {post : List Tok} (h : stopC post) : stopR post := fun x r e => (h x r e).1
theorem nm_small {c : UInt8} (h : nmC c = true) : smC c = c := by
 have := allU8 (p := fun c => !nmC c || smC c == c) (by decide +kernel) c
 simpa [h] using this
theorem low_nm {c : UInt8} (h : lowC c = true) : nmC c = true := by simp [nmC, h]
theorem named_small {s : List UInt8} (h : namedP s = true) : smallP s = s := by
 match s, h with
 | c :: s, h =>
  simp only [namedP, Bool.and_eq_true] at h
  unfold smallP
  rw [List.map_cons, nm_small (low_nm h.1)]
  congr 1
  conv => rhs; rw [← List.map_id s]
  exact List.map_congr_left fun c hc => nm_small (List.all_eq_true.1 h.2 c hc)
theorem leaf_right {t : Tr} (ha : aloneP t = true) (hk : t.k = 1 ∨ t.k = 2 ∨ t.k = 3 ∨ t.k = 4) : leafT (leafTok t) = normT t ∧ aloneP (normT t) = true ∧ tkT t = [leafTok t] ∧ (leafTok t).kind ≠ 5 ∧ (leafTok t).kind ≠ 7 ∧ (leafTok t).kind ≠ 9 ∧ begins (leafTok t).kind = true ∧ eqT (normT t) t = true := by
 obtain ⟨k, s, lo, hi, mn, mx, r, ks⟩ := t
 simp only [Tr.k] at hk
 rcases hk with rfl | rfl | rfl | rfl
 ·simp [aloneP, Tr.k, Tr.s, Tr.lo, Tr.hi, Tr.mn, Tr.mx, Tr.kids] at ha
  obtain ⟨h1, rfl, ⟨⟨rfl, rfl⟩, rfl⟩, rfl⟩ := ha
  simp [normT, tkT, leafTok, leafT, aloneP, eqT, eqTs, Tr.k, Tr.s, Tr.lo, Tr.hi, Tr.mn, Tr.mx, Tr.kids, named_small h1, h1]
  decide
 ·simp [aloneP, Tr.k, Tr.s, Tr.lo, Tr.hi, Tr.mn, Tr.mx, Tr.kids] at ha
  obtain ⟨h1, rfl, ⟨⟨rfl, rfl⟩, rfl⟩, rfl⟩ := ha
  simp [normT, tkT, leafTok, leafT, aloneP, eqT, eqTs, Tr.k, Tr.s, Tr.lo, Tr.hi, Tr.mn, Tr.mx, Tr.kids]
  exact ⟨h1, by decide⟩
 ·simp [aloneP, Tr.k, Tr.s, Tr.lo, Tr.hi, Tr.mn, Tr.mx, Tr.kids] at ha
  obtain ⟨h1, rfl, ⟨⟨rfl, rfl⟩, rfl⟩, rfl⟩ := ha
  simp [normT, tkT, leafTok, leafT, aloneP, eqT, eqTs, Tr.k, Tr.s, Tr.lo, Tr.hi, Tr.mn, Tr.mx, Tr.kids, h1]
  decide
 ·simp [aloneP, Tr.k, Tr.s, Tr.lo, Tr.hi, Tr.mn, Tr.mx, Tr.kids] at ha
  obtain ⟨h1, rfl, ⟨rfl, rfl⟩, rfl⟩ := ha
  simp [normT, tkT, leafTok, leafT, aloneP, eqT, eqTs, Tr.k, Tr.s, Tr.lo, Tr.hi, Tr.mn, Tr.mx, Tr.kids, h1]
  exact ⟨of_decide_eq_true h1, by decide⟩
def Reads (g : List Tok → Nat → Nat → Option Pr) (ts : List Tok) (t : Tr) (stop : List Tok → Prop) : Prop := ∀ (L : List Tok) (a : Nat) (post : List Tok), L.drop a = ts ++ post → stop post → ∃ F, ∀ f, F ≤ f → g L f a = some (.ok t (a + ts.length))
theorem reads_leaf {t : Tr} (ha : aloneP t = true) (hk : t.k = 1 ∨ t.k = 2 ∨ t.k = 3 ∨ t.k = 4) : Reads (fun L f a => thingS L f a) (tkT t) (normT t) (fun _ => True) := by
 obtain ⟨h1, h2, h3, h5, h7, h9, hb, _⟩ := leaf_right ha hk
 intro L a post hL _
 rw [h3] at hL ⊢
 obtain ⟨e1, e2, e3⟩ := drop_kd hL
 refine ⟨1, fun f hf => ?_⟩
 obtain ⟨f, rfl⟩ : ∃ g, f = g + 1 := ⟨f - 1, by omega⟩
 unfold thingS
 rw [if_neg (by rw [e2]; exact not_or.2 ⟨h5, h7⟩), e1]
 simp [h1, h2]
theorem reads_br {ts : List Tok} {t' : Tr} (h : Reads (fun L f a => choicesS L f a []) ts t' stopC) : Reads (fun L f a => thingS L f a) ({ kind := 5 } :: (ts ++ [{ kind := 6 }])) t' (fun _ => True) := by
 intro L a post hL _
 obtain ⟨e1, e2, e3⟩ := drop_kd hL
 obtain ⟨F, hF⟩ := h L (a + 1) ({ kind := 6 } :: post) (by rw [e3]; simp) (fun x r e => by
  simp only [List.cons.injEq] at e
  rw [← e.1]
  exact ⟨by decide, by decide⟩)
 have hF : ∀ f, F ≤ f → choicesS L f (a + 1) [] = some (.ok t' (a + 1 + ts.length)) := hF
 refine ⟨F + 1, fun f hf => ?_⟩
 obtain ⟨f, rfl⟩ : ∃ g, f = g + 1 := ⟨f - 1, by omega⟩
 have h6 : L.drop (a + 1 + ts.length) = { kind := 6 } :: post := by
  rw [← List.drop_drop, e3]
  simp
 obtain ⟨g1, g2, g3⟩ := drop_kd h6
 have e2' : kd L a = 5 := e2
 have g2' : kd L (a + 1 + ts.length) = 6 := g2
 unfold thingS
 rw [if_pos (.inl e2'), hF f (by omega)]
 simp only [e2', g2']
 rw [if_pos (by decide), if_neg (by decide)]
 simp
 omega
theorem reads_part {ts : List Tok} {t' : Tr} (h : Reads (fun L f a => thingS L f a) ts t' (fun _ => True)) (h9 : ∃ x r, ts = x :: r ∧ x.kind ≠ 9) : Reads (fun L f a => partS L f a) ts t' (fun _ => True) := by
 intro L a post hL _
 obtain ⟨x, r, rfl, hx⟩ := h9
 obtain ⟨e1, e2, e3⟩ := drop_kd hL
 obtain ⟨F, hF⟩ := h L a post hL trivial
 have hF : ∀ f, F ≤ f → thingS L f a = some (.ok t' (a + (x :: r).length)) := hF
 refine ⟨F + 1, fun f hf => ?_⟩
 obtain ⟨f, rfl⟩ : ∃ g, f = g + 1 := ⟨f - 1, by omega⟩
 unfold partS
 rw [e1]
 simp only
 rw [if_neg hx, hF f (by omega)]
theorem reads_times {t x : Tr} (ha : aloneP t = true) (hk : t.k = 7) (hx : t.kids = [x]) (h : Reads (fun L f a => thingS L f a) (bt 7 x) (normT x) (fun _ => True)) : Reads (fun L f a => partS L f a) (tkT t) (normT t) (fun _ => True) := by
 intro L a post hL _
 have htk : tkT t = { kind := 9, mn := t.mn, mx := t.mx } :: bt 7 x := by rw [tkT_eq, if_pos hk, hx, tkB_cons]; simp
 rw [htk] at hL ⊢
 obtain ⟨e1, e2, e3⟩ := drop_kd hL
 obtain ⟨F, hF⟩ := h L (a + 1) post e3 trivial
 have hF : ∀ f, F ≤ f → thingS L f (a + 1) = some (.ok (normT x) (a + 1 + (bt 7 x).length)) := hF
 refine ⟨F + 1, fun f hf => ?_⟩
 obtain ⟨f, rfl⟩ : ∃ g, f = g + 1 := ⟨f - 1, by omega⟩
 have h7 : aloneP (timesT t.mn t.mx zeroT) = true := by
  rw [times7_eq]
  obtain ⟨_, h2, h3, h4, h5, h6⟩ := alone7 ha hk
  simp only [times7, decide_eq_true_eq]
  omega
 have hn : normT t = timesT t.mn t.mx (normT x) := by rw [normT_eq, if_pos hk, hx]; rfl
 show partS L (f + 1) a = _
 unfold partS
 rw [e1]
 simp only [if_true]
 rw [if_pos h7, hF f (by omega), hn]
 simp
 omega
theorem reads_row {ts : List Tok} {t' : Tr} (h : Reads (fun L f a => partS L f a) ts t' (fun _ => True)) : Reads (fun L f a => rowS L f a []) ts t' stopR := by
 intro L a post hL hs
 obtain ⟨F, hF⟩ := h L a post hL trivial
 have hF : ∀ f, F ≤ f → partS L f a = some (.ok t' (a + ts.length)) := hF
 have hd : L.drop (a + ts.length) = post := by rw [← List.drop_drop, hL]; simp
 have hb := stop_kd hd hs
 refine ⟨F + 2, fun f hf => ?_⟩
 obtain ⟨f, rfl⟩ : ∃ g, f = g + 2 := ⟨f - 2, by omega⟩
 show rowS L (f + 2) a [] = _
 unfold rowS
 rw [if_pos (by simp), hF (f + 1) (by omega)]
 simp only [List.nil_append]
 unfold rowS
 rw [if_neg (by simp [hb])]
 rfl
theorem reads_choice {ts : List Tok} {t' : Tr} (h : Reads (fun L f a => rowS L f a []) ts t' stopR) : Reads (fun L f a => choicesS L f a []) ts t' stopC := by
 intro L a post hL hs
 obtain ⟨F, hF⟩ := h L a post hL hs.R
 have hF : ∀ f, F ≤ f → rowS L f a [] = some (.ok t' (a + ts.length)) := hF
 have hd : L.drop (a + ts.length) = post := by rw [← List.drop_drop, hL]; simp
 have hb := stop_kd4 hd hs
 refine ⟨F + 1, fun f hf => ?_⟩
 obtain ⟨f, rfl⟩ : ∃ g, f = g + 1 := ⟨f - 1, by omega⟩
 show choicesS L (f + 1) a [] = _
 unfold choicesS
 rw [hF f (by omega)]
 simp only
 rw [if_neg hb]
 rfl
theorem tkB5 (t : Tr) (ts : List Tr) : tkB 5 [] (t :: ts) = bt 5 t ++ tkB 5 [] ts := by
 rw [tkB_cons]
 cases ts <;> simp [tkB]
theorem rows_list : ∀ (ks : List Tr) (acc : List Tr) (L : List Tok) (a : Nat) (post : List Tok), (∀ k ∈ ks, Reads (fun L f a => partS L f a) (bt 5 k) (normT k) (fun _ => True) ∧ ∃ x r, bt 5 k = x :: r ∧ begins x.kind = true) →
  L.drop a = tkB 5 [] ks ++ post → stopR post → (acc ≠ [] ∨ ks ≠ []) → ∃ F, ∀ f, F ≤ f → rowS L f a acc = some (.ok (joinT 5 (acc ++ ks.map normT)) (a + (tkB 5 [] ks).length))
 | [], acc, L, a, post, _, hL, hs, hne => by
  simp only [tkB, List.nil_append] at hL
  have hb := stop_kd hL hs
  have hacc : acc ≠ [] := by rcases hne with h | h; exact h; exact absurd rfl h
  have he : acc.isEmpty = false := by cases acc; exact absurd rfl hacc; rfl
  refine ⟨1, fun f hf => ?_⟩
  obtain ⟨f, rfl⟩ : ∃ g, f = g + 1 := ⟨f - 1, by omega⟩
  unfold rowS
  rw [if_neg (by simp [he, hb])]
  simp [tkB]
 | t :: ks, acc, L, a, post, hk, hL, hs, hne => by
  rw [tkB5] at hL ⊢
  obtain ⟨h1, x, r, hx, hbx⟩ := hk t List.mem_cons_self
  rw [List.append_assoc] at hL
  obtain ⟨F1, hF1⟩ := h1 L a (tkB 5 [] ks ++ post) hL trivial
  have hF1 : ∀ f, F1 ≤ f → partS L f a = some (.ok (normT t) (a + (bt 5 t).length)) := hF1
  have hd : L.drop (a + (bt 5 t).length) = tkB 5 [] ks ++ post := by rw [← List.drop_drop, hL]; simp
  obtain ⟨F2, hF2⟩ := rows_list ks (acc ++ [normT t]) L (a + (bt 5 t).length) post (fun k hk' => hk k (List.mem_cons_of_mem _ hk')) hd hs (.inl (by simp))
  have hkd : begins (kd L a) = true := by
   rw [hx] at hL
   rw [(drop_kd hL).2.1]
   exact hbx
  refine ⟨max F1 F2 + 1, fun f hf => ?_⟩
  obtain ⟨f, rfl⟩ : ∃ g, f = g + 1 := ⟨f - 1, by omega⟩
  unfold rowS
  rw [if_pos (by simp [hkd]), hF1 f (by omega)]
  simp only
  rw [hF2 f (by omega)]
  simp
  omega
theorem choices_list : ∀ (ks : List Tr) (acc : List Tr) (L : List Tok) (a : Nat) (post : List Tok), (∀ k ∈ ks, Reads (fun L f a => rowS L f a []) (bt 6 k) (normT k) stopR) →
  L.drop a = tkB 6 [{ kind := 4 }] ks ++ post → stopC post → ks ≠ [] → ∃ F, ∀ f, F ≤ f → choicesS L f a acc = some (.ok (joinT 6 (acc ++ ks.map normT)) (a + (tkB 6 [{ kind := 4 }] ks).length))
 | [], acc, L, a, post, _, _, _, hne => absurd rfl hne
 | [t], acc, L, a, post, hk, hL, hs, _ => by
  rw [tkB_cons] at hL ⊢
  simp only [List.isEmpty_nil, if_true, List.append_nil] at hL ⊢
  obtain ⟨F, hF⟩ := hk t List.mem_cons_self L a post hL hs.R
  have hF : ∀ f, F ≤ f → rowS L f a [] = some (.ok (normT t) (a + (bt 6 t).length)) := hF
  have hd : L.drop (a + (bt 6 t).length) = post := by rw [← List.drop_drop, hL]; simp
  have hb := stop_kd4 hd hs
  refine ⟨F + 1, fun f hf => ?_⟩
  obtain ⟨f, rfl⟩ : ∃ g, f = g + 1 := ⟨f - 1, by omega⟩
  unfold choicesS
  rw [hF f (by omega)]
  simp only
  rw [if_neg hb]
  simp
 | t :: u :: ks, acc, L, a, post, hk, hL, hs, _ => by
  rw [tkB_cons] at hL ⊢
  simp only [List.isEmpty_cons, Bool.false_eq_true, if_false, List.append_assoc] at hL ⊢
  obtain ⟨F1, hF1⟩ := hk t List.mem_cons_self L a _ hL (fun x r e => by
   simp only [List.cons_append, List.nil_append, List.cons.injEq] at e
   rw [← e.1]
   decide)
  have hF1 : ∀ f, F1 ≤ f → rowS L f a [] = some (.ok (normT t) (a + (bt 6 t).length)) := hF1
  have hd : L.drop (a + (bt 6 t).length) = { kind := 4 } :: (tkB 6 [{ kind := 4 }] (u :: ks) ++ post) := by rw [← List.drop_drop, hL]; simp
  obtain ⟨e1, e2, e3⟩ := drop_kd hd
  obtain ⟨F2, hF2⟩ := choices_list (u :: ks) (acc ++ [normT t]) L (a + (bt 6 t).length + 1) post (fun k hk' => hk k (List.mem_cons_of_mem _ hk')) e3 hs (by simp)
  refine ⟨max F1 F2 + 1, fun f hf => ?_⟩
  obtain ⟨f, rfl⟩ : ∃ g, f = g + 1 := ⟨f - 1, by omega⟩
  unfold choicesS
  rw [hF1 f (by omega)]
  simp only
  rw [if_pos e2, hF2 f (by omega)]
  simp
  omega
theorem first_tok {d : Nat} {t : Tr} (hf : fitsP d t = true) (h5 : t.k ≠ 5) (h6 : t.k ≠ 6) : ∃ x r, tkT t = x :: r ∧ begins x.kind = true := by
 have ha := fits_alone hf
 by_cases h7 : t.k = 7
 ·exact ⟨_, _, by rw [tkT_eq, if_pos h7], (by decide : begins 9 = true)⟩
 ·have hk : t.k = 1 ∨ t.k = 2 ∨ t.k = 3 ∨ t.k = 4 := by
   rcases alone_kinds ha with k | k | k | k | k | k | k
   ·exact .inl k
   ·exact .inr (.inl k)
   ·exact .inr (.inr (.inl k))
   ·exact .inr (.inr (.inr k))
   ·exact absurd k h5
   ·exact absurd k h6
   ·exact absurd k h7
  obtain ⟨_, _, h3, _, _, _, hb, _⟩ := leaf_right ha hk
  exact ⟨_, _, h3, hb⟩
theorem alone_two {t : Tr} (ha : aloneP t = true) (hk : t.k = 5 ∨ t.k = 6) : 2 ≤ t.kids.length ∧ t.s = [] ∧ t.lo = 0 ∧ t.hi = 0 ∧ t.mn = 0 ∧ t.mx = 0 := by
 obtain ⟨k, s, lo, hi, mn, mx, r, ks⟩ := t
 simp only [Tr.k] at hk
 rcases hk with rfl | rfl
 ·simp [aloneP, Tr.k, Tr.s, Tr.lo, Tr.hi, Tr.mn, Tr.mx, Tr.kids] at ha ⊢
  have := of_decide_eq_true ha.1
  simp_all
 ·simp [aloneP, Tr.k, Tr.s, Tr.lo, Tr.hi, Tr.mn, Tr.mx, Tr.kids] at ha ⊢
  have := of_decide_eq_true ha.1
  simp_all
theorem joinT_two (k : UInt8) : ∀ l : List Tr, 2 ≤ l.length → joinT k l = rowT k l
 | [], h => by simp at h
 | [_], h => by simp at h
 | _ :: _ :: _, _ => rfl
theorem eqTs_map {l : List Tr} (h : ∀ t ∈ l, eqT (normT t) t = true) : eqTs (l.map normT) l = true := by
 induction l with
 | nil => rfl
 | cons t l ih =>
  simp only [List.map_cons, eqTs]
  rw [h t List.mem_cons_self, ih fun u hu => h u (List.mem_cons_of_mem _ hu)]
  rfl
theorem reads_tree : ∀ (n d : Nat) (t : Tr), t.size ≤ n → fitsP d t = true → Reads (fun L f a => choicesS L f a []) (tkT t) (normT t) stopC ∧ (t.k ≠ 6 → Reads (fun L f a => rowS L f a []) (tkT t) (normT t) stopR) ∧
  (t.k ≠ 5 → t.k ≠ 6 → Reads (fun L f a => partS L f a) (tkT t) (normT t) (fun _ => True)) ∧ eqT (normT t) t = true
 | 0, d, t, hn, _ => by cases t; simp [Tr.size] at hn
 | n + 1, d, t, hn, hf => by
  have ha := fits_alone hf
  have ih : ∀ k ∈ t.kids, _ := fun k hk => reads_tree n (d - 1) k (by have := Tr.size_kid hk; omega) (fits_kid hf hk)
  have kk : ∀ x ∈ t.kids, x.k = 1 ∨ x.k = 2 ∨ x.k = 3 ∨ x.k = 4 ∨ x.k = 5 ∨ x.k = 6 ∨ x.k = 7 := fun x hx => alone_kinds (fits_alone (fits_kid hf hx))
  have br : ∀ (m : UInt8) k, k ∈ t.kids → needs m k.k = true → Reads (fun L f a => thingS L f a) (bt m k) (normT k) (fun _ => True) ∧ ∃ x r, bt m k = x :: r ∧ x.kind ≠ 9 ∧ begins x.kind = true := fun m k hk hm => by
   have e : bt m k = { kind := 5 } :: (tkT k ++ [{ kind := 6 }]) := by unfold bt; rw [if_pos hm]
   rw [e]
   exact ⟨reads_br (ih k hk).1, _, _, rfl, by decide, by decide⟩
  have leafR : ∀ (k : Tr) {d : Nat}, fitsP d k = true → (k.k = 1 ∨ k.k = 2 ∨ k.k = 3 ∨ k.k = 4) → Reads (fun L f a => thingS L f a) (tkT k) (normT k) (fun _ => True) ∧ ∃ x r, tkT k = x :: r ∧ x.kind ≠ 9 ∧ begins x.kind = true := fun k d hfk hk => by
   obtain ⟨_, _, h3, _, _, h9, hb, _⟩ := leaf_right (fits_alone hfk) hk
   exact ⟨reads_leaf (fits_alone hfk) hk, _, _, h3, h9, hb⟩
  by_cases h7 : t.k = 7
  ·obtain ⟨a1, _⟩ := alone7 ha h7
   obtain ⟨x, hx⟩ : ∃ x, t.kids = [x] := by
    match t.kids, a1 with
    | [x], _ => exact ⟨x, rfl⟩
   have hxm : x ∈ t.kids := by rw [hx]; simp
   have hT : Reads (fun L f a => thingS L f a) (bt 7 x) (normT x) (fun _ => True) := by
    by_cases hm : needs 7 x.k = true
    ·exact (br 7 x hxm hm).1
    ·have hk : x.k = 1 ∨ x.k = 2 ∨ x.k = 3 ∨ x.k = 4 := by
      rcases kk x hxm with e | e | e | e | e | e | e
      ·exact .inl e
      ·exact .inr (.inl e)
      ·exact .inr (.inr (.inl e))
      ·exact .inr (.inr (.inr e))
      all_goals rw [e] at hm; exact absurd (by decide) hm
     have e : bt 7 x = tkT x := by unfold bt; rw [if_neg hm]
     rw [e]
     exact (leafR x (fits_kid hf hxm) hk).1
   have hP := reads_times ha h7 hx hT
   refine ⟨reads_choice (reads_row hP), fun _ => reads_row hP, fun _ _ => hP, ?_⟩
   rw [eqT_eq, normT_eq, if_pos h7]
   have hz : t.s = [] ∧ t.lo = 0 ∧ t.hi = 0 := by
    unfold aloneP at ha
    simp [h7] at ha
    exact ⟨ha.2.1.1, ha.2.1.2, ha.2.2⟩
   have he := eqTs_map fun k hk => (ih k hk).2.2.2
   obtain ⟨z1, z2, z3⟩ := hz
   rw [z1, z2, z3, h7]
   simp [Tr.k, Tr.s, Tr.lo, Tr.hi, Tr.mn, Tr.mx]
   exact he
  by_cases h56 : t.k = 5 ∨ t.k = 6
  ·obtain ⟨q1, q2, q3, q4, q5, q6⟩ := alone_two ha h56
   have hn : normT t = rowT t.k (t.kids.map normT) := by rw [normT_eq, if_neg h7, if_pos h56]; rfl
   have he : eqT (normT t) t = true := by
    rw [eqT_eq, hn, q2, q3, q4, q5, q6]
    have he := eqTs_map fun k hk => (ih k hk).2.2.2
    simp [rowT, Tr.k, Tr.s, Tr.lo, Tr.hi, Tr.mn, Tr.mx]
    exact he
   have hne : t.kids ≠ [] := by intro e; rw [e] at q1; simp at q1
   by_cases h5 : t.k = 5
   ·have hR : Reads (fun L f a => rowS L f a []) (tkT t) (normT t) stopR := by
     intro L a post hL hs
     have htk : tkT t = tkB 5 [] t.kids := by rw [tkT_eq, if_neg h7, if_pos h5]
     rw [htk] at hL ⊢
     obtain ⟨F, hF⟩ := rows_list t.kids [] L a post (fun k hk => by
      by_cases hm : needs 5 k.k = true
      ·obtain ⟨b1, x, r, b2, b3, b4⟩ := br 5 k hk hm
       exact ⟨reads_part b1 ⟨x, r, b2, b3⟩, x, r, b2, b4⟩
      ·have e : bt 5 k = tkT k := by unfold bt; rw [if_neg hm]
       have k5 : k.k ≠ 5 := fun h => hm (by rw [h]; decide)
       have k6 : k.k ≠ 6 := fun h => hm (by rw [h]; decide)
       rw [e]
       exact ⟨(ih k hk).2.2.1 k5 k6, first_tok (fits_kid hf hk) k5 k6⟩) hL hs (.inr hne)
     refine ⟨F, fun f hf => ?_⟩
     show rowS L f a [] = _
     rw [hF f hf, hn, h5, List.nil_append, joinT_two 5 _ (by simpa using q1)]
    exact ⟨reads_choice hR, fun _ => hR, fun h => absurd h5 h, he⟩
   ·have h6 : t.k = 6 := by rcases h56 with h | h; exact absurd h h5; exact h
    refine ⟨?_, fun h => absurd h6 h, fun _ h => absurd h6 h, he⟩
    intro L a post hL hs
    have htk : tkT t = tkB 6 [{ kind := 4 }] t.kids := by rw [tkT_eq, if_neg h7, if_neg h5, if_pos h6]
    rw [htk] at hL ⊢
    obtain ⟨F, hF⟩ := choices_list t.kids [] L a post (fun k hk => by
     by_cases hm : needs 6 k.k = true
     ·obtain ⟨b1, x, r, b2, b3, b4⟩ := br 6 k hk hm
      exact reads_row (reads_part b1 ⟨x, r, b2, b3⟩)
     ·have e : bt 6 k = tkT k := by unfold bt; rw [if_neg hm]
      have k6 : k.k ≠ 6 := fun h => hm (by rw [h]; decide)
      rw [e]
      exact (ih k hk).2.1 k6) hL hs hne
    refine ⟨F, fun f hf => ?_⟩
    show choicesS L f a [] = _
    rw [hF f hf, hn, h6, List.nil_append, joinT_two 6 _ (by simpa using q1)]
  ·obtain ⟨h5, h6⟩ := not_or.1 h56
   have hk : t.k = 1 ∨ t.k = 2 ∨ t.k = 3 ∨ t.k = 4 := by
    rcases alone_kinds ha with k | k | k | k | k | k | k
    ·exact .inl k
    ·exact .inr (.inl k)
    ·exact .inr (.inr (.inl k))
    ·exact .inr (.inr (.inr k))
    ·exact absurd k h5
    ·exact absurd k h6
    ·exact absurd k h7
   obtain ⟨b1, x, r, b2, b3, b4⟩ := leafR t hf hk
   have hP := reads_part b1 ⟨x, r, b2, b3⟩
   exact ⟨reads_choice (reads_row hP), fun _ => reads_row hP, fun _ _ => hP, (leaf_right ha hk).2.2.2.2.2.2.2⟩
def akk (t : Tok) : Tok := { t with pos := 0 }
def LX (p : List UInt8) (ts : List Tok) (P : List UInt8 → Prop) : Prop := p.all okC = true ∧ ∀ (s : List UInt8) (off f i : Nat) (out : List Tok) (rest : List UInt8), s.drop i = p ++ rest → P rest → s.length + 1 ≤ i + f →
 ∃ f' out', lineP s off f i out = lineP s off f' (i + p.length) (out ++ out') ∧ out'.map akk = ts ∧ s.length + 1 ≤ (i + p.length) + f'
def anyR : List UInt8 → Prop := fun _ => True
def sepR (rest : List UInt8) : Prop := ∀ c r, rest = c :: r → c = 32 ∨ c = 41
theorem LX.nil (P : List UInt8 → Prop) : LX [] [] P := ⟨rfl, fun s off f i out rest _ _ h => ⟨f, [], by simp, rfl, by simpa using h⟩⟩
theorem LX.app {p q : List UInt8} {ts us : List Tok} {P Q : List UInt8 → Prop} (h1 : LX p ts P) (h2 : LX q us Q) (h : ∀ rest, Q rest → P (q ++ rest)) : LX (p ++ q) (ts ++ us) Q := by
 refine ⟨by simp [h1.1, h2.1], fun s off f i out rest hd hr hf => ?_⟩
 obtain ⟨f1, o1, e1, m1, g1⟩ := h1.2 s off f i out (q ++ rest) (by rw [hd]; simp) (h rest hr) hf
 have hd2 : s.drop (i + p.length) = q ++ rest := by rw [← List.drop_drop, hd]; simp
 obtain ⟨f2, o2, e2, m2, g2⟩ := h2.2 s off f1 (i + p.length) (out ++ o1) rest hd2 hr g1
 refine ⟨f2, o1 ++ o2, ?_, by simp [m1, m2], by simp; omega⟩
 rw [e1, e2]
 simp [Nat.add_assoc]
theorem LX.weak {p : List UInt8} {ts : List Tok} {P Q : List UInt8 → Prop} (h : LX p ts P) (k : ∀ r, Q r → P r) : LX p ts Q := ⟨h.1, fun s off f i out rest hd hr hf => h.2 s off f i out rest hd (k rest hr) hf⟩
theorem LX.piece {c : UInt8} {p : List UInt8} {t : Tok} {P : List UInt8 → Prop} (ho : (c :: p).all okC = true) (h1 : c ≠ 59) (h2 : blkC c = false) (h : ∀ rest, P rest → readP c (c :: p ++ rest) = { tok := t, n := p.length + 1, err := 0 }) : LX (c :: p) [akk t] P := by
 refine ⟨ho, fun s off f i out rest hd hr hf => ?_⟩
 have hc : s[i]? = some c := by
  have := congrArg (fun l : List UInt8 => l[0]?) hd
  simpa using this
 have hlt := (List.getElem?_eq_some_iff.1 hc).1
 obtain ⟨f, rfl⟩ : ∃ g, f = g + 1 := ⟨f - 1, by omega⟩
 refine ⟨f, [{ t with pos := ((off + i : Nat) : Int) }], ?_, rfl, by simp; omega⟩
 have hrd := h rest hr
 rw [← hd] at hrd
 conv => lhs; unfold lineP
 rw [hc]
 simp only
 rw [if_neg h1, h2]
 simp only [Bool.false_eq_true, if_false]
 rw [hrd]
 simp
theorem LX.blank : LX [32] [] anyR := by
 refine ⟨by decide, fun s off f i out rest hd _ hf => ?_⟩
 have hc : s[i]? = some 32 := by
  have := congrArg (fun l : List UInt8 => l[0]?) hd
  simpa using this
 have hlt := (List.getElem?_eq_some_iff.1 hc).1
 obtain ⟨f, rfl⟩ : ∃ g, f = g + 1 := ⟨f - 1, by omega⟩
 refine ⟨f, [], ?_, rfl, by simp; omega⟩
 conv => lhs; unfold lineP
 rw [hc]
 simp only
 rw [if_neg (by decide), show blkC 32 = true by decide]
 simp
theorem lx_open : LX [40] [{ kind := 5 }] anyR := LX.piece (c := 40) (p := []) (t := { kind := 5 }) (by decide) (by decide) (by decide) fun rest _ => rfl
theorem lx_shut : LX [41] [{ kind := 6 }] anyR := LX.piece (c := 41) (p := []) (t := { kind := 6 }) (by decide) (by decide) (by decide) fun rest _ => rfl
theorem lx_or : LX [47] [{ kind := 4 }] anyR := LX.piece (c := 47) (p := []) (t := { kind := 4 }) (by decide) (by decide) (by decide) fun rest _ => rfl
theorem lx_more : LX [61, 47] [{ kind := 3 }] anyR := LX.piece (c := 61) (p := [47]) (t := { kind := 3 }) (by decide) (by decide) (by decide) fun rest _ => rfl
theorem lx_is : LX [61] [{ kind := 2 }] sepR := LX.piece (c := 61) (p := []) (t := { kind := 2 }) (by decide) (by decide) (by decide) fun rest hr => by
 have e : readP 61 ([61] ++ rest) = isP ([61] ++ rest) := rfl
 rw [e]
 match rest, hr with
 | [], _ => rfl
 | c :: r, hr => rcases hr c r rfl with rfl | rfl <;> rfl
theorem runN_app {p : UInt8 → Bool} : ∀ (a rest : List UInt8), a.all p = true → (∀ c r, rest = c :: r → p c = false) → runN p (a ++ rest) = a.length
 | [], rest, _, h => by
  match rest, h with
  | [], _ => rfl
  | c :: r, h => simp [runN, h c r rfl]
 | x :: a, rest, ha, h => by
  simp only [List.all_cons, Bool.and_eq_true] at ha
  have := runN_app a rest ha.2 h
  unfold runN at this ⊢
  simp [ha.1, this]
theorem sep_not {p : UInt8 → Bool} (h1 : p 32 = false) (h2 : p 41 = false) {rest : List UInt8} (hr : sepR rest) : ∀ c r, rest = c :: r → p c = false := fun c r e => by
 rcases hr c r e with rfl | rfl
 ·exact h1
 ·exact h2
theorem nm_nam {c : UInt8} (h : nmC c = true) : namC c = true := by
 have := allU8 (p := fun c => !nmC c || namC c) (by decide +kernel) c
 simpa [h] using this
theorem nm_ok {c : UInt8} (h : nmC c = true) : okC c = true := by
 have := allU8 (p := fun c => !nmC c || okC c) (by decide +kernel) c
 simpa [h] using this
theorem low_facts {c : UInt8} (h : lowC c = true) : letC c = true ∧ c ≠ 59 ∧ blkC c = false ∧ digC c = false ∧ c ≠ 42 := by
 have := allU8 (p := fun c => !lowC c || (letC c && (c != 59) && !blkC c && !digC c && (c != 42))) (by decide +kernel) c
 simp [h] at this
 obtain ⟨⟨⟨⟨h1, h2⟩, h3⟩, h4⟩, h5⟩ := this
 exact ⟨h1, h2, h3, h4, h5⟩
theorem lx_name {s : List UInt8} (h : namedP s = true) : LX s [{ kind := 1, text := s }] sepR := by
 match s, h with
 | c :: s, h =>
  simp only [namedP, Bool.and_eq_true] at h
  obtain ⟨f1, f2, f3, _, _⟩ := low_facts h.1
  have hall : (c :: s).all namC = true := by
   rw [List.all_eq_true]
   intro x hx
   rcases List.mem_cons.1 hx with rfl | hx
   ·exact nm_nam (low_nm h.1)
   ·exact nm_nam (List.all_eq_true.1 h.2 x hx)
  refine LX.piece (t := { kind := 1, text := c :: s }) ?_ f2 f3 fun rest hr => ?_
  ·rw [List.all_eq_true]
   intro x hx
   rcases List.mem_cons.1 hx with rfl | hx
   ·exact nm_ok (low_nm h.1)
   ·exact nm_ok (List.all_eq_true.1 h.2 x hx)
  ·have e : readP c (c :: s ++ rest) = nameP (c :: s ++ rest) := by simp [readP, readL, rowsP, f1]
   have hn := runN_app (p := namC) (c :: s) rest hall (sep_not (by decide) (by decide) hr)
   rw [e]
   unfold nameP
   rw [hn, List.take_left' rfl]
   simp
theorem lx_chars {s : List UInt8} (h : s.all prC = true) : LX (34 :: (s ++ [34])) [{ kind := 10, text := s }] anyR := by
 have hp : ∀ x ∈ s, okC x = true ∧ x ≠ 34 := fun x hx => by
  have := List.all_eq_true.1 h x hx
  simpa [prC] using this
 refine LX.piece (t := { kind := 10, text := s }) ?_ (by decide) (by decide) fun rest _ => ?_
 ·simp only [List.all_cons, List.all_append, List.all_nil, Bool.and_true, Bool.and_eq_true]
  exact ⟨by decide, List.all_eq_true.2 fun x hx => (hp x hx).1, by decide⟩
 ·have e : readP 34 (34 :: (s ++ [34]) ++ rest) = charsP (34 :: (s ++ [34]) ++ rest) := rfl
  rw [e]
  have hc : cutB (s ++ [34] ++ rest) 34 = s := by
   unfold cutB
   rw [List.append_assoc, List.takeWhile_append_of_pos (fun x hx => by simpa using (hp x hx).2)]
   simp
  have h34 : (34 : UInt8) ∈ s ++ [34] ++ rest := by simp
  have hok : s.all okC = true := List.all_eq_true.2 fun x hx => (hp x hx).1
  unfold charsP
  simp only [List.cons_append, List.tail_cons, hc]
  rw [if_pos ⟨h34, hok⟩]
  simp
/-! ### Digits -/
theorem numN_app (b : Nat) (s t : List UInt8) : numN b (s ++ t) = t.foldl (fun n c => n * b + nib c) (numN b s) := by
 unfold numN
 rw [List.foldl_append]
theorem dgB_fact {n : Nat} (h : n ≤ 9) : nib (dgB n) = n ∧ digC (dgB n) = true ∧ okC (dgB n) = true := by
 have : ((List.range 10).all fun n => nib (dgB n) == n && digC (dgB n) && okC (dgB n)) = true := by decide +kernel
 have := List.all_eq_true.1 this n (by simp; omega)
 simp at this
 exact ⟨this.1.1, this.1.2, this.2⟩
theorem dec_num : ∀ (k n : Nat), n < 10 ^ k → 1 ≤ k → numN 10 (Lib.decDigits n) = n ∧ (Lib.decDigits n).all digC = true ∧ (Lib.decDigits n).all okC = true ∧ Lib.decDigits n ≠ []
 | 0, n, h, h1 => by omega
 | k + 1, n, h, _ => by
  by_cases h9 : n ≤ 9
  ·have e : Lib.decDigits n = [dgB n] := by rw [Lib.decDigits, dif_pos (by omega)]; rfl
   obtain ⟨f1, f2, f3⟩ := dgB_fact h9
   rw [e]
   simp [numN, f1, f2, f3]
  ·have hk : 1 ≤ k := by
    cases k with
    | zero => simp at h; omega
    | succ k => omega
   have e : Lib.decDigits n = Lib.decDigits (n / 10) ++ [dgB (n % 10)] := by rw [Lib.decDigits, dif_neg (by omega)]; rfl
   obtain ⟨i1, i2, i3, i4⟩ := dec_num k (n / 10) (by rw [Nat.div_lt_iff_lt_mul (by omega)]; rw [Nat.pow_succ] at h; exact h) hk
   obtain ⟨f1, f2, f3⟩ := dgB_fact (n := n % 10) (by omega)
   rw [e, numN_app, i1]
   simp [f1, f2, f3, i2, i3]
   omega
theorem itoa_num {n : Int} (h0 : 0 ≤ n) (h : n ≤ 9999) : ∃ D : List UInt8, Lib.itoa n = D ∧ (numN 10 D : Int) = n ∧ D.all digC = true ∧ D.all okC = true ∧ D ≠ [] ∧ D.length ≤ 4 := by
 obtain ⟨h1, h2, h3, h4⟩ := dec_num 4 n.toNat (by omega) (by omega)
 refine ⟨Lib.decDigits n.toNat, ?_, by rw [h1]; omega, h2, h3, h4, dec_len4 (by omega)⟩
 unfold Lib.itoa
 rw [if_neg (by omega)]
def numR (rest : List UInt8) : Prop := ∀ c r, rest = c :: r → digC c = false ∧ c ≠ 42
theorem readP_times {c : UInt8} {s : List UInt8} (h : (digC c || c == 42) = true) : readP c s = timesP s := by
 have := allU8 (p := fun c => !(digC c || c == 42) || (!letC c && (c != 61) && (c != 47) && (c != 40) && (c != 41) && (c != 91) && (c != 93))) (by decide +kernel) c
 simp only [h, Bool.not_true, Bool.false_or, Bool.and_eq_true, Bool.not_eq_true', bne_iff_ne] at this
 obtain ⟨⟨⟨⟨⟨⟨h1, h2⟩, h3⟩, h4⟩, h5⟩, h6⟩, h7⟩ := this
 simp [readP, readL, rowsP, h1, h2, h3, h4, h5, h6, h7, h]
theorem dig_facts {c : UInt8} (h : (digC c || c == 42) = true) : c ≠ 59 ∧ blkC c = false := by
 have := allU8 (p := fun c => !(digC c || c == 42) || ((c != 59) && !blkC c)) (by decide +kernel) c
 simp only [h, Bool.not_true, Bool.false_or, Bool.and_eq_true, Bool.not_eq_true', bne_iff_ne] at this
 exact this
theorem times_num {D rest : List UInt8} (h1 : D.all digC = true) (h2 : D.length ≤ 4) (h3 : D ≠ []) (hr : numR rest) : timesP (D ++ rest) = { tok := { kind := 9, mn := numN 10 D, mx := numN 10 D }, n := D.length, err := 0 } := by
 have ha := runN_app (p := digC) D rest h1 fun c r e => (hr c r e).1
 have hs : ((D ++ rest)[D.length]? == some 42) = false := by
  rw [List.getElem?_append_right (Nat.le_refl _), Nat.sub_self]
  match rest, hr with
  | [], _ => rfl
  | c :: r, hr =>
   have := (hr c r rfl).2
   simp [this]
 unfold timesP
 simp only [ha, hs, Bool.false_eq_true, if_false, Bool.not_false, if_true]
 rw [if_neg (by omega), if_neg (by omega), List.take_left' rfl]
theorem times_star {D E rest : List UInt8} (h1 : D.all digC = true) (h2 : D.length ≤ 4) (g1 : E.all digC = true) (g2 : E.length ≤ 4) (hr : numR rest) (hle : E ≠ [] → numN 10 D ≤ numN 10 E) :
  timesP (D ++ 42 :: (E ++ rest)) = { tok := { kind := 9, mn := numN 10 D, mx := if E = [] then -1 else (numN 10 E : Int) }, n := D.length + 1 + E.length, err := 0 } := by
 have ha := runN_app (p := digC) D (42 :: (E ++ rest)) h1 fun c r e => by simp only [List.cons.injEq] at e; rw [← e.1]; decide
 have hs : ((D ++ 42 :: (E ++ rest))[D.length]? == some 42) = true := by
  rw [List.getElem?_append_right (Nat.le_refl _), Nat.sub_self]
  simp
 have hd : (D ++ 42 :: (E ++ rest)).drop (D.length + 1) = E ++ rest := by
  rw [← List.drop_drop, List.drop_left' rfl]
  rfl
 have hb := runN_app (p := digC) E rest g1 fun c r e => (hr c r e).1
 unfold timesP
 simp only [ha, hs, hd, hb, if_true, Bool.not_true, Bool.false_eq_true, if_false]
 rw [if_neg (by omega), if_neg (by omega), List.take_left' rfl, List.take_left' rfl]
 by_cases he : E = []
 ·subst he
  simp
 ·have hpos : E.length > 0 := by cases E; exact absurd rfl he; simp
  have := hle he
  rw [if_pos hpos, if_neg he, if_neg (by omega)]
theorem lx_times {mn mx : Int} (h1 : 0 ≤ mn) (h2 : mn ≤ 9999) (h3 : -1 ≤ mx) (h4 : mx ≤ 9999) (h5 : mx = -1 ∨ mn ≤ mx) : LX (manyP mn mx) [{ kind := 9, mn := mn, mx := mx }] numR := by
 obtain ⟨D, d0, d1, d2, d3, d4, d5⟩ := itoa_num h1 h2
 unfold manyP
 by_cases c1 : mn = mx
 ·rw [if_pos c1, d0]
  match hD : D, d4 with
  | c :: D', _ =>
   have hc : (digC c || c == 42) = true := by
    simp only [List.all_cons, Bool.and_eq_true] at d2
    simp [d2.1]
   obtain ⟨f1, f2⟩ := dig_facts hc
   have := LX.piece (c := c) (p := D') (t := { kind := 9, mn := numN 10 (c :: D'), mx := numN 10 (c :: D') }) (P := numR) d3 f1 f2 fun rest hr => by
    rw [readP_times hc]
    exact times_num d2 d5 (by simp) hr
   rw [d1] at this
   rw [← c1]
   exact this
 ·rw [if_neg c1]
  obtain ⟨D1, hD1, n1, n2, n3, n4⟩ : ∃ D1 : List UInt8, (if 0 < mn then Lib.itoa mn else []) = D1 ∧ (numN 10 D1 : Int) = mn ∧ D1.all digC = true ∧ D1.all okC = true ∧ D1.length ≤ 4 := by
   by_cases c : 0 < mn
   ·exact ⟨D, by rw [if_pos c, d0], d1, d2, d3, d5⟩
   ·exact ⟨[], by rw [if_neg c], by simp [numN]; omega, rfl, rfl, by simp⟩
  obtain ⟨E, hE, m1, m2, m3, m4, m5⟩ : ∃ E : List UInt8, (if 0 ≤ mx then Lib.itoa mx else []) = E ∧ (if E = [] then (-1 : Int) else (numN 10 E : Int)) = mx ∧ E.all digC = true ∧ E.all okC = true ∧ E.length ≤ 4 ∧ (E ≠ [] → numN 10 D1 ≤ numN 10 E) := by
   by_cases c : 0 ≤ mx
   ·obtain ⟨E, e0, e1, e2, e3, e4, e5⟩ := itoa_num c h4
    exact ⟨E, by rw [if_pos c, e0], by rw [if_neg e4, e1], e2, e3, e5, fun _ => by omega⟩
   ·exact ⟨[], by rw [if_neg c], by simp; omega, rfl, rfl, by simp, fun h => absurd rfl h⟩
  rw [hD1, hE]
  have key : ∀ rest, numR rest → timesP (D1 ++ 42 :: E ++ rest) = { tok := { kind := 9, mn := mn, mx := mx }, n := D1.length + 1 + E.length, err := 0 } := fun rest hr => by
   have := times_star n2 n4 m2 m4 hr m5
   rw [n1, m1] at this
   simpa using this
  have hok : (D1 ++ 42 :: E).all okC = true := by
   simp only [List.all_append, List.all_cons, n3, m3, Bool.and_true, Bool.true_and]
   decide
  match hD : D1, n2 with
  | [], _ =>
   refine LX.piece (c := 42) (p := E) (t := { kind := 9, mn := mn, mx := mx }) (P := numR) hok (by decide) (by decide) fun rest hr => ?_
   rw [readP_times (by decide)]
   have := key rest hr
   simpa [Nat.add_comm] using this
  | c :: D', n2 =>
   have hc : (digC c || c == 42) = true := by
    simp only [List.all_cons, Bool.and_eq_true] at n2
    simp [n2.1]
   obtain ⟨f1, f2⟩ := dig_facts hc
   refine LX.piece (c := c) (p := D' ++ 42 :: E) (t := { kind := 9, mn := mn, mx := mx }) (P := numR) hok f1 f2 fun rest hr => ?_
   rw [readP_times hc]
   have := key rest hr
   simp only [List.cons_append] at this ⊢
   rw [this]
   congr 1
   simp
   omega
def hexR (rest : List UInt8) : Prop := ∀ c r, rest = c :: r → hexC 16 c = false
theorem hexP_facts (b : UInt8) : (hexP b).all (hexC 16) = true ∧ numN 16 (hexP b) = b.toNat ∧ (hexP b).all okC = true := by
 have := allU8 (p := fun b => (hexP b).all (hexC 16) && (numN 16 (hexP b) == b.toNat) && (hexP b).all okC) (by decide +kernel) b
 simp only [Bool.and_eq_true, beq_iff_eq] at this
 exact ⟨this.1.1, this.1.2, this.2⟩
theorem one_hex (b : UInt8) {rest : List UInt8} (hr : hexR rest) : oneC 16 (hexP b ++ rest) = some (b.toNat, 2) := by
 obtain ⟨h1, h2, _⟩ := hexP_facts b
 have hn := runN_app (p := hexC 16) (hexP b) rest h1 hr
 have hl : (hexP b).length = 2 := rfl
 unfold oneC
 simp only [hn, hl]
 rw [if_neg (by omega), show (hexP b ++ rest).take 2 = hexP b from List.take_left' hl, h2]
def dotted (bs : List UInt8) : List UInt8 := bs.flatMap fun b => 46 :: hexP b
theorem sep_hex {rest : List UInt8} (hr : sepR rest) : hexR rest := sep_not (by decide) (by decide) hr
theorem dotted_hex {bs rest : List UInt8} (hr : sepR rest) : hexR (dotted bs ++ rest) := by
 cases bs with
 | nil => exact sep_hex hr
 | cons b bs =>
  intro c r e
  simp only [dotted, List.flatMap_cons, List.cons_append, List.cons.injEq] at e
  rw [← e.1]
  decide
theorem dots_ok {rest : List UInt8} (hr : sepR rest) (s : List UInt8) : ∀ (bs : List UInt8) (f a : Nat) (t : List UInt8), s.drop a = dotted bs ++ rest → bs.length < f → dotsP 16 s f a t = { tok := { kind := 11, text := t ++ bs }, n := a + 3 * bs.length, err := 0 }
 | [], f, a, t, hd, hf => by
  obtain ⟨f, rfl⟩ : ∃ g, f = g + 1 := ⟨f - 1, by omega⟩
  unfold dotsP
  have h46 : ¬ s[a]? = some 46 := by
   intro e
   have : (s.drop a)[0]? = some 46 := by simpa using e
   rw [hd] at this
   simp only [dotted, List.flatMap_nil, List.nil_append] at this
   match rest, hr with
   | [], _ => simp at this
   | c :: r, hr =>
    simp at this
    rcases hr c r rfl with h | h <;> rw [h] at this <;> exact absurd this (by decide)
  rw [if_neg h46]
  simp
 | b :: bs, f, a, t, hd, hf => by
  obtain ⟨f, rfl⟩ : ∃ g, f = g + 1 := ⟨f - 1, by omega⟩
  unfold dotsP
  have hd' : s.drop a = 46 :: (hexP b ++ (dotted bs ++ rest)) := by rw [hd]; simp [dotted]
  have h46 : s[a]? = some 46 := by
   have := congrArg (fun l : List UInt8 => l[0]?) hd'
   simpa using this
  have hd1 : s.drop (a + 1) = hexP b ++ (dotted bs ++ rest) := by
   have := congrArg List.tail hd'
   simpa using this
  have hd3 : s.drop (a + 1 + 2) = dotted bs ++ rest := by
   rw [← List.drop_drop, hd1]
   exact List.drop_left' rfl
  have hb := b.toNat_lt
  rw [if_pos h46, hd1, one_hex b (dotted_hex hr)]
  simp only
  rw [if_pos (by omega), dots_ok hr s bs f (a + 1 + 2) _ hd3 (by simp at hf; omega)]
  simp
  omega
theorem join_hex (b : UInt8) : ∀ bs : List UInt8, Lib.join ((b :: bs).map hexP) [46] = hexP b ++ dotted bs := by
 intro bs
 induction bs generalizing b with
 | nil => simp [Lib.join, List.intercalate, dotted]
 | cons c bs ih =>
  have := ih c
  simp [Lib.join, List.intercalate, dotted] at this ⊢
  exact this
theorem dotted_ok (bs : List UInt8) : (dotted bs).all okC = true := by
 induction bs with
 | nil => rfl
 | cons b bs ih =>
  simp only [dotted, List.flatMap_cons, List.cons_append, List.all_cons, List.all_append]
  rw [(hexP_facts b).2.2]
  have : (List.flatMap (fun b => 46 :: hexP b) bs).all okC = true := ih
  rw [this]
  decide
theorem dotted_len (bs : List UInt8) : (dotted bs).length = 3 * bs.length := by
 induction bs with
 | nil => rfl
 | cons c bs ih => simp only [dotted, List.flatMap_cons, List.length_append, List.length_cons] at ih ⊢; rw [ih]; simp [hexP]; omega
theorem lx_bytes {s : List UInt8} (h : s ≠ []) : LX (37 :: 120 :: Lib.join (s.map hexP) [46]) [{ kind := 11, text := s }] sepR := by
 match s, h with
 | b :: bs, _ =>
  rw [join_hex]
  have hb := b.toNat_lt
  have hlen := dotted_len bs
  refine LX.piece (c := 37) (p := 120 :: (hexP b ++ dotted bs)) (t := { kind := 11, text := b :: bs }) ?_ (by decide) (by decide) fun rest hr => ?_
  ·simp only [List.all_cons, List.all_append, (hexP_facts b).2.2, dotted_ok]
   decide
  ·have e : readP 37 (37 :: 120 :: (hexP b ++ dotted bs) ++ rest) = valueP (37 :: 120 :: (hexP b ++ dotted bs) ++ rest) := rfl
   rw [e]
   have hbase : baseL (37 :: 120 :: (hexP b ++ dotted bs) ++ rest).tail = 16 := rfl
   have hd2 : (37 :: 120 :: (hexP b ++ dotted bs) ++ rest).drop 2 = hexP b ++ (dotted bs ++ rest) := by simp
   have hd4 : (37 :: 120 :: (hexP b ++ dotted bs) ++ rest).drop (2 + 2) = dotted bs ++ rest := by
    rw [← List.drop_drop, hd2]; exact List.drop_left' rfl
   have h45 : ¬ (37 :: 120 :: (hexP b ++ dotted bs) ++ rest)[2 + 2]? = some 45 := by
    intro e
    have : ((37 :: 120 :: (hexP b ++ dotted bs) ++ rest).drop (2 + 2))[0]? = some 45 := by rw [List.getElem?_drop]; exact e
    rw [hd4] at this
    cases bs with
    | nil =>
     simp only [dotted, List.flatMap_nil, List.nil_append] at this
     match rest, hr with
     | [], _ => simp at this
     | c :: r, hr =>
      simp at this
      rcases hr c r rfl with h | h <;> rw [h] at this <;> exact absurd this (by decide)
    | cons c bs => simp [dotted] at this
   unfold valueP
   rw [hbase, hd2, one_hex b (dotted_hex hr)]
   simp only
   rw [if_pos (by omega), if_neg h45, dots_ok hr _ bs _ (2 + 2) _ hd4 (by simp; omega)]
   simp [hlen]
   simp [hexP]; omega
theorem lx_range {lo hi : UInt8} (h : lo.toNat ≤ hi.toNat) : LX (37 :: 120 :: (hexP lo ++ 45 :: hexP hi)) [{ kind := 12, lo := lo, hi := hi }] sepR := by
 have hb := hi.toNat_lt
 refine LX.piece (c := 37) (p := 120 :: (hexP lo ++ 45 :: hexP hi)) (t := { kind := 12, lo := lo, hi := hi }) ?_ (by decide) (by decide) fun rest hr => ?_
 ·simp only [List.all_cons, List.all_append, (hexP_facts lo).2.2, (hexP_facts hi).2.2]
  decide
 ·have e : readP 37 (37 :: 120 :: (hexP lo ++ 45 :: hexP hi) ++ rest) = valueP (37 :: 120 :: (hexP lo ++ 45 :: hexP hi) ++ rest) := rfl
  rw [e]
  have hbase : baseL (37 :: 120 :: (hexP lo ++ 45 :: hexP hi) ++ rest).tail = 16 := rfl
  have hd2 : (37 :: 120 :: (hexP lo ++ 45 :: hexP hi) ++ rest).drop 2 = hexP lo ++ (45 :: (hexP hi ++ rest)) := by simp
  have hd4 : (37 :: 120 :: (hexP lo ++ 45 :: hexP hi) ++ rest).drop (2 + 2) = 45 :: (hexP hi ++ rest) := by
   rw [← List.drop_drop, hd2]; exact List.drop_left' rfl
  have h45 : (37 :: 120 :: (hexP lo ++ 45 :: hexP hi) ++ rest)[2 + 2]? = some 45 := by
   have : ((37 :: 120 :: (hexP lo ++ 45 :: hexP hi) ++ rest).drop (2 + 2))[0]? = some 45 := by rw [hd4]; rfl
   rw [List.getElem?_drop] at this
   exact this
  have hd5 : (37 :: 120 :: (hexP lo ++ 45 :: hexP hi) ++ rest).drop (2 + 2 + 1) = hexP hi ++ rest := by
   rw [← List.drop_drop, hd4]; rfl
  have hh45 : hexR (45 :: (hexP hi ++ rest)) := fun c r e => by
   simp only [List.cons.injEq] at e
   rw [← e.1]
   decide
  unfold valueP
  rw [hbase, hd2, one_hex lo hh45]
  simp only
  rw [if_pos (by omega), if_pos h45, hd5, one_hex hi (sep_hex hr)]
  simp only
  rw [if_pos ⟨by omega, h⟩]
  simp [hexP]
theorem head_brk {d : Nat} {x : Tr} (hf : fitsP d x = true) (m : UInt8) (hm : needs m x.k = true ∨ (x.k ≠ 5 ∧ x.k ≠ 6 ∧ x.k ≠ 7)) (rest : List UInt8) : numR (brk m x ++ rest) := by
 unfold brk
 by_cases c : needs m x.k = true
 ·rw [if_pos c]
  intro a r e
  simp only [List.cons_append, List.cons.injEq] at e
  rw [← e.1]
  exact ⟨by decide, by decide⟩
 ·rw [if_neg c]
  have hx := hm.resolve_left c
  have ha := fits_alone hf
  rw [textP_eq]
  rcases alone_kinds ha with k | k | k | k | k | k | k
  ·rw [if_pos k]
   have hn : namedP x.s = true := by
    unfold aloneP at ha
    simp [k] at ha
    exact ha.1
   match hs : x.s, hn with
   | c :: s, hn =>
    simp only [namedP, Bool.and_eq_true] at hn
    obtain ⟨_, _, _, f4, f5⟩ := low_facts hn.1
    intro a r e
    simp only [List.cons_append, List.cons.injEq] at e
    rw [← e.1]
    exact ⟨f4, f5⟩
  ·rw [if_neg (by rw [k]; decide), if_pos k]
   intro a r e
   simp only [List.cons_append, List.cons.injEq] at e
   rw [← e.1]
   exact ⟨by decide, by decide⟩
  ·rw [if_neg (by rw [k]; decide), if_neg (by rw [k]; decide), if_pos k]
   intro a r e
   simp only [List.cons_append, List.cons.injEq] at e
   rw [← e.1]
   exact ⟨by decide, by decide⟩
  ·rw [if_neg (by rw [k]; decide), if_neg (by rw [k]; decide), if_neg (by rw [k]; decide), if_pos k]
   intro a r e
   simp only [List.cons_append, List.cons.injEq] at e
   rw [← e.1]
   exact ⟨by decide, by decide⟩
  ·exact absurd k hx.1
  ·exact absurd k hx.2.1
  ·exact absurd k hx.2.2
theorem sep32 (r : List UInt8) : sepR (32 :: r) := fun c s e => by simp only [List.cons.injEq] at e; exact .inl e.1.symm
theorem sep41 (r : List UInt8) : sepR (41 :: r) := fun c s e => by simp only [List.cons.injEq] at e; exact .inr e.1.symm
theorem lx_brk {m : UInt8} {x : Tr} (h : LX (textP x) (tkT x) sepR) : LX (brk m x) (bt m x) sepR := by
 unfold brk bt
 by_cases c : needs m x.k = true
 ·rw [if_pos c, if_pos c]
  have h1 := (h.app lx_shut fun rest _ => sep41 rest)
  have h2 := lx_open.app h1 fun rest _ => trivial
  exact (by simpa using h2 : LX (40 :: (textP x ++ [41])) ({ kind := 5 } :: (tkT x ++ [{ kind := 6 }])) anyR).weak fun _ _ => trivial
 ·rw [if_neg c, if_neg c]
  exact h
theorem lx_list (m : UInt8) (sp : List UInt8) (st : List Tok) (hs : LX (32 :: sp) st anyR) : ∀ ks : List Tr, (∀ k ∈ ks, LX (textP k) (tkT k) sepR) → LX (Lib.join (ks.map (brk m)) (32 :: sp)) (tkB m st ks) sepR
 | [], _ => by simpa [Lib.join, List.intercalate, tkB] using LX.nil sepR
 | [t], h => by
  have := lx_brk (m := m) (h t (by simp))
  rw [tkB_cons]
  simpa [Lib.join, List.intercalate] using this
 | t :: u :: ks, h => by
  have h1 := lx_brk (m := m) (h t (by simp))
  have h2 := lx_list m sp st hs (u :: ks) fun k hk => h k (List.mem_cons_of_mem _ hk)
  have h3 := hs.app h2 fun _ _ => trivial
  have h4 := h1.app h3 fun rest _ => by
   simp only [List.cons_append]
   exact sep32 _
  have e1 : Lib.join ((t :: u :: ks).map (brk m)) (32 :: sp) = brk m t ++ ((32 :: sp) ++ Lib.join ((u :: ks).map (brk m)) (32 :: sp)) := by
   simp [Lib.join, List.intercalate]
  rw [e1, tkB_cons]
  simpa using h4
theorem lx_tree : ∀ (n d : Nat) (t : Tr), t.size ≤ n → fitsP d t = true → LX (textP t) (tkT t) sepR
 | 0, d, t, hn, _ => by cases t; simp [Tr.size] at hn
 | n + 1, d, t, hn, hf => by
  have ha := fits_alone hf
  have ih : ∀ k ∈ t.kids, LX (textP k) (tkT k) sepR := fun k hk => lx_tree n (d - 1) k (by have := Tr.size_kid hk; omega) (fits_kid hf hk)
  have kk : ∀ x ∈ t.kids, x.k = 1 ∨ x.k = 2 ∨ x.k = 3 ∨ x.k = 4 ∨ x.k = 5 ∨ x.k = 6 ∨ x.k = 7 := fun x hx => alone_kinds (fits_alone (fits_kid hf hx))
  rw [textP_eq, tkT_eq]
  rcases alone_kinds ha with k | k | k | k | k | k | k
  ·rw [if_pos k, if_neg (by rw [k]; decide), if_neg (by rw [k]; decide), if_neg (by rw [k]; decide)]
   have hn : namedP t.s = true := by
    unfold aloneP at ha
    simp [k] at ha
    exact ha.1
   have := lx_name hn
   simpa [leafTok, k] using this
  ·rw [if_neg (by rw [k]; decide), if_pos k, if_neg (by rw [k]; decide), if_neg (by rw [k]; decide), if_neg (by rw [k]; decide)]
   have hn : t.s.all prC = true := by
    unfold aloneP at ha
    rw [if_neg (by rw [k]; decide), if_pos k] at ha
    simp only [Bool.and_eq_true] at ha
    exact ha.1
   have := (lx_chars hn).weak (Q := sepR) fun _ _ => trivial
   simpa [leafTok, k] using this
  ·rw [if_neg (by rw [k]; decide), if_neg (by rw [k]; decide), if_pos k, if_neg (by rw [k]; decide), if_neg (by rw [k]; decide), if_neg (by rw [k]; decide)]
   have hn : t.s ≠ [] := by
    unfold aloneP at ha
    simp [k] at ha
    exact ha.1
   have := lx_bytes hn
   simpa [leafTok, k] using this
  ·rw [if_neg (by rw [k]; decide), if_neg (by rw [k]; decide), if_neg (by rw [k]; decide), if_pos k, if_neg (by rw [k]; decide), if_neg (by rw [k]; decide), if_neg (by rw [k]; decide)]
   have hn : t.lo.toNat ≤ t.hi.toNat := by
    unfold aloneP at ha
    rw [if_neg (by rw [k]; decide), if_neg (by rw [k]; decide), if_neg (by rw [k]; decide), if_pos k] at ha
    simp only [Bool.and_eq_true] at ha
    exact of_decide_eq_true ha.1
   have := lx_range hn
   simpa [leafTok, k] using this
  ·rw [if_neg (by rw [k]; decide), if_neg (by rw [k]; decide), if_neg (by rw [k]; decide), if_neg (by rw [k]; decide), if_neg (by rw [k]; decide), if_pos k, if_neg (by rw [k]; decide), if_pos k]
   exact lx_list 5 [] [] LX.blank t.kids ih
  ·rw [if_neg (by rw [k]; decide), if_neg (by rw [k]; decide), if_neg (by rw [k]; decide), if_neg (by rw [k]; decide), if_neg (by rw [k]; decide), if_neg (by rw [k]; decide), if_neg (by rw [k]; decide), if_neg (by rw [k]; decide), if_pos k]
   have h1 := (LX.blank.app (lx_or.app LX.blank fun _ _ => trivial) fun _ _ => trivial)
   exact lx_list 6 [47, 32] [{ kind := 4 }] (by simpa using h1) t.kids ih
  ·rw [if_neg (by rw [k]; decide), if_neg (by rw [k]; decide), if_neg (by rw [k]; decide), if_neg (by rw [k]; decide), if_pos k, if_pos k]
   obtain ⟨a1, a2, a3, a4, a5, a6⟩ := alone7 ha k
   obtain ⟨x, hx⟩ : ∃ x, t.kids = [x] := by
    match t.kids, a1 with
    | [x], _ => exact ⟨x, rfl⟩
   have hxm : x ∈ t.kids := by rw [hx]; simp
   have h1 := lx_times a2 a3 a4 a5 a6
   have h2 := lx_brk (m := 7) (ih x hxm)
   have h3 := h1.app h2 fun rest _ => head_brk (fits_kid hf hxm) 7 (by
    rcases kk x hxm with e | e | e | e | e | e | e <;> rw [e] <;> decide) rest
   rw [hx, tkB_cons]
   simpa using h3
theorem get_akk (l : List Tok) (a : Nat) : (l.map akk)[a]? = l[a]?.map akk := List.getElem?_map ..
theorem kd_akk (l : List Tok) (a : Nat) : kd (l.map akk) a = kd l a := by
 unfold kd
 rw [get_akk]
 cases l[a]? <;> rfl
theorem parts_akk (l : List Tok) : ∀ f, (∀ a, thingS (l.map akk) f a = thingS l f a) ∧ (∀ a, partS (l.map akk) f a = partS l f a) ∧ (∀ a ks, rowS (l.map akk) f a ks = rowS l f a ks) ∧ (∀ a ks, choicesS (l.map akk) f a ks = choicesS l f a ks) := by
 intro f
 induction f with
 | zero => exact ⟨fun _ => by simp [thingS], fun _ => by simp [partS], fun _ _ => by simp [rowS], fun _ _ => by simp [choicesS]⟩
 | succ f ih =>
  obtain ⟨i1, i2, i3, i4⟩ := ih
  refine ⟨fun a => ?_, fun a => ?_, fun a ks => ?_, fun a ks => ?_⟩
  ·unfold thingS
   simp only [kd_akk, i4, get_akk]
   cases l[a]? <;> rfl
  ·unfold partS
   simp only [get_akk, i1]
   cases l[a]? <;> rfl
  ·unfold rowS
   simp only [kd_akk, i2, i3]
  ·unfold choicesS
   simp only [kd_akk, i3, i4]
theorem choP_akk (l : List Tok) (a : Nat) : choP (l.map akk) a = choP l a := by
 unfold choP
 rw [(parts_akk l _).2.2.2, List.length_map]
theorem parts_mono (l : List Tok) : ∀ f, (∀ a p, thingS l f a = some p → thingS l (f + 1) a = some p) ∧ (∀ a p, partS l f a = some p → partS l (f + 1) a = some p) ∧ (∀ a ks p, rowS l f a ks = some p → rowS l (f + 1) a ks = some p) ∧ (∀ a ks p, choicesS l f a ks = some p → choicesS l (f + 1) a ks = some p) := by
 intro f
 induction f with
 | zero => exact ⟨fun a p h => by simp [thingS] at h, fun a p h => by simp [partS] at h, fun a ks p h => by simp [rowS] at h, fun a ks p h => by simp [choicesS] at h⟩
 | succ f ih =>
  obtain ⟨i1, i2, i3, i4⟩ := ih
  refine ⟨fun a p h => ?_, fun a p h => ?_, fun a ks p h => ?_, fun a ks p h => ?_⟩
  ·unfold thingS at h ⊢
   by_cases hk : kd l a = 5 ∨ kd l a = 7
   ·rw [if_pos hk] at h ⊢
    cases hc : choicesS l f (a + 1) [] with
    | none => rw [hc] at h; cases h
    | some q => rw [hc] at h; rw [i4 _ _ _ hc]; exact h
   ·rw [if_neg hk] at h ⊢
    exact h
  ·unfold partS at h ⊢
   cases e : l[a]? with
   | none => rw [e] at h; exact i1 _ _ h
   | some x =>
    rw [e] at h
    simp only at h ⊢
    by_cases hx : x.kind = 9
    ·rw [if_pos hx] at h ⊢
     cases hal : aloneP (timesT x.mn x.mx zeroT) with
     | false => rw [hal] at h; exact h
     | true =>
      rw [hal] at h
      simp only [if_true] at h ⊢
      cases hc : thingS l f (a + 1) with
      | none => rw [hc] at h; cases h
      | some q => rw [hc] at h; rw [i1 _ _ hc]; exact h
    ·rw [if_neg hx] at h ⊢
     exact i1 _ _ h
  ·unfold rowS at h ⊢
   cases hb : (ks.isEmpty || begins (kd l a)) with
   | false => rw [hb] at h; exact h
   | true =>
    rw [hb] at h
    simp only [if_true] at h ⊢
    cases hc : partS l f a with
    | none => rw [hc] at h; cases h
    | some q =>
     rw [hc] at h
     rw [i2 _ _ hc]
     cases q with
     | bad r => exact h
     | ok t n => exact i3 _ _ _ h
  ·unfold choicesS at h ⊢
   cases hc : rowS l f a [] with
   | none => rw [hc] at h; cases h
   | some q =>
    rw [hc] at h
    rw [i3 _ _ _ hc]
    cases q with
    | bad r => exact h
    | ok t n =>
     simp only at h ⊢
     by_cases hk : kd l n = 4
     ·rw [if_pos hk] at h ⊢
      exact i4 _ _ _ h
     ·rw [if_neg hk] at h ⊢
      exact h
theorem choices_mono {l : List Tok} {f g a : Nat} {ks : List Tr} {p : Pr} (h : choicesS l f a ks = some p) (hg : f ≤ g) : choicesS l g a ks = some p := by
 obtain ⟨d, rfl⟩ : ∃ d, g = f + d := ⟨g - f, by omega⟩
 induction d with
 | zero => exact h
 | succ d ih => exact (parts_mono l _).2.2.2 _ _ _ (ih (by omega))
theorem choP_reads {ts : List Tok} {t : Tr} (h : Reads (fun L f a => choicesS L f a []) ts t stopC) {l : List Tok} {a : Nat} {post : List Tok} (hd : (l.map akk).drop a = ts ++ post) (hs : stopC post) : choP l a = .ok t (a + ts.length) := by
 obtain ⟨F, hF⟩ := h (l.map akk) a post hd hs
 have h1 : choicesS (l.map akk) (max F (4 * (l.map akk).length + 4)) a [] = some (.ok t (a + ts.length)) := hF _ (by omega)
 have h2 := choices_mono (choP_eq (l.map akk) a) (g := max F (4 * (l.map akk).length + 4)) (by omega)
 rw [h1, choP_akk] at h2
 injection h2 with h2
 exact h2.symm
theorem lx_nameG {c : UInt8} {s : List UInt8} (h1 : letC c = true) (h2 : s.all namC = true) : LX (c :: s) [{ kind := 1, text := c :: s }] sepR := by
 have f := allU8 (p := fun c => !letC c || ((c != 59) && !blkC c && namC c)) (by decide +kernel) c
 simp only [h1, Bool.not_true, Bool.false_or, Bool.and_eq_true, Bool.not_eq_true', bne_iff_ne] at f
 obtain ⟨⟨f2, f3⟩, f4⟩ := f
 have hno : ∀ {x : UInt8}, namC x = true → okC x = true := fun {x} hx => by
  have := allU8 (p := fun c => !namC c || okC c) (by decide +kernel) x
  simpa [hx] using this
 have hall : (c :: s).all namC = true := by rw [List.all_cons, f4, h2]; rfl
 refine LX.piece (t := { kind := 1, text := c :: s }) (List.all_eq_true.2 fun x hx => hno (List.all_eq_true.1 hall x hx)) f2 f3 fun rest hr => ?_
 have e : readP c (c :: s ++ rest) = nameP (c :: s ++ rest) := by simp [readP, readL, rowsP, h1]
 have hn := runN_app (p := namC) (c :: s) rest hall (sep_not (by decide) (by decide) hr)
 rw [e]
 unfold nameP
 rw [hn, List.take_left' rfl]
 simp
theorem lx_line {p : List UInt8} {ts : List Tok} {P : List UInt8 → Prop} (h : LX p ts P) (hP : P []) (off : Nat) : ∃ out, lineP p off (p.length + 2) 0 [] = (out, 0, 0) ∧ out.map akk = ts := by
 obtain ⟨f', o, e, m, g⟩ := h.2 p off (p.length + 2) 0 [] [] (by simp) hP (by omega)
 obtain ⟨f, rfl⟩ : ∃ k, f' = k + 1 := ⟨f' - 1, by omega⟩
 refine ⟨o, ?_, m⟩
 rw [e]
 unfold lineP
 have : p[0 + p.length]? = none := by simp
 rw [this]
 simp
theorem takeWhile_all {p : UInt8 → Bool} : ∀ {l : List UInt8}, (∀ x ∈ l, p x = true) → l.takeWhile p = l
 | [], _ => rfl
 | x :: l, h => by rw [List.takeWhile_cons, if_pos (h x List.mem_cons_self), takeWhile_all fun y hy => h y (List.mem_cons_of_mem _ hy)]
theorem ok_no10 {p : List UInt8} (h : p.all okC = true) : ¬ (10 : UInt8) ∈ p := fun hm => by
 have := List.all_eq_true.1 h 10 hm
 exact absurd this (by decide)
theorem lexP_line {c : UInt8} {p : List UInt8} {ts : List Tok} {P : List UInt8 → Prop} (h : LX (c :: p) ts P) (hP : P []) (hc : letC c = true) (hl : (c :: p).length ≤ 65536) : ∃ out, lexP (c :: p) = (out, 0, 0) ∧ out.map akk = ts ++ [{ kind := 13 }] := by
 obtain ⟨o, ho, hm⟩ := lx_line h hP 0
 have h10 := ok_no10 h.1
 have hcut : cutB (c :: p) 10 = c :: p := by
  unfold cutB
  exact takeWhile_all fun x hx => by
   simp only [bne_iff_ne]
   intro e
   rw [e] at hx
   exact h10 hx
 have hcutL : cutL ((c :: p).drop 0) = c :: p := by
  unfold cutL
  simp only [List.drop_zero]
  rw [if_neg h10, hcut]
 have f := allU8 (p := fun c => !letC c || ((c != 59) && !blkC c)) (by decide +kernel) c
 simp only [hc, Bool.not_true, Bool.false_or, Bool.and_eq_true, Bool.not_eq_true', bne_iff_ne] at f
 have hn : runN blkC (c :: p) = 0 := by simp [runN, f.2]
 refine ⟨o ++ [{ kind := 13, pos := ((c :: p).length : Int) }], ?_, by simp [hm, akk]⟩
 unfold lexP
 rw [if_neg (by omega)]
 unfold lexF
 rw [if_pos (by simp)]
 simp only [hcutL, hn, List.getElem?_cons_zero]
 rw [if_neg f.1, if_neg (by simp [hc]), if_neg (by rw [ho]; simp), ho]
 simp only [List.drop_zero, hcut]
 have hz : (0 + (c :: p).length + 1) = (c :: p).length + 1 := by omega
 rw [hz, show (c :: p).length = p.length + 1 from rfl]
 unfold lexF
 rw [if_neg (by simp)]
 simp
theorem fits_norm : ∀ (n d : Nat) (t : Tr), t.size ≤ n → fitsP d t = true → fitsP d (normT t) = true
 | 0, d, t, hn, _ => by cases t; simp [Tr.size] at hn
 | n + 1, d, t, hn, hf => by
  have ha := fits_alone hf
  cases d with
  | zero => simp [fitsP] at hf
  | succ d =>
   have ih : ∀ k ∈ t.kids, fitsP d (normT k) = true := fun k hk => fits_norm n d k (by have := Tr.size_kid hk; omega) (by have := fits_kid hf hk; simpa using this)
   have hkids : (t.kids.map normT).all (fitsP d) = true := by
    rw [List.all_eq_true]
    intro x hx
    obtain ⟨k, hk, rfl⟩ := List.mem_map.1 hx
    exact ih k hk
   unfold fitsP
   rw [normT_eq]
   by_cases h7 : t.k = 7
   ·rw [if_pos h7]
    obtain ⟨a1, a2, a3, a4, a5, a6⟩ := alone7 ha h7
    have : aloneP (.mk 7 [] 0 0 t.mn t.mx false (t.kids.map normT)) = true := by
     have h : t.mx = -1 ∨ t.mn ≤ t.mx ∧ t.mx ≤ 9999 := by omega
     simp [aloneP, Tr.k, Tr.s, Tr.lo, Tr.hi, Tr.mn, Tr.mx, Tr.kids]
     exact ⟨a1, a2, a3, h⟩
    rw [this]
    simpa [Tr.kids] using hkids
   ·rw [if_neg h7]
    by_cases h56 : t.k = 5 ∨ t.k = 6
    ·rw [if_pos h56]
     obtain ⟨q1, _⟩ := alone_two ha h56
     have : aloneP (.mk t.k [] 0 0 0 0 false (t.kids.map normT)) = true := by
      rcases h56 with e | e
      ·rw [e]; simp [aloneP, Tr.k, Tr.s, Tr.lo, Tr.hi, Tr.mn, Tr.mx, Tr.kids]; exact q1
      ·rw [e]; simp [aloneP, Tr.k, Tr.s, Tr.lo, Tr.hi, Tr.mn, Tr.mx, Tr.kids]; exact q1
     rw [this]
     simpa [Tr.kids] using hkids
    ·rw [if_neg h56]
     obtain ⟨h5, h6⟩ := not_or.1 h56
     have hk : t.k = 1 ∨ t.k = 2 ∨ t.k = 3 ∨ t.k = 4 := by
      rcases alone_kinds ha with k | k | k | k | k | k | k
      ·exact .inl k
      ·exact .inr (.inl k)
      ·exact .inr (.inr (.inl k))
      ·exact .inr (.inr (.inr k))
      ·exact absurd k h5
      ·exact absurd k h6
      ·exact absurd k h7
     have := (leaf_right ha hk).2.1
     rw [normT_eq, if_neg h7, if_neg h56] at this
     rw [this]
     simp [Tr.kids]
theorem of_line {c : UInt8} {nm body : List UInt8} {ts : List Tok} {t : Tr} (more : Bool) (h1 : letC c = true) (h2 : nm.all namC = true) (h3 : namedP (smallP (c :: nm)) = true) (hb : LX body ts sepR) (hr : Reads (fun L f a => choicesS L f a []) ts t stopC) (hf : fitsP 100 t = true)
  (hl : (c :: nm ++ ((if more then [32, 61, 47, 32] else [32, 61, 32]) ++ body)).length ≤ 65536) : ∃ pos, ofP (c :: nm ++ ((if more then [32, 61, 47, 32] else [32, 61, 32]) ++ body)) = ([⟨smallP (c :: nm), pos, more, t⟩], 0, 0) := by
 have hsign : LX (if more then [32, 61, 47, 32] else [32, 61, 32]) [{ kind := if more then 3 else 2 }] anyR := by
  cases more
  ·have := LX.blank.app ((lx_is.app LX.blank fun rest _ => sep32 rest)) fun _ _ => trivial
   simpa using this
  ·have := LX.blank.app ((lx_more.app LX.blank fun rest _ => trivial)) fun _ _ => trivial
   simpa using this
 have hL := (lx_nameG h1 h2).app (hsign.app hb fun _ _ => trivial) fun rest _ => by
  cases more <;> exact sep32 _
 obtain ⟨l, hlx, hm⟩ := lexP_line (c := c) (p := nm ++ ((if more then [32, 61, 47, 32] else [32, 61, 32]) ++ body)) (by simpa using hL) (fun c r e => by cases e) h1 (by simpa using hl)
 have hm' : l.map akk = { kind := 1, text := c :: nm } :: { kind := if more then 3 else 2 } :: (ts ++ [{ kind := 13 }]) := by rw [hm]; simp
 have hd2 : (l.map akk).drop 2 = ts ++ [{ kind := 13 }] := by rw [hm']; rfl
 have hcho := choP_reads hr hd2 fun x r e => by
  simp only [List.cons.injEq] at e
  rw [← e.1]
  exact ⟨by decide, by decide⟩
 have hlen : l.length = 3 + ts.length := by
  have := congrArg List.length hm'
  simp at this
  omega
 obtain ⟨n, hn0, hnk, hnt⟩ : ∃ n, l[0]? = some n ∧ n.kind = 1 ∧ n.text = c :: nm := by
  have := congrArg (fun l : List Tok => l[0]?) hm'
  simp only [get_akk, List.getElem?_cons_zero] at this
  cases e : l[0]? with
  | none => rw [e] at this; cases this
  | some n =>
   rw [e] at this
   simp only [Option.map_some, Option.some.injEq] at this
   refine ⟨n, rfl, ?_, ?_⟩
   ·have := congrArg Tok.kind this; exact this
   ·have := congrArg Tok.text this; exact this
 have hk1 : kd l 1 = if more then 3 else 2 := by
  rw [← kd_akk, hm']
  rfl
 have hke : kd l (2 + ts.length) = 13 := by
  rw [← kd_akk, hm']
  have : (({ kind := 1, text := c :: nm } : Tok) :: { kind := if more then 3 else 2 } :: (ts ++ [{ kind := 13 }]))[2 + ts.length]? = some { kind := 13 } := by
   rw [show 2 + ts.length = ts.length + 1 + 1 by omega]
   simp
  rw [kd_of this]
 have hal : aloneP (leafT n) = true := by
  simp [leafT, hnk, hnt, aloneP, Tr.k, Tr.s, Tr.lo, Tr.hi, Tr.mn, Tr.mx, Tr.kids, h3]
 refine ⟨n.pos, ?_⟩
 unfold ofP
 have e0 : c :: nm ++ ((if more then [32, 61, 47, 32] else [32, 61, 32]) ++ body) = c :: (nm ++ ((if more then [32, 61, 47, 32] else [32, 61, 32]) ++ body)) := rfl
 rw [e0, hlx]
 rw [if_neg (by simp)]
 have hrule : ruleS l 0 = .ok ⟨smallP (c :: nm), n.pos, more, t⟩ (2 + ts.length + 1) := by
  unfold ruleS
  rw [hn0]
  simp only
  rw [if_pos ⟨hnk, hal⟩, if_pos (by rw [Nat.zero_add, hk1]; cases more <;> simp), Nat.zero_add, hcho]
  simp only
  rw [if_pos hke, hnt, hk1]
  cases more <;> simp
 show rulesS l (l.length + 1) 0 [] = _
 unfold rulesS
 rw [if_pos (by omega), hrule]
 simp only
 rw [if_pos hf, hlen]
 rw [show 3 + ts.length = (2 + ts.length) + 1 by omega]
 unfold rulesS
 rw [if_neg (by omega)]
 rfl
end Go.Proofs.YtcflbdikkcpiaaaGreatDoor
