/-
  The round trip, the parser's half: what a right tree's tokens are read as.
-/
import Derived.Test.YtmmapbhhkmchcaaDoorE4
set_option linter.unusedVariables false
set_option linter.unusedSimpArgs false
namespace Go.Proofs.YtmmapbhhkmchcaaDoor
open Go Go.Am

mutual
/-- A right tree as the parser makes it. -/
def normT : Tr → Tr
  | .mk k s lo hi mn mx _ ks => if k = 7 then .mk 7 [] 0 0 mn mx false (normL ks) else if k = 5 ∨ k = 6 then .mk k [] 0 0 0 0 false (normL ks) else .mk k s lo hi 0 0 true []
def normL : List Tr → List Tr
  | [] => []
  | t :: ts => normT t :: normL ts
end
theorem normL_map : ∀ l : List Tr, normL l = l.map normT
  | [] => by simp [normL]
  | t :: l => by simp only [normL, List.map_cons, normL_map l]
theorem normT_eq (t : Tr) : normT t = if t.k = 7 then .mk 7 [] 0 0 t.mn t.mx false (t.kids.map normT) else if t.k = 5 ∨ t.k = 6 then .mk t.k [] 0 0 0 0 false (t.kids.map normT) else .mk t.k t.s t.lo t.hi 0 0 true [] := by
  cases t
  simp only [normT, Tr.k, Tr.s, Tr.lo, Tr.hi, Tr.mn, Tr.mx, Tr.kids, normL_map]
  rfl
/-- A leaf's token. -/
def leafTok (t : Tr) : Tok := if t.k = 1 then { kind := 1, text := t.s } else if t.k = 2 then { kind := 10, text := t.s } else if t.k = 3 then { kind := 11, text := t.s } else { kind := 12, lo := t.lo, hi := t.hi }
mutual
/-- A tree's tokens, without their places. -/
def tkT : Tr → List Tok
  | .mk k s lo hi mn mx r ks => if k = 7 then { kind := 9, mn := mn, mx := mx } :: tkB 7 [] ks else if k = 5 then tkB 5 [] ks else if k = 6 then tkB 6 [{ kind := 4 }] ks else [leafTok (.mk k s lo hi mn mx r ks)]
/-- Its kids' tokens, in brackets where need is; what stands between. -/
def tkB (m : UInt8) (sep : List Tok) : List Tr → List Tok
  | [] => []
  | t :: ts => (if needs m t.k then { kind := 5 } :: (tkT t ++ [{ kind := 6 }]) else tkT t) ++ (if ts.isEmpty then [] else sep ++ tkB m sep ts)
end
def bt (m : UInt8) (t : Tr) : List Tok := if needs m t.k then { kind := 5 } :: (tkT t ++ [{ kind := 6 }]) else tkT t
theorem tkB_cons (m : UInt8) (sep : List Tok) (t : Tr) (ts : List Tr) : tkB m sep (t :: ts) = bt m t ++ (if ts.isEmpty then [] else sep ++ tkB m sep ts) := by simp only [tkB, bt]
theorem tkT_eq (t : Tr) : tkT t = if t.k = 7 then { kind := 9, mn := t.mn, mx := t.mx } :: tkB 7 [] t.kids else if t.k = 5 then tkB 5 [] t.kids else if t.k = 6 then tkB 6 [{ kind := 4 }] t.kids else [leafTok t] := by
  cases t
  simp only [tkT, Tr.k, Tr.mn, Tr.mx, Tr.kids]
  rfl
theorem drop_kd {L : List Tok} {a : Nat} {x : Tok} {r : List Tok} (h : L.drop a = x :: r) : L[a]? = some x ∧ kd L a = x.kind ∧ L.drop (a + 1) = r := by
  have h1 : L[a]? = some x := by
    have := congrArg (fun l : List Tok => l[0]?) h
    simpa using this
  refine ⟨h1, kd_of h1, ?_⟩
  have := congrArg List.tail h
  simpa using this
theorem drop_kd0 {L : List Tok} {a : Nat} (h : L.drop a = []) : kd L a = 0 := by
  have : L.length ≤ a := by simpa using h
  simp [kd, List.getElem?_eq_none this]
/-- Behind a row, behind choices: nothing that would go on. -/
def stopR (post : List Tok) : Prop := ∀ x r, post = x :: r → begins x.kind = false
def stopC (post : List Tok) : Prop := ∀ x r, post = x :: r → begins x.kind = false ∧ x.kind ≠ 4
theorem stop_kd {L post : List Tok} {a : Nat} (h : L.drop a = post) (hs : stopR post) : begins (kd L a) = false := by
  match post, h with
  | [], h => rw [drop_kd0 h]; decide
  | x :: r, h => rw [(drop_kd h).2.1]; exact hs x r rfl
theorem stop_kd4 {L post : List Tok} {a : Nat} (h : L.drop a = post) (hs : stopC post) : kd L a ≠ 4 := by
  match post, h with
  | [], h => rw [drop_kd0 h]; decide
  | x :: r, h => rw [(drop_kd h).2.1]; exact (hs x r rfl).2
theorem stopC.R {post : List Tok} (h : stopC post) : stopR post := fun x r e => (h x r e).1
theorem nm_small {c : UInt8} (h : nmC c = true) : smC c = c := by
  have := allU8 (p := fun c => !nmC c || smC c == c) (by decide +kernel) c
  simpa [h] using this
theorem low_nm {c : UInt8} (h : lowC c = true) : nmC c = true := by simp [nmC, h]
theorem named_small {s : List UInt8} (h : namedP s = true) : smallP s = s := by
  match s, h with
  | c :: s, h =>
    simp only [namedP, Bool.and_eq_true] at h
    unfold smallP
    rw [List.map_cons, nm_small (low_nm h.1)]
    congr 1
    conv => rhs; rw [← List.map_id s]
    exact List.map_congr_left fun c hc => nm_small (List.all_eq_true.1 h.2 c hc)
/-- A right leaf. -/
theorem leaf_right {t : Tr} (ha : aloneP t = true) (hk : t.k = 1 ∨ t.k = 2 ∨ t.k = 3 ∨ t.k = 4) : leafT (leafTok t) = normT t ∧ aloneP (normT t) = true ∧ tkT t = [leafTok t] ∧ (leafTok t).kind ≠ 5 ∧ (leafTok t).kind ≠ 7 ∧ (leafTok t).kind ≠ 9 ∧ begins (leafTok t).kind = true ∧ eqT (normT t) t = true := by
  obtain ⟨k, s, lo, hi, mn, mx, r, ks⟩ := t
  simp only [Tr.k] at hk
  rcases hk with rfl | rfl | rfl | rfl
  · simp [aloneP, Tr.k, Tr.s, Tr.lo, Tr.hi, Tr.mn, Tr.mx, Tr.kids] at ha
    obtain ⟨h1, rfl, ⟨⟨rfl, rfl⟩, rfl⟩, rfl⟩ := ha
    simp [normT, tkT, leafTok, leafT, aloneP, eqT, eqTs, Tr.k, Tr.s, Tr.lo, Tr.hi, Tr.mn, Tr.mx, Tr.kids, named_small h1, h1]
    decide
  · simp [aloneP, Tr.k, Tr.s, Tr.lo, Tr.hi, Tr.mn, Tr.mx, Tr.kids] at ha
    obtain ⟨h1, rfl, ⟨⟨rfl, rfl⟩, rfl⟩, rfl⟩ := ha
    simp [normT, tkT, leafTok, leafT, aloneP, eqT, eqTs, Tr.k, Tr.s, Tr.lo, Tr.hi, Tr.mn, Tr.mx, Tr.kids]
    exact ⟨h1, by decide⟩
  · simp [aloneP, Tr.k, Tr.s, Tr.lo, Tr.hi, Tr.mn, Tr.mx, Tr.kids] at ha
    obtain ⟨h1, rfl, ⟨⟨rfl, rfl⟩, rfl⟩, rfl⟩ := ha
    simp [normT, tkT, leafTok, leafT, aloneP, eqT, eqTs, Tr.k, Tr.s, Tr.lo, Tr.hi, Tr.mn, Tr.mx, Tr.kids, h1]
    decide
  · simp [aloneP, Tr.k, Tr.s, Tr.lo, Tr.hi, Tr.mn, Tr.mx, Tr.kids] at ha
    obtain ⟨h1, rfl, ⟨rfl, rfl⟩, rfl⟩ := ha
    simp [normT, tkT, leafTok, leafT, aloneP, eqT, eqTs, Tr.k, Tr.s, Tr.lo, Tr.hi, Tr.mn, Tr.mx, Tr.kids, h1]
    exact ⟨of_decide_eq_true h1, by decide⟩

/-- With fuel enough a part is read so. -/
def Reads (g : List Tok → Nat → Nat → Option Pr) (ts : List Tok) (t : Tr) (stop : List Tok → Prop) : Prop := ∀ (L : List Tok) (a : Nat) (post : List Tok), L.drop a = ts ++ post → stop post → ∃ F, ∀ f, F ≤ f → g L f a = some (.ok t (a + ts.length))
theorem reads_leaf {t : Tr} (ha : aloneP t = true) (hk : t.k = 1 ∨ t.k = 2 ∨ t.k = 3 ∨ t.k = 4) : Reads (fun L f a => thingS L f a) (tkT t) (normT t) (fun _ => True) := by
  obtain ⟨h1, h2, h3, h5, h7, h9, hb, _⟩ := leaf_right ha hk
  intro L a post hL _
  rw [h3] at hL ⊢
  obtain ⟨e1, e2, e3⟩ := drop_kd hL
  refine ⟨1, fun f hf => ?_⟩
  obtain ⟨f, rfl⟩ : ∃ g, f = g + 1 := ⟨f - 1, by omega⟩
  unfold thingS
  rw [if_neg (by rw [e2]; exact not_or.2 ⟨h5, h7⟩), e1]
  simp [h1, h2]
theorem reads_br {ts : List Tok} {t' : Tr} (h : Reads (fun L f a => choicesS L f a []) ts t' stopC) : Reads (fun L f a => thingS L f a) ({ kind := 5 } :: (ts ++ [{ kind := 6 }])) t' (fun _ => True) := by
  intro L a post hL _
  obtain ⟨e1, e2, e3⟩ := drop_kd hL
  obtain ⟨F, hF⟩ := h L (a + 1) ({ kind := 6 } :: post) (by rw [e3]; simp) (fun x r e => by
    simp only [List.cons.injEq] at e
    rw [← e.1]
    exact ⟨by decide, by decide⟩)
  have hF : ∀ f, F ≤ f → choicesS L f (a + 1) [] = some (.ok t' (a + 1 + ts.length)) := hF
  refine ⟨F + 1, fun f hf => ?_⟩
  obtain ⟨f, rfl⟩ : ∃ g, f = g + 1 := ⟨f - 1, by omega⟩
  have h6 : L.drop (a + 1 + ts.length) = { kind := 6 } :: post := by
    rw [← List.drop_drop, e3]
    simp
  obtain ⟨g1, g2, g3⟩ := drop_kd h6
  have e2' : kd L a = 5 := e2
  have g2' : kd L (a + 1 + ts.length) = 6 := g2
  unfold thingS
  rw [if_pos (.inl e2'), hF f (by omega)]
  simp only [e2', g2']
  rw [if_pos (by decide), if_neg (by decide)]
  simp
  omega
theorem reads_part {ts : List Tok} {t' : Tr} (h : Reads (fun L f a => thingS L f a) ts t' (fun _ => True)) (h9 : ∃ x r, ts = x :: r ∧ x.kind ≠ 9) : Reads (fun L f a => partS L f a) ts t' (fun _ => True) := by
  intro L a post hL _
  obtain ⟨x, r, rfl, hx⟩ := h9
  obtain ⟨e1, e2, e3⟩ := drop_kd hL
  obtain ⟨F, hF⟩ := h L a post hL trivial
  have hF : ∀ f, F ≤ f → thingS L f a = some (.ok t' (a + (x :: r).length)) := hF
  refine ⟨F + 1, fun f hf => ?_⟩
  obtain ⟨f, rfl⟩ : ∃ g, f = g + 1 := ⟨f - 1, by omega⟩
  unfold partS
  rw [e1]
  simp only
  rw [if_neg hx, hF f (by omega)]
theorem reads_times {t x : Tr} (ha : aloneP t = true) (hk : t.k = 7) (hx : t.kids = [x]) (h : Reads (fun L f a => thingS L f a) (bt 7 x) (normT x) (fun _ => True)) : Reads (fun L f a => partS L f a) (tkT t) (normT t) (fun _ => True) := by
  intro L a post hL _
  have htk : tkT t = { kind := 9, mn := t.mn, mx := t.mx } :: bt 7 x := by rw [tkT_eq, if_pos hk, hx, tkB_cons]; simp
  rw [htk] at hL ⊢
  obtain ⟨e1, e2, e3⟩ := drop_kd hL
  obtain ⟨F, hF⟩ := h L (a + 1) post e3 trivial
  have hF : ∀ f, F ≤ f → thingS L f (a + 1) = some (.ok (normT x) (a + 1 + (bt 7 x).length)) := hF
  refine ⟨F + 1, fun f hf => ?_⟩
  obtain ⟨f, rfl⟩ : ∃ g, f = g + 1 := ⟨f - 1, by omega⟩
  have h7 : aloneP (timesT t.mn t.mx zeroT) = true := by
    rw [times7_eq]
    obtain ⟨_, h2, h3, h4, h5, h6⟩ := alone7 ha hk
    simp only [times7, decide_eq_true_eq]
    omega
  have hn : normT t = timesT t.mn t.mx (normT x) := by rw [normT_eq, if_pos hk, hx]; rfl
  show partS L (f + 1) a = _
  unfold partS
  rw [e1]
  simp only [if_true]
  rw [if_pos h7, hF f (by omega), hn]
  simp
  omega
theorem reads_row {ts : List Tok} {t' : Tr} (h : Reads (fun L f a => partS L f a) ts t' (fun _ => True)) : Reads (fun L f a => rowS L f a []) ts t' stopR := by
  intro L a post hL hs
  obtain ⟨F, hF⟩ := h L a post hL trivial
  have hF : ∀ f, F ≤ f → partS L f a = some (.ok t' (a + ts.length)) := hF
  have hd : L.drop (a + ts.length) = post := by rw [← List.drop_drop, hL]; simp
  have hb := stop_kd hd hs
  refine ⟨F + 2, fun f hf => ?_⟩
  obtain ⟨f, rfl⟩ : ∃ g, f = g + 2 := ⟨f - 2, by omega⟩
  show rowS L (f + 2) a [] = _
  unfold rowS
  rw [if_pos (by simp), hF (f + 1) (by omega)]
  simp only [List.nil_append]
  unfold rowS
  rw [if_neg (by simp [hb])]
  rfl
theorem reads_choice {ts : List Tok} {t' : Tr} (h : Reads (fun L f a => rowS L f a []) ts t' stopR) : Reads (fun L f a => choicesS L f a []) ts t' stopC := by
  intro L a post hL hs
  obtain ⟨F, hF⟩ := h L a post hL hs.R
  have hF : ∀ f, F ≤ f → rowS L f a [] = some (.ok t' (a + ts.length)) := hF
  have hd : L.drop (a + ts.length) = post := by rw [← List.drop_drop, hL]; simp
  have hb := stop_kd4 hd hs
  refine ⟨F + 1, fun f hf => ?_⟩
  obtain ⟨f, rfl⟩ : ∃ g, f = g + 1 := ⟨f - 1, by omega⟩
  show choicesS L (f + 1) a [] = _
  unfold choicesS
  rw [hF f (by omega)]
  simp only
  rw [if_neg hb]
  rfl
theorem tkB5 (t : Tr) (ts : List Tr) : tkB 5 [] (t :: ts) = bt 5 t ++ tkB 5 [] ts := by
  rw [tkB_cons]
  cases ts <;> simp [tkB]
theorem rows_list : ∀ (ks : List Tr) (acc : List Tr) (L : List Tok) (a : Nat) (post : List Tok), (∀ k ∈ ks, Reads (fun L f a => partS L f a) (bt 5 k) (normT k) (fun _ => True) ∧ ∃ x r, bt 5 k = x :: r ∧ begins x.kind = true) →
    L.drop a = tkB 5 [] ks ++ post → stopR post → (acc ≠ [] ∨ ks ≠ []) → ∃ F, ∀ f, F ≤ f → rowS L f a acc = some (.ok (joinT 5 (acc ++ ks.map normT)) (a + (tkB 5 [] ks).length))
  | [], acc, L, a, post, _, hL, hs, hne => by
    simp only [tkB, List.nil_append] at hL
    have hb := stop_kd hL hs
    have hacc : acc ≠ [] := by rcases hne with h | h; exact h; exact absurd rfl h
    have he : acc.isEmpty = false := by cases acc; exact absurd rfl hacc; rfl
    refine ⟨1, fun f hf => ?_⟩
    obtain ⟨f, rfl⟩ : ∃ g, f = g + 1 := ⟨f - 1, by omega⟩
    unfold rowS
    rw [if_neg (by simp [he, hb])]
    simp [tkB]
  | t :: ks, acc, L, a, post, hk, hL, hs, hne => by
    rw [tkB5] at hL ⊢
    obtain ⟨h1, x, r, hx, hbx⟩ := hk t List.mem_cons_self
    rw [List.append_assoc] at hL
    obtain ⟨F1, hF1⟩ := h1 L a (tkB 5 [] ks ++ post) hL trivial
    have hF1 : ∀ f, F1 ≤ f → partS L f a = some (.ok (normT t) (a + (bt 5 t).length)) := hF1
    have hd : L.drop (a + (bt 5 t).length) = tkB 5 [] ks ++ post := by rw [← List.drop_drop, hL]; simp
    obtain ⟨F2, hF2⟩ := rows_list ks (acc ++ [normT t]) L (a + (bt 5 t).length) post (fun k hk' => hk k (List.mem_cons_of_mem _ hk')) hd hs (.inl (by simp))
    have hkd : begins (kd L a) = true := by
      rw [hx] at hL
      rw [(drop_kd hL).2.1]
      exact hbx
    refine ⟨max F1 F2 + 1, fun f hf => ?_⟩
    obtain ⟨f, rfl⟩ : ∃ g, f = g + 1 := ⟨f - 1, by omega⟩
    unfold rowS
    rw [if_pos (by simp [hkd]), hF1 f (by omega)]
    simp only
    rw [hF2 f (by omega)]
    simp
    omega
theorem choices_list : ∀ (ks : List Tr) (acc : List Tr) (L : List Tok) (a : Nat) (post : List Tok), (∀ k ∈ ks, Reads (fun L f a => rowS L f a []) (bt 6 k) (normT k) stopR) →
    L.drop a = tkB 6 [{ kind := 4 }] ks ++ post → stopC post → ks ≠ [] → ∃ F, ∀ f, F ≤ f → choicesS L f a acc = some (.ok (joinT 6 (acc ++ ks.map normT)) (a + (tkB 6 [{ kind := 4 }] ks).length))
  | [], acc, L, a, post, _, _, _, hne => absurd rfl hne
  | [t], acc, L, a, post, hk, hL, hs, _ => by
    rw [tkB_cons] at hL ⊢
    simp only [List.isEmpty_nil, if_true, List.append_nil] at hL ⊢
    obtain ⟨F, hF⟩ := hk t List.mem_cons_self L a post hL hs.R
    have hF : ∀ f, F ≤ f → rowS L f a [] = some (.ok (normT t) (a + (bt 6 t).length)) := hF
    have hd : L.drop (a + (bt 6 t).length) = post := by rw [← List.drop_drop, hL]; simp
    have hb := stop_kd4 hd hs
    refine ⟨F + 1, fun f hf => ?_⟩
    obtain ⟨f, rfl⟩ : ∃ g, f = g + 1 := ⟨f - 1, by omega⟩
    unfold choicesS
    rw [hF f (by omega)]
    simp only
    rw [if_neg hb]
    simp
  | t :: u :: ks, acc, L, a, post, hk, hL, hs, _ => by
    rw [tkB_cons] at hL ⊢
    simp only [List.isEmpty_cons, Bool.false_eq_true, if_false, List.append_assoc] at hL ⊢
    obtain ⟨F1, hF1⟩ := hk t List.mem_cons_self L a _ hL (fun x r e => by
      simp only [List.cons_append, List.nil_append, List.cons.injEq] at e
      rw [← e.1]
      decide)
    have hF1 : ∀ f, F1 ≤ f → rowS L f a [] = some (.ok (normT t) (a + (bt 6 t).length)) := hF1
    have hd : L.drop (a + (bt 6 t).length) = { kind := 4 } :: (tkB 6 [{ kind := 4 }] (u :: ks) ++ post) := by rw [← List.drop_drop, hL]; simp
    obtain ⟨e1, e2, e3⟩ := drop_kd hd
    obtain ⟨F2, hF2⟩ := choices_list (u :: ks) (acc ++ [normT t]) L (a + (bt 6 t).length + 1) post (fun k hk' => hk k (List.mem_cons_of_mem _ hk')) e3 hs (by simp)
    refine ⟨max F1 F2 + 1, fun f hf => ?_⟩
    obtain ⟨f, rfl⟩ : ∃ g, f = g + 1 := ⟨f - 1, by omega⟩
    unfold choicesS
    rw [hF1 f (by omega)]
    simp only
    rw [if_pos e2, hF2 f (by omega)]
    simp
    omega
theorem first_tok {d : Nat} {t : Tr} (hf : fitsP d t = true) (h5 : t.k ≠ 5) (h6 : t.k ≠ 6) : ∃ x r, tkT t = x :: r ∧ begins x.kind = true := by
  have ha := fits_alone hf
  by_cases h7 : t.k = 7
  · exact ⟨_, _, by rw [tkT_eq, if_pos h7], (by decide : begins 9 = true)⟩
  · have hk : t.k = 1 ∨ t.k = 2 ∨ t.k = 3 ∨ t.k = 4 := by
      rcases alone_kinds ha with k | k | k | k | k | k | k
      · exact .inl k
      · exact .inr (.inl k)
      · exact .inr (.inr (.inl k))
      · exact .inr (.inr (.inr k))
      · exact absurd k h5
      · exact absurd k h6
      · exact absurd k h7
    obtain ⟨_, _, h3, _, _, _, hb, _⟩ := leaf_right ha hk
    exact ⟨_, _, h3, hb⟩
theorem alone_two {t : Tr} (ha : aloneP t = true) (hk : t.k = 5 ∨ t.k = 6) : 2 ≤ t.kids.length ∧ t.s = [] ∧ t.lo = 0 ∧ t.hi = 0 ∧ t.mn = 0 ∧ t.mx = 0 := by
  obtain ⟨k, s, lo, hi, mn, mx, r, ks⟩ := t
  simp only [Tr.k] at hk
  rcases hk with rfl | rfl
  · simp [aloneP, Tr.k, Tr.s, Tr.lo, Tr.hi, Tr.mn, Tr.mx, Tr.kids] at ha ⊢
    have := of_decide_eq_true ha.1
    simp_all
  · simp [aloneP, Tr.k, Tr.s, Tr.lo, Tr.hi, Tr.mn, Tr.mx, Tr.kids] at ha ⊢
    have := of_decide_eq_true ha.1
    simp_all
theorem joinT_two (k : UInt8) : ∀ l : List Tr, 2 ≤ l.length → joinT k l = rowT k l
  | [], h => by simp at h
  | [_], h => by simp at h
  | _ :: _ :: _, _ => rfl
theorem eqTs_map {l : List Tr} (h : ∀ t ∈ l, eqT (normT t) t = true) : eqTs (l.map normT) l = true := by
  induction l with
  | nil => rfl
  | cons t l ih =>
    simp only [List.map_cons, eqTs]
    rw [h t List.mem_cons_self, ih fun u hu => h u (List.mem_cons_of_mem _ hu)]
    rfl
/-- A right tree's tokens are read as that tree. -/
theorem reads_tree : ∀ (n d : Nat) (t : Tr), t.size ≤ n → fitsP d t = true → Reads (fun L f a => choicesS L f a []) (tkT t) (normT t) stopC ∧ (t.k ≠ 6 → Reads (fun L f a => rowS L f a []) (tkT t) (normT t) stopR) ∧
    (t.k ≠ 5 → t.k ≠ 6 → Reads (fun L f a => partS L f a) (tkT t) (normT t) (fun _ => True)) ∧ eqT (normT t) t = true
  | 0, d, t, hn, _ => by cases t; simp [Tr.size] at hn
  | n + 1, d, t, hn, hf => by
    have ha := fits_alone hf
    have ih : ∀ k ∈ t.kids, _ := fun k hk => reads_tree n (d - 1) k (by have := Tr.size_kid hk; omega) (fits_kid hf hk)
    have kk : ∀ x ∈ t.kids, x.k = 1 ∨ x.k = 2 ∨ x.k = 3 ∨ x.k = 4 ∨ x.k = 5 ∨ x.k = 6 ∨ x.k = 7 := fun x hx => alone_kinds (fits_alone (fits_kid hf hx))
    have br : ∀ (m : UInt8) k, k ∈ t.kids → needs m k.k = true → Reads (fun L f a => thingS L f a) (bt m k) (normT k) (fun _ => True) ∧ ∃ x r, bt m k = x :: r ∧ x.kind ≠ 9 ∧ begins x.kind = true := fun m k hk hm => by
      have e : bt m k = { kind := 5 } :: (tkT k ++ [{ kind := 6 }]) := by unfold bt; rw [if_pos hm]
      rw [e]
      exact ⟨reads_br (ih k hk).1, _, _, rfl, by decide, by decide⟩
    have leafR : ∀ (k : Tr) {d : Nat}, fitsP d k = true → (k.k = 1 ∨ k.k = 2 ∨ k.k = 3 ∨ k.k = 4) → Reads (fun L f a => thingS L f a) (tkT k) (normT k) (fun _ => True) ∧ ∃ x r, tkT k = x :: r ∧ x.kind ≠ 9 ∧ begins x.kind = true := fun k d hfk hk => by
      obtain ⟨_, _, h3, _, _, h9, hb, _⟩ := leaf_right (fits_alone hfk) hk
      exact ⟨reads_leaf (fits_alone hfk) hk, _, _, h3, h9, hb⟩
    by_cases h7 : t.k = 7
    · obtain ⟨a1, _⟩ := alone7 ha h7
      obtain ⟨x, hx⟩ : ∃ x, t.kids = [x] := by
        match t.kids, a1 with
        | [x], _ => exact ⟨x, rfl⟩
      have hxm : x ∈ t.kids := by rw [hx]; simp
      have hT : Reads (fun L f a => thingS L f a) (bt 7 x) (normT x) (fun _ => True) := by
        by_cases hm : needs 7 x.k = true
        · exact (br 7 x hxm hm).1
        · have hk : x.k = 1 ∨ x.k = 2 ∨ x.k = 3 ∨ x.k = 4 := by
            rcases kk x hxm with e | e | e | e | e | e | e
            · exact .inl e
            · exact .inr (.inl e)
            · exact .inr (.inr (.inl e))
            · exact .inr (.inr (.inr e))
            all_goals rw [e] at hm; exact absurd (by decide) hm
          have e : bt 7 x = tkT x := by unfold bt; rw [if_neg hm]
          rw [e]
          exact (leafR x (fits_kid hf hxm) hk).1
      have hP := reads_times ha h7 hx hT
      refine ⟨reads_choice (reads_row hP), fun _ => reads_row hP, fun _ _ => hP, ?_⟩
      rw [eqT_eq, normT_eq, if_pos h7]
      have hz : t.s = [] ∧ t.lo = 0 ∧ t.hi = 0 := by
        unfold aloneP at ha
        simp [h7] at ha
        exact ⟨ha.2.1.1, ha.2.1.2, ha.2.2⟩
      have he := eqTs_map fun k hk => (ih k hk).2.2.2
      obtain ⟨z1, z2, z3⟩ := hz
      rw [z1, z2, z3, h7]
      simp [Tr.k, Tr.s, Tr.lo, Tr.hi, Tr.mn, Tr.mx]
      exact he
    by_cases h56 : t.k = 5 ∨ t.k = 6
    · obtain ⟨q1, q2, q3, q4, q5, q6⟩ := alone_two ha h56
      have hn : normT t = rowT t.k (t.kids.map normT) := by rw [normT_eq, if_neg h7, if_pos h56]; rfl
      have he : eqT (normT t) t = true := by
        rw [eqT_eq, hn, q2, q3, q4, q5, q6]
        have he := eqTs_map fun k hk => (ih k hk).2.2.2
        simp [rowT, Tr.k, Tr.s, Tr.lo, Tr.hi, Tr.mn, Tr.mx]
        exact he
      have hne : t.kids ≠ [] := by intro e; rw [e] at q1; simp at q1
      by_cases h5 : t.k = 5
      · have hR : Reads (fun L f a => rowS L f a []) (tkT t) (normT t) stopR := by
          intro L a post hL hs
          have htk : tkT t = tkB 5 [] t.kids := by rw [tkT_eq, if_neg h7, if_pos h5]
          rw [htk] at hL ⊢
          obtain ⟨F, hF⟩ := rows_list t.kids [] L a post (fun k hk => by
            by_cases hm : needs 5 k.k = true
            · obtain ⟨b1, x, r, b2, b3, b4⟩ := br 5 k hk hm
              exact ⟨reads_part b1 ⟨x, r, b2, b3⟩, x, r, b2, b4⟩
            · have e : bt 5 k = tkT k := by unfold bt; rw [if_neg hm]
              have k5 : k.k ≠ 5 := fun h => hm (by rw [h]; decide)
              have k6 : k.k ≠ 6 := fun h => hm (by rw [h]; decide)
              rw [e]
              exact ⟨(ih k hk).2.2.1 k5 k6, first_tok (fits_kid hf hk) k5 k6⟩) hL hs (.inr hne)
          refine ⟨F, fun f hf => ?_⟩
          show rowS L f a [] = _
          rw [hF f hf, hn, h5, List.nil_append, joinT_two 5 _ (by simpa using q1)]
        exact ⟨reads_choice hR, fun _ => hR, fun h => absurd h5 h, he⟩
      · have h6 : t.k = 6 := by rcases h56 with h | h; exact absurd h h5; exact h
        refine ⟨?_, fun h => absurd h6 h, fun _ h => absurd h6 h, he⟩
        intro L a post hL hs
        have htk : tkT t = tkB 6 [{ kind := 4 }] t.kids := by rw [tkT_eq, if_neg h7, if_neg h5, if_pos h6]
        rw [htk] at hL ⊢
        obtain ⟨F, hF⟩ := choices_list t.kids [] L a post (fun k hk => by
          by_cases hm : needs 6 k.k = true
          · obtain ⟨b1, x, r, b2, b3, b4⟩ := br 6 k hk hm
            exact reads_row (reads_part b1 ⟨x, r, b2, b3⟩)
          · have e : bt 6 k = tkT k := by unfold bt; rw [if_neg hm]
            have k6 : k.k ≠ 6 := fun h => hm (by rw [h]; decide)
            rw [e]
            exact (ih k hk).2.1 k6) hL hs hne
        refine ⟨F, fun f hf => ?_⟩
        show choicesS L f a [] = _
        rw [hF f hf, hn, h6, List.nil_append, joinT_two 6 _ (by simpa using q1)]
    · obtain ⟨h5, h6⟩ := not_or.1 h56
      have hk : t.k = 1 ∨ t.k = 2 ∨ t.k = 3 ∨ t.k = 4 := by
        rcases alone_kinds ha with k | k | k | k | k | k | k
        · exact .inl k
        · exact .inr (.inl k)
        · exact .inr (.inr (.inl k))
        · exact .inr (.inr (.inr k))
        · exact absurd k h5
        · exact absurd k h6
        · exact absurd k h7
      obtain ⟨b1, x, r, b2, b3, b4⟩ := leafR t hf hk
      have hP := reads_part b1 ⟨x, r, b2, b3⟩
      exact ⟨reads_choice (reads_row hP), fun _ => reads_row hP, fun _ _ => hP, (leaf_right ha hk).2.2.2.2.2.2.2⟩
end Go.Proofs.YtmmapbhhkmchcaaDoor
