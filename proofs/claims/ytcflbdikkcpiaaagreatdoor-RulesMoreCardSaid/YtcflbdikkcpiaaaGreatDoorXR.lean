/-
  Many lines, each a rule or more of one.
-/
import Derived.Test.YtcflbdikkcpiaaaGreatDoorXL
import Derived.Test.YtcflbdikkcpiaaaGreatDoorXQ
set_option linter.unusedVariables false
set_option linter.unusedSimpArgs false
namespace Go.Proofs.YtcflbdikkcpiaaaGreatDoor
open Go Go.Am
theorem fits_mono : ∀ (d e : Nat) (t : Tr), d ≤ e → fitsP d t = true → fitsP e t = true
 | 0, e, t, _, h => by simp [fitsP] at h
 | d + 1, 0, t, hde, h => by omega
 | d + 1, e + 1, t, hde, h => by
  simp only [fitsP, Bool.and_eq_true] at h ⊢
  exact ⟨h.1, List.all_eq_true.2 fun k hk => fits_mono d e k (by omega) (List.all_eq_true.1 h.2 k hk)⟩
structure LineOk (p : List UInt8) : Prop where
 letter : ∃ c r, p = c :: r ∧ letC c = true
 no10 : ¬ (10 : UInt8) ∈ p
 no13 : ¬ (13 : UInt8) ∈ p
 fine : ∀ off, (lineP p off (p.length + 2) 0 []).2 = (0, 0)
theorem LineOk.of_lx {c : UInt8} {r : List UInt8} {ts : List Tok} {P : List UInt8 → Prop} (hc : letC c = true) (hL : LX (c :: r) ts P) (hP : P []) : LineOk (c :: r) := by
 refine ⟨⟨c, r, rfl, hc⟩, ok_no10 hL.1, fun hm => absurd (List.all_eq_true.1 hL.1 13 hm) (by decide), fun off => ?_⟩
 obtain ⟨o, ho, _⟩ := lx_line hL hP off
 rw [ho]
theorem cutB_line {p q : List UInt8} (h : ¬ (10 : UInt8) ∈ p) : cutB (p ++ 10 :: q) 10 = p := by
 unfold cutB
 rw [List.takeWhile_append_of_pos (fun x hx => by simp only [bne_iff_ne]; intro e; rw [e] at hx; exact h hx)]
 simp
theorem trim13 {p : List UInt8} (h : ¬ (13 : UInt8) ∈ p) : trimSuf p [13] = p := by
 unfold trimSuf
 rw [if_neg]
 rintro ⟨h1, h2⟩
 have h3 : ∀ n, p.drop n = [13] → False := fun n hn => by
  have : (13 : UInt8) ∈ p.drop n := by rw [hn]; simp
  exact h (List.mem_of_mem_drop this)
 exact h3 _ h2
theorem lexF_line {src p q : List UInt8} {a f : Nat} {any : Bool} {out : List Tok} (h : LineOk p) (hd : src.drop a = p ++ 10 :: q) (ha : a < src.length) :
  lexF src (f + 1) a any out = lexF src f (a + p.length + 1) true ((if any then out ++ [{ kind := 13, pos := (a : Int) }] else out) ++ (lineP p a (p.length + 2) 0 []).1) := by
 have h10 := h.no10
 have h13 := h.no13
 have ho := h.fine a
 obtain ⟨c, r, rfl, hc⟩ := h.letter
 have hcut : cutB (src.drop a) 10 = c :: r := by rw [hd]; exact cutB_line h10
 have hcutL : cutL (src.drop a) = c :: r := by
  unfold cutL
  rw [if_pos (by rw [hd]; simp), hcut, trim13 h13]
 have f0 := allU8 (p := fun c => !letC c || ((c != 59) && !blkC c)) (by decide +kernel) c
 simp only [hc, Bool.not_true, Bool.false_or, Bool.and_eq_true, Bool.not_eq_true', bne_iff_ne] at f0
 have hn : runN blkC (c :: r) = 0 := by simp [runN, f0.2]
 conv => lhs; unfold lexF
 rw [if_pos ha]
 simp only [hcutL, hn, List.getElem?_cons_zero, hcut]
 rw [if_neg f0.1, if_neg (by simp [hc]), if_neg (by rw [ho]; simp)]
 cases any <;> simp
def lineToks : Nat → List (List UInt8) → List Tok
 | _, [] => []
 | a, p :: ps => (lineP p a (p.length + 2) 0 []).1 ++ { kind := 13, pos := ((a + p.length + 1 : Nat) : Int) } :: lineToks (a + p.length + 1) ps
def joinL (ps : List (List UInt8)) : List UInt8 := ps.flatMap fun p => p ++ [10]
theorem joinL_cons (p : List UInt8) (ps : List (List UInt8)) : joinL (p :: ps) = p ++ 10 :: joinL ps := by simp [joinL]
theorem lexF_lines {src : List UInt8} : ∀ (ps : List (List UInt8)) (a f : Nat) (any : Bool) (out : List Tok), (∀ p ∈ ps, LineOk p) → src.drop a = joinL ps → a ≤ src.length → ps.length < f → (ps = [] → any = true) →
  lexF src f a any out = ((if any then out ++ [{ kind := 13, pos := (a : Int) }] else out) ++ lineToks a ps, 0, 0)
 | [], a, f, any, out, _, hd, ha, hf, hany => by
  obtain ⟨f, rfl⟩ : ∃ g, f = g + 1 := ⟨f - 1, by omega⟩
  have hal : a = src.length := by
   simp [joinL] at hd
   omega
  subst hal
  unfold lexF
  rw [if_neg (by omega), hany rfl]
  simp [lineToks]
 | p :: ps, a, f, any, out, hp, hd, ha, hf, _ => by
  obtain ⟨f, rfl⟩ : ∃ g, f = g + 1 := ⟨f - 1, by omega⟩
  have hts := hp p List.mem_cons_self
  rw [joinL_cons] at hd
  have hal : a < src.length := by
   have := congrArg List.length hd
   simp at this
   omega
  have h1 := lexF_line (f := f) (any := any) (out := out) hts hd hal
  have hd2 : src.drop (a + p.length + 1) = joinL ps := by
   rw [Nat.add_assoc, ← List.drop_drop, hd, ← List.drop_drop, List.drop_left' rfl]
   rfl
  have hle : a + p.length + 1 ≤ src.length := by
   have := congrArg List.length hd
   simp at this
   omega
  rw [h1, lexF_lines ps (a + p.length + 1) f true _ (fun q hq => hp q (List.mem_cons_of_mem _ hq)) hd2 hle (by simp at hf; omega) (fun _ => rfl)]
  have e : lineToks a (p :: ps) = (lineP p a (p.length + 2) 0 []).1 ++ { kind := 13, pos := ((a + p.length + 1 : Nat) : Int) } :: lineToks (a + p.length + 1) ps := rfl
  rw [e]
  cases any <;> simp
theorem lexP_lines {ps : List (List UInt8)} (hp : ∀ p ∈ ps, LineOk p) (hne : ps ≠ []) (hl : (joinL ps).length ≤ 65536) : lexP (joinL ps) = (lineToks 0 ps, 0, 0) := by
 unfold lexP
 rw [if_neg (by omega)]
 have hlen : ∀ l : List (List UInt8), l.length ≤ (joinL l).length := fun l => by
  induction l with
  | nil => simp [joinL]
  | cons p l ih => rw [joinL_cons]; simp; omega
 have := hlen ps
 rw [lexF_lines ps 0 _ false [] hp (by simp) (Nat.zero_le _) (by omega) (fun h => absurd h hne)]
 simp
def toksL (p : List UInt8) (off : Nat) : List Tok := (lineP p off (p.length + 2) 0 []).1
def endT (n : Nat) : Tok := { kind := 13, pos := (n : Int) }
theorem lineToks_cons (a : Nat) (p : List UInt8) (ps : List (List UInt8)) : lineToks a (p :: ps) = toksL p a ++ endT (a + p.length + 1) :: lineToks (a + p.length + 1) ps := rfl
theorem lineToks_len : ∀ (ps : List (List UInt8)) (a : Nat), ps.length ≤ (lineToks a ps).length
 | [], a => by simp
 | p :: ps, a => by
  rw [lineToks_cons]
  have := lineToks_len ps (a + p.length + 1)
  simp
  omega
theorem lineP_pre (s : List UInt8) (off : Nat) : ∀ (f i : Nat) (out : List Tok), (lineP s off f i out).2 = (0, 0) → ∃ o, (lineP s off f i out).1 = out ++ o
 | 0, i, out, _ => ⟨[], by simp [lineP]⟩
 | f + 1, i, out, h => by
  unfold lineP at h ⊢
  cases e : s[i]? with
  | none => exact ⟨[], by simp⟩
  | some c =>
   rw [e] at h
   simp only at h ⊢
   by_cases h1 : c = 59
   ·rw [if_pos h1] at h ⊢; exact ⟨[], by simp⟩
   ·rw [if_neg h1] at h ⊢
    by_cases h2 : blkC c = true
    ·rw [if_pos h2] at h ⊢; exact lineP_pre s off f (i + 1) out h
    ·rw [if_neg h2] at h ⊢
     by_cases h3 : (readP c (s.drop i)).err = 0
     ·rw [if_neg (by simpa using h3)] at h ⊢
      obtain ⟨o, ho⟩ := lineP_pre s off f _ _ h
      exact ⟨_, by rw [ho, List.append_assoc]⟩
     ·rw [if_pos h3] at h
      simp only [Prod.mk.injEq] at h
      exact absurd h.2 h3
theorem toks_head {p : List UInt8} (h : LineOk p) (off : Nat) : ∃ t o, toksL p off = t :: o ∧ t.pos = (off : Int) := by
 have hf := h.fine off
 obtain ⟨c, r, rfl, hc⟩ := h.letter
 have f0 := allU8 (p := fun c => !letC c || ((c != 59) && !blkC c)) (by decide +kernel) c
 simp only [hc, Bool.not_true, Bool.false_or, Bool.and_eq_true, Bool.not_eq_true', bne_iff_ne] at f0
 unfold toksL
 unfold lineP at hf ⊢
 simp only [List.getElem?_cons_zero] at hf ⊢
 rw [if_neg f0.1, if_neg (by simp [f0.2])] at hf ⊢
 by_cases h3 : (readP c ((c :: r).drop 0)).err = 0
 ·rw [if_neg (by simpa using h3)] at hf ⊢
  obtain ⟨o, ho⟩ := lineP_pre _ off _ _ _ hf
  rw [ho]
  exact ⟨_, o, rfl, by simp⟩
 ·rw [if_pos h3] at hf
  simp only [Prod.mk.injEq] at hf
  exact absurd hf.2 h3
structure RuleLnM (p nm : List UInt8) (more : Bool) (t : Tr) : Prop where
 ok : LineOk p
 parse : ∀ (L : List Tok) (a off n : Nat) (rest : List Tok), L.drop a = toksL p off ++ endT n :: rest → ruleS L a = .ok ⟨nm, off, more, t⟩ (a + ((toksL p off).length + 1))
theorem ruleLnM (more : Bool) {c : UInt8} {nm body : List UInt8} {ts : List Tok} {t : Tr} (h1 : letC c = true) (h2 : nm.all namC = true) (h3 : namedP (smallP (c :: nm)) = true) (hb : LX body ts sepR) (hr : Reads (fun L f a => choicesS L f a []) ts t stopC) :
  RuleLnM (c :: nm ++ ((if more then [32, 61, 47, 32] else [32, 61, 32]) ++ body)) (smallP (c :: nm)) more t := by
 have hsign : LX (if more then [32, 61, 47, 32] else [32, 61, 32]) [{ kind := if more then 3 else 2 }] anyR := by
  cases more
  ·have := LX.blank.app ((lx_is.app LX.blank fun rest _ => sep32 rest)) fun _ _ => trivial
   simpa using this
  ·have := LX.blank.app ((lx_more.app LX.blank fun rest _ => trivial)) fun _ _ => trivial
   simpa using this
 have hL := (lx_nameG h1 h2).app (hsign.app hb fun _ _ => trivial) fun rest _ => by
  cases more <;> exact sep32 _
 have hok : LineOk (c :: nm ++ ((if more then [32, 61, 47, 32] else [32, 61, 32]) ++ body)) := by
  have := LineOk.of_lx (c := c) (r := nm ++ ((if more then [32, 61, 47, 32] else [32, 61, 32]) ++ body)) (P := sepR) h1 (by simpa using hL) (fun c r e => by cases e)
  simpa using this
 refine ⟨hok, fun L a off n rest hd => ?_⟩
 obtain ⟨x, o, hx, hxp⟩ := toks_head hok off
 obtain ⟨o', ho, hm⟩ := lx_line hL (fun c r e => by cases e) off
 have hto : toksL (c :: nm ++ ((if more then [32, 61, 47, 32] else [32, 61, 32]) ++ body)) off = o' := by unfold toksL; rw [ho]
 rw [hto] at hd hx ⊢
 subst hx
 have hm' : (x :: o).map akk = { kind := 1, text := c :: nm } :: { kind := if more then 3 else 2 } :: ts := by rw [hm]; simp
 have hlen : (x :: o).length = 2 + ts.length := by
  have := congrArg List.length hm'
  simp at this ⊢
  omega
 obtain ⟨y, o2, rfl⟩ : ∃ y o2, o = y :: o2 := by
  cases o with
  | nil => simp at hm'
  | cons y o2 => exact ⟨y, o2, rfl⟩
 simp only [List.map_cons, List.cons.injEq] at hm'
 obtain ⟨e1, e2, e3⟩ := hm'
 have hd1 : L.drop (a + 1) = y :: (o2 ++ endT n :: rest) := by rw [← List.drop_drop, hd]; rfl
 have hd2 : L.drop (a + 2) = o2 ++ endT n :: rest := by rw [← List.drop_drop, hd]; rfl
 have ga : L[a]? = some x := (drop_kd hd).1
 have gk : kd L (a + 1) = if more then 3 else 2 := by rw [(drop_kd hd1).2.1]; exact congrArg Tok.kind e2
 have xk : x.kind = 1 := congrArg Tok.kind e1
 have xt : x.text = c :: nm := congrArg Tok.text e1
 have hd2' : (L.map akk).drop (a + 2) = ts ++ (endT n :: rest).map akk := by
  rw [← List.map_drop, hd2, List.map_append, e3]
 have hcho := choP_reads hr hd2' fun z r e => by
  simp only [List.map_cons, List.cons.injEq] at e
  rw [← e.1]
  exact ⟨rfl, fun h => absurd (show (13 : UInt8) = 4 from h) (by decide)⟩
 have hke : kd L (a + 2 + ts.length) = 13 := by
  have : L.drop (a + 2 + ts.length) = endT n :: rest := by
   rw [← List.drop_drop, hd2, List.drop_left' (by rw [← e3]; simp)]
  rw [(drop_kd this).2.1]
  rfl
 have hal : aloneP (leafT x) = true := by
  simp [leafT, xk, xt, aloneP, Tr.k, Tr.s, Tr.lo, Tr.hi, Tr.mn, Tr.mx, Tr.kids, h3]
 unfold ruleS
 rw [ga]
 simp only
 rw [if_pos ⟨xk, hal⟩, if_pos (by rw [gk]; cases more <;> simp), hcho]
 simp only
 rw [if_pos hke, xt, gk, hxp, hlen]
 cases more <;> simp <;> omega
structure Ln where
 p : List UInt8
 nm : List UInt8
 more : Bool
 t : Tr
def lnK (x : Ru) : List UInt8 × Bool × Tr := (x.name, x.more, x.tree)
theorem rules_linesM {L : List Tok} : ∀ (xs : List Ln) (a off f : Nat) (out : List Ru) (rest : List Tok), (∀ x ∈ xs, RuleLnM x.p x.nm x.more x.t ∧ fitsP 100 x.t = true) → L.drop a = lineToks off (xs.map Ln.p) ++ rest →
  ∃ out', out'.map lnK = xs.map (fun x => (x.nm, x.more, x.t)) ∧ rulesS L (f + xs.length) a out = rulesS L f (a + (lineToks off (xs.map Ln.p)).length) (out ++ out')
 | [], a, off, f, out, rest, _, _ => ⟨[], rfl, by simp [lineToks]⟩
 | x :: xs, a, off, f, out, rest, hp, hd => by
  obtain ⟨hr, hf⟩ := hp x List.mem_cons_self
  rw [List.map_cons, lineToks_cons] at hd
  simp only [List.append_assoc, List.cons_append] at hd
  have h1 := hr.parse L a off _ _ hd
  have hlt : a < L.length := by
   have := congrArg List.length hd
   simp at this
   omega
  have hd2 : L.drop (a + ((toksL x.p off).length + 1)) = lineToks (off + x.p.length + 1) (xs.map Ln.p) ++ rest := by
   rw [← List.drop_drop, hd, ← List.drop_drop, List.drop_left' rfl]
   rfl
  obtain ⟨out', h2, h3⟩ := rules_linesM xs (a + ((toksL x.p off).length + 1)) (off + x.p.length + 1) f (out ++ [⟨x.nm, off, x.more, x.t⟩]) rest (fun q hq => hp q (List.mem_cons_of_mem _ hq)) hd2
  refine ⟨⟨x.nm, off, x.more, x.t⟩ :: out', by simp [h2, lnK], ?_⟩
  rw [List.length_cons, ← Nat.add_assoc]
  conv => lhs; unfold rulesS
  rw [if_pos hlt, h1]
  simp only
  rw [if_pos hf, h3, List.map_cons, lineToks_cons]
  simp only [List.length_append, List.length_cons, List.append_assoc, List.cons_append, List.nil_append]
  congr 1
  omega
theorem ofP_lines {xs : List Ln} (hp : ∀ x ∈ xs, RuleLnM x.p x.nm x.more x.t ∧ fitsP 100 x.t = true) (hne : xs ≠ []) (hl : (joinL (xs.map Ln.p)).length ≤ 65536) : ∃ rs, rs.map lnK = xs.map (fun x => (x.nm, x.more, x.t)) ∧ ofP (joinL (xs.map Ln.p)) = (rs, 0, 0) := by
 have hx := lexP_lines (ps := xs.map Ln.p) (fun p h => by
  obtain ⟨x, hx, rfl⟩ := List.mem_map.1 h
  exact (hp x hx).1.ok) (by simpa using hne) hl
 have hlen := lineToks_len (xs.map Ln.p) 0
 simp only [List.length_map] at hlen
 obtain ⟨f, hf⟩ : ∃ f, (lineToks 0 (xs.map Ln.p)).length + 1 = f + 1 + xs.length := ⟨(lineToks 0 (xs.map Ln.p)).length - xs.length, by omega⟩
 obtain ⟨rs, h1, h2⟩ := rules_linesM (L := lineToks 0 (xs.map Ln.p)) xs 0 0 (f + 1) [] [] hp (by simp)
 refine ⟨rs, h1, ?_⟩
 unfold ofP parseP
 rw [hx]
 rw [if_neg (by simp)]
 simp only
 rw [hf, h2, Nat.zero_add]
 unfold rulesS
 rw [if_neg (by omega)]
 simp
theorem join_snoc (sep : List UInt8) : ∀ (l : List (List UInt8)) (y : List UInt8), Lib.join (l ++ [y]) sep = if l = [] then y else Lib.join l sep ++ (sep ++ y)
 | [], y => by simp [Lib.join, List.intercalate]
 | [x], y => by simp [Lib.join, List.intercalate]
 | x :: z :: l, y => by
  have := join_snoc sep (z :: l) y
  simp [Lib.join, List.intercalate] at this ⊢
  exact this
theorem namL_nil : ∀ {l : List Tr}, (∀ t ∈ l, namT t = []) → namL l = []
 | [], _ => rfl
 | t :: l, h => by
  rw [namL, h t (by simp), namL_nil fun x hx => h x (by simp [hx])]
  rfl
theorem nam_norm : ∀ {d : Nat} {t : Tr}, fitsN [] d t = true → namT (normT t) = []
 | 0, t, h => by simp [fitsN] at h
 | d + 1, t, h => by
  simp only [fitsN, Bool.and_eq_true] at h
  obtain ⟨_, h1, _, h2⟩ := h
  have hk : t.k ≠ 1 := by
   intro e
   rw [e] at h1
   simp at h1
  have hkids : namL (t.kids.map normT) = [] := namL_nil fun x hx => by
   obtain ⟨y, hy, rfl⟩ := List.mem_map.1 hx
   exact nam_norm (List.all_eq_true.1 h2 y hy)
  rw [normT_eq]
  split
  ·rw [namT_eq]
   show (if (7 : UInt8) = 1 then _ else namL (t.kids.map normT)) = []
   rw [if_neg (by decide)]
   exact hkids
  ·split
   ·rw [namT_eq]
    show (if t.k = 1 then _ else namL (t.kids.map normT)) = []
    rw [if_neg hk]
    exact hkids
   ·rw [namT_eq]
    show (if t.k = 1 then _ else namL []) = []
    rw [if_neg hk]
    rfl
def rN : List UInt8 := [114]
def Few2 (ts : List Tr) : Prop := (∀ t ∈ ts, fitsN [] 7 t = true ∧ t.k ≠ 6 ∧ t.wt ≤ 3630) ∧ ts.length ≤ 8
def oneS (ts : List Tr) : List UInt8 := [114, 32, 61, 32] ++ Lib.join (ts.map textP) [32, 47, 32]
theorem oneS_snoc (ts : List Tr) (t : Tr) : oneS (ts ++ [t]) = oneS ts ++ ((if ts = [] then [] else [32, 47, 32]) ++ textP t) := by
 unfold oneS
 rw [List.map_append, List.map_cons, List.map_nil, join_snoc]
 by_cases h : ts = []
 ·subst h; simp [Lib.join, List.intercalate]
 ·simp [h]
def lnAt (i : Nat) (t : Tr) : List UInt8 := [114] ++ ((if decide (0 < i) then [32, 61, 47, 32] else [32, 61, 32]) ++ textP t)
def linesS : Nat → List Tr → List Ln
 | _, [] => []
 | i, t :: ts => ⟨lnAt i t, rN, decide (0 < i), normT t⟩ :: linesS (i + 1) ts
theorem linesS_snoc (t : Tr) : ∀ (ts : List Tr) (i : Nat), linesS i (ts ++ [t]) = linesS i ts ++ [⟨lnAt (i + ts.length) t, rN, decide (0 < i + ts.length), normT t⟩]
 | [], i => rfl
 | x :: ts, i => by
  simp only [List.cons_append, linesS, linesS_snoc t ts (i + 1), List.length_cons]
  rw [show i + 1 + ts.length = i + (ts.length + 1) by omega]
def manyS (ts : List Tr) : List UInt8 := joinL ((linesS 0 ts).map Ln.p)
theorem manyS_snoc (ts : List Tr) (t : Tr) : manyS (ts ++ [t]) = manyS ts ++ (lnAt ts.length t ++ [10]) := by
 unfold manyS
 rw [linesS_snoc, Nat.zero_add]
 simp [joinL]
theorem linesS_ok : ∀ (ts : List Tr) (i : Nat), (∀ t ∈ ts, fitsN [] 7 t = true) → ∀ x ∈ linesS i ts, RuleLnM x.p x.nm x.more x.t ∧ fitsP 100 x.t = true
 | [], i, _, x, hx => by cases hx
 | t :: ts, i, h, x, hx => by
  rcases List.mem_cons.1 hx with rfl | hx
  ·have hf := fitsN_P (h t (by simp))
   have := ruleLnM (decide (0 < i)) (c := 114) (nm := []) (by decide) (by decide) (by decide) (lx_tree t.size 7 t (Nat.le_refl _) hf) (reads_tree t.size 7 t (Nat.le_refl _) hf).1
   exact ⟨this, fits_mono 7 100 _ (by omega) (fits_norm _ 7 _ (Nat.le_refl _) hf)⟩
  ·exact linesS_ok ts (i + 1) (fun y hy => h y (by simp [hy])) x hx
theorem linesS_map : ∀ (ts : List Tr) (i : Nat), 0 < i → (linesS i ts).map (fun x => (x.nm, x.more, x.t)) = ts.map fun t => (rN, true, normT t)
 | [], i, _ => rfl
 | t :: ts, i, h => by simp [linesS, linesS_map ts (i + 1) (by omega), h]
theorem gathS_more {x0 : Ru} : ∀ (xs : List Ru) (acc : List Tr), (∀ x ∈ xs, x.name = x0.name ∧ x.more = true) → gathS xs [(x0, acc)] = .ok [(x0, acc ++ xs.map Ru.tree)]
 | [], acc, _ => by simp [gathS]
 | x :: xs, acc, h => by
  obtain ⟨h1, h2⟩ := h x (by simp)
  have hs : gstep [(x0, acc)] x = .ok [(x0, acc ++ [x.tree])] := by
   unfold gstep
   simp [nmG, posK, h1, h2, addG]
  rw [gathS, hs]
  simp only
  rw [gathS_more xs (acc ++ [x.tree]) fun y hy => h y (by simp [hy])]
  simp
theorem gathR_one {x : Ru} (h : namT x.tree = []) : gathR [x] = ([copyR x], [], 0) := by
 have hnx : nxG [x] = [[]] := by simp [nxG, nxR, h]
 have h1 : lackP ([x].map Ru.name) [x] = none := by simp [lackP, h]
 have h2 : loopP (nxG [x]) [x].length [x] 0 = none := by
  rw [hnx]
  simp [loopP, bfs, bfsIn]
 have h3 : (ordS [x] [x].length).2 = [0] := by
  unfold ordS
  rw [hnx]
  rfl
 unfold gathR
 rw [h1, h2, h3]
 rfl
section
variable {ts : List Tr} (h : Few2 ts) (h2 : 2 ≤ ts.length)
include h in
theorem few_fits (t : Tr) (ht : t ∈ ts) : fitsP 7 t = true := fitsN_P (h.1 t ht).1
include h h2 in
theorem or_fits (f : Bool) : fitsP 8 (.mk 6 [] 0 0 0 0 f ts) = true := by
 unfold fitsP
 have : aloneP (.mk 6 [] 0 0 0 0 f ts) = true := by simp [aloneP, Tr.k, Tr.s, Tr.lo, Tr.hi, Tr.mn, Tr.mx, Tr.kids]; exact decide_eq_true h2
 rw [this]
 simp only [Tr.kids, Bool.true_and]
 exact List.all_eq_true.2 fun t ht => few_fits h t ht
include h h2 in
theorem orN_fits : fitsP 8 (orT (ts.map normT)) = true := by
 have := fits_norm _ 8 _ (Nat.le_refl _) (or_fits h h2 false)
 rw [normT_eq] at this
 simpa [Tr.k, orT, Tr.kids] using this
include h in
theorem orN_nam : namT (orT (ts.map normT)) = [] := by
 rw [namT_eq]
 show (if (6 : UInt8) = 1 then _ else namL (ts.map normT)) = []
 rw [if_neg (by decide)]
 exact namL_nil fun x hx => by
  obtain ⟨y, hy, rfl⟩ := List.mem_map.1 hx
  exact nam_norm (h.1 y hy).1
include h h2 in
theorem one_of (hl : (oneS ts).length ≤ 65536) : ∃ pos, ofP (oneS ts) = ([⟨rN, pos, false, orT (ts.map normT)⟩], 0, 0) := by
 have hf := or_fits h h2 false
 have ht : textP (.mk 6 [] 0 0 0 0 false ts) = Lib.join (ts.map textP) [32, 47, 32] := by
  rw [textP_eq]
  simp only [Tr.k, Tr.kids, show ¬ (6 : UInt8) = 1 by decide, show ¬ (6 : UInt8) = 2 by decide, show ¬ (6 : UInt8) = 3 by decide, show ¬ (6 : UInt8) = 4 by decide, show ¬ (6 : UInt8) = 5 by decide, show ¬ (6 : UInt8) = 7 by decide, if_false]
  congr 1
  refine List.map_congr_left fun t htm => ?_
  have := (h.1 t htm).2.1
  unfold brk
  rw [if_neg (by simp [needs, this])]
 have hb := lx_tree _ 8 _ (Nat.le_refl _) hf
 have hr := (reads_tree _ 8 _ (Nat.le_refl _) hf).1
 rw [ht] at hb
 have hn : normT (.mk 6 [] 0 0 0 0 false ts) = orT (ts.map normT) := by
  rw [normT_eq]
  simp [Tr.k, orT, Tr.kids]
 rw [hn] at hr
 obtain ⟨pos, e⟩ := of_line (c := 114) (nm := []) false (by decide) (by decide) (by decide) hb hr (fits_mono 8 100 _ (by omega) (orN_fits h h2)) (by simpa [oneS] using hl)
 exact ⟨pos, by simpa [oneS, rN, smallP, smC] using e⟩
include h h2 in
theorem gath_one (pos : Int) : gatherP [⟨rN, pos, false, orT (ts.map normT)⟩] = ([copyR ⟨rN, pos, false, orT (ts.map normT)⟩], [], 0) := by
 have hf := fits_mono 8 100 _ (by omega) (orN_fits h h2)
 have hg : gvP ⟨rN, pos, false, orT (ts.map normT)⟩ = true := by
  unfold gvP printP
  simp [hf, show namedP rN = true by decide]
 unfold gatherP
 have hs : gathS [⟨rN, pos, false, orT (ts.map normT)⟩] [] = .ok [(⟨rN, pos, false, orT (ts.map normT)⟩, [orT (ts.map normT)])] := by simp [gathS, gstep, nmG, posK]
 rw [if_pos (by simp [hg]), hs]
 simp [deepG, treeG, hf, rowG]
 exact gathR_one (orN_nam h)
include h h2 in
theorem many_of (hl : (manyS ts).length ≤ 65536) : ∃ rs, ofP (manyS ts) = (rs, 0, 0) ∧ rs.map Ru.tree = ts.map normT ∧ rs.length = ts.length ∧ (∀ x ∈ rs, x.name = rN) ∧ ∃ pos, gatherP rs = ([copyR ⟨rN, pos, false, orT (ts.map normT)⟩], [], 0) := by
 obtain ⟨rs, e1, e2⟩ := ofP_lines (xs := linesS 0 ts) (linesS_ok ts 0 fun t ht => (h.1 t ht).1) (by cases ts with | nil => simp at h2 | cons t l => simp [linesS]) hl
 refine ⟨rs, e2, ?_⟩
 match ts, h2 with
 | t0 :: ts', h2 =>
  simp only [linesS, List.map_cons, linesS_map ts' 1 (by omega)] at e1
  cases rs with
  | nil => simp at e1
  | cons x0 xs =>
   simp only [List.map_cons, List.cons.injEq] at e1
   obtain ⟨a1, a2⟩ := e1
   simp only [lnK, Prod.mk.injEq] at a1
   obtain ⟨b1, b2, b3⟩ := a1
   have hb2 : x0.more = false := by rw [b2]; decide
   have hxs : ∀ x ∈ xs, x.name = x0.name ∧ x.more = true := fun x hx => by
    have : lnK x ∈ xs.map lnK := List.mem_map_of_mem hx
    rw [a2] at this
    obtain ⟨t, _, e⟩ := List.mem_map.1 this
    simp only [lnK, Prod.mk.injEq] at e
    exact ⟨by rw [← e.1, b1], e.2.1.symm⟩
   have htr : xs.map Ru.tree = ts'.map normT := by
    have := congrArg (List.map fun q : List UInt8 × Bool × Tr => q.2.2) a2
    simpa [lnK, Function.comp_def] using this
   have hlen : xs.length = ts'.length := by
    have := congrArg List.length a2
    simpa using this
   refine ⟨by simp [b3, htr], by simp [hlen], fun x hx => ?_, x0.pos, ?_⟩
   ·rcases List.mem_cons.1 hx with rfl | hx
    ·exact b1
    ·rw [(hxs x hx).1, b1]
   ·have hor := orN_fits h h2
    have hf := fits_mono 8 100 _ (by omega) hor
    have hxf : ∀ x ∈ x0 :: xs, gvP x = true := fun x hx => by
     have hn : x.name = rN := by
      rcases List.mem_cons.1 hx with rfl | hx
      ·exact b1
      ·rw [(hxs x hx).1, b1]
     have ht : x.tree ∈ (t0 :: ts').map normT := by
      rcases List.mem_cons.1 hx with rfl | hx
      ·simp [b3]
      ·have : x.tree ∈ xs.map Ru.tree := List.mem_map_of_mem hx
       rw [htr] at this
       simp only [List.map_cons, List.mem_cons]
       exact .inr this
     obtain ⟨y, hy, e⟩ := List.mem_map.1 ht
     have hfy := fits_mono 7 100 _ (by omega) (fits_norm _ 7 _ (Nat.le_refl _) (few_fits h y hy))
     rw [e] at hfy
     unfold gvP printP
     simp [hfy, hn, show namedP rN = true by decide]
    have hg : gathS (x0 :: xs) [] = .ok [(x0, [x0.tree] ++ xs.map Ru.tree)] := by
     have hs : gstep [] x0 = .ok [(x0, [x0.tree])] := by simp [gstep, nmG, posK, hb2]
     rw [gathS, hs]
     simp only
     exact gathS_more xs _ hxs
    unfold gatherP
    rw [if_pos (List.all_eq_true.2 hxf), hg, b3, htr]
    have hlt : 1 < ([normT t0] ++ ts'.map normT).length := by simp at h2 ⊢; omega
    have htg : treeG (x0, [normT t0] ++ ts'.map normT) = orT ((t0 :: ts').map normT) := by
     unfold treeG
     rw [if_pos hlt]
     rfl
    simp only [deepG, htg, hf, if_true, List.map_cons, List.map_nil]
    have hrow : rowG (x0, [normT t0] ++ ts'.map normT) = ⟨rN, x0.pos, false, orT ((t0 :: ts').map normT)⟩ := by
     unfold rowG
     rw [htg]
     obtain ⟨a, b, c, d⟩ := x0
     simp only at b1 hb2
     subst b1
     subst hb2
     rfl
    have hf' : fitsP 100 (orT (normT t0 :: ts'.map normT)) = true := hf
    rw [hrow]
    simp only [hf', if_true]
    exact gathR_one (x := ⟨rN, x0.pos, false, orT ((t0 :: ts').map normT)⟩) (orN_nam h)
end
def rowN (u : List Nat) : AV := .list 1 (u.map fun j => .int .u16 (j : Nat)) .no
theorem few_len : ∀ (n : Nat) {ts : List Tr}, ts.length = n → (∀ t ∈ ts, fitsN [] 7 t = true ∧ t.k ≠ 6 ∧ t.wt ≤ 3630) → (oneS ts).length ≤ 4 + 4000 * ts.length ∧ (manyS ts).length ≤ 4000 * ts.length
 | 0, ts, hn, _ => by
  obtain rfl := List.eq_nil_of_length_eq_zero hn
  simp [oneS, manyS, linesS, joinL, Lib.join, List.intercalate]
 | n + 1, ts, hn, h => by
  rcases List.eq_nil_or_concat ts with rfl | ⟨l, t, rfl⟩
  ·simp at hn
  ·obtain ⟨h1, h2⟩ := few_len n (ts := l) (by simpa using hn) fun x hx => h x (by simp [hx])
   obtain ⟨a1, _, a3⟩ := h t (by simp)
   have ht := text_len (fitsN_P a1)
   rw [List.concat_eq_append, oneS_snoc, manyS_snoc]
   constructor
   ·simp only [List.length_append, List.length_cons, List.length_nil]
    split <;> simp <;> omega
   ·simp only [lnAt, List.length_append, List.length_cons, List.length_nil]
    split <;> simp <;> omega
theorem norm_wtN : ∀ (n : Nat) (t : Tr), t.size ≤ n → (normT t).wt ≤ t.wt
 | 0, t, h => by cases t; simp [Tr.size] at h
 | n + 1, t, h => by
  have hk : ∀ l : List Tr, (∀ k ∈ l, (normT k).wt ≤ k.wt) → wts (l.map normT) ≤ wts l := by
   intro l
   induction l with
   | nil => intro _; simp [wts]
   | cons a l ih =>
    intro hl
    have h1 := hl a (by simp)
    have h2 := ih fun k hk => hl k (by simp [hk])
    simp only [List.map_cons, wts]
    omega
  have h1 := hk t.kids fun k hk => norm_wtN n k (by have := Tr.size_kid hk; omega)
  have h2 := wt_eq t
  rw [normT_eq]
  split
  ·rw [wt_eq]
   change 3 * 0 + 16 + wts (t.kids.map normT) ≤ t.wt
   omega
  ·split
   ·rw [wt_eq]
    change 3 * 0 + 16 + wts (t.kids.map normT) ≤ t.wt
    omega
   ·rw [wt_eq]
    change 3 * t.s.length + 16 + 0 ≤ t.wt
    omega
theorem norm_wt (t : Tr) : (normT t).wt ≤ t.wt := norm_wtN _ t (Nat.le_refl _)
theorem copy_wtN : ∀ (n : Nat) (t : Tr), t.size ≤ n → (copyT t).wt = t.wt
 | 0, t, h => by cases t; simp [Tr.size] at h
 | n + 1, t, h => by
  have hk : ∀ l : List Tr, (∀ k ∈ l, (copyT k).wt = k.wt) → wts (l.map copyT) = wts l := by
   intro l
   induction l with
   | nil => intro _; simp [wts]
   | cons a l ih =>
    intro hl
    have h1 := hl a (by simp)
    have h2 := ih fun k hk => hl k (by simp [hk])
    simp only [List.map_cons, wts]
    omega
  have h1 := hk t.kids fun k hk => copy_wtN n k (by have := Tr.size_kid hk; omega)
  cases t with
  | mk k s lo hi mn mx f ks =>
   rw [wt_eq, wt_eq (Tr.mk k s lo hi mn mx f ks)]
   simp only [copyT, copyL_map, Tr.s, Tr.kids] at h1 ⊢
   omega
theorem copy_wt (t : Tr) : (copyT t).wt = t.wt := copy_wtN _ t (Nat.le_refl _)
theorem norm_wts : ∀ {l : List Tr} {b : Nat}, (∀ t ∈ l, t.wt ≤ b) → wts (l.map normT) ≤ b * l.length
 | [], _, _ => by simp [wts]
 | t :: l, b, h => by
  have h1 := norm_wt t
  have h2 := h t (by simp)
  have h3 := norm_wts (l := l) (b := b) fun k hk => h k (by simp [hk])
  simp only [List.map_cons, wts, List.length_cons, Nat.mul_add]
  omega
def InvMo (A : List (List Nat)) (r : Rt) (k : Nat) (σ : Slots) (h : Heap) : Prop := ∃ ts, ts.length ≤ A.length ∧ k = A.length - ts.length ∧ (∀ t ∈ ts, fitsN [] 7 t = true ∧ t.k ≠ 6 ∧ t.wt ≤ 3630) ∧ σ 3 = .str (oneS ts) ∧ σ 4 = .str (manyS ts) ∧ σ 27 = .list 1 (A.map rowN) r ∧ σ 28 = .int .i64 (A.length : Nat) ∧ σ 29 = .int .i64 (ts.length : Nat)
set_option maxRecDepth 20000 in
theorem more_true (A : List (List Nat)) (r : Rt) (hA : ∀ u ∈ A, (∀ j ∈ u, j ≤ 65535) ∧ u.length ≤ 9223372036854775807) (hAl : A.length ≤ 9223372036854775807) : M.call 7 [.list 1 (A.map rowN) r] [] = some (.bool true, []) := by
 refine call_of tab7 rfl (callF_wp ?_)
 by_cases c1 : A.length < 2
 ·have c1' : (A.length : Int) < 2 := by omega
  simp [-getElem?_pos, -Int.natCast_add, wB7, c1, c1', awake3_ok, fin_nil]
 have c1' : ¬ (A.length : Int) < 2 := by omega
 by_cases c2 : 8 < A.length
 ·have c2' : (8 : Int) < A.length := by omega
  simp [-getElem?_pos, -Int.natCast_add, wB7, c1, c1', c2, c2', awake3_ok, fin_nil]
 have c2' : ¬ (8 : Int) < A.length := by omega
 obtain ⟨Q, hQ⟩ : ∃ Q : Ex → Slots → Heap → Prop, Q = fun e σ h => isEnd e ∧ finish [] h (σ 2) = some (.bool true, []) := ⟨_, rfl⟩
 have fin : ∀ (σ : Slots) (h : Heap), σ 2 = .bool true → Q .ret σ h := by
  intro σ h e
  subst hQ
  simp [e, fin_nil]
 have L : ∀ (σ : Slots) (g : Heap), InvMo A r A.length σ g → Wp M (.loop L7_0) (blkQ 0 (thenQ (Wp M K7_0 Q) Q)) σ g := by
  intro σ g hI
  refine Wp.loop (InvMo A r) ?_ (n := A.length) hI
  clear hI σ g
  rintro k σ g ⟨ts, hi, rfl, hts, s3, s4, s27, s28, s29⟩
  obtain ⟨len1, len2⟩ := few_len _ rfl hts
  by_cases hlt : ts.length < A.length
  ·obtain ⟨u, hu⟩ : ∃ u, A[ts.length]? = some u := ⟨_, List.getElem?_eq_getElem hlt⟩
   obtain ⟨hu1, hu2⟩ := hA u (List.mem_of_getElem? hu)
   have hltI : (ts.length : Int) < A.length := by omega
   have hadd : IntKind.wrap .i64 ((ts.length : Int) + 1) = ((ts.length + 1 : Nat) : Int) := by rw [wrap64 (by omega) (by omega)]; rfl
   have hin : (A.map rowN)[ts.length]? = some (rowN u) := by simp [hu]
   obtain ⟨t, e1, e2, e3⟩ := grown_okN u hu2 hu1 .no [] .full (by simp) (by simp) (g ++ [.dead]) (fun t h => by cases h) (fun t h => by cases h)
   simp only [List.map_nil] at e1
   have e1' : M.call 23 [rowN u, .list 1 [] .full] (g ++ [.dead]) = some (t.enc, g ++ [.dead]) := e1
   have hrc : (rowN u).cells = [rowN u] := rfl
   have hru : lenV (rowN u) = some (.int .i64 (u.length : Nat)) := by simp [rowN]
   by_cases c3 : 60 < u.length
   ·have c3' : (60 : Int) < u.length := by omega
    simp [-getElem?_pos, -Int.natCast_add, wL7_0, s3, s4, s27, s28, s29, hltI, hlt, hu, hrc, e1', hru, c3, c3', enc_cells, encL_take, awake3_ok]
    exact fin _ _ (by simp)
   ·have c3' : ¬ (60 : Int) < u.length := by omega
    by_cases c4 : t.k = 6
    ·have hkI : (t.k.toNat : Int) = 6 := by rw [c4]; rfl
     have hkn : t.k.toNat = 6 := by rw [c4]; rfl
     simp [-getElem?_pos, -Int.natCast_add, wL7_0, s3, s4, s27, s28, s29, hltI, hlt, hu, hrc, e1', hru, c3, c3', enc_cells, encL_take, encL0, hkI, hkn, awake3_ok]
     exact fin _ _ (by simp)
    ·have hkn : ¬ t.k.toNat = 6 := fun e => c4 (UInt8.toNat_inj.1 (by simpa using e))
     have hkI : ¬ (t.k.toNat : Int) = 6 := by omega
     have ft := fitsN_P e2
     have ft100 := fits_mono 7 100 t (by omega) ft
     have wt : t.wt ≤ 3630 := by omega
     have Tt : TOk t := TOk_wt (by omega)
     have htl := text_len ft
     have pa := fun h => print_ok ⟨[114], 0, decide (0 < ts.length), t⟩ (by simp) (by simp only; omega) Tt h
     have pb := fun h => print_ok ⟨[114], 0, false, t⟩ (by simp) (by simp only; omega) Tt h
     have ea : printP ⟨[114], 0, decide (0 < ts.length), t⟩ = (lnAt ts.length t, 0) := by
      unfold printP
      rw [if_pos (by simp [ft100]; decide)]
      rfl
     have eb : printP ⟨[114], 0, false, t⟩ = ([114, 32, 61, 32] ++ textP t, 0) := by
      unfold printP
      rw [if_pos (by simp [ft100]; decide)]
      rfl
     rw [ea] at pa
     rw [eb] at pb
     simp [ruA, -Int.natCast_add] at pa pb
     have next : ∀ (σ' : Slots) (h' : Heap), σ' 4 = .str (manyS (ts ++ [t])) → σ' 3 = .str (oneS (ts ++ [t])) → σ' 27 = .list 1 (A.map rowN) r → σ' 28 = .int .i64 (A.length : Nat) → σ' 29 = .int .i64 ((ts.length + 1 : Nat) : Int) → ∃ m, m < A.length - ts.length ∧ InvMo A r m σ' h' := by
      intro σ' h' q1 q2 q3 q4 q5
      refine ⟨A.length - (ts.length + 1), by omega, ts ++ [t], by simp; omega, by simp, ?_, q2, q1, q3, q4, by simp [q5]⟩
      intro x hx
      rcases List.mem_append.1 hx with hx | hx
      ·exact hts x hx
      ·obtain rfl := List.mem_singleton.1 hx
       exact ⟨e2, c4, wt⟩
     have j0 : (lnAt ts.length t).length ≤ 4000 := by
      unfold lnAt
      simp only [List.length_append, List.length_cons, List.length_nil]
      split <;> simp <;> omega
     have j1 : (lnAt ts.length t).length ≤ 140737488355327 := by omega
     have j2 : (manyS ts).length + ((lnAt ts.length t).length + 1) ≤ 140737488355328 := by omega
     have j3 : (oneS ts).length ≤ 140737488355325 := by omega
     have j4 : (4 : Int) ≤ (((textP t).length + 1 + 1 + 1 + 1 : Nat) : Int) := by omega
     have j5 : (oneS ts).length + ((textP t).length + 1 + 1 + 1) ≤ 140737488355328 := by omega
     by_cases c5 : 0 < ts.length
     ·have c5' : (0 : Int) < ts.length := by omega
      have hne : ts ≠ [] := fun e => by simp [e] at c5
      simp [c5] at pa
      simp [-getElem?_pos, -Int.natCast_add, wL7_0, s3, s4, s27, s28, s29, hltI, hlt, hu, hrc, e1', hru, c3, c3', enc_cells, encL_take, enc_agg, encL0, hkI, hkn, c5, c5', pa, pb, hadd]
      rw [if_neg (by omega)]
      simp [-getElem?_pos, -Int.natCast_add, j1, j2, j3, j4, j5, hadd, s29, s28, s27]
      refine ⟨by omega, ?_⟩
      refine next _ g ?_ ?_ ?_ ?_ ?_
      ·simp [manyS_snoc, List.append_assoc]
      ·simp [oneS_snoc, hne, List.append_assoc]
      ·simp [s27]
      ·simp [s28]
      ·simp
     ·have c5' : ¬ (0 : Int) < ts.length := by omega
      have hnil : ts = [] := List.eq_nil_of_length_eq_zero (by omega)
      simp [c5] at pa
      simp [-getElem?_pos, -Int.natCast_add, wL7_0, s3, s4, s27, s28, s29, hltI, hlt, hu, hrc, e1', hru, c3, c3', enc_cells, encL_take, enc_agg, encL0, hkI, hkn, c5, c5', pa, pb, hadd]
      have hln : lnAt ts.length t = [114, 32, 61, 32] ++ textP t := by
       unfold lnAt
       rw [if_neg (by simp [c5])]
       rfl
      rw [if_neg (by rw [hln]; simp; omega)]
      simp [-getElem?_pos, -Int.natCast_add, j1, j2, j3, j4, j5, hadd, hln, s29, s28, s27]
      refine ⟨by omega, by omega, by omega, ?_⟩
      refine next _ g ?_ ?_ ?_ ?_ ?_
      ·rw [manyS_snoc, hln]
       simp
      ·subst hnil
       have := oneS_snoc [] t
       simp at this
       simp [this]
      ·simp [s27]
      ·simp [s28]
      ·simp
  ·have hle : ts.length = A.length := by omega
   have g1 : IntKind.wrap .i64 (((oneS ts).length : Int) + ((manyS ts).length : Int)) = (((oneS ts).length + (manyS ts).length : Nat) : Int) := by rw [wrap64 (by omega) (by omega)]; rfl
   by_cases c6 : 50000 < (oneS ts).length + (manyS ts).length
   ·have c6' : (50000 : Int) < (((oneS ts).length + (manyS ts).length : Nat) : Int) := by omega
    simp [-getElem?_pos, -Int.natCast_add, wL7_0, wK7_0, s3, s4, s27, s28, s29, hle, g1, c6, c6', awake3_ok]
    exact fin _ _ (by simp)
   have c6' : ¬ (50000 : Int) < (((oneS ts).length + (manyS ts).length : Nat) : Int) := by omega
   have h2 : 2 ≤ ts.length := by omega
   have few : Few2 ts := ⟨hts, by omega⟩
   obtain ⟨p1, o1⟩ := one_of few h2 (by omega)
   have g1' := gath_one few h2 p1
   obtain ⟨rs, o2, o3, o4, o5, p2, g2'⟩ := many_of few h2 (by omega)
   have w1 : wts (ts.map normT) ≤ 3630 * ts.length := norm_wts fun t ht => (hts t ht).2.2
   have w2 : (orT (ts.map normT)).wt ≤ 30000 := by
    rw [wt_eq]
    simp only [orT, Tr.s, Tr.kids, List.length_nil]
    omega
   have l1 : LOk (ofP (oneS ts)).1 := by
    rw [o1]
    refine ⟨by simp, fun x hx => ?_, ?_⟩
    ·obtain rfl := List.mem_singleton.1 hx
     exact ⟨by show (1 : Nat) ≤ 1000000000; omega, by simp only; omega⟩
    ·simp only [List.map_cons, List.map_nil, wts]
     omega
   have l2 : LOk (ofP (manyS ts)).1 := by
    rw [o2]
    refine ⟨by simp only; omega, fun x hx => ?_, ?_⟩
    ·have hm : x.tree ∈ ts.map normT := by rw [← o3]; exact List.mem_map_of_mem hx
     obtain ⟨y, hy, e⟩ := List.mem_map.1 hm
     have := norm_wt y
     have := (hts y hy).2.2
     rw [e] at *
     exact ⟨by rw [o5 x hx]; decide, by omega⟩
    ·simp only [o3]
     omega
   have t1 : of3P (oneS ts) = ([copyR ⟨rN, p1, false, orT (ts.map normT)⟩], [], 0) := by
    unfold of3P
    rw [o1]
    simp [g1']
   have t2 : of3P (manyS ts) = ([copyR ⟨rN, p2, false, orT (ts.map normT)⟩], [], 0) := by
    unfold of3P
    rw [o2]
    simp [g2']
   have x1 := of3_ok (oneS ts) (by omega) l1
   have x2 := of3_ok (manyS ts) (by omega) l2
   rw [t1] at x1
   rw [t2] at x2
   unfold gmA at x1 x2
   obtain ⟨b1, x1⟩ := Classical.axiomOfChoice x1
   obtain ⟨b2, x2⟩ := Classical.axiomOfChoice x2
   have hTO : TOk (copyT (orT (ts.map normT))) := TOk_wt (by rw [copy_wt]; omega)
   have hr := fun ra rb h => rules_ok false [copyR ⟨rN, p1, false, orT (ts.map normT)⟩] [copyR ⟨rN, p2, false, orT (ts.map normT)⟩] ra rb (by simp) (by simp) (fun x hx => by obtain rfl := List.mem_singleton.1 hx; exact hTO) (fun x hx => by obtain rfl := List.mem_singleton.1 hx; exact hTO) h
   have he : eqRs false [copyR ⟨rN, p1, false, orT (ts.map normT)⟩] [copyR ⟨rN, p2, false, orT (ts.map normT)⟩] = true := by
    simp [eqRs, eqR, copyR, eqT_refl]
   rw [he] at hr
   simp only [List.map_cons, List.map_nil] at x1 x2 hr
   generalize ruA (copyR ⟨rN, p1, false, orT (ts.map normT)⟩) = y1 at *
   generalize ruA (copyR ⟨rN, p2, false, orT (ts.map normT)⟩) = y2 at *
   simp [-getElem?_pos, -Int.natCast_add, wL7_0, wK7_0, s3, s4, s27, s28, s29, hle, g1, c6, c6', awake3_ok, x1, x2, hr]
   exact fin _ _ (by simp)
 simp [-getElem?_pos, -Int.natCast_add, wB7, c1, c1', c2, c2']
 rw [← hQ]
 refine L _ _ ⟨[], by simp, by simp, by simp, by simp [oneS, Lib.join], by simp [manyS, linesS, joinL], by simp, by simp, by simp⟩
set_option maxRecDepth 100000 in
theorem arg_nums {n : Nat} {x : AV} (h : HasE Tryz.prog (Has Tryz.prog n) 53 x) : ∃ U : List Nat, x = .list 1 (U.map fun j => .int .u16 (j : Nat)) .no ∧ (∀ j ∈ U, j ≤ 65535) ∧ U.length ≤ maxLen := by
 obtain ⟨xs, m, rfl, h1, h2⟩ := has_slice Tryz.underlying53 h
 obtain ⟨U, rfl, hU⟩ := choose_list' (p := fun j : Nat => AV.int .u16 (j : Nat)) (q := fun j : Nat => j ≤ 65535) fun x hx => has_u16 Tryz.underlying107 (h2 x hx)
 have hc : Tryz.prog.cellsOf 107 = 1 := by kernel_rfl
 rw [hc]
 exact ⟨U, rfl, hU, by simpa using h1⟩
set_option maxRecDepth 100000 in
theorem arg_rows {n : Nat} {x : AV} (h : HasE Tryz.prog (Has Tryz.prog n) 23 x) : ∃ U : List (List Nat), x = .list 1 (U.map rowN) .no ∧ (∀ u ∈ U, (∀ j ∈ u, j ≤ 65535) ∧ u.length ≤ maxLen) ∧ U.length ≤ maxLen := by
 obtain ⟨xs, m, rfl, h1, h2⟩ := has_slice Tryz.underlying23 h
 obtain ⟨U, rfl, hU⟩ := choose_list' (p := rowN) (q := fun u : List Nat => (∀ j ∈ u, j ≤ 65535) ∧ u.length ≤ maxLen) fun x hx => by
  obtain ⟨u, e, hu, hl⟩ := arg_nums (h2 x hx)
  exact ⟨u, e, hu, hl⟩
 have hc : Tryz.prog.cellsOf 53 = 1 := by kernel_rfl
 rw [hc]
 exact ⟨U, rfl, hU, by simpa using h1⟩
set_option maxRecDepth 100000 in
theorem RulesMore_law (xs : List AV) (h : HasArgs Tryz.prog [23] xs) : (lim XS T).call 7 xs [] = some (.bool true, []) := by
 obtain ⟨a0, r0, n0, rfl, h0, h⟩ := h
 obtain rfl := args_nil h
 obtain ⟨U, rfl, hU, lU⟩ := arg_rows h0
 have hm : maxLen ≤ 9223372036854775807 := by unfold maxLen; omega
 exact more_true U .no (fun u hu => ⟨(hU u hu).1, by have := (hU u hu).2; omega⟩) (by omega)
end Go.Proofs.YtcflbdikkcpiaaaGreatDoor
