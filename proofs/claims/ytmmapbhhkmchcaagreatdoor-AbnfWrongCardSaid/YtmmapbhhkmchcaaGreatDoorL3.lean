/-
  AbnfWrong, plainly: many lines; a line that is none; a rule too deep.
-/
import Derived.Test.YtmmapbhhkmchcaaGreatDoorK0
set_option linter.unusedVariables false
set_option linter.unusedSimpArgs false
namespace Go.Proofs.YtmmapbhhkmchcaaGreatDoor
open Go Go.Am

/-- A line that is read without an error. -/
structure LineOk (p : List UInt8) : Prop where
  letter : ∃ c r, p = c :: r ∧ letC c = true
  no10 : ¬ (10 : UInt8) ∈ p
  no13 : ¬ (13 : UInt8) ∈ p
  fine : ∀ off, (lineP p off (p.length + 2) 0 []).2 = (0, 0)
theorem LineOk.of_lx {c : UInt8} {r : List UInt8} {ts : List Tok} {P : List UInt8 → Prop} (hc : letC c = true) (hL : LX (c :: r) ts P) (hP : P []) : LineOk (c :: r) := by
  refine ⟨⟨c, r, rfl, hc⟩, ok_no10 hL.1, fun hm => absurd (List.all_eq_true.1 hL.1 13 hm) (by decide), fun off => ?_⟩
  obtain ⟨o, ho, _⟩ := lx_line hL hP off
  rw [ho]
theorem cutB_line {p q : List UInt8} (h : ¬ (10 : UInt8) ∈ p) : cutB (p ++ 10 :: q) 10 = p := by
  unfold cutB
  rw [List.takeWhile_append_of_pos (fun x hx => by simp only [bne_iff_ne]; intro e; rw [e] at hx; exact h hx)]
  simp
theorem trim13 {p : List UInt8} (h : ¬ (13 : UInt8) ∈ p) : trimSuf p [13] = p := by
  unfold trimSuf
  rw [if_neg]
  rintro ⟨h1, h2⟩
  have h3 : ∀ n, p.drop n = [13] → False := fun n hn => by
    have : (13 : UInt8) ∈ p.drop n := by rw [hn]; simp
    exact h (List.mem_of_mem_drop this)
  exact h3 _ h2
/-- One line of many. -/
theorem lexF_line {src p q : List UInt8} {a f : Nat} {any : Bool} {out : List Tok} (h : LineOk p) (hd : src.drop a = p ++ 10 :: q) (ha : a < src.length) :
    lexF src (f + 1) a any out = lexF src f (a + p.length + 1) true ((if any then out ++ [{ kind := 13, pos := (a : Int) }] else out) ++ (lineP p a (p.length + 2) 0 []).1) := by
  have h10 := h.no10
  have h13 := h.no13
  have ho := h.fine a
  obtain ⟨c, r, rfl, hc⟩ := h.letter
  have hcut : cutB (src.drop a) 10 = c :: r := by rw [hd]; exact cutB_line h10
  have hcutL : cutL (src.drop a) = c :: r := by
    unfold cutL
    rw [if_pos (by rw [hd]; simp), hcut, trim13 h13]
  have f0 := allU8 (p := fun c => !letC c || ((c != 59) && !blkC c)) (by decide +kernel) c
  simp only [hc, Bool.not_true, Bool.false_or, Bool.and_eq_true, Bool.not_eq_true', bne_iff_ne] at f0
  have hn : runN blkC (c :: r) = 0 := by simp [runN, f0.2]
  conv => lhs; unfold lexF
  rw [if_pos ha]
  simp only [hcutL, hn, List.getElem?_cons_zero, hcut]
  rw [if_neg f0.1, if_neg (by simp [hc]), if_neg (by rw [ho]; simp)]
  cases any <;> simp
/-- The tokens of lines, each with an End at the next one's front. -/
def lineToks : Nat → List (List UInt8) → List Tok
  | _, [] => []
  | a, p :: ps => (lineP p a (p.length + 2) 0 []).1 ++ { kind := 13, pos := ((a + p.length + 1 : Nat) : Int) } :: lineToks (a + p.length + 1) ps
def joinL (ps : List (List UInt8)) : List UInt8 := ps.flatMap fun p => p ++ [10]
theorem joinL_cons (p : List UInt8) (ps : List (List UInt8)) : joinL (p :: ps) = p ++ 10 :: joinL ps := by simp [joinL]
theorem lexF_lines {src : List UInt8} : ∀ (ps : List (List UInt8)) (a f : Nat) (any : Bool) (out : List Tok), (∀ p ∈ ps, LineOk p) → src.drop a = joinL ps → a ≤ src.length → ps.length < f → (ps = [] → any = true) →
    lexF src f a any out = ((if any then out ++ [{ kind := 13, pos := (a : Int) }] else out) ++ lineToks a ps, 0, 0)
  | [], a, f, any, out, _, hd, ha, hf, hany => by
    obtain ⟨f, rfl⟩ : ∃ g, f = g + 1 := ⟨f - 1, by omega⟩
    have hal : a = src.length := by
      simp [joinL] at hd
      omega
    subst hal
    unfold lexF
    rw [if_neg (by omega), hany rfl]
    simp [lineToks]
  | p :: ps, a, f, any, out, hp, hd, ha, hf, _ => by
    obtain ⟨f, rfl⟩ : ∃ g, f = g + 1 := ⟨f - 1, by omega⟩
    have hts := hp p List.mem_cons_self
    rw [joinL_cons] at hd
    have hal : a < src.length := by
      have := congrArg List.length hd
      simp at this
      omega
    have h1 := lexF_line (f := f) (any := any) (out := out) hts hd hal
    have hd2 : src.drop (a + p.length + 1) = joinL ps := by
      rw [Nat.add_assoc, ← List.drop_drop, hd, ← List.drop_drop, List.drop_left' rfl]
      rfl
    have hle : a + p.length + 1 ≤ src.length := by
      have := congrArg List.length hd
      simp at this
      omega
    rw [h1, lexF_lines ps (a + p.length + 1) f true _ (fun q hq => hp q (List.mem_cons_of_mem _ hq)) hd2 hle (by simp at hf; omega) (fun _ => rfl)]
    have e : lineToks a (p :: ps) = (lineP p a (p.length + 2) 0 []).1 ++ { kind := 13, pos := ((a + p.length + 1 : Nat) : Int) } :: lineToks (a + p.length + 1) ps := rfl
    rw [e]
    cases any <;> simp
theorem lexP_lines {ps : List (List UInt8)} (hp : ∀ p ∈ ps, LineOk p) (hne : ps ≠ []) (hl : (joinL ps).length ≤ 65536) : lexP (joinL ps) = (lineToks 0 ps, 0, 0) := by
  unfold lexP
  rw [if_neg (by omega)]
  have hlen : ∀ l : List (List UInt8), l.length ≤ (joinL l).length := fun l => by
    induction l with
    | nil => simp [joinL]
    | cons p l ih => rw [joinL_cons]; simp; omega
  have := hlen ps
  rw [lexF_lines ps 0 _ false [] hp (by simp) (Nat.zero_le _) (by omega) (fun h => absurd h hne)]
  simp
/-- The tokens of a line. -/
def toksL (p : List UInt8) (off : Nat) : List Tok := (lineP p off (p.length + 2) 0 []).1
def endT (n : Nat) : Tok := { kind := 13, pos := (n : Int) }
theorem lineToks_cons (a : Nat) (p : List UInt8) (ps : List (List UInt8)) : lineToks a (p :: ps) = toksL p a ++ endT (a + p.length + 1) :: lineToks (a + p.length + 1) ps := rfl
theorem lineToks_app : ∀ (ps qs : List (List UInt8)) (a : Nat), lineToks a (ps ++ qs) = lineToks a ps ++ lineToks (a + (joinL ps).length) qs
  | [], qs, a => by simp [joinL, lineToks]
  | p :: ps, qs, a => by
    rw [List.cons_append, lineToks_cons, lineToks_cons, lineToks_app ps qs, joinL_cons]
    simp only [List.length_append, List.length_cons, List.append_assoc, List.cons_append]
    rw [show a + p.length + 1 + (joinL ps).length = a + (p.length + ((joinL ps).length + 1)) by omega]
theorem lineToks_len : ∀ (ps : List (List UInt8)) (a : Nat), ps.length ≤ (lineToks a ps).length
  | [], a => by simp
  | p :: ps, a => by
    rw [lineToks_cons]
    have := lineToks_len ps (a + p.length + 1)
    simp
    omega
theorem lineP_pre (s : List UInt8) (off : Nat) : ∀ (f i : Nat) (out : List Tok), (lineP s off f i out).2 = (0, 0) → ∃ o, (lineP s off f i out).1 = out ++ o
  | 0, i, out, _ => ⟨[], by simp [lineP]⟩
  | f + 1, i, out, h => by
    unfold lineP at h ⊢
    cases e : s[i]? with
    | none => exact ⟨[], by simp⟩
    | some c =>
      rw [e] at h
      simp only at h ⊢
      by_cases h1 : c = 59
      · rw [if_pos h1] at h ⊢; exact ⟨[], by simp⟩
      · rw [if_neg h1] at h ⊢
        by_cases h2 : blkC c = true
        · rw [if_pos h2] at h ⊢; exact lineP_pre s off f (i + 1) out h
        · rw [if_neg h2] at h ⊢
          by_cases h3 : (readP c (s.drop i)).err = 0
          · rw [if_neg (by simpa using h3)] at h ⊢
            obtain ⟨o, ho⟩ := lineP_pre s off f _ _ h
            exact ⟨_, by rw [ho, List.append_assoc]⟩
          · rw [if_pos h3] at h
            simp only [Prod.mk.injEq] at h
            exact absurd h.2 h3
/-- A line's first token stands at its front. -/
theorem toks_head {p : List UInt8} (h : LineOk p) (off : Nat) : ∃ t o, toksL p off = t :: o ∧ t.pos = (off : Int) := by
  have hf := h.fine off
  obtain ⟨c, r, rfl, hc⟩ := h.letter
  have f0 := allU8 (p := fun c => !letC c || ((c != 59) && !blkC c)) (by decide +kernel) c
  simp only [hc, Bool.not_true, Bool.false_or, Bool.and_eq_true, Bool.not_eq_true', bne_iff_ne] at f0
  unfold toksL
  unfold lineP at hf ⊢
  simp only [List.getElem?_cons_zero] at hf ⊢
  rw [if_neg f0.1, if_neg (by simp [f0.2])] at hf ⊢
  by_cases h3 : (readP c ((c :: r).drop 0)).err = 0
  · rw [if_neg (by simpa using h3)] at hf ⊢
    obtain ⟨o, ho⟩ := lineP_pre _ off _ _ _ hf
    rw [ho]
    exact ⟨_, o, rfl, by simp⟩
  · rw [if_pos h3] at hf
    simp only [Prod.mk.injEq] at hf
    exact absurd hf.2 h3
/-- A line that is read as a rule. -/
structure RuleLn (p nm : List UInt8) (t : Tr) : Prop where
  ok : LineOk p
  parse : ∀ (L : List Tok) (a off n : Nat) (rest : List Tok), L.drop a = toksL p off ++ endT n :: rest → ruleS L a = .ok ⟨nm, off, false, t⟩ (a + ((toksL p off).length + 1))
theorem ruleLn {c : UInt8} {nm body : List UInt8} {ts : List Tok} {t : Tr} (h1 : letC c = true) (h2 : nm.all namC = true) (h3 : namedP (smallP (c :: nm)) = true) (hb : LX body ts sepR) (hr : Reads (fun L f a => choicesS L f a []) ts t stopC) :
    RuleLn (c :: nm ++ ([32, 61, 32] ++ body)) (smallP (c :: nm)) t := by
  have hsign : LX [32, 61, 32] [{ kind := 2 }] anyR := by
    have := LX.blank.app ((lx_is.app LX.blank fun rest _ => sep32 rest)) fun _ _ => trivial
    simpa using this
  have hL := (lx_nameG h1 h2).app (hsign.app hb fun _ _ => trivial) fun rest _ => sep32 _
  have hok : LineOk (c :: nm ++ ([32, 61, 32] ++ body)) := by
    have := LineOk.of_lx (c := c) (r := nm ++ ([32, 61, 32] ++ body)) (P := sepR) h1 (by simpa using hL) (fun c r e => by cases e)
    simpa using this
  refine ⟨hok, fun L a off n rest hd => ?_⟩
  obtain ⟨x, o, hx, hxp⟩ := toks_head hok off
  obtain ⟨o', ho, hm⟩ := lx_line hL (fun c r e => by cases e) off
  have hto : toksL (c :: nm ++ ([32, 61, 32] ++ body)) off = o' := by unfold toksL; rw [ho]
  rw [hto] at hd hx ⊢
  subst hx
  have hm' : (x :: o).map akk = { kind := 1, text := c :: nm } :: { kind := 2 } :: ts := by rw [hm]; simp
  have hlen : (x :: o).length = 2 + ts.length := by
    have := congrArg List.length hm'
    simp at this ⊢
    omega
  obtain ⟨y, o2, rfl⟩ : ∃ y o2, o = y :: o2 := by
    cases o with
    | nil => simp at hm'
    | cons y o2 => exact ⟨y, o2, rfl⟩
  simp only [List.map_cons, List.cons.injEq] at hm'
  obtain ⟨e1, e2, e3⟩ := hm'
  have hd1 : L.drop (a + 1) = y :: (o2 ++ endT n :: rest) := by rw [← List.drop_drop, hd]; rfl
  have hd2 : L.drop (a + 2) = o2 ++ endT n :: rest := by rw [← List.drop_drop, hd]; rfl
  have ga : L[a]? = some x := (drop_kd hd).1
  have gk : kd L (a + 1) = 2 := by rw [(drop_kd hd1).2.1]; exact congrArg Tok.kind e2
  have xk : x.kind = 1 := congrArg Tok.kind e1
  have xt : x.text = c :: nm := congrArg Tok.text e1
  have hd2' : (L.map akk).drop (a + 2) = ts ++ (endT n :: rest).map akk := by
    rw [← List.map_drop, hd2, List.map_append, e3]
  have hcho := choP_reads hr hd2' fun z r e => by
    simp only [List.map_cons, List.cons.injEq] at e
    rw [← e.1]
    exact ⟨rfl, fun h => absurd (show (13 : UInt8) = 4 from h) (by decide)⟩
  have hke : kd L (a + 2 + ts.length) = 13 := by
    have : L.drop (a + 2 + ts.length) = endT n :: rest := by
      rw [← List.drop_drop, hd2, List.drop_left' (by rw [← e3]; simp)]
    rw [(drop_kd this).2.1]
    rfl
  have hal : aloneP (leafT x) = true := by
    simp [leafT, xk, xt, aloneP, Tr.k, Tr.s, Tr.lo, Tr.hi, Tr.mn, Tr.mx, Tr.kids, h3]
  unfold ruleS
  rw [ga]
  simp only
  rw [if_pos ⟨xk, hal⟩, if_pos (.inl gk), hcho]
  simp only
  rw [if_pos hke, xt, gk, hxp, hlen]
  simp
  omega
/-- A line that is not read as a rule: where it is told. -/
structure BadLn (p : List UInt8) (at' : Nat) (w : Int) : Prop where
  ok : LineOk p
  parse : ∀ (L : List Tok) (a off : Nat) (rest : List Tok), L.drop a = toksL p off ++ endT (off + p.length + 1) :: rest →
    (∃ q, ruleS L a = .bad q ∧ posAt L q = ((off + at' : Nat) : Int) ∧ w = 20) ∨ ∃ x m, ruleS L a = .ok x m ∧ fitsP 100 x.tree = false ∧ x.pos = ((off + at' : Nat) : Int) ∧ w = 21
theorem rules_lines {L : List Tok} : ∀ (ps : List (List UInt8)) (a off f : Nat) (out : List Ru) (rest : List Tok), (∀ p ∈ ps, ∃ nm t, RuleLn p nm t ∧ fitsP 100 t = true) → L.drop a = lineToks off ps ++ rest →
    ∃ out', out'.length = ps.length ∧ rulesS L (f + ps.length) a out = rulesS L f (a + (lineToks off ps).length) (out ++ out')
  | [], a, off, f, out, rest, _, _ => ⟨[], rfl, by simp [lineToks]⟩
  | p :: ps, a, off, f, out, rest, hp, hd => by
    obtain ⟨nm, t, hr, hf⟩ := hp p List.mem_cons_self
    rw [lineToks_cons] at hd
    simp only [List.append_assoc, List.cons_append] at hd
    have h1 := hr.parse L a off _ _ hd
    have hlt : a < L.length := by
      have := congrArg List.length hd
      simp at this
      omega
    have hd2 : L.drop (a + ((toksL p off).length + 1)) = lineToks (off + p.length + 1) ps ++ rest := by
      rw [← List.drop_drop, hd, ← List.drop_drop, List.drop_left' rfl]
      rfl
    obtain ⟨out', h2, h3⟩ := rules_lines ps (a + ((toksL p off).length + 1)) (off + p.length + 1) f (out ++ [⟨nm, off, false, t⟩]) rest (fun q hq => hp q (List.mem_cons_of_mem _ hq)) hd2
    refine ⟨⟨nm, off, false, t⟩ :: out', by simp [h2], ?_⟩
    rw [List.length_cons, ← Nat.add_assoc]
    conv => lhs; unfold rulesS
    rw [if_pos hlt, h1]
    simp only
    rw [if_pos hf, h3, lineToks_cons]
    simp only [List.length_append, List.length_cons, List.append_assoc, List.cons_append, List.nil_append]
    congr 1
    omega
theorem fine_of {ps : List (List UInt8)} (hp : ∀ p ∈ ps, ∃ nm t, RuleLn p nm t ∧ fitsP 100 t = true) (hne : ps ≠ []) (hl : (joinL ps).length ≤ 65536) : ∃ rs, rs.length = ps.length ∧ ofP (joinL ps) = (rs, 0, 0) := by
  have hx := lexP_lines (fun p h => (let ⟨nm, t, hr, _⟩ := hp p h; hr.ok)) hne hl
  have hlen := lineToks_len ps 0
  obtain ⟨f, hf⟩ : ∃ f, (lineToks 0 ps).length + 1 = f + 1 + ps.length := ⟨(lineToks 0 ps).length - ps.length, by omega⟩
  obtain ⟨rs, h1, h2⟩ := rules_lines (L := lineToks 0 ps) ps 0 0 (f + 1) [] [] hp (by simp)
  refine ⟨rs, h1, ?_⟩
  unfold ofP parseP
  rw [hx]
  rw [if_neg (by simp)]
  simp only
  rw [hf, h2, Nat.zero_add]
  unfold rulesS
  rw [if_neg (by omega)]
  simp
theorem bad_of {ps qs : List (List UInt8)} {b : List UInt8} {k : Nat} {w : Int} (hp : ∀ p ∈ ps, ∃ nm t, RuleLn p nm t ∧ fitsP 100 t = true) (hq : ∀ p ∈ qs, LineOk p) (hb : BadLn b k w) (hl : (joinL (ps ++ b :: qs)).length ≤ 65536) : ofP (joinL (ps ++ b :: qs)) = ([], (((joinL ps).length + k : Nat) : Int), w) := by
  have hx := lexP_lines (ps := ps ++ b :: qs) (fun p h => by
    rcases List.mem_append.1 h with h | h
    · obtain ⟨nm, t, hr, _⟩ := hp p h; exact hr.ok
    · rcases List.mem_cons.1 h with rfl | h
      · exact hb.ok
      · exact hq p h) (by simp) hl
  have hlen := lineToks_len (ps ++ b :: qs) 0
  simp only [List.length_append, List.length_cons] at hlen
  generalize hL : lineToks 0 (ps ++ b :: qs) = L at hx hlen
  obtain ⟨f, hf⟩ : ∃ f, L.length + 1 = f + 1 + ps.length := ⟨L.length - ps.length, by omega⟩
  have hL2 : L = lineToks 0 ps ++ lineToks (joinL ps).length (b :: qs) := by rw [← hL, lineToks_app, Nat.zero_add]
  obtain ⟨rs, h1, h2⟩ := rules_lines (L := L) ps 0 0 (f + 1) [] (lineToks (joinL ps).length (b :: qs)) hp (by simpa using hL2)
  have hd : L.drop (lineToks 0 ps).length = toksL b (joinL ps).length ++ endT ((joinL ps).length + b.length + 1) :: lineToks ((joinL ps).length + b.length + 1) qs := by
    rw [hL2, List.drop_left' rfl, lineToks_cons]
  have hlt : (lineToks 0 ps).length < L.length := by
    have := congrArg List.length hd
    simp at this
    omega
  unfold ofP parseP
  rw [hx]
  rw [if_neg (by simp)]
  simp only
  rw [hf, h2, Nat.zero_add]
  unfold rulesS
  rw [if_pos hlt]
  rcases hb.parse L _ _ _ hd with ⟨q, e1, e2, e3⟩ | ⟨x, m, e1, e2, e3, e4⟩
  · rw [e1]
    simp only
    rw [e2, e3]
  · rw [e1]
    simp only
    rw [if_neg (by simp [e2]), e3, e4]
def shP (a : Nat) : Pr → Pr
  | .ok t n => .ok t (a + n)
  | .bad p => .bad (a + p)
theorem get_drop (L : List Tok) (a b : Nat) : (L.drop a)[b]? = L[a + b]? := by rw [List.getElem?_drop]
theorem kd_drop (L : List Tok) (a b : Nat) : kd (L.drop a) b = kd L (a + b) := by unfold kd; rw [get_drop]
/-- What stands ahead is nothing to the reader. -/
theorem parts_shift (L : List Tok) (a : Nat) : ∀ f, (∀ b, thingS L f (a + b) = (thingS (L.drop a) f b).map (shP a)) ∧ (∀ b, partS L f (a + b) = (partS (L.drop a) f b).map (shP a)) ∧ (∀ b ks, rowS L f (a + b) ks = (rowS (L.drop a) f b ks).map (shP a)) ∧ (∀ b ks, choicesS L f (a + b) ks = (choicesS (L.drop a) f b ks).map (shP a)) := by
  intro f
  induction f with
  | zero => exact ⟨fun _ => by simp [thingS], fun _ => by simp [partS], fun _ _ => by simp [rowS], fun _ _ => by simp [choicesS]⟩
  | succ f ih =>
    obtain ⟨i1, i2, i3, i4⟩ := ih
    refine ⟨fun b => ?_, fun b => ?_, fun b ks => ?_, fun b ks => ?_⟩
    · unfold thingS
      rw [kd_drop, get_drop]
      by_cases h : kd L (a + b) = 5 ∨ kd L (a + b) = 7
      · rw [if_pos h, if_pos h, Nat.add_assoc, i4]
        cases choicesS (L.drop a) f (b + 1) [] with
        | none => rfl
        | some p =>
          cases p with
          | bad q => rfl
          | ok t n =>
            simp only [Option.map_some, shP, kd_drop]
            by_cases h2 : kd L (a + n) = kd L (a + b) + 1
            · rw [if_pos h2, if_pos h2]; rfl
            · rw [if_neg h2, if_neg h2]; rfl
      · rw [if_neg h, if_neg h]
        cases L[a + b]? with
        | none => rfl
        | some t =>
          simp only
          by_cases h2 : aloneP (leafT t) = true
          · rw [if_pos h2, if_pos h2]; rfl
          · rw [if_neg h2, if_neg h2]; rfl
    · unfold partS
      rw [get_drop, i1]
      cases L[a + b]? with
      | none => rfl
      | some x =>
        simp only
        by_cases h : x.kind = 9
        · rw [if_pos h, if_pos h]
          by_cases h2 : aloneP (timesT x.mn x.mx zeroT) = true
          · rw [if_pos h2, if_pos h2, Nat.add_assoc, i1]
            cases thingS (L.drop a) f (b + 1) with
            | none => rfl
            | some p => cases p <;> rfl
          · rw [if_neg h2, if_neg h2]; rfl
        · rw [if_neg h, if_neg h]
    · unfold rowS
      rw [kd_drop, i2]
      by_cases h : (ks.isEmpty || begins (kd L (a + b))) = true
      · rw [if_pos h, if_pos h]
        cases partS (L.drop a) f b with
        | none => rfl
        | some p =>
          cases p with
          | bad q => rfl
          | ok t n => simp only [Option.map_some, shP, i3]
      · rw [if_neg h, if_neg h]; rfl
    · unfold choicesS
      rw [i3]
      cases rowS (L.drop a) f b [] with
      | none => rfl
      | some p =>
        cases p with
        | bad q => rfl
        | ok t n =>
          simp only [Option.map_some, shP, kd_drop]
          by_cases h2 : kd L (a + n) = 4
          · rw [if_pos h2, if_pos h2, Nat.add_assoc, i4]
          · rw [if_neg h2, if_neg h2]; rfl
theorem choP_of {l : List Tok} {F a : Nat} {p : Pr} (h : choicesS l F a [] = some p) : choP l a = p := by
  have h1 := choices_mono h (g := max F (4 * l.length + 4)) (by omega)
  have h2 := choices_mono (choP_eq l a) (g := max F (4 * l.length + 4)) (by omega)
  rw [h1] at h2
  injection h2 with h2
  exact h2.symm
/-- The rule of a list that begins here, with fuel. -/
def ruleF (l : List Tok) (F : Nat) : Option Nat :=
  match l[0]? with
  | none => some 0
  | some n =>
    if n.kind = 1 ∧ aloneP (leafT n) = true then
      if kd l 1 = 2 ∨ kd l 1 = 3 then
        match choicesS l F 2 [] with
        | some (.bad p) => some p
        | some (.ok t m) => if kd l m = 13 then none else some m
        | none => none
      else some 1
    else some 0
theorem ruleF_bad {L l : List Tok} {a F q : Nat} (hd : L.drop a = l) (h : ruleF l F = some q) : ruleS L a = .bad (a + q) := by
  have g0 : L[a]? = l[0]? := by rw [← hd, get_drop]; rfl
  have k1 : kd L (a + 1) = kd l 1 := by rw [← hd, kd_drop]
  unfold ruleF at h
  unfold ruleS
  rw [g0]
  cases e : l[0]? with
  | none =>
    rw [e] at h
    simp only [Option.some.injEq] at h
    subst h
    rfl
  | some n =>
    rw [e] at h
    simp only at h ⊢
    by_cases h1 : n.kind = 1 ∧ aloneP (leafT n) = true
    · rw [if_pos h1] at h ⊢
      rw [k1]
      by_cases h2 : kd l 1 = 2 ∨ kd l 1 = 3
      · rw [if_pos h2] at h ⊢
        cases hc : choicesS l F 2 [] with
        | none => rw [hc] at h; cases h
        | some p =>
          have hs : choP L (a + 2) = shP a p := choP_of (F := F) (by rw [(parts_shift L a F).2.2.2, hd, hc]; rfl)
          rw [hc] at h
          rw [hs]
          cases p with
          | bad p =>
            simp only [Option.some.injEq] at h
            subst h
            rfl
          | ok t m =>
            simp only [shP] at h ⊢
            rw [show kd L (a + m) = kd l m by rw [← hd, kd_drop]]
            by_cases h3 : kd l m = 13
            · rw [if_pos h3] at h; cases h
            · rw [if_neg h3] at h ⊢
              simp only [Option.some.injEq] at h
              subst h
              rfl
      · rw [if_neg h2] at h ⊢
        simp only [Option.some.injEq] at h
        subst h
        rfl
    · rw [if_neg h1] at h ⊢
      simp only [Option.some.injEq] at h
      subst h
      rfl
theorem badLn {p : List UInt8} {k : Nat} (ts : Nat → List Tok) (q F : Nat) (h1 : LineOk p) (h2 : ∀ off, toksL p off = ts off) (h3 : ∀ off n rest, ruleF (ts off ++ endT n :: rest) F = some q) (h4 : ∀ off, (ts off ++ [endT (off + p.length + 1)])[q]?.map Tok.pos = some ((off + k : Nat) : Int)) : BadLn p k 20 := by
  refine ⟨h1, fun L a off rest hd => .inl ⟨a + q, ?_, ?_, rfl⟩⟩
  · exact ruleF_bad hd (by rw [h2]; exact h3 off _ rest)
  · have h := h4 off
    rw [h2] at hd
    cases e : (ts off ++ [endT (off + p.length + 1)])[q]? with
    | none => rw [e] at h; cases h
    | some t =>
      rw [e] at h
      simp only [Option.map_some, Option.some.injEq] at h
      have hq : q < (ts off ++ [endT (off + p.length + 1)]).length := (List.getElem?_eq_some_iff.1 e).1
      have hg : L[a + q]? = some t := by
        rw [← get_drop, hd, show ts off ++ endT (off + p.length + 1) :: rest = (ts off ++ [endT (off + p.length + 1)]) ++ rest by simp, List.getElem?_append_left hq, e]
      have hlt : a + q < L.length := (List.getElem?_eq_some_iff.1 hg).1
      unfold posAt
      rw [show min (a + q) (L.length - 1) = a + q by omega, hg]
      exact h
def nmK (s : List UInt8) (n : Nat) : Tok := { kind := 1, text := s, pos := (n : Int) }
def sgK (k : UInt8) (n : Nat) : Tok := { kind := k, pos := (n : Int) }
def tmK (m : Int) (n : Nat) : Tok := { kind := 9, mn := m, mx := m, pos := (n : Int) }
theorem lineOk_of {c : UInt8} {r : List UInt8} (h1 : letC c = true) (h2 : ((c :: r).all fun x => x != 10 && x != 13) = true) (h3 : ∀ off, (lineP (c :: r) off ((c :: r).length + 2) 0 []).2 = (0, 0)) : LineOk (c :: r) := by
  rw [List.all_eq_true] at h2
  exact ⟨⟨c, r, rfl, h1⟩, fun h => by have := h2 10 h; simp at this, fun h => by have := h2 13 h; simp at this, h3⟩
theorem bad0 : BadLn [114, 32, 97] 2 20 := badLn (fun off => [nmK [114] off, nmK [97] (off + 2)]) 1 40 (lineOk_of (by decide) (by decide) fun off => by kernel_rfl) (fun off => by kernel_rfl) (fun off n rest => by kernel_rfl) (fun off => by kernel_rfl)
theorem bad1 : BadLn [114] 2 20 := badLn (fun off => [nmK [114] off]) 1 40 (lineOk_of (by decide) (by decide) fun off => by kernel_rfl) (fun off => by kernel_rfl) (fun off n rest => by kernel_rfl) (fun off => by kernel_rfl)
theorem bad2 : BadLn [114, 32, 61, 32, 61, 32, 97] 4 20 := badLn (fun off => [nmK [114] off, sgK 2 (off + 2), sgK 2 (off + 4), nmK [97] (off + 6)]) 2 40 (lineOk_of (by decide) (by decide) fun off => by kernel_rfl) (fun off => by kernel_rfl) (fun off n rest => by kernel_rfl) (fun off => by kernel_rfl)
theorem bad3 : BadLn [114, 32, 61, 32, 47, 32, 97] 4 20 := badLn (fun off => [nmK [114] off, sgK 2 (off + 2), sgK 4 (off + 4), nmK [97] (off + 6)]) 2 40 (lineOk_of (by decide) (by decide) fun off => by kernel_rfl) (fun off => by kernel_rfl) (fun off n rest => by kernel_rfl) (fun off => by kernel_rfl)
theorem bad4 : BadLn [114, 32, 61, 32, 97, 32, 47, 32, 47, 32, 98] 8 20 := badLn (fun off => [nmK [114] off, sgK 2 (off + 2), nmK [97] (off + 4), sgK 4 (off + 6), sgK 4 (off + 8), nmK [98] (off + 10)]) 4 40 (lineOk_of (by decide) (by decide) fun off => by kernel_rfl) (fun off => by kernel_rfl) (fun off n rest => by kernel_rfl) (fun off => by kernel_rfl)
theorem bad5 : BadLn [114, 32, 61, 32, 97, 32, 41] 6 20 := badLn (fun off => [nmK [114] off, sgK 2 (off + 2), nmK [97] (off + 4), sgK 6 (off + 6)]) 3 40 (lineOk_of (by decide) (by decide) fun off => by kernel_rfl) (fun off => by kernel_rfl) (fun off n rest => by kernel_rfl) (fun off => by kernel_rfl)
theorem bad6 : BadLn [114, 32, 61, 32, 40, 97, 93, 32, 98] 6 20 := badLn (fun off => [nmK [114] off, sgK 2 (off + 2), sgK 5 (off + 4), nmK [97] (off + 5), sgK 8 (off + 6), nmK [98] (off + 8)]) 4 40 (lineOk_of (by decide) (by decide) fun off => by kernel_rfl) (fun off => by kernel_rfl) (fun off n rest => by kernel_rfl) (fun off => by kernel_rfl)
theorem bad7 : BadLn [114, 32, 61, 32, 91, 97, 41, 32, 98] 6 20 := badLn (fun off => [nmK [114] off, sgK 2 (off + 2), sgK 7 (off + 4), nmK [97] (off + 5), sgK 6 (off + 6), nmK [98] (off + 8)]) 4 40 (lineOk_of (by decide) (by decide) fun off => by kernel_rfl) (fun off => by kernel_rfl) (fun off n rest => by kernel_rfl) (fun off => by kernel_rfl)
theorem bad8 : BadLn [114, 32, 61, 32, 40, 41] 5 20 := badLn (fun off => [nmK [114] off, sgK 2 (off + 2), sgK 5 (off + 4), sgK 6 (off + 5)]) 3 40 (lineOk_of (by decide) (by decide) fun off => by kernel_rfl) (fun off => by kernel_rfl) (fun off n rest => by kernel_rfl) (fun off => by kernel_rfl)
theorem bad9 : BadLn [114, 32, 61, 32, 50, 32, 51, 97] 6 20 := badLn (fun off => [nmK [114] off, sgK 2 (off + 2), tmK 2 (off + 4), tmK 3 (off + 6), nmK [97] (off + 7)]) 3 40 (lineOk_of (by decide) (by decide) fun off => by kernel_rfl) (fun off => by kernel_rfl) (fun off n rest => by kernel_rfl) (fun off => by kernel_rfl)
theorem bad10 : BadLn [114, 32, 61, 32, 97, 32, 50] 8 20 := badLn (fun off => [nmK [114] off, sgK 2 (off + 2), nmK [97] (off + 4), tmK 2 (off + 6)]) 4 40 (lineOk_of (by decide) (by decide) fun off => by kernel_rfl) (fun off => by kernel_rfl) (fun off n rest => by kernel_rfl) (fun off => by kernel_rfl)
theorem bad11 : BadLn [114, 32, 61, 32, 97, 32, 61, 47, 32, 98] 6 20 := badLn (fun off => [nmK [114] off, sgK 2 (off + 2), nmK [97] (off + 4), sgK 3 (off + 6), nmK [98] (off + 9)]) 3 40 (lineOk_of (by decide) (by decide) fun off => by kernel_rfl) (fun off => by kernel_rfl) (fun off n rest => by kernel_rfl) (fun off => by kernel_rfl)
theorem bad12 : BadLn [114, 32, 61, 32] 5 20 := badLn (fun off => [nmK [114] off, sgK 2 (off + 2)]) 2 40 (lineOk_of (by decide) (by decide) fun off => by kernel_rfl) (fun off => by kernel_rfl) (fun off n rest => by kernel_rfl) (fun off => by kernel_rfl)
theorem bad13 : BadLn [114, 32, 61, 32, 91, 97] 7 20 := badLn (fun off => [nmK [114] off, sgK 2 (off + 2), sgK 7 (off + 4), nmK [97] (off + 5)]) 4 40 (lineOk_of (by decide) (by decide) fun off => by kernel_rfl) (fun off => by kernel_rfl) (fun off n rest => by kernel_rfl) (fun off => by kernel_rfl)
def deepB : List UInt8 := [114, 32, 61, 32] ++ (repL [49, 40] 98 ++ ([97, 32, 98] ++ repL [41] 98))
def deepC : List UInt8 := [114, 32, 61, 32] ++ (repL [49, 40] 99 ++ ([97, 32, 98] ++ repL [41] 99))
theorem deep_rep : Lib.replace deepB [97, 32, 98] [49, 40, 97, 32, 98, 41] 1 = deepC := by kernel_rfl
theorem deep_cnt : Lib.countB ⟨⟨deepB⟩⟩ ⟨⟨[97, 32, 98]⟩⟩ = 1 := by kernel_rfl
def dR : Nat → Tr
  | 0 => rowT 5 [nmT [97], nmT [98]]
  | n + 1 => timesT 1 1 (dR n)
theorem many11 : manyP 1 1 = [49] := by simp [manyP, Lib.itoa, Lib.decDigits]
theorem dR_k (n : Nat) : needs 7 (dR n).k = true := by cases n <;> rfl
theorem dR_text : ∀ n, textP (dR n) = repL [49, 40] n ++ ([97, 32, 98] ++ repL [41] n)
  | 0 => by kernel_rfl
  | n + 1 => by
    have e : textP (dR (n + 1)) = manyP 1 1 ++ (40 :: (textP (dR n) ++ [41])) := by
      show textP (timesT 1 1 (dR n)) = _
      unfold timesT
      simp [textP, brks, dR_k]
    rw [e, many11, dR_text n, repL_succ', repL_succ', ← repL_snoc [41] n]
    simp
theorem dR_fit : fitsP 100 (dR 98) = true := by kernel_rfl
theorem dR_fit2 : fitsP 101 (dR 99) = true := by kernel_rfl
theorem dR_fit3 : fitsP 100 (normT (dR 99)) = false := by kernel_rfl
theorem deep_ln : RuleLn deepB [114] (normT (dR 98)) := by
  have := ruleLn (c := 114) (nm := []) (by decide) (by decide) (by decide) (lx_tree (dR 98).size 100 _ (Nat.le_refl _) dR_fit) (reads_tree (dR 98).size 100 _ (Nat.le_refl _) dR_fit).1
  rw [dR_text] at this
  exact this
theorem deep_fits : fitsP 100 (normT (dR 98)) = true := fits_norm _ 100 _ (Nat.le_refl _) dR_fit
theorem bad14 : BadLn deepC 0 21 := by
  have := ruleLn (c := 114) (nm := []) (by decide) (by decide) (by decide) (lx_tree (dR 99).size 101 _ (Nat.le_refl _) dR_fit2) (reads_tree (dR 99).size 101 _ (Nat.le_refl _) dR_fit2).1
  rw [dR_text] at this
  exact ⟨this.ok, fun L a off rest hd => .inr ⟨_, _, this.parse L a off _ rest hd, dR_fit3, by simp, rfl⟩⟩
theorem fine_ln {t : Tr} (h : fitsP 7 t = true) : RuleLn ([120, 32, 61, 32] ++ textP t) [120] (normT t) := ruleLn (c := 120) (nm := []) (by decide) (by decide) (by decide) (lx_tree t.size 7 t (Nat.le_refl _) h) (reads_tree t.size 7 t (Nat.le_refl _) h).1
theorem fine_fits {t : Tr} (h : fitsP 7 t = true) : fitsP 100 (normT t) = true := fits_mono 7 100 _ (by omega) (fits_norm _ 7 _ (Nat.le_refl _) h)
end Go.Proofs.YtmmapbhhkmchcaaGreatDoor
