/-
  LexFolds, plainly: pieces, gaps, lines.
-/
import Derived.Test.YtiobaboailhafaaN2
set_option linter.unusedVariables false
set_option linter.unusedSimpArgs false
namespace Go.Proofs.Ytiobaboailhafaa
open Go Go.Am

def stopB (r : List UInt8) : Prop := r = [] ∨ ∃ r', r = 32 :: r' ∨ r = 9 :: r'
theorem finR_nil (l : List Tok) : finR l ([], 0, 0) = (l, 0, 0) := by simp [finR]
theorem lineC_blanks : ∀ (g r : List UInt8) (off : Nat), (∀ c ∈ g, blkC c = true) → lineC (g ++ r) off = lineC r (off + g.length)
  | [], r, off, _ => rfl
  | c :: g, r, off, h => by
    rw [List.cons_append, lineC_blank _ _ (h c List.mem_cons_self), lineC_blanks g r _ fun d hd => h d (List.mem_cons_of_mem _ hd)]
    simp [Nat.add_assoc, Nat.add_comm 1]
def PieceOk (p : List UInt8) (t : Tok) : Prop := ∃ c w, p = c :: w ∧ blkC c = false ∧ c ≠ 59 ∧ ¬ 10 ∈ p ∧ p.getLast? ≠ some 13 ∧ p.length ≤ 8 ∧ akT t = t ∧ ∀ rest, stopB rest → readP c (p ++ rest) = { tok := t, n := p.length }
def GoodL (u : List UInt8) (ks : List Tok) : Prop := ∀ rest off, stopB rest → ∃ l, lineC (u ++ rest) off = finR l (lineC rest (off + u.length)) ∧ l.map akT = ks
theorem piece_line {p : List UInt8} {t : Tok} (h : PieceOk p t) (rest : List UInt8) (off : Nat) (hr : stopB rest) : lineC (p ++ rest) off = finR [{ t with pos := (off : Int) }] (lineC rest (off + p.length)) := by
  obtain ⟨c, w, rfl, hb, h59, _, _, _, _, h⟩ := h
  have h := h rest hr
  have hn : (readP c (c :: (w ++ rest))) = { tok := t, n := (c :: w).length } := h
  rw [List.cons_append, lineC_read _ _ hb h59 (by rw [hn]), hn]
  simp
theorem good_piece {p : List UInt8} {t : Tok} (h : PieceOk p t) : GoodL p [t] := fun rest off hr => ⟨_, piece_line h rest off hr, by
  obtain ⟨c, w, rfl, hb, h59, _, _, _, ht, h⟩ := h
  simp only [List.map_cons, List.map_nil]
  congr 1⟩
theorem stop_blank {g : List UInt8} (r : List UInt8) (hg : ∀ c ∈ g, blkC c = true) (h : g ≠ []) : stopB (g ++ r) := by
  cases g with
  | nil => exact absurd rfl h
  | cons c g =>
    have := hg c List.mem_cons_self
    simp [blkC] at this
    right
    rcases this with rfl | rfl
    · exact ⟨g ++ r, .inl rfl⟩
    · exact ⟨g ++ r, .inr rfl⟩
theorem good_more {u g p : List UInt8} {ks : List Tok} {t : Tok} (hu : GoodL u ks) (hg : ∀ c ∈ g, blkC c = true) (h0 : g ≠ []) (hp : PieceOk p t) : GoodL (u ++ (g ++ p)) (ks ++ [t]) := by
  intro rest off hr
  obtain ⟨l, h1, h2⟩ := hu (g ++ (p ++ rest)) off (stop_blank _ hg h0)
  rw [lineC_blanks _ _ _ hg] at h1
  obtain ⟨l2, h3, h4⟩ := good_piece hp rest (off + u.length + g.length) hr
  rw [h3, finR_fin] at h1
  refine ⟨l ++ l2, ?_, by simp [h2, h4]⟩
  have e : (u ++ (g ++ p)) ++ rest = u ++ (g ++ (p ++ rest)) := by simp
  rw [e, h1]
  simp [Nat.add_assoc]
theorem good_lead {g p : List UInt8} {t : Tok} (hg : ∀ c ∈ g, blkC c = true) (hp : PieceOk p t) : GoodL (g ++ p) [t] := by
  intro rest off hr
  obtain ⟨l2, h3, h4⟩ := good_piece hp rest (off + g.length) hr
  refine ⟨l2, ?_, h4⟩
  rw [List.append_assoc, lineC_blanks _ _ _ hg, h3]
  simp [Nat.add_assoc]

def StepOk (y : List UInt8) (any any' : Bool) (ks : List Tok) : Prop := ∀ a out, ∃ l, stepL y a any out = ((any', out ++ l), 0, 0) ∧ l.map akT = ks
def Ends (u : List UInt8) (any : Bool) (ks : List Tok) : Prop := ∀ out, ∃ l, lexF u (u.length + 1) 0 any out = (out ++ l, 0, 0) ∧ l.map akT = ks
def Proc (c : List UInt8) (any any' : Bool) (ks : List Tok) : Prop := ∀ u ks', Ends u any' ks' → Ends (c ++ u) any (ks ++ ks')
theorem Proc.nil (any : Bool) : Proc [] any any [] := fun u ks' h => h
theorem Proc.trans {c d : List UInt8} {a1 a2 a3 : Bool} {k1 k2 : List Tok} (h1 : Proc c a1 a2 k1) (h2 : Proc d a2 a3 k2) : Proc (c ++ d) a1 a3 (k1 ++ k2) := by
  intro u ks' h
  rw [List.append_assoc, List.append_assoc]
  exact h1 _ _ (h2 _ _ h)
theorem sh_ak (d : Nat) (l : List Tok) : (l.map (shT d)).map akT = l.map akT := by simp [akT, shT]
theorem Proc.line {x : List UInt8} {any any' : Bool} {ks : List Tok} (hx : ¬ 10 ∈ x) (h : StepOk (trimSuf x [13]) any any' ks) : Proc (x ++ [10]) any any' ks := by
  intro u ks' hu out
  obtain ⟨l, h1, h2⟩ := h 0 out
  obtain ⟨l', h3, h4⟩ := hu []
  have e : (x ++ [10] ++ u) = x ++ 10 :: u := by simp
  have hlen : (x ++ 10 :: u).length = x.length + 1 + u.length := by simp; omega
  rw [e]
  have hlt : 0 < (x ++ 10 :: u).length := by omega
  have e1 : cutL ((x ++ 10 :: u).drop 0) = trimSuf x [13] := by rw [List.drop_zero, cutL_last _ hx]
  have e2 : cutB ((x ++ 10 :: u).drop 0) 10 = x := by rw [List.drop_zero, cutB_last _ hx]
  have hsh := lexF_sh (x ++ [10]) u (u.length + 1) 0 any' [] (out ++ l) (by omega) (by rw [h3])
  rw [h3, e] at hsh
  simp only [List.map_nil, List.append_nil, Nat.add_zero, List.nil_append, List.length_append, List.length_cons, List.length_nil, Nat.zero_add] at hsh
  refine ⟨l ++ l'.map (shT (x.length + 1)), ?_, by rw [List.map_append, sh_ak, h2, h4]⟩
  rw [lexF_step0 _ hlt (by rw [e1, h1]), e1, e2, h1]
  rw [lexF_fuel _ _ (u.length + 1) _ _ _ (by omega) (by omega)]
  simp only [Nat.zero_add]
  rw [hsh]
  simp
theorem Ends.last {x : List UInt8} {any any' : Bool} {ks : List Tok} (hx : ¬ 10 ∈ x) (h0 : x ≠ []) (h : StepOk x any any' ks) : Ends x any (ks ++ if any' then [akT (endT 0)] else []) := by
  intro out
  obtain ⟨l, h1, h2⟩ := h 0 out
  have hlt : 0 < x.length := by
    cases x with
    | nil => exact absurd rfl h0
    | cons _ _ => simp
  have e1 : cutL (x.drop 0) = x := by rw [List.drop_zero, cutL_all hx]
  have e2 : cutB (x.drop 0) 10 = x := by rw [List.drop_zero, cut_all hx]
  rw [lexF_step0 _ hlt (by rw [e1, h1]), e1, e2, h1]
  obtain ⟨k, hk⟩ : ∃ k, x.length = k + 1 := ⟨x.length - 1, by omega⟩
  rw [hk, lexF_end _ _ _ _ _ (by omega)]
  cases any' with
  | false => exact ⟨l, rfl, by simpa using h2⟩
  | true => exact ⟨l ++ [endT x.length], by simp, by simp [h2, akT, endT]⟩

theorem run_lead {g : List UInt8} {c : UInt8} (w : List UInt8) (hg : ∀ c ∈ g, blkC c = true) (hc : blkC c = false) : runN blkC (g ++ c :: w) = g.length := by
  induction g with
  | nil => simp [runN, hc]
  | cons d g ih =>
    have := ih fun x hx => hg x (List.mem_cons_of_mem _ hx)
    unfold runN at this ⊢
    simp [hg d List.mem_cons_self, this]
theorem run_blank {g : List UInt8} (hg : ∀ c ∈ g, blkC c = true) : runN blkC g = g.length := by
  induction g with
  | nil => rfl
  | cons d g ih =>
    have := ih fun x hx => hg x (List.mem_cons_of_mem _ hx)
    unfold runN at this ⊢
    simp [hg d List.mem_cons_self, this]
theorem StepOk.blank {y : List UInt8} (hy : ∀ c ∈ y, blkC c = true) (any : Bool) : StepOk y any any [] := by
  intro a out
  refine ⟨[], ?_, rfl⟩
  unfold stepL
  rw [run_blank hy]
  simp
theorem StepOk.remark {g : List UInt8} (r : List UInt8) (hg : ∀ c ∈ g, blkC c = true) (any : Bool) : StepOk (g ++ 59 :: r) any any [] := by
  intro a out
  refine ⟨[], ?_, rfl⟩
  unfold stepL
  rw [run_lead r hg (by decide)]
  simp
/-- How a rule's line begins. -/
def Head (u : List UInt8) (any : Bool) : Prop := ∃ g c w, u = g ++ c :: w ∧ (∀ c ∈ g, blkC c = true) ∧ blkC c = false ∧ c ≠ 59 ∧ ((g = [] ∧ letC c = true ∧ any = false) ∨ (g ≠ [] ∧ any = true))
theorem Head.more {u : List UInt8} {any : Bool} (h : Head u any) (v : List UInt8) : Head (u ++ v) any := by
  obtain ⟨g, c, w, rfl, h⟩ := h
  exact ⟨g, c, w ++ v, by simp, h⟩
theorem StepOk.rule {u tail : List UInt8} {any : Bool} {ks : List Tok} (hu : GoodL u ks) (hh : Head u any) (ht : tail = [] ∨ ∃ r, tail = 32 :: 59 :: r) : StepOk (u ++ tail) any true ks := by
  intro a out
  have htail : lineC tail (a + u.length) = ([], 0, 0) := by
    rcases ht with rfl | ⟨r, rfl⟩
    · rfl
    · rw [lineC_blank _ _ (by decide), lineC_semi]
  obtain ⟨l, h1, h2⟩ := hu tail a (by
    rcases ht with rfl | ⟨r, rfl⟩
    · exact .inl rfl
    · exact .inr ⟨_, .inl rfl⟩)
  rw [htail, finR_nil] at h1
  obtain ⟨g, c, w, rfl, hg, hc, h59, hk⟩ := hh
  have e : g ++ c :: w ++ tail = g ++ c :: (w ++ tail) := by simp
  rw [e] at h1 ⊢
  have hr := run_lead (w ++ tail) hg hc
  have hget : (g ++ c :: (w ++ tail))[runN blkC (g ++ c :: (w ++ tail))]? = some c := by rw [hr]; simp
  rcases hk with ⟨rfl, hl, rfl⟩ | ⟨hne, rfl⟩
  · rw [step_ok hget h59 (by rw [hr]; simp [hl]) (by rw [h1]), h1, hr]
    exact ⟨l, by simp, h2⟩
  · have hpos : 0 < g.length := by
      cases g with
      | nil => exact absurd rfl hne
      | cons _ _ => simp
    rw [step_ok hget h59 (by rw [hr]; simp [hne]) (by rw [h1]), h1, hr]
    exact ⟨l, by simp [hne], h2⟩
theorem trim_not {x : List UInt8} (h : x.getLast? ≠ some 13) : trimSuf x [13] = x := by
  rcases trim_cases x with e | ⟨v, rfl, e⟩
  · exact e
  · simp at h
theorem trim_13 (x : List UInt8) : trimSuf (x ++ [13]) [13] = x := by
  unfold trimSuf
  rw [if_pos (by simp)]
  simp
/-- What is told behind a ';' has no say. -/
theorem trim_rem (x r : List UInt8) : ∃ r', trimSuf (x ++ 59 :: r) [13] = x ++ 59 :: r' := by
  rcases trim_cases (x ++ 59 :: r) with e | ⟨v, h, e⟩
  · exact ⟨r, e⟩
  · rw [e]
    cases hr : r.reverse with
    | nil =>
      have : r = [] := by simpa using hr
      subst this
      have := congrArg List.getLast? h
      simp at this
    | cons d q =>
      have hr' : r = q.reverse ++ [d] := by
        have := congrArg List.reverse hr
        simpa using this
      rw [hr'] at h
      refine ⟨q.reverse, ?_⟩
      have h' : (x ++ 59 :: q.reverse) ++ [d] = v ++ [13] := by simpa using h
      exact (List.append_inj' h' rfl).1.symm

/-- A text so far, in a line. -/
def St (s : List UInt8) (ks : List Tok) : Prop := ∃ c u k1 k2 any, s = c ++ u ∧ Proc c false any k1 ∧ GoodL u k2 ∧ ¬ 10 ∈ u ∧ u.getLast? ≠ some 13 ∧ Head u any ∧ ks = k1 ++ k2
theorem piece_last {p q : List UInt8} {t : Tok} (h : PieceOk p t) : (q ++ p).getLast? ≠ some 13 := by
  obtain ⟨c, w, rfl, _, _, _, h, _⟩ := h
  simpa [List.getLast?_append] using h
theorem piece_10 {p : List UInt8} {t : Tok} (h : PieceOk p t) : ¬ 10 ∈ p := by
  obtain ⟨c, w, _, _, _, h, _⟩ := h
  exact h
theorem piece_head {p g : List UInt8} {t : Tok} (h : PieceOk p t) (hg : ∀ c ∈ g, blkC c = true) (h0 : g ≠ []) : Head (g ++ p) true := by
  obtain ⟨c, w, rfl, h1, h2, _⟩ := h
  exact ⟨g, c, w, rfl, hg, h1, h2, .inr ⟨h0, rfl⟩⟩
theorem blank_10 {g : List UInt8} (hg : ∀ c ∈ g, blkC c = true) : ¬ 10 ∈ g := fun h => by
  have := hg 10 h
  simp [blkC] at this
theorem St.blank {s g p : List UInt8} {ks : List Tok} {t : Tok} (h : St s ks) (hg : ∀ c ∈ g, blkC c = true) (h0 : g ≠ []) (hp : PieceOk p t) : St (s ++ (g ++ p)) (ks ++ [t]) := by
  obtain ⟨c, u, k1, k2, any, rfl, h1, h2, h3, h4, h5, rfl⟩ := h
  refine ⟨c, u ++ (g ++ p), k1, k2 ++ [t], any, by simp, h1, good_more h2 hg h0 hp, ?_, ?_, h5.more _, by simp⟩
  · have := blank_10 hg
    have := piece_10 hp
    simp_all
  · rw [← List.append_assoc]; exact piece_last hp
/-- A line's end, lines that are passed over, and blanks. -/
theorem St.turn {s tail d g p : List UInt8} {ks : List Tok} {t : Tok} (h : St s ks) (ht : tail = [] ∨ tail = [13] ∨ ∃ r, tail = 32 :: 59 :: r ∧ ¬ 10 ∈ r) (hd : Proc d true true []) (hg : ∀ c ∈ g, blkC c = true) (h0 : g ≠ []) (hp : PieceOk p t) :
    St (s ++ (tail ++ [10] ++ d ++ g ++ p)) (ks ++ [t]) := by
  obtain ⟨c, u, k1, k2, any, rfl, h1, h2, h3, h4, h5, rfl⟩ := h
  have hl : Proc (u ++ tail ++ [10]) any true k2 := by
    refine Proc.line ?_ ?_
    · rcases ht with rfl | rfl | ⟨r, rfl, hr⟩
      · simpa using h3
      · simpa using h3
      · simpa [h3] using hr
    · rcases ht with rfl | rfl | ⟨r, rfl, hr⟩
      · rw [List.append_nil, trim_not h4]
        have := StepOk.rule (tail := []) h2 h5 (.inl rfl)
        simpa using this
      · rw [trim_13]
        have := StepOk.rule (tail := []) h2 h5 (.inl rfl)
        simpa using this
      · obtain ⟨r', e⟩ := trim_rem (u ++ [32]) r
        have e2 : u ++ 32 :: 59 :: r = u ++ [32] ++ 59 :: r := by simp
        rw [e2, e]
        have := StepOk.rule (tail := 32 :: 59 :: r') h2 h5 (.inr ⟨r', rfl⟩)
        simpa using this
  have hc := (h1.trans hl).trans hd
  refine ⟨_, g ++ p, _, [t], true, ?_, hc, good_lead hg hp, ?_, piece_last hp, piece_head hp hg h0, by simp⟩
  · simp
  · have := blank_10 hg
    have := piece_10 hp
    simp_all
theorem St.ends {s : List UInt8} {ks : List Tok} (h : St s ks) : Ends s false (ks ++ [akT (endT 0)]) := by
  obtain ⟨c, u, k1, k2, any, rfl, h1, h2, h3, h4, h5, rfl⟩ := h
  have := StepOk.rule (tail := []) h2 h5 (.inl rfl)
  rw [List.append_nil] at this
  have hne : u ≠ [] := by obtain ⟨g, c, w, rfl, _⟩ := h5; simp
  have := h1 _ _ (Ends.last h3 hne this)
  simpa using this
theorem Proc.rem {g : List UInt8} (r : List UInt8) (hg : ∀ c ∈ g, blkC c = true) (hr : ¬ 10 ∈ r) (any : Bool) : Proc (g ++ 59 :: r ++ [10]) any any [] := by
  refine Proc.line (by have := blank_10 hg; simp [this, hr]) ?_
  obtain ⟨r', e⟩ := trim_rem g r
  rw [e]
  exact StepOk.remark r' hg any
theorem Proc.blank (g : List UInt8) (hg : ∀ c ∈ g, blkC c = true) (any : Bool) : Proc (g ++ [10]) any any [] := by
  refine Proc.line (blank_10 hg) ?_
  rw [trim_not]
  · exact StepOk.blank hg any
  · intro h
    have : (13 : UInt8) ∈ g := List.mem_of_getLast? h
    have := hg 13 this
    simp [blkC] at this
theorem Proc.crlf (any : Bool) : Proc [13, 10] any any [] := by
  refine Proc.line (x := [13]) (by simp) ?_
  exact StepOk.blank (y := []) (by simp) any
theorem St.ends2 {s rem : List UInt8} {ks : List Tok} (h : St s ks) (hr : ¬ 10 ∈ rem) : Ends ([59, 32] ++ rem ++ [10, 13, 10] ++ s ++ [32, 59] ++ rem) false (ks ++ [akT (endT 0)]) := by
  obtain ⟨c, u, k1, k2, any, rfl, h1, h2, h3, h4, h5, rfl⟩ := h
  have hs := StepOk.rule (tail := 32 :: 59 :: rem) h2 h5 (.inr ⟨rem, rfl⟩)
  have hne : u ++ 32 :: 59 :: rem ≠ [] := by simp
  have h10 : ¬ (10 : UInt8) ∈ u ++ 32 :: 59 :: rem := by simp [h3, hr]
  have hp := ((Proc.rem (g := []) (32 :: rem) (by simp) (by simp [hr]) false).trans (Proc.crlf false)).trans h1
  have := hp _ _ (Ends.last h10 hne hs)
  simpa using this
theorem St.rule : St [114, 117, 108, 101] [{ kind := 1, text := [114, 117, 108, 101] }] := by
  refine ⟨[], [114, 117, 108, 101], [], _, false, rfl, Proc.nil _, good_piece ?_, by decide, by decide, ⟨[], 114, [117, 108, 101], rfl, by simp, by decide, by decide, .inl ⟨rfl, by decide, rfl⟩⟩, rfl⟩
  refine ⟨114, [117, 108, 101], rfl, by decide, by decide, by decide, by decide, by decide, rfl, fun rest hr => ?_⟩
  rcases hr with rfl | ⟨r, rfl | rfl⟩ <;> rfl
end Go.Proofs.Ytiobaboailhafaa
