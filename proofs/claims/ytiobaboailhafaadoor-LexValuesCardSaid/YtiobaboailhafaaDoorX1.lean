/-
  LexValues, the plain law: the tokens of such a rule.
-/
import Derived.Test.YtiobaboailhafaaDoorX0
set_option linter.unusedVariables false
set_option linter.unusedSimpArgs false
namespace Go.Proofs.YtiobaboailhafaaDoor
open Go Go.Am

theorem read_name {c : UInt8} (h : letC c = true) (s : List UInt8) : readP c s = nameP s := by
  simp [readP, rowsP, readL, h]
theorem read_is (s : List UInt8) : readP 61 s = isP s := by
  have h : letC 61 = false := by decide
  simp [readP, rowsP, readL, h]
theorem read_value (s : List UInt8) : readP 37 s = valueP s := by
  have h : letC 37 = false := by decide
  have h2 : digC 37 = false := by decide
  simp [readP, rowsP, readL, h, h2]
theorem dig_no10 {base : Nat} (hb : base ≤ 16) {t : List UInt8} {b : UInt8} (h : Dig base t b) : 10 ∉ t := by
  intro hm
  have := h.all 10 hm
  rw [hexC_not hb (by decide)] at this
  cases this
theorem tail_no10 {base : Nat} (hb : base ≤ 16) : ∀ gs : List (List UInt8 × UInt8), (∀ g ∈ gs, Dig base g.1 g.2) → 10 ∉ tailT gs
  | [], _ => by simp [tailT]
  | g :: gs, h => by
    have h1 := dig_no10 hb (h g (by simp))
    have h2 := tail_no10 hb gs fun y hy => h y (by simp [hy])
    have e : tailT (g :: gs) = 46 :: (g.1 ++ tailT gs) := by simp [tailT]
    rw [e]
    simp [h1, h2]
def ruleK (c0 : UInt8) (row len : Nat) (text : List UInt8) (b d : UInt8) : List Tok := [{ kind := 1, pos := ((0 : Nat) : Int), text := [c0] }, { kind := 2, pos := ((2 : Nat) : Int) }, { kind := 11, pos := ((4 : Nat) : Int), text := text }, { kind := 12, pos := ((5 + row : Nat) : Int), lo := b, hi := d }, { kind := 13, pos := ((len : Nat) : Int) }]
theorem rule_lex {base : Nat} (hb : base ≤ 16) {c0 sg : UInt8} (hc : letC c0 = true) (hs : baseC sg = base) (hsg : sg ≠ 10) {t u v : List UInt8} {a b d : UInt8} {gs : List (List UInt8 × UInt8)} (ht : Dig base t a) (hg : ∀ g ∈ gs, Dig base g.1 g.2) (hu : Dig base u b) (hv : Dig base v d) (hbd : b ≤ d)
    (hl : (ruleT c0 sg t gs u v).length ≤ 65536) : lexP (ruleT c0 sg t gs u v) = (ruleK c0 (2 + t.length + (tailT gs).length) (ruleT c0 sg t gs u v).length (a :: gs.map (·.2)) b d, 0, 0) := by
  have hc10 : c0 ≠ 10 := by intro e; subst e; exact absurd hc (by decide)
  have hc59 : c0 ≠ 59 := by intro e; subst e; exact absurd hc (by decide)
  have hcb : blkC c0 = false := by
    unfold blkC
    have h1 : c0 ≠ 32 := by intro e; subst e; exact absurd hc (by decide)
    have h2 : c0 ≠ 9 := by intro e; subst e; exact absurd hc (by decide)
    simp [h1, h2]
  have h10 : 10 ∉ ruleT c0 sg t gs u v := by
    have h1 := dig_no10 hb ht
    have h2 := tail_no10 hb gs hg
    have h3 := dig_no10 hb hu
    have h4 := dig_no10 hb hv
    simp [ruleT, h1, h2, h3, h4, Ne.symm hc10, Ne.symm hsg]
  have hcut : cutB (ruleT c0 sg t gs u v) 10 = ruleT c0 sg t gs u v := by
    unfold cutB
    have h : ∀ c ∈ ruleT c0 sg t gs u v, (c != 10) = true := by
      intro c hc
      have : c ≠ 10 := by intro e; subst e; exact h10 hc
      simpa using this
    have := List.takeWhile_append_of_pos (p := (· != 10)) (l₂ := []) h
    simpa using this
  have hcutL : cutL (ruleT c0 sg t gs u v) = ruleT c0 sg t gs u v := by
    unfold cutL
    rw [if_neg h10, hcut]
  have hrow : (37 :: sg :: (t ++ (tailT gs ++ 32 :: 37 :: sg :: (u ++ 45 :: v))) : List UInt8).length = (2 + t.length + (tailT gs).length) + (1 + (2 + u.length + 1 + v.length)) := by simp; omega
  have hline : lineP (ruleT c0 sg t gs u v) 0 ((ruleT c0 sg t gs u v).length + 2) 0 [] = ([{ kind := 1, pos := ((0 : Nat) : Int), text := [c0] }, { kind := 2, pos := ((2 : Nat) : Int) }, { kind := 11, pos := ((4 : Nat) : Int), text := a :: gs.map (·.2) }, { kind := 12, pos := ((5 + (2 + t.length + (tailT gs).length) : Nat) : Int), lo := b, hi := d }], 0, 0) := by
    have hL : (ruleT c0 sg t gs u v).length = 4 + ((2 + t.length + (tailT gs).length) + (1 + (2 + u.length + 1 + v.length))) := by
      unfold ruleT
      simp only [List.length_cons] at hrow ⊢
      omega
    obtain ⟨f, hf⟩ : ∃ f, (ruleT c0 sg t gs u v).length + 2 = f + 8 := ⟨(ruleT c0 sg t gs u v).length - 6, by omega⟩
    rw [hf]
    have hn : nameP ((ruleT c0 sg t gs u v).drop 0) = { tok := { kind := 1, text := [c0] }, n := 1 } := by
      have : runN namC (ruleT c0 sg t gs u v) = 1 := runN_app (t := [c0]) (r := 32 :: 61 :: 32 :: 37 :: sg :: (t ++ (tailT gs ++ 32 :: 37 :: sg :: (u ++ 45 :: v)))) (by simp [namC, hc]) (by intro c h; simp at h; subst h; decide)
      rw [List.drop_zero]
      unfold nameP
      rw [this]
      rfl
    refine (line_tok (c := c0) rfl hc59 hcb ((read_name hc _).trans hn) rfl).trans ?_
    show lineP _ 0 (f + 7) 1 [{ kind := 1, pos := ((0 : Nat) : Int), text := [c0] }] = _
    refine (line_blank rfl).trans ?_
    have hi : isP ((ruleT c0 sg t gs u v).drop 2) = { tok := { kind := 2 }, n := 1 } := by simp [ruleT, isP]
    refine (line_tok (c := 61) rfl (by decide) (by decide) ((read_is _).trans hi) rfl).trans ?_
    show lineP _ 0 (f + 5) 3 [{ kind := 1, pos := ((0 : Nat) : Int), text := [c0] }, { kind := 2, pos := ((2 : Nat) : Int) }] = _
    refine (line_blank rfl).trans ?_
    have hv1 := value_bytes hb hs ht gs hg (37 :: sg :: (u ++ 45 :: v))
    refine (line_tok (c := 37) rfl (by decide) (by decide) ((read_value _).trans (show valueP ((ruleT c0 sg t gs u v).drop 4) = _ from hv1)) rfl).trans ?_
    show lineP _ 0 (f + 3) (4 + (2 + t.length + (tailT gs).length)) [{ kind := 1, pos := ((0 : Nat) : Int), text := [c0] }, { kind := 2, pos := ((2 : Nat) : Int) }, { kind := 11, pos := ((4 : Nat) : Int), text := a :: gs.map (·.2) }] = _
    have hd : ∀ k, (ruleT c0 sg t gs u v).drop (4 + (2 + t.length + (tailT gs).length) + k) = (32 :: 37 :: sg :: (u ++ 45 :: v)).drop k := by
      intro k
      have e : ruleT c0 sg t gs u v = (c0 :: 32 :: 61 :: 32 :: 37 :: sg :: (t ++ tailT gs)) ++ 32 :: 37 :: sg :: (u ++ 45 :: v) := by simp [ruleT]
      have e2 : 4 + (2 + t.length + (tailT gs).length) = (c0 :: 32 :: 61 :: 32 :: 37 :: sg :: (t ++ tailT gs)).length := by simp; omega
      rw [e, e2, ← List.drop_drop, List.drop_left]
    have hget : ∀ k, (ruleT c0 sg t gs u v)[4 + (2 + t.length + (tailT gs).length) + k]? = (32 :: 37 :: sg :: (u ++ 45 :: v))[k]? := by
      intro k
      have := congrArg (fun z : List UInt8 => z[0]?) (hd k)
      simpa [List.getElem?_drop] using this
    have hg0 := hget 0
    rw [Nat.add_zero] at hg0
    refine (line_blank hg0).trans ?_
    have hv2 := value_range hb hs hu hv hbd
    refine (line_tok (c := 37) (hget 1) (by decide) (by decide) ((read_value _).trans ((congrArg valueP (hd 1)).trans hv2)) rfl).trans ?_
    refine (line_end (by rw [List.getElem?_eq_none]; simp only; omega)).trans ?_
    have e5 : 0 + (4 + (2 + t.length + (tailT gs).length) + 1) = 5 + (2 + t.length + (tailT gs).length) := by omega
    rw [e5]
    rfl
  have h0 : runN blkC (ruleT c0 sg t gs u v) = 0 := by
    unfold runN ruleT
    rw [List.takeWhile_cons, hcb]
    rfl
  unfold lexP
  rw [if_neg (by omega)]
  obtain ⟨k, hk⟩ : ∃ k, (ruleT c0 sg t gs u v).length = k + 1 := ⟨(ruleT c0 sg t gs u v).length - 1, by simp [ruleT]⟩
  have hpos : 0 < (ruleT c0 sg t gs u v).length := by omega
  have g0 : (ruleT c0 sg t gs u v)[0]? = some c0 := rfl
  rw [lexF, if_pos hpos, List.drop_zero]
  simp only [hcutL, hcut, h0, g0]
  rw [if_neg hc59, if_neg (by simp [hc]), hline]
  simp only
  rw [if_neg (by simp), hk]
  simp only [lexF]
  rw [if_neg (by omega)]
  simp only [ruleK, hk]
  rfl
end Go.Proofs.YtiobaboailhafaaDoor
