/-
  Plainly: lines and texts, wherever they stand.
-/
import Derived.Test.YtiobaboailhafaaW3
set_option linter.unusedVariables false
set_option linter.unusedSimpArgs false
namespace Go.Proofs.Ytiobaboailhafaa
open Go Go.Am

abbrev Res := List Tok × Int × Int
def finR (out : List Tok) (r : Res) : Res := if r.2.2 = 0 then (out ++ r.1, 0, 0) else ([], r.2)
theorem finR_fin (a b : List Tok) (r : Res) : finR a (finR b r) = finR (a ++ b) r := by
  unfold finR
  by_cases h : r.2.2 = 0
  · simp [h]
  · simp [h]
def lineC (w : List UInt8) (off : Nat) : Res := lineP w off (w.length + 1) 0 []

theorem lineP_can : ∀ (k : Nat) (text : List UInt8) (f i off : Nat) (out : List Tok), text.length - i = k → k < f → lineP text off f i out = finR out (lineP (text.drop i) (off + i) (k + 1) 0 []) := by
  intro k
  induction k using Nat.strongRecOn with
  | _ k ih =>
    intro text f i off out hk hf
    obtain ⟨g, rfl⟩ : ∃ g, f = g + 1 := ⟨f - 1, by omega⟩
    have h0 : (text.drop i)[0]? = text[i]? := by simp
    unfold lineP
    rw [h0]
    cases hc : text[i]? with
    | none => simp [finR]
    | some c =>
      have hi : i < text.length := (List.getElem?_eq_some_iff.1 hc).1
      simp only
      by_cases h59 : c = 59
      · rw [if_pos h59, if_pos h59]; simp [finR]
      rw [if_neg h59, if_neg h59]
      cases hb : blkC c with
      | true =>
        rw [if_pos rfl, if_pos rfl]
        rw [ih (k - 1) (by omega) text g (i + 1) off out (by omega) (by omega), ih (k - 1) (by omega) (text.drop i) k (0 + 1) (off + i) [] (by simp; omega) (by omega), finR_fin]
        simp [Nat.add_assoc]
      | false =>
        rw [if_neg (show ¬ (false = true) by simp), if_neg (show ¬ (false = true) by simp)]
        have hn := readP_n c (text.drop (i + 1))
        have hdrop : text.drop i = c :: text.drop (i + 1) := by
          obtain ⟨_, he⟩ := List.getElem?_eq_some_iff.1 hc
          rw [← he]; exact List.drop_eq_getElem_cons hi
        rw [← hdrop] at hn
        simp only [List.drop_zero]
        generalize readP c (text.drop i) = fd at *
        by_cases he : fd.err = 0
        · rw [if_neg (fun h => h he), if_neg (fun h => h he)]
          have := hn.2 he
          rw [ih (text.length - (i + fd.n)) (by omega) text g (i + fd.n) off _ rfl (by omega), ih (text.length - (i + fd.n)) (by omega) (text.drop i) k (0 + fd.n) (off + i) _ (by simp; omega) (by omega), finR_fin]
          simp [Nat.add_assoc]
        · rw [if_pos he, if_pos he]
          simp [finR, he]
theorem lineP_C (text : List UInt8) (f i off : Nat) (out : List Tok) (hf : text.length - i < f) : lineP text off f i out = finR out (lineC (text.drop i) (off + i)) := by
  rw [lineP_can _ text f i off out rfl hf]
  unfold lineC
  simp
theorem lineC_norm (w : List UInt8) (off : Nat) : finR [] (lineC w off) = lineC w off := by
  have := lineP_C w (w.length + 1) 0 off [] (by omega)
  simpa [lineC] using this.symm
theorem lineC_nil (off : Nat) : lineC [] off = ([], 0, 0) := rfl
theorem lineC_semi (r : List UInt8) (off : Nat) : lineC (59 :: r) off = ([], 0, 0) := by
  unfold lineC lineP
  simp
theorem lineC_blank {c : UInt8} (r : List UInt8) (off : Nat) (hb : blkC c = true) : lineC (c :: r) off = lineC r (off + 1) := by
  have h59 : ¬ c = 59 := by
    intro h; subst h; simp [blkC] at hb
  have : lineC (c :: r) off = lineP (c :: r) off (r.length + 1) 1 [] := by
    unfold lineC
    rw [lineP]
    simp [h59, hb]
  rw [this, lineP_C _ _ _ _ _ (by simp), lineC_norm]
  rfl
theorem lineC_read {c : UInt8} (r : List UInt8) (off : Nat) (hb : blkC c = false) (h59 : ¬ c = 59) (he : (readP c (c :: r)).err = 0) :
    lineC (c :: r) off = finR [{ (readP c (c :: r)).tok with pos := (off : Int) }] (lineC ((c :: r).drop (readP c (c :: r)).n) (off + (readP c (c :: r)).n)) := by
  have hn := (readP_n c r).2 he
  have : lineC (c :: r) off = lineP (c :: r) off (r.length + 1) (readP c (c :: r)).n [{ (readP c (c :: r)).tok with pos := (off : Int) }] := by
    unfold lineC
    rw [lineP]
    simp [h59, hb, he]
  rw [this, lineP_C _ _ _ _ _ (by simp; omega)]
theorem lineC_err {c : UInt8} (r : List UInt8) (off : Nat) (hb : blkC c = false) (h59 : ¬ c = 59) (he : (readP c (c :: r)).err ≠ 0) :
    lineC (c :: r) off = ([], ((off + (readP c (c :: r)).n : Nat) : Int), (readP c (c :: r)).err) := by
  unfold lineC
  rw [lineP]
  simp [h59, hb, he]

def shT (d : Nat) (t : Tok) : Tok := { t with pos := t.pos + d }
theorem shT_end (d a : Nat) : shT d (endT a) = endT (d + a) := by simp [shT, endT]; omega
/-- A line that stands elsewhere. -/
theorem lineP_sh (text : List UInt8) (d : Nat) : ∀ (f i off : Nat) (out : List Tok), (lineP text off f i out).2.2 = 0 → lineP text (d + off) f i (out.map (shT d)) = ((lineP text off f i out).1.map (shT d), 0, 0)
  | 0, i, off, out => by simp [lineP]
  | f + 1, i, off, out => by
    unfold lineP
    cases hc : text[i]? with
    | none => simp
    | some c =>
      simp only
      by_cases h59 : c = 59
      · rw [if_pos h59, if_pos h59]; simp
      rw [if_neg h59, if_neg h59]
      cases hb : blkC c with
      | true => rw [if_pos rfl, if_pos rfl]; exact lineP_sh text d f (i + 1) off out
      | false =>
        rw [if_neg (show ¬ (false = true) by simp), if_neg (show ¬ (false = true) by simp)]
        generalize readP c (text.drop i) = fd
        by_cases he : fd.err = 0
        · rw [if_neg (fun h => h he), if_neg (fun h => h he)]
          intro h
          have := lineP_sh text d f (i + fd.n) off _ h
          rw [← this]
          simp only [List.map_append, List.map_cons, List.map_nil, shT]
          congr 4
          omega
        · rw [if_pos he]
          intro h
          exact absurd h he
theorem lineC_sh (text : List UInt8) (d off : Nat) (h : (lineC text off).2.2 = 0) : lineC text (d + off) = ((lineC text off).1.map (shT d), 0, 0) := lineP_sh text d _ 0 off [] h

def stepL (text : List UInt8) (a : Nat) (any : Bool) (out : List Tok) : (Bool × List Tok) × Int × Int :=
  match text[runN blkC text]? with
  | none => ((any, out), 0, 0)
  | some c =>
    if c = 59 then ((any, out), 0, 0)
    else if (runN blkC text = 0 ∧ letC c = false) ∨ (0 < runN blkC text ∧ any = false) then ((any, []), (a : Int), 10)
    else if (lineC text a).2.2 ≠ 0 then ((any, []), (lineC text a).2) else ((true, (if runN blkC text = 0 ∧ any = true then out ++ [endT a] else out) ++ (lineC text a).1), 0, 0)
theorem step_ok {text : List UInt8} {a : Nat} {any : Bool} {out : List Tok} {c : UInt8} (hc : text[runN blkC text]? = some c) (h59 : ¬ c = 59) (hbad : ¬ ((runN blkC text = 0 ∧ letC c = false) ∨ (0 < runN blkC text ∧ any = false))) (he : (lineC text a).2.2 = 0) :
    stepL text a any out = ((true, (if runN blkC text = 0 ∧ any = true then out ++ [endT a] else out) ++ (lineC text a).1), 0, 0) := by
  unfold stepL
  rw [hc]
  simp only
  rw [if_neg h59, if_neg hbad, if_neg (fun h => h he)]
theorem step_err {text : List UInt8} {a : Nat} {any : Bool} {out : List Tok} {c : UInt8} (hc : text[runN blkC text]? = some c) (h59 : ¬ c = 59) (hbad : ¬ ((runN blkC text = 0 ∧ letC c = false) ∨ (0 < runN blkC text ∧ any = false))) (he : (lineC text a).2.2 ≠ 0) :
    stepL text a any out = ((any, []), (lineC text a).2) := by
  unfold stepL
  rw [hc]
  simp only
  rw [if_neg h59, if_neg hbad, if_pos he]
theorem step_bad {text : List UInt8} {a : Nat} {any : Bool} {out : List Tok} {c : UInt8} (hc : text[runN blkC text]? = some c) (h59 : ¬ c = 59) (hbad : ((runN blkC text = 0 ∧ letC c = false) ∨ (0 < runN blkC text ∧ any = false))) :
    stepL text a any out = ((any, []), (a : Int), 10) := by
  unfold stepL
  rw [hc]
  simp only
  rw [if_neg h59, if_pos hbad]
/-- A line is passed over, or not. -/
theorem step_cases (text : List UInt8) : (∀ a any out, stepL text a any out = ((any, out), 0, 0)) ∨ ∃ c, text[runN blkC text]? = some c ∧ ¬ c = 59 := by
  cases hc : text[runN blkC text]? with
  | none => left; intro a any out; unfold stepL; rw [hc]
  | some c =>
    by_cases h59 : c = 59
    · left; intro a any out; unfold stepL; rw [hc]; simp only; rw [if_pos h59]
    · exact .inr ⟨c, rfl, h59⟩
/-- What a line without an error is. -/
theorem step_cases0 {text : List UInt8} {a : Nat} {any : Bool} {out : List Tok} (h : (stepL text a any out).2.2 = 0) : (∀ a any out, stepL text a any out = ((any, out), 0, 0)) ∨ ∃ c, text[runN blkC text]? = some c ∧ ¬ c = 59 ∧ ¬ ((runN blkC text = 0 ∧ letC c = false) ∨ (0 < runN blkC text ∧ any = false)) ∧ (lineC text a).2.2 = 0 := by
  rcases step_cases text with k | ⟨c, hc, h59⟩
  · exact .inl k
  · right
    refine ⟨c, hc, h59, ?_, ?_⟩
    · intro hbad
      rw [step_bad hc h59 hbad] at h
      simp at h
    · by_cases hbad : (runN blkC text = 0 ∧ letC c = false) ∨ (0 < runN blkC text ∧ any = false)
      · rw [step_bad hc h59 hbad] at h
        simp at h
      · by_cases he : (lineC text a).2.2 = 0
        · exact he
        · rw [step_err hc h59 hbad he] at h
          exact absurd h he
theorem lexF_step (src : List UInt8) (f a : Nat) (any : Bool) (out : List Tok) (h : a < src.length) :
    lexF src (f + 1) a any out = if (stepL (cutL (src.drop a)) a any out).2.2 ≠ 0 then ([], (stepL (cutL (src.drop a)) a any out).2) else lexF src f (a + (cutB (src.drop a) 10).length + 1) (stepL (cutL (src.drop a)) a any out).1.1 (stepL (cutL (src.drop a)) a any out).1.2 := by
  rw [lexF, if_pos h]
  simp only
  generalize cutL (src.drop a) = text
  have e : lineP text a (text.length + 2) 0 [] = lineC text a := by
    rw [lineP_C _ _ _ _ _ (by omega)]
    simpa using lineC_norm text a
  rw [e]
  unfold stepL
  cases hc : text[runN blkC text]? with
  | none => simp
  | some c =>
    simp only
    by_cases h59 : c = 59
    · simp [h59]
    · simp only [if_neg h59]
      by_cases hbad : (runN blkC text = 0 ∧ letC c = false) ∨ (0 < runN blkC text ∧ any = false)
      · simp only [if_pos hbad]
        simp
      · simp only [if_neg hbad]
        by_cases he : (lineC text a).2.2 = 0
        · simp only [he, ne_eq, not_true, if_false]
          rfl
        · simp only [he, ne_eq, not_false_eq_true, if_true]
theorem lexF_step0 {src : List UInt8} {a : Nat} {any : Bool} {out : List Tok} (f : Nat) (h : a < src.length) (hs : (stepL (cutL (src.drop a)) a any out).2.2 = 0) :
    lexF src (f + 1) a any out = lexF src f (a + (cutB (src.drop a) 10).length + 1) (stepL (cutL (src.drop a)) a any out).1.1 (stepL (cutL (src.drop a)) a any out).1.2 := by
  rw [lexF_step _ _ _ _ _ h, if_neg (fun h => h hs)]
theorem lexF_stepE {src : List UInt8} {a : Nat} {any : Bool} {out : List Tok} (f : Nat) (h : a < src.length) (hs : (lexF src (f + 1) a any out).2.2 = 0) : (stepL (cutL (src.drop a)) a any out).2.2 = 0 := by
  rw [lexF_step _ _ _ _ _ h] at hs
  by_cases he : (stepL (cutL (src.drop a)) a any out).2.2 = 0
  · exact he
  · rw [if_pos he] at hs
    exact absurd hs he
theorem lexF_end (src : List UInt8) (f a : Nat) (any : Bool) (out : List Tok) (h : ¬ a < src.length) : lexF src (f + 1) a any out = (if any then out ++ [endT src.length] else out, 0, 0) := by
  rw [lexF, if_neg h]
  rfl
theorem lexF_fuel (src : List UInt8) : ∀ (f f' a : Nat) (any : Bool) (out : List Tok), src.length - a < f → src.length - a < f' → lexF src f a any out = lexF src f' a any out
  | 0, f', a, any, out, h, h' => by omega
  | f + 1, 0, a, any, out, h, h' => by omega
  | f + 1, f' + 1, a, any, out, h, h' => by
    by_cases hlt : a < src.length
    · rw [lexF_step _ _ _ _ _ hlt, lexF_step _ _ _ _ _ hlt]
      rw [lexF_fuel src f f' _ _ _ (by omega) (by omega)]
    · rw [lexF_end _ _ _ _ _ hlt, lexF_end _ _ _ _ _ hlt]
/-- A step elsewhere. -/
theorem step_sh (text : List UInt8) (d a : Nat) (any : Bool) (out base : List Tok) (h : (stepL text a any out).2.2 = 0) :
    stepL text (d + a) any (base ++ out.map (shT d)) = (((stepL text a any out).1.1, base ++ (stepL text a any out).1.2.map (shT d)), 0, 0) := by
  rcases step_cases0 h with k | ⟨c, hc, h59, hbad, he⟩
  · rw [k, k]
  · have hs := lineC_sh text d a he
    rw [step_ok hc h59 hbad he, step_ok hc h59 hbad (by rw [hs]), hs]
    by_cases h0 : runN blkC text = 0 ∧ any = true
    · simp only [if_pos h0]
      simp [shT_end]
    · simp only [if_neg h0]
      simp
/-- A step elsewhere, behind a rule. -/
theorem step_sh2 (text : List UInt8) (d a : Nat) (base : List Tok) (h : (stepL text a false []).2.2 = 0) :
    ((stepL text a false []).1 = (false, []) ∧ stepL text (d + a) true base = ((true, base), 0, 0)) ∨
    ((stepL text a false []).1.1 = true ∧ stepL text (d + a) true base = ((true, base ++ endT (d + a) :: (stepL text a false []).1.2.map (shT d)), 0, 0)) := by
  rcases step_cases0 h with k | ⟨c, hc, h59, hbad, he⟩
  · rw [k, k]; exact .inl ⟨rfl, rfl⟩
  · have hs := lineC_sh text d a he
    have hn : runN blkC text = 0 := by
      rcases Nat.eq_zero_or_pos (runN blkC text) with h | h
      · exact h
      · exact absurd (.inr ⟨h, rfl⟩) hbad
    have hbad2 : ¬ ((runN blkC text = 0 ∧ letC c = false) ∨ (0 < runN blkC text ∧ true = false)) := by
      rintro (h | h)
      · exact hbad (.inl h)
      · cases h.2
    rw [step_ok hc h59 hbad he, step_ok hc h59 hbad2 (by rw [hs]), hs]
    right
    simp [hn]
/-- A text elsewhere. -/
theorem lexF_sh (p t : List UInt8) : ∀ (f a : Nat) (any : Bool) (out base : List Tok), t.length - a < f → (lexF t f a any out).2.2 = 0 → lexF (p ++ t) f (p.length + a) any (base ++ out.map (shT p.length)) = (base ++ (lexF t f a any out).1.map (shT p.length), 0, 0)
  | 0, a, any, out, base, hf, h => by omega
  | f + 1, a, any, out, base, hf, h => by
    by_cases hlt : a < t.length
    · have hlt' : p.length + a < (p ++ t).length := by simp; omega
      have e : (p ++ t).drop (p.length + a) = t.drop a := by simp [List.drop_append]
      have hs := lexF_stepE f hlt h
      have hsh := step_sh (cutL (t.drop a)) p.length a any out base hs
      rw [lexF_step0 f hlt hs] at h ⊢
      rw [lexF_step0 f hlt' (by rw [e, hsh]), e, hsh]
      have := lexF_sh p t f (a + (cutB (t.drop a) 10).length + 1) _ _ base (by omega) h
      rw [← this]
      simp [Nat.add_assoc]
    · have hlt' : ¬ p.length + a < (p ++ t).length := by simp; omega
      rw [lexF_end _ _ _ _ _ hlt, lexF_end _ _ _ _ _ hlt']
      cases any with
      | false => simp
      | true => simp [shT_end]
theorem lexF_sh2 (p t : List UInt8) : ∀ (f a : Nat) (base : List Tok), t.length - a < f → (lexF t f a false []).2.2 = 0 → ∃ e, lexF (p ++ t) f (p.length + a) true base = (base ++ endT e :: (lexF t f a false []).1.map (shT p.length), 0, 0)
  | 0, a, base, hf, h => by omega
  | f + 1, a, base, hf, h => by
    by_cases hlt : a < t.length
    · have hlt' : p.length + a < (p ++ t).length := by simp; omega
      have e : (p ++ t).drop (p.length + a) = t.drop a := by simp [List.drop_append]
      have hs := lexF_stepE f hlt h
      rw [lexF_step0 f hlt hs] at h ⊢
      rcases step_sh2 (cutL (t.drop a)) p.length a base hs with ⟨k1, k2⟩ | ⟨k1, k2⟩
      · rw [lexF_step0 f hlt' (by rw [e, k2]), e, k2]
        rw [k1] at h ⊢
        obtain ⟨e, he⟩ := lexF_sh2 p t f (a + (cutB (t.drop a) 10).length + 1) base (by omega) h
        refine ⟨e, ?_⟩
        simp only
        rw [← he]
        simp [Nat.add_assoc]
      · rw [lexF_step0 f hlt' (by rw [e, k2]), e, k2]
        rw [k1] at h ⊢
        refine ⟨p.length + a, ?_⟩
        have := lexF_sh p t f (a + (cutB (t.drop a) 10).length + 1) true _ (base ++ [endT (p.length + a)]) (by omega) h
        simp only [List.append_assoc, List.singleton_append] at this
        simp only
        rw [← this]
        simp [Nat.add_assoc]
    · have hlt' : ¬ p.length + a < (p ++ t).length := by simp; omega
      rw [lexF_end _ _ _ _ _ hlt, lexF_end _ _ _ _ _ hlt']
      exact ⟨(p ++ t).length, by simp⟩
end Go.Proofs.Ytiobaboailhafaa
