/-
  LexValues, the plain law: bytes written by sixteens, tens and twos, and a range, as the lexer reads them.
-/
import Derived.Test.YtiobaboailhafaaDoorS8
import Derived.KernelRfl
set_option linter.unusedVariables false
set_option linter.unusedSimpArgs false
namespace Go.Proofs.YtiobaboailhafaaDoor
open Go Go.Am

theorem runN_app {p : UInt8 → Bool} {t r : List UInt8} (h : ∀ c ∈ t, p c = true) (hr : ∀ c, r.head? = some c → p c = false) : runN p (t ++ r) = t.length := by
  unfold runN
  rw [List.takeWhile_append_of_pos h]
  have : r.takeWhile p = [] := by
    cases r with
    | nil => rfl
    | cons c r => rw [List.takeWhile_cons, hr c rfl]; rfl
  rw [this]
  simp
/-- Digits that say a byte. -/
structure Dig (base : Nat) (t : List UInt8) (b : UInt8) : Prop where
  all : ∀ c ∈ t, hexC base c = true
  pos : 1 ≤ t.length
  few : t.length ≤ 8
  num : numN base t = b.toNat
theorem hexC_not {base : Nat} (hb : base ≤ 16) {c : UInt8} (hc : nib c = 16) : hexC base c = false := by
  unfold hexC
  rw [hc]
  simp
  omega
theorem oneC_app {base : Nat} {t r : List UInt8} {b : UInt8} (h : Dig base t b) (hr : ∀ c, r.head? = some c → hexC base c = false) : oneC base (t ++ r) = some (b.toNat, t.length) := by
  unfold oneC
  have h1 := h.pos
  have h2 := h.few
  rw [runN_app h.all hr]
  simp only
  rw [if_neg (by omega), List.take_left, h.num]
def tailT (gs : List (List UInt8 × UInt8)) : List UInt8 := gs.flatMap fun g => 46 :: g.1
theorem dots_ok {base : Nat} (hb : base ≤ 16) (s r2 : List UInt8) : ∀ (gs : List (List UInt8 × UInt8)) (f at_ : Nat) (acc : List UInt8), (∀ g ∈ gs, Dig base g.1 g.2) → gs.length < f → s.drop at_ = tailT gs ++ 32 :: r2 →
    dotsP base s f at_ acc = { tok := { kind := 11, text := acc ++ gs.map (·.2) }, n := at_ + (tailT gs).length }
  | gs, 0, _, _, _, hf, _ => absurd hf (Nat.not_lt_zero _)
  | [], f + 1, at_, acc, _, _, hd => by
    have h0 : s[at_]? = some 32 := by
      have := congrArg (fun z : List UInt8 => z[0]?) hd
      simpa [tailT] using this
    unfold dotsP
    rw [h0, if_neg (by decide)]
    simp [tailT]
  | g :: gs, f + 1, at_, acc, hg, hf, hd => by
    have h0 : s[at_]? = some 46 := by
      have := congrArg (fun z : List UInt8 => z[0]?) hd
      simpa [tailT] using this
    have hd1 : s.drop (at_ + 1) = g.1 ++ (tailT gs ++ 32 :: r2) := by
      rw [← List.drop_drop, hd]
      simp [tailT]
    have hh : ∀ c, (tailT gs ++ 32 :: r2).head? = some c → hexC base c = false := by
      intro c hc
      cases gs with
      | nil => simp [tailT] at hc; subst hc; exact hexC_not hb (by decide)
      | cons g2 gs => simp [tailT] at hc; subst hc; exact hexC_not hb (by decide)
    have hG := hg g (by simp)
    have hone := oneC_app hG hh
    have hlt := g.2.toNat_lt
    have ih := dots_ok hb s r2 gs f (at_ + 1 + g.1.length) (acc ++ [g.2]) (fun y hy => hg y (by simp [hy])) (by simp at hf; omega) (by rw [← List.drop_drop, hd1, List.drop_left])
    unfold dotsP
    rw [h0, if_pos rfl, hd1, hone]
    simp only
    rw [if_pos (by omega)]
    have e : UInt8.ofNat g.2.toNat = g.2 := by simp
    rw [e, ih]
    simp [tailT]
    omega
theorem value_bytes {base : Nat} (hb : base ≤ 16) {sg : UInt8} (hs : baseC sg = base) {t : List UInt8} {b : UInt8} (ht : Dig base t b) (gs : List (List UInt8 × UInt8)) (hg : ∀ g ∈ gs, Dig base g.1 g.2) (r2 : List UInt8) :
    valueP (37 :: sg :: (t ++ (tailT gs ++ 32 :: r2))) = { tok := { kind := 11, text := b :: gs.map (·.2) }, n := 2 + t.length + (tailT gs).length } := by
  have hh : ∀ c, (tailT gs ++ 32 :: r2).head? = some c → hexC base c = false := by
    intro c hc
    cases gs with
    | nil => simp [tailT] at hc; subst hc; exact hexC_not hb (by decide)
    | cons g2 gs => simp [tailT] at hc; subst hc; exact hexC_not hb (by decide)
  have hone := oneC_app ht hh
  have hlt := b.toNat_lt
  have hn45 : (37 :: sg :: (t ++ (tailT gs ++ 32 :: r2)))[2 + t.length]? ≠ some 45 := by
    have : (37 :: sg :: (t ++ (tailT gs ++ 32 :: r2)))[2 + t.length]? = (tailT gs ++ 32 :: r2)[0]? := by
      rw [show 2 + t.length = t.length + 1 + 1 by omega, List.getElem?_cons_succ, List.getElem?_cons_succ, List.getElem?_append_right (Nat.le_refl _), Nat.sub_self]
    rw [this]
    cases gs with
    | nil => simp [tailT]
    | cons g2 gs => simp [tailT]
  have hbl : baseL (37 :: sg :: (t ++ (tailT gs ++ 32 :: r2))).tail = base := hs
  have hdr : (37 :: sg :: (t ++ (tailT gs ++ 32 :: r2)) : List UInt8).drop (2 + t.length) = tailT gs ++ 32 :: r2 := by
    rw [show 2 + t.length = t.length + 1 + 1 by omega]
    simp
  unfold valueP
  rw [hbl, show (37 :: sg :: (t ++ (tailT gs ++ 32 :: r2)) : List UInt8).drop 2 = t ++ (tailT gs ++ 32 :: r2) from rfl, hone]
  simp only
  rw [if_pos (by omega), if_neg hn45, dots_ok hb _ r2 gs _ _ _ hg (by
    have : gs.length ≤ (tailT gs).length := by
      clear hh hone hn45 hbl hdr
      induction gs with
      | nil => simp
      | cons g gs ih =>
        have := ih fun y hy => hg y (by simp [hy])
        simp [tailT] at this ⊢
        omega
    simp
    omega) hdr]
  simp
theorem value_range {base : Nat} (hb : base ≤ 16) {sg : UInt8} (hs : baseC sg = base) {t u : List UInt8} {b d : UInt8} (ht : Dig base t b) (hu : Dig base u d) (hbd : b ≤ d) :
    valueP (37 :: sg :: (t ++ 45 :: u)) = { tok := { kind := 12, lo := b, hi := d }, n := 2 + t.length + 1 + u.length } := by
  have hone := oneC_app (r := 45 :: u) ht (by intro c hc; simp at hc; subst hc; exact hexC_not hb (by decide))
  have hone2 := oneC_app (r := []) hu (by intro c hc; cases hc)
  rw [List.append_nil] at hone2
  have h1 := b.toNat_lt
  have h2 := d.toNat_lt
  have h3 : b.toNat ≤ d.toNat := hbd
  have hbl : baseL (37 :: sg :: (t ++ 45 :: u)).tail = base := hs
  have e1 : (37 :: sg :: (t ++ 45 :: u))[2 + t.length]? = some 45 := by
    rw [show 2 + t.length = t.length + 1 + 1 by omega]
    simp
  have e2 : (37 :: sg :: (t ++ 45 :: u) : List UInt8).drop (2 + t.length + 1) = u := by
    rw [show 2 + t.length + 1 = (t.length + 1) + 1 + 1 by omega]
    simp
  unfold valueP
  rw [hbl, show (37 :: sg :: (t ++ 45 :: u) : List UInt8).drop 2 = t ++ 45 :: u from rfl, hone]
  simp only
  rw [if_pos (by omega), if_pos e1, e2, hone2]
  simp only
  rw [if_pos (by omega)]
  simp
theorem line_blank {s : List UInt8} {off f i : Nat} {out : List Tok} (h : s[i]? = some 32) : lineP s off (f + 1) i out = lineP s off f (i + 1) out := by
  rw [lineP, h]
  simp [blkC]
theorem line_tok {s : List UInt8} {off f i : Nat} {out : List Tok} {c : UInt8} {fd : Fd} (h : s[i]? = some c) (h1 : c ≠ 59) (h2 : blkC c = false) (hr : readP c (s.drop i) = fd) (he : fd.err = 0) :
    lineP s off (f + 1) i out = lineP s off f (i + fd.n) (out ++ [{ fd.tok with pos := ((off + i : Nat) : Int) }]) := by
  rw [lineP, h]
  simp [h1, h2, hr, he]
theorem line_end {s : List UInt8} {off f i : Nat} {out : List Tok} (h : s[i]? = none) : lineP s off (f + 1) i out = (out, 0, 0) := by
  rw [lineP, h]
/-- The rule of one row and one range. -/
def ruleT (c0 sg : UInt8) (t : List UInt8) (gs : List (List UInt8 × UInt8)) (u v : List UInt8) : List UInt8 := c0 :: 32 :: 61 :: 32 :: 37 :: sg :: (t ++ (tailT gs ++ 32 :: 37 :: sg :: (u ++ 45 :: v)))
end Go.Proofs.YtiobaboailhafaaDoor
