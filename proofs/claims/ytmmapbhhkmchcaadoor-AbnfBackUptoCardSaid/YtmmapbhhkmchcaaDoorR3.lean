/-
  The round trip, the lexer's half: values, trees.
-/
import Derived.Test.YtmmapbhhkmchcaaDoorR2
set_option linter.unusedVariables false
set_option linter.unusedSimpArgs false
namespace Go.Proofs.YtmmapbhhkmchcaaDoor
open Go Go.Am

def hexR (rest : List UInt8) : Prop := ∀ c r, rest = c :: r → hexC 16 c = false
theorem hexP_facts (b : UInt8) : (hexP b).all (hexC 16) = true ∧ numN 16 (hexP b) = b.toNat ∧ (hexP b).all okC = true := by
  have := allU8 (p := fun b => (hexP b).all (hexC 16) && (numN 16 (hexP b) == b.toNat) && (hexP b).all okC) (by decide +kernel) b
  simp only [Bool.and_eq_true, beq_iff_eq] at this
  exact ⟨this.1.1, this.1.2, this.2⟩
theorem one_hex (b : UInt8) {rest : List UInt8} (hr : hexR rest) : oneC 16 (hexP b ++ rest) = some (b.toNat, 2) := by
  obtain ⟨h1, h2, _⟩ := hexP_facts b
  have hn := runN_app (p := hexC 16) (hexP b) rest h1 hr
  have hl : (hexP b).length = 2 := rfl
  unfold oneC
  simp only [hn, hl]
  rw [if_neg (by omega), show (hexP b ++ rest).take 2 = hexP b from List.take_left' hl, h2]
def dotted (bs : List UInt8) : List UInt8 := bs.flatMap fun b => 46 :: hexP b
theorem sep_hex {rest : List UInt8} (hr : sepR rest) : hexR rest := sep_not (by decide) (by decide) hr
theorem dotted_hex {bs rest : List UInt8} (hr : sepR rest) : hexR (dotted bs ++ rest) := by
  cases bs with
  | nil => exact sep_hex hr
  | cons b bs =>
    intro c r e
    simp only [dotted, List.flatMap_cons, List.cons_append, List.cons.injEq] at e
    rw [← e.1]
    decide
theorem dots_ok {rest : List UInt8} (hr : sepR rest) (s : List UInt8) : ∀ (bs : List UInt8) (f a : Nat) (t : List UInt8), s.drop a = dotted bs ++ rest → bs.length < f → dotsP 16 s f a t = { tok := { kind := 11, text := t ++ bs }, n := a + 3 * bs.length, err := 0 }
  | [], f, a, t, hd, hf => by
    obtain ⟨f, rfl⟩ : ∃ g, f = g + 1 := ⟨f - 1, by omega⟩
    unfold dotsP
    have h46 : ¬ s[a]? = some 46 := by
      intro e
      have : (s.drop a)[0]? = some 46 := by simpa using e
      rw [hd] at this
      simp only [dotted, List.flatMap_nil, List.nil_append] at this
      match rest, hr with
      | [], _ => simp at this
      | c :: r, hr =>
        simp at this
        rcases hr c r rfl with h | h <;> rw [h] at this <;> exact absurd this (by decide)
    rw [if_neg h46]
    simp
  | b :: bs, f, a, t, hd, hf => by
    obtain ⟨f, rfl⟩ : ∃ g, f = g + 1 := ⟨f - 1, by omega⟩
    unfold dotsP
    have hd' : s.drop a = 46 :: (hexP b ++ (dotted bs ++ rest)) := by rw [hd]; simp [dotted]
    have h46 : s[a]? = some 46 := by
      have := congrArg (fun l : List UInt8 => l[0]?) hd'
      simpa using this
    have hd1 : s.drop (a + 1) = hexP b ++ (dotted bs ++ rest) := by
      have := congrArg List.tail hd'
      simpa using this
    have hd3 : s.drop (a + 1 + 2) = dotted bs ++ rest := by
      rw [← List.drop_drop, hd1]
      exact List.drop_left' rfl
    have hb := b.toNat_lt
    rw [if_pos h46, hd1, one_hex b (dotted_hex hr)]
    simp only
    rw [if_pos (by omega), dots_ok hr s bs f (a + 1 + 2) _ hd3 (by simp at hf; omega)]
    simp
    omega
theorem join_hex (b : UInt8) : ∀ bs : List UInt8, Lib.join ((b :: bs).map hexP) [46] = hexP b ++ dotted bs := by
  intro bs
  induction bs generalizing b with
  | nil => simp [Lib.join, List.intercalate, dotted]
  | cons c bs ih =>
    have := ih c
    simp [Lib.join, List.intercalate, dotted] at this ⊢
    exact this
theorem dotted_ok (bs : List UInt8) : (dotted bs).all okC = true := by
  induction bs with
  | nil => rfl
  | cons b bs ih =>
    simp only [dotted, List.flatMap_cons, List.cons_append, List.all_cons, List.all_append]
    rw [(hexP_facts b).2.2]
    have : (List.flatMap (fun b => 46 :: hexP b) bs).all okC = true := ih
    rw [this]
    decide
theorem dotted_len (bs : List UInt8) : (dotted bs).length = 3 * bs.length := by
  induction bs with
  | nil => rfl
  | cons c bs ih => simp only [dotted, List.flatMap_cons, List.length_append, List.length_cons] at ih ⊢; rw [ih]; simp [hexP]; omega
theorem lx_bytes {s : List UInt8} (h : s ≠ []) : LX (37 :: 120 :: Lib.join (s.map hexP) [46]) [{ kind := 11, text := s }] sepR := by
  match s, h with
  | b :: bs, _ =>
    rw [join_hex]
    have hb := b.toNat_lt
    have hlen := dotted_len bs
    refine LX.piece (c := 37) (p := 120 :: (hexP b ++ dotted bs)) (t := { kind := 11, text := b :: bs }) ?_ (by decide) (by decide) fun rest hr => ?_
    · simp only [List.all_cons, List.all_append, (hexP_facts b).2.2, dotted_ok]
      decide
    · have e : readP 37 (37 :: 120 :: (hexP b ++ dotted bs) ++ rest) = valueP (37 :: 120 :: (hexP b ++ dotted bs) ++ rest) := rfl
      rw [e]
      have hbase : baseL (37 :: 120 :: (hexP b ++ dotted bs) ++ rest).tail = 16 := rfl
      have hd2 : (37 :: 120 :: (hexP b ++ dotted bs) ++ rest).drop 2 = hexP b ++ (dotted bs ++ rest) := by simp
      have hd4 : (37 :: 120 :: (hexP b ++ dotted bs) ++ rest).drop (2 + 2) = dotted bs ++ rest := by
        rw [← List.drop_drop, hd2]; exact List.drop_left' rfl
      have h45 : ¬ (37 :: 120 :: (hexP b ++ dotted bs) ++ rest)[2 + 2]? = some 45 := by
        intro e
        have : ((37 :: 120 :: (hexP b ++ dotted bs) ++ rest).drop (2 + 2))[0]? = some 45 := by rw [List.getElem?_drop]; exact e
        rw [hd4] at this
        cases bs with
        | nil =>
          simp only [dotted, List.flatMap_nil, List.nil_append] at this
          match rest, hr with
          | [], _ => simp at this
          | c :: r, hr =>
            simp at this
            rcases hr c r rfl with h | h <;> rw [h] at this <;> exact absurd this (by decide)
        | cons c bs => simp [dotted] at this
      unfold valueP
      rw [hbase, hd2, one_hex b (dotted_hex hr)]
      simp only
      rw [if_pos (by omega), if_neg h45, dots_ok hr _ bs _ (2 + 2) _ hd4 (by simp; omega)]
      simp [hlen]
      simp [hexP]; omega
theorem lx_range {lo hi : UInt8} (h : lo.toNat ≤ hi.toNat) : LX (37 :: 120 :: (hexP lo ++ 45 :: hexP hi)) [{ kind := 12, lo := lo, hi := hi }] sepR := by
  have hb := hi.toNat_lt
  refine LX.piece (c := 37) (p := 120 :: (hexP lo ++ 45 :: hexP hi)) (t := { kind := 12, lo := lo, hi := hi }) ?_ (by decide) (by decide) fun rest hr => ?_
  · simp only [List.all_cons, List.all_append, (hexP_facts lo).2.2, (hexP_facts hi).2.2]
    decide
  · have e : readP 37 (37 :: 120 :: (hexP lo ++ 45 :: hexP hi) ++ rest) = valueP (37 :: 120 :: (hexP lo ++ 45 :: hexP hi) ++ rest) := rfl
    rw [e]
    have hbase : baseL (37 :: 120 :: (hexP lo ++ 45 :: hexP hi) ++ rest).tail = 16 := rfl
    have hd2 : (37 :: 120 :: (hexP lo ++ 45 :: hexP hi) ++ rest).drop 2 = hexP lo ++ (45 :: (hexP hi ++ rest)) := by simp
    have hd4 : (37 :: 120 :: (hexP lo ++ 45 :: hexP hi) ++ rest).drop (2 + 2) = 45 :: (hexP hi ++ rest) := by
      rw [← List.drop_drop, hd2]; exact List.drop_left' rfl
    have h45 : (37 :: 120 :: (hexP lo ++ 45 :: hexP hi) ++ rest)[2 + 2]? = some 45 := by
      have : ((37 :: 120 :: (hexP lo ++ 45 :: hexP hi) ++ rest).drop (2 + 2))[0]? = some 45 := by rw [hd4]; rfl
      rw [List.getElem?_drop] at this
      exact this
    have hd5 : (37 :: 120 :: (hexP lo ++ 45 :: hexP hi) ++ rest).drop (2 + 2 + 1) = hexP hi ++ rest := by
      rw [← List.drop_drop, hd4]; rfl
    have hh45 : hexR (45 :: (hexP hi ++ rest)) := fun c r e => by
      simp only [List.cons.injEq] at e
      rw [← e.1]
      decide
    unfold valueP
    rw [hbase, hd2, one_hex lo hh45]
    simp only
    rw [if_pos (by omega), if_pos h45, hd5, one_hex hi (sep_hex hr)]
    simp only
    rw [if_pos ⟨by omega, h⟩]
    simp [hexP]
end Go.Proofs.YtmmapbhhkmchcaaDoor
