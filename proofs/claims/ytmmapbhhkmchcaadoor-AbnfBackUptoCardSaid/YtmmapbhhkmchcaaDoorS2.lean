/-
  lex: how each token is read.
-/
import Derived.Test.YtmmapbhhkmchcaaDoorS1
set_option linter.unusedVariables false
set_option linter.unusedSimpArgs false
namespace Go.Proofs.YtmmapbhhkmchcaaDoor
open Go Go.Am

structure Tok where
  kind : UInt8 := 0
  pos : Int := 0
  text : List UInt8 := []
  mn : Int := 0
  mx : Int := 0
  lo : UInt8 := 0
  hi : UInt8 := 0
  deriving DecidableEq, Inhabited
def tokL (t : Tok) : List AV := [.int .u8 t.kind.toNat, .int .i64 t.pos, .str t.text, .int .i64 t.mn, .int .i64 t.mx, .int .u8 t.lo.toNat, .int .u8 t.hi.toNat]
def tokA (t : Tok) : AV := .agg (tokL t)
/-- What is read: a token and how many bytes it has; or an error, and how far behind. -/
structure Fd where
  tok : Tok := {}
  n : Nat := 0
  err : Int := 0
  deriving DecidableEq, Inhabited
def fdA (f : Fd) : AV := .agg (tokL f.tok ++ [.int .i64 f.n, .int .i64 f.err])

def nameP (s : List UInt8) : Fd := { tok := { kind := 1, text := s.take (runN namC s) }, n := runN namC s }
def isP (s : List UInt8) : Fd := if s.take 2 = [61, 47] then { tok := { kind := 3 }, n := 2 } else { tok := { kind := 2 }, n := 1 }
def signP (k : UInt8) : Fd := { tok := { kind := k }, n := 1 }
def timesP (s : List UInt8) : Fd :=
  let a := runN digC s
  let star : Bool := s[a]? == some 42
  let b := if star then runN digC (s.drop (a + 1)) else 0
  if a > 4 then { err := 12 }
  else if b > 4 then { n := a + 1, err := 12 }
  else
    let mn : Int := numN 10 (s.take a)
    if !star then { tok := { kind := 9, mn := mn, mx := mn }, n := a }
    else
      let mx : Int := if b > 0 then (numN 10 ((s.drop (a + 1)).take b) : Int) else -1
      if mx ≥ 0 ∧ mx < mn then { err := 13 } else { tok := { kind := 9, mn := mn, mx := mx }, n := a + 1 + b }
def okC (c : UInt8) : Bool := decide (32 ≤ c.toNat ∧ c.toNat ≤ 126)
def charsP (s : List UInt8) : Fd :=
  let t := cutB s.tail 34
  if 34 ∈ s.tail ∧ t.all okC = true then { tok := { kind := 10, text := t }, n := t.length + 2 } else { err := 14 }

theorem name1_ok (c : UInt8) (h : Heap) : M.call 65 [.int .u8 c.toNat] h = some (.bool (namC c), h) := by
  refine call_of tab65 rfl (callF_wp ?_)
  have e1 := u8_eq c 45 (by omega)
  have e2 : ((c.toNat : Int) = 45) = ((c == 45) = true) := by
    rw [show ((c == 45) = true) = (c = 45) by simp]
    exact e1
  unfold namC
  cases h3 : c == 45 <;> rw [h3] at e2
  · simp at e2
    have e3 := eq_false e2
    cases h1 : letC c <;> cases h2 : digC c <;> simp [wB65, letter_ok, digit_ok, h1, h2, e3]
  · have e3 : ((c.toNat : Int) = 45) = True := by rw [e2]; simp
    cases h1 : letC c <;> cases h2 : digC c <;> simp [wB65, letter_ok, digit_ok, h1, h2, e3]
theorem name_ok (s : List UInt8) (hs : s.length ≤ 1000000000) (h : Heap) : M.call 44 [.str s] h = some (fdA (nameP s), h) := by
  refine call_of tab44 rfl (callF_wp ?_)
  have hr := fun h => run_ok s 65 [] namC h hs (fun c _ => name1_ok c h)
  have hl := runN_le namC s
  have hl' : ((runN namC s : Nat) : Int) ≤ s.length := by omega
  simp [wB44, hr, hl, fdA, nameP, tokL, Nat.add_assoc]
theorem is_ok (s : List UInt8) (h : Heap) : M.call 45 [.str s] h = some (fdA (isP s), h) := by
  refine call_of tab45 rfl (callF_wp ?_)
  unfold isP
  by_cases hc : s.take 2 = [61, 47]
  · simp [wB45, hasPrefix_ok, hc, fdA, tokL]
  · simp [wB45, hasPrefix_ok, hc, fdA, tokL]
theorem sign1_ok (k : UInt8) (s : List UInt8) (b : Nat) (h : Heap) (hb : h[b]? = some (.cells [.int .u8 k.toNat])) : M.call 67 [.str s, .ptr b 0] h = some (fdA (signP k), h) := by
  refine call_of tab67 rfl (callF_wp ?_)
  simp [wB67, get_left hb, fdA, signP, tokL]
theorem prose_ok (s : List UInt8) (h : Heap) : M.call 52 [.str s] h = some (fdA { err := 16 }, h) := by
  refine call_of tab52 rfl (callF_wp ?_)
  simp [wB52, fdA, tokL]
theorem byte_ok (s : List UInt8) (h : Heap) : M.call 54 [.str s] h = some (fdA { err := 11 }, h) := by
  refine call_of tab54 rfl (callF_wp ?_)
  simp [wB54, fdA, tokL]

theorem times_ok (s : List UInt8) (hs : s.length ≤ 1000000000) (h : Heap) : M.call 49 [.str s] h = some (fdA (timesP s), h) := by
  refine call_of tab49 rfl (callF_wp ?_)
  have hr := fun h => run_ok s 48 [] digC h hs (fun c _ => digit_ok c h)
  have hr2 := fun h => run_ok (s.drop (runN digC s + 1)) 48 [] digC h (by simp; omega) (fun c _ => digit_ok c h)
  have hl := runN_le digC s
  have hl2 := runN_le digC (s.drop (runN digC s + 1))
  simp at hl2
  have hn1 := fun (h : Heap) (hl : runN digC s ≤ 8) => number_ok (s.take (runN digC s)) 10 h (by simp; omega) (by omega)
  have hn2 := fun (h : Heap) (hl : runN digC (s.drop (runN digC s + 1)) ≤ 8) => number_ok ((s.drop (runN digC s + 1)).take (runN digC (s.drop (runN digC s + 1)))) 10 h (by simp; omega) (by omega)
  unfold timesP
  simp only
  generalize ha : runN digC s = a at *
  generalize hb : runN digC (s.drop (a + 1)) = b at *
  have w1 : a ≤ s.length → IntKind.wrap .i64 ((a : Int) + 1) = ((a + 1 : Nat) : Int) := fun _ => by rw [wrap64 (by omega) (by omega)]; rfl
  have w1' := w1 hl
  have w2 : IntKind.wrap .i64 (((a + 1 : Nat) : Int) + b) = ((a + 1 + b : Nat) : Int) := by rw [wrap64 (by omega) (by omega)]; simp
  -- the reading behind the numbers of digits
  cases hstar : (s[a]? == some 42) with
  | false =>
    simp only [Bool.false_eq_true, if_false]
    have hne : ∀ c, s[a]? = some c → ((c.toNat : Int) = 42) = False := fun c hc => by
      show ((c.toNat : Int) = ((42 : Nat) : Int)) = False
      rw [u8_eq c 42 (by omega)]
      apply eq_false
      intro e
      rw [hc, e] at hstar
      simp at hstar
    by_cases h4 : a > 4
    · have h4' : 4 < (a : Int) := by omega
      rcases Nat.lt_or_ge a s.length with hlt | hge
      · obtain ⟨c, ec⟩ : ∃ c, s[a]? = some c := ⟨_, List.getElem?_eq_getElem hlt⟩
        simp [-getElem?_pos, wB49, wJ49_0, wJ49_1, hr, hlt, ec, hne c ec, h4, h4', fdA, tokL]
      · have hge' : ¬ a < s.length := by omega
        simp [-getElem?_pos, wB49, wJ49_0, wJ49_1, hr, hge', h4, h4', fdA, tokL]
    · have h4' : ¬ 4 < (a : Int) := by omega
      have hn1' := fun h => hn1 h (by omega)
      simp at hn1'
      rcases Nat.lt_or_ge a s.length with hlt | hge
      · obtain ⟨c, ec⟩ : ∃ c, s[a]? = some c := ⟨_, List.getElem?_eq_getElem hlt⟩
        simp [-getElem?_pos, wB49, wJ49_0, wJ49_1, hr, hlt, ec, hne c ec, h4, h4', hl, hn1', fdA, tokL, Nat.add_assoc]
      · have hge' : ¬ a < s.length := by omega
        simp [-getElem?_pos, wB49, wJ49_0, wJ49_1, hr, hge', h4, h4', hl, hn1', fdA, tokL, Nat.add_assoc]
  | true =>
    have hsa : s[a]? = some 42 := by simpa using hstar
    have hlt : a < s.length := (List.getElem?_eq_some_iff.1 hsa).1
    have hl1 : a + 1 ≤ s.length := hlt
    have hl1' : (a : Int) + 1 ≤ s.length := by omega
    have t1 : ((a : Int) + 1).toNat = a + 1 := by omega
    have z1 : 0 ≤ (a : Int) + 1 := by omega
    simp only [if_true, Bool.not_true, Bool.false_eq_true, if_false]
    by_cases h4 : a > 4
    · have h4' : 4 < (a : Int) := by omega
      simp [-getElem?_pos, wB49, wJ49_0, wJ49_1, hr, hr2, w1', hlt, hsa, hl1', t1, z1, h4, h4', fdA, tokL]
    · have h4' : ¬ 4 < (a : Int) := by omega
      have hn1' := fun h => hn1 h (by omega)
      simp at hn1'
      by_cases h5 : b > 4
      · have h5' : 4 < (b : Int) := by omega
        simp [-getElem?_pos, wB49, wJ49_0, wJ49_1, hr, hr2, w1', hlt, hsa, hl1', t1, z1, h4, h4', h5, h5', fdA, tokL]
      · have h5' : ¬ 4 < (b : Int) := by omega
        have hn2' := fun h => hn2 h (by omega)
        simp at hn2'
        by_cases h0 : b > 0
        · have h0' : 0 < (b : Int) := by omega
          have l2 : a + 1 + b ≤ s.length := by omega
          have l2' : (a : Int) + 1 + b ≤ s.length := by omega
          have t2 : ((a : Int) + 1 + b).toNat = a + 1 + b := by omega
          have z2 : 0 ≤ (a : Int) + 1 + b := by omega
          have l3 : (a : Int) + 1 ≤ a + 1 + b := by omega
          have dt : (s.take (a + 1 + b)).drop (a + 1) = (s.drop (a + 1)).take b := by rw [List.drop_take]; congr 1; omega
          generalize numN 10 (s.take a) = x at *
          generalize numN 10 ((s.drop (a + 1)).take b) = y at *
          have l4 : 1 ≤ 1 + (b : Int) := by omega
          have dt' : (s.take (a + (1 + b))).drop (a + 1) = (s.drop (a + 1)).take b := by rw [← Nat.add_assoc]; exact dt
          have w3 : IntKind.wrap .i64 ((a : Int) + 1 + b) = (a : Int) + 1 + b := by rw [wrap64 (by omega) (by omega)]
          by_cases hxy : y < x
          · simp [-getElem?_pos, wB49, wJ49_0, wJ49_1, hr, hr2, w1', w2, hlt, hsa, hl1', t1, z1, h4, h4', h5, h5', h0, h0', hn1', hn2', hl, w3, l4, dt', l2', t2, z2, l3, dt, hxy, fdA, tokL, Nat.add_assoc]
          · simp [-getElem?_pos, wB49, wJ49_0, wJ49_1, hr, hr2, w1', w2, hlt, hsa, hl1', t1, z1, h4, h4', h5, h5', h0, h0', hn1', hn2', hl, w3, l4, dt', l2', t2, z2, l3, dt, hxy, fdA, tokL, Nat.add_assoc]
            omega
        · have hb0 : b = 0 := by omega
          subst hb0
          have w2' : IntKind.wrap .i64 (((a + 1 : Nat) : Int) + ((0 : Nat) : Int)) = ((a + 1 : Nat) : Int) := by rw [wrap64 (by omega) (by omega)]; simp
          simp [-getElem?_pos, wB49, wJ49_0, wJ49_1, hr, hr2, w1', w2', hlt, hsa, hl1', t1, z1, h4, h4', hn1', hl, fdA, tokL, Nat.add_assoc]
end Go.Proofs.YtmmapbhhkmchcaaDoor
