/-
  frankinglaw01: LexTells.
-/
import Derived.Test.YtiobaboailhafaaDoorL0
set_option linter.unusedVariables false
set_option linter.unusedSimpArgs false
namespace Go.Proofs.YtiobaboailhafaaDoor
open Go Go.Am

theorem fails_ok (s : List UInt8) (a w : Int) (hs : s.length ≤ 1000000000) (h : Heap) : M.call 11 [.str s, .int .i64 a, .int .i64 w] h = some (.bool (decide ((lexP s).2.2 = w ∧ (lexP s).2.1 = a ∧ (lexP s).1 = [])), h) := by
  refine call_of tab11 rfl (callF_wp ?_)
  obtain ⟨x, hx, r, rfl⟩ := lex_ok s hs h
  generalize lexP s = res at *
  obtain ⟨l, p, e⟩ := res
  simp only at hx
  by_cases h1 : e = w
  · by_cases h2 : p = a
    · simp [wB11, hx, h1, h2]
    · simp [wB11, hx, h1, h2]
  · simp [wB11, hx, h1]

def lit1 : List UInt8 := [97, 32, 61, 32, 49, 42, 51, 98, 32, 59, 32, 120]
def lit2 : List UInt8 := [97, 32, 61, 32, 34, 98, 34, 32, 47, 32, 37, 120, 52, 49, 45, 53, 65, 32, 37, 100, 49, 51, 46, 49, 48, 32, 42, 32, 53, 32, 50, 42]
def tks1 : List Tok := [{ kind := 1, text := [97] }, { kind := 2, pos := 2 }, { kind := 9, pos := 4, mn := 1, mx := 3 }, { kind := 1, pos := 7, text := [98] }, { kind := 13, pos := 12 }]
def tks2 : List Tok := [{ kind := 1, text := [97] }, { kind := 2 }, { kind := 10, text := [98] }, { kind := 4 }, { kind := 12, lo := 65, hi := 90 }, { kind := 11, text := [13, 10] }, { kind := 9, mx := -1 }, { kind := 9, mn := 5, mx := 5 }, { kind := 9, mn := 2, mx := -1 }, { kind := 13 }]
theorem lexP1 : lexP lit1 = (tks1, 0, 0) := by decide +kernel
theorem lexP2 : (lexP lit2).2 = (0, 0) ∧ (lexP lit2).1.map akT = tks2.map akT ∧ (lexP lit2).1.length ≤ 1000 := by decide +kernel
theorem lexP3 : lexP [] = ([], 0, 0) := by decide +kernel
set_option maxRecDepth 20000 in
theorem awake_ok (h0 : Heap) : M.call 4 [] h0 = some (.bool true, h0) := by
  refine call_of tab4 rfl (callF_wp ?_)
  obtain ⟨x1, hx1, r1, rfl⟩ := lex_ok lit1 (by decide) h0
  rw [lexP1] at hx1
  obtain ⟨x3, hx3, r3, rfl⟩ := lex_ok [] (by decide) h0
  rw [lexP3] at hx3
  obtain ⟨x2, hx2, r2, rfl⟩ := lex_ok lit2 (by decide) h0
  obtain ⟨e1, e2, e3⟩ := lexP2
  rw [e1] at hx2
  generalize (lexP lit2).1 = l2 at *
  have t1 := fun h => toks_ok tks1 tks1 r1 .full (by decide) h
  have t2 := fun h => alike_ok l2 tks2 r2 .full (by omega) h
  rw [e2] at t2
  have f1 := fun h => fails_ok [61, 32, 97] 0 10 (by decide) h
  have f2 := fun h => fails_ok [97, 32, 61, 32, 53, 42, 51, 98] 4 13 (by decide) h
  have f3 := fun h => fails_ok [97, 32, 61, 32, 60, 98, 62] 4 16 (by decide) h
  have f4 := fun h => fails_ok [97, 32, 61, 32, 37, 120, 49, 48, 48] 4 15 (by decide) h
  have f5 := fun h => fails_ok [97, 32, 61, 32, 36] 4 11 (by decide) h
  rw [show lexP [61, 32, 97] = ([], 0, 10) by decide +kernel] at f1
  rw [show lexP [97, 32, 61, 32, 53, 42, 51, 98] = ([], 4, 13) by decide +kernel] at f2
  rw [show lexP [97, 32, 61, 32, 60, 98, 62] = ([], 4, 16) by decide +kernel] at f3
  rw [show lexP [97, 32, 61, 32, 37, 120, 49, 48, 48] = ([], 4, 15) by decide +kernel] at f4
  rw [show lexP [97, 32, 61, 32, 36] = ([], 4, 11) by decide +kernel] at f5
  simp [tks1, tks2, tokA, tokL, lit1, lit2] at hx1 hx2 hx3 t1 t2 f1 f2 f3 f4 f5
  have w0 : IntKind.wrap .i64 0 = 0 := wrap64 (by omega) (by omega)
  simp [wB4, hx1, hx2, hx3, t1, t2, f1, f2, f3, f4, f5, w0]

theorem lexP_len (s : List UInt8) : ∀ (f a : Nat) (any : Bool) (out : List Tok), (lexF s f a any out).1.length ≤ out.length + 1 + f * (s.length + 4)
  | 0, a, any, out => by simp [lexF]
  | f + 1, a, any, out => by
    unfold lexF
    have e : (f + 1) * (s.length + 4) = f * (s.length + 4) + (s.length + 4) := Nat.succ_mul _ _
    split
    · simp only
      split
      · have := lexP_len s f (a + (cutB (s.drop a) 10).length + 1) any out; omega
      · split
        · have := lexP_len s f (a + (cutB (s.drop a) 10).length + 1) any out; omega
        · split
          · simp
          · split
            · simp
            · have h1 := lineP_len (cutL (s.drop a)) a ((cutL (s.drop a)).length + 2) 0 []
              have h2 := cutL_len (s.drop a)
              have h3 := cutB_len (s.drop a) 10
              simp at h1 h3
              have := lexP_len s f (a + (cutB (s.drop a) 10).length + 1) true ((if runN blkC (cutL (s.drop a)) = 0 ∧ any = true then out ++ [{ kind := 13, pos := (a : Int) }] else out) ++ (lineP (cutL (s.drop a)) a ((cutL (s.drop a)).length + 2) 0 []).1)
              have h4 : (if runN blkC (cutL (s.drop a)) = 0 ∧ any = true then out ++ [{ kind := 13, pos := (a : Int) }] else out).length ≤ out.length + 1 := by split <;> simp
              rw [List.length_append] at this
              omega
    · split <;> simp <;> omega

end Go.Proofs.YtiobaboailhafaaDoor
