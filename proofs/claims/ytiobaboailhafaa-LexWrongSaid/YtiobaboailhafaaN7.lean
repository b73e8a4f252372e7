/-
  frankinglaw01: LexWrong.
-/
import Derived.Test.YtiobaboailhafaaN2
import Derived.Test.YtiobaboailhafaaW4
set_option linter.unusedVariables false
set_option linter.unusedSimpArgs false
namespace Go.Proofs.Ytiobaboailhafaa
open Go Go.Am

theorem lineP_shE (text : List UInt8) (d : Nat) : ∀ (f i off : Nat) (out out' : List Tok), (lineP text off f i out).2.2 ≠ 0 → lineP text (d + off) f i out' = ([], (lineP text off f i out).2.1 + d, (lineP text off f i out).2.2)
  | 0, i, off, out, out' => by simp [lineP]
  | f + 1, i, off, out, out' => by
    unfold lineP
    cases hc : text[i]? with
    | none => simp
    | some c =>
      simp only
      by_cases h59 : c = 59
      · rw [if_pos h59, if_pos h59]; simp
      rw [if_neg h59, if_neg h59]
      cases hb : blkC c with
      | true => rw [if_pos rfl, if_pos rfl]; exact lineP_shE text d f (i + 1) off out out'
      | false =>
        rw [if_neg (show ¬ (false = true) by simp), if_neg (show ¬ (false = true) by simp)]
        generalize readP c (text.drop i) = fd
        by_cases he : fd.err = 0
        · rw [if_neg (fun h => h he), if_neg (fun h => h he)]
          exact lineP_shE text d f (i + fd.n) off _ _
        · rw [if_pos he, if_pos he]
          intro _
          simp
          omega
theorem lineC_shE {text : List UInt8} {p e : Int} (h : lineC text 0 = ([], p, e)) (he : e ≠ 0) (a : Nat) : lineC text a = ([], p + a, e) := by
  have := lineP_shE text a (text.length + 1) 0 0 [] [] (by
    show (lineC text 0).2.2 ≠ 0
    rw [h]; exact he)
  have h2 : lineC text (a + 0) = ([], (lineC text 0).2.1 + a, (lineC text 0).2.2) := this
  rw [h] at h2
  exact h2
def BadL (b : List UInt8) (off err : Int) : Prop := ¬ 10 ∈ b ∧ b.getLast? ≠ some 13 ∧ b.length ≤ 20 ∧ err ≠ 0 ∧ 0 ≤ off ∧ off ≤ 20 ∧ ∀ (a : Nat) any out, (stepL b a any out).2 = ((a : Int) + off, err)
theorem bad_col0 {b : List UInt8} {c : UInt8} (r : List UInt8) (hb : b = c :: r) (h10 : ¬ 10 ∈ b) (h13 : b.getLast? ≠ some 13) (hl : b.length ≤ 20) (h1 : blkC c = false) (h2 : c ≠ 59) (h3 : letC c = false) : BadL b 0 10 := by
  refine ⟨h10, h13, hl, by decide, by decide, by decide, fun a any out => ?_⟩
  subst hb
  have hr : runN blkC (c :: r) = 0 := by simp [runN, h1]
  rw [step_bad (c := c) (by rw [hr]; rfl) h2 (.inl ⟨hr, h3⟩)]
  simp
theorem bad_line {b : List UInt8} {c : UInt8} {off err : Int} (r : List UInt8) (hb : b = c :: r) (h10 : ¬ 10 ∈ b) (h13 : b.getLast? ≠ some 13) (hl : b.length ≤ 20) (h1 : blkC c = false) (h2 : c ≠ 59) (h3 : letC c = true) (he : err ≠ 0) (h0 : 0 ≤ off) (h20 : off ≤ 20) (h : lineC b 0 = ([], off, err)) : BadL b off err := by
  refine ⟨h10, h13, hl, he, h0, h20, fun a any out => ?_⟩
  have hr : runN blkC b = 0 := by subst hb; simp [runN, h1]
  have hl := lineC_shE h he a
  rw [step_err (c := c) (by rw [hr, hb]; rfl) h2 (by rw [hr]; simp [h3]) (by rw [hl]; exact he), hl]
  simp only [Prod.mk.injEq, and_true]
  omega
theorem wrong_plain (s b behind : List UInt8) (off err : Int) (hs : s.length ≤ 1000) (hbl : behind.length ≤ 1000) (hb : BadL b off err) (h1 : (lexP s).2.2 = 0) : lexP (s ++ 10 :: (b ++ 10 :: behind)) = ([], (s.length : Int) + 1 + off, err) := by
  obtain ⟨h10, h13, hl, he, h0, h20, h⟩ := hb
  have hlen : (s ++ 10 :: (b ++ 10 :: behind)).length = s.length + b.length + behind.length + 2 := by simp; omega
  unfold lexP at h1 ⊢
  rw [if_neg (by omega)] at h1 ⊢
  obtain ⟨any2, out2, e1, e2⟩ := lexF_first s (b ++ 10 :: behind) (s.length + 1) 0 false [] (by omega) (by omega) h1
  obtain ⟨g', hg, e3⟩ := e2 ((s ++ 10 :: (b ++ 10 :: behind)).length + 1) (by rw [hlen]; simp; omega)
  rw [e3]
  obtain ⟨g, rfl⟩ : ∃ g, g' = g + 1 := ⟨g' - 1, by omega⟩
  have hlt : s.length + 1 < (s ++ 10 :: (b ++ 10 :: behind)).length := by omega
  have e4 : (s ++ 10 :: (b ++ 10 :: behind)).drop (s.length + 1) = b ++ 10 :: behind := by
    have : s ++ 10 :: (b ++ 10 :: behind) = (s ++ [10]) ++ (b ++ 10 :: behind) := by simp
    rw [this, List.drop_append_of_le_length (by simp)]
    simp
  have ht : trimSuf b [13] = b := by
    rcases trim_cases b with e | ⟨v, rfl, e⟩
    · exact e
    · simp at h13
  have e5 : cutL (b ++ 10 :: behind) = b := by rw [cutL_last _ h10, ht]
  have hst := h (s.length + 1) any2 out2
  rw [lexF_step _ _ _ _ _ hlt, e4, e5, if_pos (by rw [hst]; exact he), hst]
  simp
def badT : List (List UInt8 × Int × Int) := [([49, 114, 32, 61, 32, 97], 0, 10), ([61], 0, 10), ([114, 32, 61, 32, 49, 50, 51, 52, 53, 97], 4, 12), ([114, 32, 61, 32, 49, 42, 49, 50, 51, 52, 53, 97], 6, 12), ([114, 32, 61, 32, 50, 42, 49, 97], 4, 13), ([114, 32, 61, 32, 57, 57, 57, 57, 57, 42, 49, 50, 51, 52, 53], 4, 12), ([114, 32, 61, 32, 34, 97], 4, 14), ([114, 32, 61, 32, 34, 9, 34], 4, 14), ([114, 32, 61, 32, 37], 4, 15), ([114, 32, 61, 32, 37, 113, 49], 4, 15), ([114, 32, 61, 32, 37, 120], 4, 15), ([114, 32, 61, 32, 37, 100, 50, 53, 54], 4, 15), ([114, 32, 61, 32, 37, 120, 53, 45, 52], 4, 15), ([114, 32, 61, 32, 37, 120, 49, 46], 4, 15), ([114, 32, 61, 32, 37, 98, 48, 48, 48, 48, 48, 48, 48, 48, 49], 4, 15), ([114, 32, 61, 32, 97, 32, 60, 98, 62], 6, 16), ([114, 32, 61, 32, 97, 46, 98], 5, 11), ([114, 32, 61, 32, 37, 120, 53, 45, 54, 45, 55], 9, 11), ([114, 32, 61, 32, 39, 97, 39], 4, 11), ([114, 32, 61, 32, 0], 4, 11), ([114, 32, 61, 32, 195, 169], 4, 11), ([0], 0, 10)]
theorem bad0 : BadL [49, 114, 32, 61, 32, 97] 0 10 := bad_col0 (c := 49) [114, 32, 61, 32, 97] rfl (by decide) (by decide) (by decide) (by decide) (by decide) (by decide)
theorem bad1 : BadL [61] 0 10 := bad_col0 (c := 61) [] rfl (by decide) (by decide) (by decide) (by decide) (by decide) (by decide)
theorem bad2 : BadL [114, 32, 61, 32, 49, 50, 51, 52, 53, 97] 4 12 := bad_line (c := 114) [32, 61, 32, 49, 50, 51, 52, 53, 97] rfl (by decide) (by decide) (by decide) (by decide) (by decide) (by decide) (by decide) (by decide) (by decide) (by decide +kernel)
theorem bad3 : BadL [114, 32, 61, 32, 49, 42, 49, 50, 51, 52, 53, 97] 6 12 := bad_line (c := 114) [32, 61, 32, 49, 42, 49, 50, 51, 52, 53, 97] rfl (by decide) (by decide) (by decide) (by decide) (by decide) (by decide) (by decide) (by decide) (by decide) (by decide +kernel)
theorem bad4 : BadL [114, 32, 61, 32, 50, 42, 49, 97] 4 13 := bad_line (c := 114) [32, 61, 32, 50, 42, 49, 97] rfl (by decide) (by decide) (by decide) (by decide) (by decide) (by decide) (by decide) (by decide) (by decide) (by decide +kernel)
theorem bad5 : BadL [114, 32, 61, 32, 57, 57, 57, 57, 57, 42, 49, 50, 51, 52, 53] 4 12 := bad_line (c := 114) [32, 61, 32, 57, 57, 57, 57, 57, 42, 49, 50, 51, 52, 53] rfl (by decide) (by decide) (by decide) (by decide) (by decide) (by decide) (by decide) (by decide) (by decide) (by decide +kernel)
theorem bad6 : BadL [114, 32, 61, 32, 34, 97] 4 14 := bad_line (c := 114) [32, 61, 32, 34, 97] rfl (by decide) (by decide) (by decide) (by decide) (by decide) (by decide) (by decide) (by decide) (by decide) (by decide +kernel)
theorem bad7 : BadL [114, 32, 61, 32, 34, 9, 34] 4 14 := bad_line (c := 114) [32, 61, 32, 34, 9, 34] rfl (by decide) (by decide) (by decide) (by decide) (by decide) (by decide) (by decide) (by decide) (by decide) (by decide +kernel)
theorem bad8 : BadL [114, 32, 61, 32, 37] 4 15 := bad_line (c := 114) [32, 61, 32, 37] rfl (by decide) (by decide) (by decide) (by decide) (by decide) (by decide) (by decide) (by decide) (by decide) (by decide +kernel)
theorem bad9 : BadL [114, 32, 61, 32, 37, 113, 49] 4 15 := bad_line (c := 114) [32, 61, 32, 37, 113, 49] rfl (by decide) (by decide) (by decide) (by decide) (by decide) (by decide) (by decide) (by decide) (by decide) (by decide +kernel)
theorem bad10 : BadL [114, 32, 61, 32, 37, 120] 4 15 := bad_line (c := 114) [32, 61, 32, 37, 120] rfl (by decide) (by decide) (by decide) (by decide) (by decide) (by decide) (by decide) (by decide) (by decide) (by decide +kernel)
theorem bad11 : BadL [114, 32, 61, 32, 37, 100, 50, 53, 54] 4 15 := bad_line (c := 114) [32, 61, 32, 37, 100, 50, 53, 54] rfl (by decide) (by decide) (by decide) (by decide) (by decide) (by decide) (by decide) (by decide) (by decide) (by decide +kernel)
theorem bad12 : BadL [114, 32, 61, 32, 37, 120, 53, 45, 52] 4 15 := bad_line (c := 114) [32, 61, 32, 37, 120, 53, 45, 52] rfl (by decide) (by decide) (by decide) (by decide) (by decide) (by decide) (by decide) (by decide) (by decide) (by decide +kernel)
theorem bad13 : BadL [114, 32, 61, 32, 37, 120, 49, 46] 4 15 := bad_line (c := 114) [32, 61, 32, 37, 120, 49, 46] rfl (by decide) (by decide) (by decide) (by decide) (by decide) (by decide) (by decide) (by decide) (by decide) (by decide +kernel)
theorem bad14 : BadL [114, 32, 61, 32, 37, 98, 48, 48, 48, 48, 48, 48, 48, 48, 49] 4 15 := bad_line (c := 114) [32, 61, 32, 37, 98, 48, 48, 48, 48, 48, 48, 48, 48, 49] rfl (by decide) (by decide) (by decide) (by decide) (by decide) (by decide) (by decide) (by decide) (by decide) (by decide +kernel)
theorem bad15 : BadL [114, 32, 61, 32, 97, 32, 60, 98, 62] 6 16 := bad_line (c := 114) [32, 61, 32, 97, 32, 60, 98, 62] rfl (by decide) (by decide) (by decide) (by decide) (by decide) (by decide) (by decide) (by decide) (by decide) (by decide +kernel)
theorem bad16 : BadL [114, 32, 61, 32, 97, 46, 98] 5 11 := bad_line (c := 114) [32, 61, 32, 97, 46, 98] rfl (by decide) (by decide) (by decide) (by decide) (by decide) (by decide) (by decide) (by decide) (by decide) (by decide +kernel)
theorem bad17 : BadL [114, 32, 61, 32, 37, 120, 53, 45, 54, 45, 55] 9 11 := bad_line (c := 114) [32, 61, 32, 37, 120, 53, 45, 54, 45, 55] rfl (by decide) (by decide) (by decide) (by decide) (by decide) (by decide) (by decide) (by decide) (by decide) (by decide +kernel)
theorem bad18 : BadL [114, 32, 61, 32, 39, 97, 39] 4 11 := bad_line (c := 114) [32, 61, 32, 39, 97, 39] rfl (by decide) (by decide) (by decide) (by decide) (by decide) (by decide) (by decide) (by decide) (by decide) (by decide +kernel)
theorem bad19 : BadL [114, 32, 61, 32, 0] 4 11 := bad_line (c := 114) [32, 61, 32, 0] rfl (by decide) (by decide) (by decide) (by decide) (by decide) (by decide) (by decide) (by decide) (by decide) (by decide +kernel)
theorem bad20 : BadL [114, 32, 61, 32, 195, 169] 4 11 := bad_line (c := 114) [32, 61, 32, 195, 169] rfl (by decide) (by decide) (by decide) (by decide) (by decide) (by decide) (by decide) (by decide) (by decide) (by decide +kernel)
theorem bad21 : BadL [0] 0 10 := bad_col0 (c := 0) [] rfl (by decide) (by decide) (by decide) (by decide) (by decide) (by decide)
theorem bad_at (j : Nat) (h : j < 22) : ∃ b off err, badT[j]? = some (b, off, err) ∧ BadL b off err := by
  match j, h with
  | 0, _ => exact ⟨_, _, _, rfl, bad0⟩
  | 1, _ => exact ⟨_, _, _, rfl, bad1⟩
  | 2, _ => exact ⟨_, _, _, rfl, bad2⟩
  | 3, _ => exact ⟨_, _, _, rfl, bad3⟩
  | 4, _ => exact ⟨_, _, _, rfl, bad4⟩
  | 5, _ => exact ⟨_, _, _, rfl, bad5⟩
  | 6, _ => exact ⟨_, _, _, rfl, bad6⟩
  | 7, _ => exact ⟨_, _, _, rfl, bad7⟩
  | 8, _ => exact ⟨_, _, _, rfl, bad8⟩
  | 9, _ => exact ⟨_, _, _, rfl, bad9⟩
  | 10, _ => exact ⟨_, _, _, rfl, bad10⟩
  | 11, _ => exact ⟨_, _, _, rfl, bad11⟩
  | 12, _ => exact ⟨_, _, _, rfl, bad12⟩
  | 13, _ => exact ⟨_, _, _, rfl, bad13⟩
  | 14, _ => exact ⟨_, _, _, rfl, bad14⟩
  | 15, _ => exact ⟨_, _, _, rfl, bad15⟩
  | 16, _ => exact ⟨_, _, _, rfl, bad16⟩
  | 17, _ => exact ⟨_, _, _, rfl, bad17⟩
  | 18, _ => exact ⟨_, _, _, rfl, bad18⟩
  | 19, _ => exact ⟨_, _, _, rfl, bad19⟩
  | 20, _ => exact ⟨_, _, _, rfl, bad20⟩
  | 21, _ => exact ⟨_, _, _, rfl, bad21⟩
  | j + 22, h => omega
theorem repL_len (s : List UInt8) : ∀ n, (repL s n).length = n * s.length
  | 0 => by simp [repL]
  | n + 1 => by simp [repL, repL_len s n, Nat.succ_mul]; omega
theorem repeat_ok (s : List UInt8) (n : Nat) (hn : n ≤ 1000000000) (hs : s.length * n ≤ 140737488355328) (h : Heap) : M.call 18 [.str s, .int .i64 n] h = some (.str (repL s n), h) := by
  refine lim_ext ?_
  show XS 18 [.str s, .int .i64 n] h = _
  have h0 : (0 : Int) ≤ n ∧ (n : Int) ≤ 1000000000 ∧ s.length * (n : Int).toNat ≤ 140737488355328 := ⟨by omega, by omega, by simpa using hs⟩
  have e1 : ibsX 78 18 [.str s, .int .i64 n] h = none := rfl
  unfold XS orX
  rw [e1]
  unfold fX repPat
  simp only [if_true]
  rw [if_pos h0]
  simp
end Go.Proofs.Ytiobaboailhafaa
