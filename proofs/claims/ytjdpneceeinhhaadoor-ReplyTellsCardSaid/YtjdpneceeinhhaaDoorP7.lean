/-
  frankinglaw18: awake; ReplyBack, ReplyAgain.
-/
import Derived.Test.YtjdpneceeinhhaaDoorP6
set_option linter.unusedVariables false
set_option linter.unusedSimpArgs false
namespace Go.Proofs.YtjdpneceeinhhaaDoor
open Go Go.Am

theorem goP_len : ∀ (l : Txt) (i : Nat) (code : Int) (out : Txt), (goP l i code out).1.2.length ≤ out.length + l.length
  | [], i, code, out => by simp [goP]
  | s :: l, i, code, out => by
    unfold goP
    split
    · simp
    · split
      · simp
      · split
        · have := goP_len l (i + 1) (cutP s).1 (out ++ [(cutP s).2.2.1])
          simp at this ⊢
          omega
        · simp
theorem parseP_len (l : Txt) : (parseP l).1.2.length ≤ l.length := by
  unfold parseP
  simpa using goP_len l 0 0 []
theorem parse_eq (l : Txt) (hl : l.length ≤ big) (rl : Rt) : ∃ f : Heap → Rt, ∀ h, M.call 11 [.list 1 (l.map AV.str) rl] h = some (.tup [.agg [.int .i64 (parseP l).1.1, .list 1 ((parseP l).1.2.map AV.str) (f h)], .int .i64 (parseP l).2.1, .int .i64 (parseP l).2.2], h) := by
  refine Classical.axiomOfChoice (r := fun h r => M.call 11 [.list 1 (l.map AV.str) rl] h = some (.tup [.agg [.int .i64 (parseP l).1.1, .list 1 ((parseP l).1.2.map AV.str) r], .int .i64 (parseP l).2.1, .int .i64 (parseP l).2.2], h)) fun h => ?_
  obtain ⟨x, hx, r, rfl⟩ := parse_ok l hl rl h
  exact ⟨r, hx⟩
theorem print_eq (c : Int) (l : Txt) (hl : l.length ≤ big) (rl : Rt) : ∃ f : Heap → Rt, ∀ h, M.call 9 [.agg [.int .i64 c, .list 1 (l.map AV.str) rl]] h = some (.tup [.list 1 ((printP c l).1.map AV.str) (f h), .int .i64 (printP c l).2], h) := by
  refine Classical.axiomOfChoice (r := fun h r => M.call 9 [.agg [.int .i64 c, .list 1 (l.map AV.str) rl]] h = some (.tup [.list 1 ((printP c l).1.map AV.str) r, .int .i64 (printP c l).2], h)) fun h => ?_
  obtain ⟨x, hx, r, rfl⟩ := print_ok c l hl rl h
  exact ⟨r, hx⟩
theorem refused_ok (want : Int) (l : Txt) (hl : l.length ≤ big) (r : Rt) (h : Heap) : M.call 15 [.int .i64 want, strL l r] h = some (.bool (decide ((parseP l).2.2 = want ∧ (parseP l).2.1 = 0 ∧ (parseP l).1.1 = 0 ∧ (parseP l).1.2 = [])), h) := by
  refine call_of tab15 rfl (callF_wp ?_)
  obtain ⟨f, hx⟩ := parse_eq l hl r
  have hlen := parseP_len l
  generalize parseP l = res at *
  obtain ⟨⟨c, ls⟩, n, e⟩ := res
  simp only at hx hlen
  by_cases h1 : e = want
  · by_cases h2 : n = 0
    · have hs := fun r1 h => same_ok c 0 ls [] r1 .full (by omega) h
      simp [repA, strL] at hs
      simp [wB15, strL, hx, h1, h2, hs]
    · simp [wB15, strL, hx, h1, h2]
  · simp [wB15, strL, hx, h1]
@[simp] theorem finish_nil (h : Heap) (b : Bool) : finish [] h (.bool b) = some (.bool b, []) := by
  rw [finish_of_take (by simp)]
  simp
def bl (s : List Nat) : List UInt8 := s.map UInt8.ofNat
theorem aw1 : parseP [[50, 53, 48, 45, 97], [50, 53, 48, 32, 98], [120]] = ((250, [[97], [98]]), 2, 0) := by decide +kernel
theorem aw2 : parseP [[50, 53, 48, 45, 97]] = ((0, []), 0, 181) := by decide +kernel
theorem aw3 : parseP [[50, 53, 48, 45, 97], [50, 53, 49, 32, 98]] = ((0, []), 0, 180) := by decide +kernel
theorem aw4 : parseP [[49, 53, 48, 32, 97]] = ((0, []), 0, 180) := by decide +kernel
theorem aw5 : parseP [[50, 53, 48, 97]] = ((0, []), 0, 180) := by decide +kernel
theorem aw6 : parseP [[50, 53, 48]] = ((0, []), 0, 180) := by decide +kernel
theorem aw7 : parseP [[50, 53, 32, 97]] = ((0, []), 0, 180) := by decide +kernel
set_option maxRecDepth 20000 in
theorem awake_ok (h : Heap) : M.call 8 [] h = some (.bool true, h) := by
  refine call_of tab8 rfl (callF_wp ?_)
  obtain ⟨f, hx⟩ := parse_eq [[50, 53, 48, 45, 97], [50, 53, 48, 32, 98], [120]] (by decide) .full
  rw [aw1] at hx
  have hs := fun r1 h => same_ok 250 250 [[97], [98]] [[97], [98]] r1 .full (by decide) h
  have f2 := fun h => refused_ok 181 [[50, 53, 48, 45, 97]] (by decide) .full h
  have f3 := fun h => refused_ok 180 [[50, 53, 48, 45, 97], [50, 53, 49, 32, 98]] (by decide) .full h
  have f4 := fun h => refused_ok 180 [[49, 53, 48, 32, 97]] (by decide) .full h
  have f5 := fun h => refused_ok 180 [[50, 53, 48, 97]] (by decide) .full h
  have f6 := fun h => refused_ok 180 [[50, 53, 48]] (by decide) .full h
  have f7 := fun h => refused_ok 180 [[50, 53, 32, 97]] (by decide) .full h
  rw [aw2] at f2
  rw [aw3] at f3
  rw [aw4] at f4
  rw [aw5] at f5
  rw [aw6] at f6
  rw [aw7] at f7
  have k1 := fun h => kind_ok 354 h
  have k2 := fun h => kind_ok 600 h
  have e1 : kindN 354 = 3 := by decide
  have e2 : kindN 600 = 0 := by decide
  rw [e1] at k1
  rw [e2] at k2
  simp [strL, repA] at hx hs f2 f3 f4 f5 f6 f7 k1 k2
  simp [wB8, hx, hs, f2, f3, f4, f5, f6, f7, k1, k2]
end Go.Proofs.YtjdpneceeinhhaaDoor
