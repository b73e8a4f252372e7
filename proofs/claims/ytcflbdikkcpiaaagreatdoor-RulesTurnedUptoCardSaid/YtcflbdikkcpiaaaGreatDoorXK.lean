/-
  The law's own functions: what a text's rules are.
-/
import Derived.Test.YtcflbdikkcpiaaaGreatDoorXJ
set_option linter.unusedVariables false
set_option linter.unusedSimpArgs false
namespace Go.Proofs.YtcflbdikkcpiaaaGreatDoor
open Go Go.Am
theorem clean1_lowR {h : Heap} {n : Nat} {v : AV} {sz : Nat} {xs : List AV} {r : Rt} (hc : clean1 h n v = some (.list sz xs r)) : ∀ t, r = .tok t → t < n := by
 intro t ht
 subst ht
 cases v with
 | list s x q =>
  simp only [clean1] at hc
  split at hc
  ·cases q with
   | tok t' =>
    simp only [Option.some.injEq, AV.list.injEq] at hc
    obtain ⟨_, _, h3⟩ := hc
    split at h3
    ·injection h3 with h3; omega
    ·cases h3
   | no => simp at hc
   | full => simp at hc
  ·cases hc
 | sl s b o m c =>
  simp only [clean1] at hc
  split at hc
  ·simp at hc
  ·split at hc
   ·split at hc
    ·simp at hc
    ·split at hc
     ·simp at hc
     ·cases hc
   ·cases hc
 | _ => simp only [clean1] at hc; split at hc <;> simp at hc
theorem clean2_lowR {h : Heap} {n : Nat} {v : AV} {sz : Nat} {xs : List AV} {r : Rt} (hc : clean2 h n v = some (.list sz xs r)) : ∀ t, r = .tok t → t < n := by
 cases v with
 | agg cs =>
  simp only [clean2] at hc
  cases e : cleans h n cs <;> simp [e] at hc
 | _ => simp only [clean2] at hc; exact clean1_lowR hc
theorem finish_lowR {h0 h1 : Heap} {v : AV} {sz : Nat} {xs : List AV} {r : Rt} {b : List AV} {h' : Heap} (hc : finish h0 h1 v = some (.tup (.list sz xs r :: b), h')) : ∀ t, r = .tok t → t < h0.length := by
 unfold finish at hc
 split at hc
 ·rename_i v' hv
  split at hc
  ·simp only [Option.some.injEq, Prod.mk.injEq] at hc
   obtain ⟨rfl, _⟩ := hc
   cases v with
   | tup vs =>
    simp only [clean] at hv
    cases vs with
    | nil => simp [cleans2] at hv
    | cons w ws =>
     simp only [cleans2] at hv
     split at hv
     ·rename_i a c h1 h2
      simp only [Option.map_some, Option.some.injEq, AV.tup.injEq, List.cons.injEq] at hv
      obtain ⟨rfl, _⟩ := hv
      exact clean2_lowR h1
     ·simp at hv
   | agg cs =>
    simp only [clean, clean2] at hv
    cases e : cleans h1 h0.length cs <;> simp [e] at hv
   | sl s b o m c =>
    simp only [clean, clean2, clean1] at hv
    split at hv
    ·simp at hv
    ·split at hv
     ·split at hv
      ·simp at hv
      ·split at hv
       ·simp at hv
       ·cases hv
     ·cases hv
   | list s x q =>
    simp only [clean, clean2, clean1] at hv
    split at hv
    ·cases q <;> simp at hv
    ·cases hv
   | _ => simp only [clean, clean2, clean1] at hv; split at hv <;> simp at hv
  ·cases hc
 ·cases hc
theorem call_lowR {f : FuncId} {B : AC} {res : List ARes} {args : List AV} {h0 : Heap} {sz : Nat} {xs : List AV} {r : Rt} {b : List AV} {h' : Heap} (hF : T f = some ⟨B, res, false⟩) (hX : XS f args h0 = none)
  (hc : M.call f args h0 = some (.tup (.list sz xs r :: b), h')) : ∀ t, r = .tok t → t < h0.length := by
 obtain ⟨k, hk⟩ := lim_call.1 hc
 cases k with
 | zero => simp [iter, hX] at hk
 | succ k =>
  simp only [iter, callX, hX, hF] at hk
  obtain ⟨ex, σ, h1, vs, hrun, hex, hvs, hend⟩ := callF_cases hk
  exact finish_lowR hend
def lexR' (res : List Tok × Int × Int) (h0 : Heap) (x : AV × Heap) : Prop := ∃ r, x = (.tup [.list 7 (res.1.map tokA) r, .int .i64 res.2.1, .int .i64 res.2.2], h0) ∧ ∀ t, r = .tok t → t < h0.length
theorem lex_ok' (src : List UInt8) (hs : src.length ≤ 1000000000) (h0 : Heap) : ∃ x, M.call 63 [.str src] h0 = some x ∧ lexR' (lexP src) h0 x := by
 obtain ⟨x, h1, r, rfl⟩ := lex_ok src hs h0
 exact ⟨_, h1, r, rfl, call_lowR tab63 rfl h1⟩
theorem dotsP_t (base : Nat) (s : List UInt8) : ∀ (f a : Nat) (t : List UInt8), a ≤ s.length → t.length ≤ a → (dotsP base s f a t).tok.text.length ≤ s.length
 | 0, a, t, h, h2 => by simp [dotsP]
 | f + 1, a, t, h, h2 => by
  unfold dotsP
  split
  ·split
   ·simp
   ·rename_i x n ho
    have hn := oneC_len ho
    simp at hn
    split
    ·exact dotsP_t base s f (a + 1 + n) (t ++ [UInt8.ofNat x]) (by omega) (by simp; omega)
    ·simp
  ·simp only; omega
theorem readL_t (c : UInt8) (s : List UInt8) (l : Nat) : ∀ (ps : List RowP), (∀ p ∈ ps, (p.2 s).tok.text.length ≤ l) → (readL ps c s).tok.text.length ≤ l
 | [], _ => by simp [readL]
 | p :: ps, h => by
  unfold readL
  split
  ·exact h p List.mem_cons_self
  ·exact readL_t c s l ps fun q hq => h q (List.mem_cons_of_mem _ hq)
theorem readP_t (c : UInt8) (s : List UInt8) : (readP c s).tok.text.length ≤ s.length := by
 refine readL_t c s s.length rowsP fun p hp => ?_
 simp only [rowsP, List.mem_cons, List.not_mem_nil, or_false] at hp
 rcases hp with rfl | rfl | rfl | rfl | rfl | rfl | rfl | rfl | rfl | rfl | rfl | rfl
 ·simp [nameP, List.length_take]; exact Nat.min_le_right _ _
 ·simp only [isP]; split <;> simp
 ·simp [signP]
 ·simp [signP]
 ·simp [signP]
 ·simp [signP]
 ·simp [signP]
 ·simp only [timesP]
  repeat' split
  all_goals simp
 ·simp only [charsP]
  split
  ·have := (List.takeWhile_prefix (l := s.tail) (· != 34)).length_le
   simp [cutB] at this ⊢
   omega
  ·simp
 ·simp only [valueP]
  split
  ·simp
  ·rename_i lo n ho
   have hn := oneC_len ho
   simp at hn
   split
   ·split
    ·split
     ·simp
     ·split <;> simp
    ·by_cases hs : 2 ≤ s.length
     ·exact dotsP_t _ s (s.length + 1) (2 + n) [UInt8.ofNat lo] (by omega) (by simp; omega)
     ·have h1 : s.drop 2 = [] := List.drop_eq_nil_of_le (by omega)
      rw [h1] at ho
      simp [oneC, runN] at ho
   ·simp
 ·simp
 ·simp
theorem lineP_cnt (s : List UInt8) (off : Nat) : ∀ (f i : Nat) (out : List Tok), (lineP s off f i out).1.length ≤ out.length + (s.length - i)
 | 0, i, out => by simp [lineP]
 | f + 1, i, out => by
  unfold lineP
  cases e : s[i]? with
  | none => simp
  | some c =>
   have hlt := (List.getElem?_eq_some_iff.1 e).1
   simp only
   split
   ·simp
   ·split
    ·have := lineP_cnt s off f (i + 1) out; omega
    ·split
     ·simp
     ·rename_i he
      have he : (readP c (s.drop i)).err = 0 := by simpa using he
      have hd := drop_at e
      have hg := readP_n c (s.drop (i + 1))
      rw [← hd] at hg
      have h1 := hg.2 he
      have := lineP_cnt s off f (i + (readP c (s.drop i)).n) (out ++ [{ (readP c (s.drop i)).tok with pos := ((off + i : Nat) : Int) }])
      simp at this ⊢
      omega
theorem lineP_t (s : List UInt8) (off m : Nat) (hm : s.length ≤ m) : ∀ (f i : Nat) (out : List Tok), (∀ t ∈ out, t.text.length ≤ m) → ∀ t ∈ (lineP s off f i out).1, t.text.length ≤ m
 | 0, i, out, h => by simpa [lineP] using h
 | f + 1, i, out, h => by
  unfold lineP
  cases e : s[i]? with
  | none => simpa using h
  | some c =>
   simp only
   split
   ·exact h
   ·split
    ·exact lineP_t s off m hm f (i + 1) out h
    ·split
     ·intro t ht; cases ht
     ·refine lineP_t s off m hm f _ _ fun t ht => ?_
      rcases List.mem_append.1 ht with ht | ht
      ·exact h t ht
      ·simp only [List.mem_singleton] at ht
       subst ht
       have := readP_t c (s.drop i)
       simp at this ⊢
       omega
theorem lexF_cnt (s : List UInt8) : ∀ (f a : Nat) (any : Bool) (out : List Tok), (lexF s f a any out).1.length ≤ out.length + (s.length + 1 - a) + 1
 | 0, a, any, out => by simp [lexF]; omega
 | f + 1, a, any, out => by
  unfold lexF
  have h2 := cutL_len (s.drop a)
  have h3 := cutB_len (s.drop a) 10
  simp at h3
  by_cases hlt : a < s.length
  ·rw [if_pos hlt]
   have nx : ∀ any (out1 : List Tok), out1.length ≤ out.length + (1 + (cutB (s.drop a) 10).length) → (lexF s f (a + (cutB (s.drop a) 10).length + 1) any out1).1.length ≤ out.length + (s.length + 1 - a) + 1 := fun any out1 h => by
    have := lexF_cnt s f (a + (cutB (s.drop a) 10).length + 1) any out1
    omega
   simp only
   split
   ·exact nx _ _ (by omega)
   ·split
    ·exact nx _ _ (by omega)
    ·split
     ·simp
     ·split
      ·simp
      ·have h1 := lineP_cnt (cutL (s.drop a)) a ((cutL (s.drop a)).length + 2) 0 []
       simp at h1
       refine nx _ _ ?_
       rw [List.length_append]
       have h4 : ∀ (p : Prop) [Decidable p] (x : Tok), (if p then out ++ [x] else out).length ≤ out.length + 1 := fun p _ x => by split <;> simp
       have := h4 (runN blkC (cutL (s.drop a)) = 0 ∧ any = true) { kind := 13, pos := (a : Int) }
       omega
  ·rw [if_neg hlt]
   cases any <;> simp
   omega
theorem lexF_t (s : List UInt8) (m : Nat) (hm : s.length ≤ m) : ∀ (f a : Nat) (any : Bool) (out : List Tok), (∀ t ∈ out, t.text.length ≤ m) → ∀ t ∈ (lexF s f a any out).1, t.text.length ≤ m
 | 0, a, any, out, h => by simpa [lexF] using h
 | f + 1, a, any, out, h => by
  unfold lexF
  have h2 := cutL_len (s.drop a)
  have h3 := cutB_len (s.drop a) 10
  simp at h3
  have hE : ∀ (p : Prop) [Decidable p] (q : Int), ∀ t ∈ (if p then out ++ [({ kind := 13, pos := q } : Tok)] else out), t.text.length ≤ m := fun p _ q t ht => by
   split at ht
   ·rcases List.mem_append.1 ht with ht | ht
    ·exact h t ht
    ·simp only [List.mem_singleton] at ht
     subst ht
     simp
   ·exact h t ht
  by_cases hlt : a < s.length
  ·rw [if_pos hlt]
   simp only
   split
   ·exact lexF_t s m hm f _ any out h
   ·split
    ·exact lexF_t s m hm f _ any out h
    ·split
     ·intro t ht; cases ht
     ·split
      ·intro t ht; cases ht
      ·refine lexF_t s m hm f _ true _ fun t ht => ?_
       rcases List.mem_append.1 ht with ht | ht
       ·exact hE _ _ t ht
       ·exact lineP_t (cutL (s.drop a)) a m (by omega) _ 0 [] (fun t ht => by cases ht) t ht
  ·rw [if_neg hlt]
   exact hE _ _
theorem lexP_cnt (s : List UInt8) : (lexP s).1.length ≤ s.length + 2 := by
 unfold lexP
 split
 ·simp
 ·have := lexF_cnt s (s.length + 1) 0 false []
  simp at this
  omega
theorem lexP_t (s : List UInt8) : ∀ t ∈ (lexP s).1, t.text.length ≤ s.length := by
 unfold lexP
 split
 ·intro t ht; cases ht
 ·exact lexF_t s s.length (Nat.le_refl _) _ 0 false [] (fun t ht => by cases ht)
def ofP (s : List UInt8) : List Ru × Int × Int := if (lexP s).2.2 ≠ 0 then ([], (lexP s).2.1, (lexP s).2.2) else parseP (lexP s).1
theorem of_ok (s : List UInt8) (hs : s.length ≤ 900000000) (h0 : Heap) : ∃ x, M.call 48 [.str s] h0 = some x ∧ parR (ofP s) h0 x := by
 obtain ⟨y, hy, r, rfl, hr⟩ := lex_ok' s (by omega) h0
 have hc := lexP_cnt s
 have ht := lexP_t s
 unfold ofP
 generalize lexP s = res at *
 obtain ⟨l, p, e⟩ := res
 simp only at hy hc ht ⊢
 by_cases he : e = 0
 ·subst he
  obtain ⟨z, hz, b, rfl⟩ := parse_ok l r (by omega) (fun t h => by have := ht t h; omega) h0 hr
  rw [if_neg (by simp)]
  have hlow := rus_low h0.length (parseP l).1
  refine ⟨_, call_of tab48 rfl (callF_wp (r := (.tup [.list 10 ((parseP l).1.map ruA) (rtB b), .int .i64 (parseP l).2.1, .int .i64 (parseP l).2.2], h0)) ?_), b, rfl⟩
  cases b <;> simp [wB48, hy, hz, hlow]
 ·rw [if_pos he]
  refine ⟨_, call_of tab48 rfl (callF_wp (r := (.tup [.list 10 [] (rtB true), .int .i64 p, .int .i64 e], h0)) ?_), true, rfl⟩
  simp [wB48, hy, he]
theorem of_all (s : List UInt8) (hs : s.length ≤ 900000000) : ∃ bf : Heap → Bool, ∀ h, M.call 48 [.str s] h = some (.tup [.list 10 ((ofP s).1.map ruA) (rtB (bf h)), .int .i64 (ofP s).2.1, .int .i64 (ofP s).2.2], h) := by
 have : ∀ h, ∃ b, M.call 48 [.str s] h = some (.tup [.list 10 ((ofP s).1.map ruA) (rtB b), .int .i64 (ofP s).2.1, .int .i64 (ofP s).2.2], h) := fun h => by
  obtain ⟨x, hx, b, rfl⟩ := of_ok s hs h
  exact ⟨b, hx⟩
 obtain ⟨bf, hbf⟩ := Classical.axiomOfChoice this
 exact ⟨bf, hbf⟩
theorem wts_len : ∀ l : List Tr, 16 * l.length ≤ wts l
 | [] => by simp [wts]
 | t :: l => by
  have := wts_len l
  have := wt_eq t
  simp only [wts, List.length_cons]
  omega
theorem TOk_wtN : ∀ (n : Nat) (t : Tr), t.size ≤ n → t.wt ≤ 1000000000 → TOk t
 | 0, t, h, _ => by cases t; simp [Tr.size] at h
 | n + 1, t, h, hw => by
  have h1 := wt_eq t
  have h2 := wts_len t.kids
  refine TOk.mk (by omega) (by omega) fun k hk => ?_
  have := Tr.size_kid hk
  have := wt_kid hk
  exact TOk_wtN n k (by omega) (by omega)
theorem TOk_wt {t : Tr} (hw : t.wt ≤ 1000000000) : TOk t := TOk_wtN t.size t (Nat.le_refl _) hw
theorem fin_nil (l : Heap) (b : Bool) : finish [] l (.bool b) = some (.bool b, []) := by
 have := finish_app [] l (.bool b)
 simpa using this
end Go.Proofs.YtcflbdikkcpiaaaGreatDoor
