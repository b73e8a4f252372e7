/-
  reply: Parse.
-/
import Derived.Test.YtjdpneceeinhhaaDoorP3
set_option linter.unusedVariables false
set_option linter.unusedSimpArgs false
namespace Go.Proofs.YtjdpneceeinhhaaDoor
open Go Go.Am

abbrev PRes := (Int × Txt) × Int × Int
def goP : Txt → Nat → Int → Txt → PRes
  | [], i, code, out => ((0, []), 0, 181)
  | s :: l, i, code, out =>
    if (cutP s).2.2.2 = false ∨ (0 < i ∧ ((cutP s).1 : Int) ≠ code) ∨ i = 100 then ((0, []), 0, 180)
    else if (cutP s).2.1 = 32 then ((((cutP s).1 : Int), out ++ [(cutP s).2.2.1]), ((i + 1 : Nat) : Int), 0)
    else if (cutP s).2.1 = 45 then goP l (i + 1) (cutP s).1 (out ++ [(cutP s).2.2.1])
    else ((0, []), 0, 180)
def parseP (l : Txt) : PRes := goP l 0 0 []
def parR (res : PRes) (h0 : Heap) (x : AV × Heap) : Prop := ∃ r, x = (.tup [repA res.1.1 res.1.2 r, .int .i64 res.2.1, .int .i64 res.2.2], h0)
def InvP (l : Txt) (rl : Rt) (res : PRes) (h0 : Heap) (k : Nat) (σ : Slots) (h : Heap) : Prop := ∃ (i : Nat) (code : Int) (out : Txt) (r : Rt), i ≤ l.length ∧ k = l.length - i ∧ i ≤ 100 ∧ out.length = i ∧ goP (l.drop i) i code out = res ∧
  σ 12 = strL l rl ∧ σ 13 = .int .i64 l.length ∧ σ 14 = .int .i64 i ∧ σ 2 = .ptr h0.length 0 ∧ σ 5 = .ptr (h0.length + 1) 0 ∧
  h.take h0.length = h0 ∧ h[h0.length]? = some (.cells [.int .i64 0, .list 1 [] .full]) ∧ h[h0.length + 1]? = some (.cells [.int .i64 code, .list 1 (out.map AV.str) r]) ∧ Ow (h0.length + 2) h 1 9 r out.length
theorem txt_low (n : Nat) (l : Txt) : AV.lows n (l.map AV.str) := lows_map _ _ fun _ _ => trivial
theorem set_same {h : Heap} {i : Nat} {e : AE} (he : h[i]? = some e) : h.set i e = h := by
  apply List.ext_getElem?
  intro j
  rw [List.getElem?_set]
  split
  · rename_i hj
    subst hj
    rw [if_pos (List.getElem?_eq_some_iff.1 he).1, he]
  · rfl
theorem take_set_ge {h : Heap} {i n : Nat} {e : AE} (hi : n ≤ i) : (h.set i e).take n = h.take n := by
  apply List.ext_getElem?
  intro j
  rw [List.getElem?_take, List.getElem?_take]
  split
  · rw [List.getElem?_set_ne (by omega)]
  · rfl
theorem get_set {h : Heap} {i : Nat} {e : AE} (hi : i < h.length) : (h.set i e)[i]? = some e := by
  rw [List.getElem?_set, if_pos rfl, if_pos hi]
theorem parse_ok (l : Txt) (hl : l.length ≤ big) (rl : Rt) (h0 : Heap) : ∃ x, M.call 11 [strL l rl] h0 = some x ∧ parR (parseP l) h0 x := by
  refine call_post tab11 rfl ?_
  generalize hres : parseP l = res
  generalize hQ : (fun e σ h => isEnd e ∧ ∃ vs, resVals σ h [ARes.cell 2 (some 2), ARes.tmp 3, ARes.tmp 4] = some vs ∧ ∃ r, finish h0 h (oneOf vs) = some r ∧ parR res h0 r) = Q
  have fin : ∀ (σ : Slots) (h : Heap) (c : Int) (xs : Txt) (r : Rt) (a b : Int), σ 2 = .ptr h0.length 0 → h[h0.length]? = some (.cells [.int .i64 c, .list 1 (xs.map AV.str) r]) → σ 3 = .int .i64 a → σ 4 = .int .i64 b → h.take h0.length = h0 → res = ((c, xs), a, b) → Q .ret σ h := by
    intro σ h c xs r a b s2 hh s3 s4 ht e
    subst hQ
    have k := txt_low h0.length xs
    subst e
    simp [s2, s3, s4, hh, finish_of_take ht, parR, repA, strL]
    rcases r with _ | _ | t <;> simp [clean1, AV.low, k]
  have hres' : goP (l.drop 0) 0 0 [] = res := hres
  simp [wB11, strL, Nat.add_assoc]
  refine Wp.loop (InvP l rl res h0) ?_ (n := l.length) ⟨0, 0, [], .full, by omega, by omega, by omega, rfl, hres', by simp [strL], by simp, by simp, by simp, by simp, by simp, by simp, by simp, .full⟩
  rintro k σ h ⟨i, code, out, r, hi, rfl, hi100, hout, hd, s12, s13, s14, s2, s5, ht, hh0, hh1, ow⟩
  unfold strL at s12
  have hle : h0.length + 2 ≤ h.length := by
    have := (List.getElem?_eq_some_iff.1 hh1).1
    omega
  have hh0' : ∀ l', (h ++ l')[h0.length]? = some (.cells [.int .i64 0, .list 1 [] .full]) := fun l' => by rw [List.getElem?_append_left (by omega)]; exact hh0
  have hh1' : ∀ l', (h ++ l')[h0.length + 1]? = some (.cells [.int .i64 code, .list 1 (out.map AV.str) r]) := fun l' => by rw [List.getElem?_append_left (by omega)]; exact hh1
  by_cases hlt : i < l.length
  · obtain ⟨s, es⟩ : ∃ s, l[i]? = some s := ⟨_, List.getElem?_eq_getElem hlt⟩
    have es' : (l.map AV.str)[i]? = some (.str s) := by rw [List.getElem?_map, es]; rfl
    have hdrop : l.drop i = s :: l.drop (i + 1) := by
      obtain ⟨_, he⟩ := List.getElem?_eq_some_iff.1 es
      rw [← he]; exact List.drop_eq_getElem_cons hlt
    rw [hdrop] at hd
    unfold goP at hd
    have hltI : (i : Int) < l.length := by omega
    have hc := fun h => cut_ok s h
    generalize cutP s = cp at *
    obtain ⟨cc, m, t, ok⟩ := cp
    simp only at hd hc
    have hset := set_same hh0
    by_cases hbad : ok = false ∨ (0 < i ∧ (cc : Int) ≠ code) ∨ i = 100
    · rw [if_pos hbad] at hd
      cases ok with
      | false =>
        simp [-getElem?_pos, -List.getElem?_map, wL11_0, s12, s13, s14, s2, s5, hltI, hlt, es', hc, hh0, hh1, hset]
        exact fin _ _ 0 [] .full 0 180 (by simp [s2]) (by simpa using hh0) (by simp) (by simp) ht hd.symm
      | true =>
        by_cases hi0 : 0 < i
        · have hi0' : (0 : Int) < i := by omega
          by_cases hcc : (cc : Int) = code
          · have h100 : i = 100 := by
              rcases hbad with h | ⟨_, h⟩ | h
              · cases h
              · exact absurd hcc h
              · exact h
            have h100I : ((i : Int) = 100) = True := eq_true (by omega)
            simp [-getElem?_pos, -List.getElem?_map, wL11_0, s12, s13, s14, s2, s5, hltI, hlt, es', hc, hh0, hh1, hset, hcc, hi0, hi0', h100I]
            exact fin _ _ 0 [] .full 0 180 (by simp [s2]) (by simpa using hh0) (by simp) (by simp) ht hd.symm
          · simp [-getElem?_pos, -List.getElem?_map, wL11_0, s12, s13, s14, s2, s5, hltI, hlt, es', hc, hh0, hh1, hi0, hi0', hcc, hset]
            exact fin _ _ 0 [] .full 0 180 (by simp [s2]) (by simpa using hh0) (by simp) (by simp) ht hd.symm
        · exfalso
          rcases hbad with h | ⟨h, _⟩ | h
          · cases h
          · exact hi0 h
          · omega
    · rw [if_neg hbad] at hd
      simp only [not_or, Bool.not_eq_false, not_and, Classical.not_not] at hbad
      obtain ⟨rfl, hcode, h100⟩ := hbad
      have h100I : ¬ (i : Int) = 100 := by omega
      have e32 : ((m.toNat : Int) = 32) = (m = 32) := u8_eq m 32 (by omega)
      have e45 : ((m.toNat : Int) = 45) = (m = 45) := u8_eq m 45 (by omega)
      have w1 : IntKind.wrap .i64 ((i : Int) + 1) = ((i + 1 : Nat) : Int) := by rw [wrap64 (by omega) (by omega)]; rfl
      have hsg : ∀ e l', (h.set (h0.length + 1) e ++ l')[h0.length + 1]? = some e := fun e l' => by
        rw [List.getElem?_append_left (by simp; omega)]
        exact get_set (by omega)
      have key : ∀ code' : Int, ∃ r' g', appA (h.set (h0.length + 1) (.cells [.int .i64 code', .list 1 (out.map AV.str) r]) ++ [AE.dead]) h.length 1 16 9 (.list 1 (out.map AV.str) r) (.list 1 [.str t] .full) = some (.list 1 (out.map AV.str ++ [.str t]) r', g') ∧
          Ow (h0.length + 2) g' 1 9 r' (out.length + 1) ∧ g'[h0.length + 1]? = some (.cells [.int .i64 code', .list 1 (out.map AV.str) r]) ∧ g'[h0.length]? = some (.cells [.int .i64 0, .list 1 [] .full]) ∧ g'.take h0.length = h0 ∧ g'.length = h.length + 1 := by
        intro code'
        have ow1 : Ow (h0.length + 2) (h.set (h0.length + 1) (.cells [.int .i64 code', .list 1 (out.map AV.str) r]) ++ [AE.dead]) 1 9 r (out.map AV.str).length := by
          simpa using (ow.set (fun s m f h => by rw [hh1] at h; cases h)).app [AE.dead]
        obtain ⟨r', g', p1, p2, p3⟩ := app_list (n0 := h0.length + 2) (key := h.length) (sz := 1) (bytes := 16) (e := 9) (xs := out.map AV.str) (ys := [.str t]) (r := r) (r2 := .full) ow1 (by omega) (by simp) (by simp; omega) (by simp; omega)
        refine ⟨r', g', p1, by simpa using p2, ?_, ?_, ?_, ?_⟩
        · exact p3.keep ow1 (hsg _ _) (fun _ _ _ h => by cases h) (by omega)
        · refine p3.keep ow1 ?_ (fun _ _ _ h => by cases h) (by omega)
          rw [List.getElem?_append_left (by simp; omega), List.getElem?_set_ne (by omega)]
          exact hh0
        · rw [p3.takeLe (by omega), take_app (by simp; omega), take_set_ge (by omega), ht]
        · simpa using p3.len
      by_cases hi0 : 0 < i
      · have hi0' : (0 : Int) < i := by omega
        have hcc := hcode hi0
        rw [hcc] at hd
        obtain ⟨r', g', p1, p2, hg1, hg0, ht1, hlen⟩ := key code
        have hg0' : (g'.set (h0.length + 1) (.cells [.int .i64 code, .list 1 (out.map AV.str ++ [.str t]) r']))[h0.length]? = some (.cells [.int .i64 0, .list 1 [] .full]) := by rw [List.getElem?_set_ne (by omega)]; exact hg0
        have hg1' : (g'.set (h0.length + 1) (.cells [.int .i64 code, .list 1 (out.map AV.str ++ [.str t]) r']))[h0.length + 1]? = some (.cells [.int .i64 code, .list 1 (out.map AV.str ++ [.str t]) r']) := get_set (by omega)
        have ht2 : (g'.set (h0.length + 1) (.cells [.int .i64 code, .list 1 (out.map AV.str ++ [.str t]) r'])).take h0.length = h0 := by rw [take_set_ge (by omega), ht1]
        have hlen2 : (g'.set (h0.length + 1) (.cells [.int .i64 code, .list 1 (out.map AV.str ++ [.str t]) r'])).length = h.length + 1 := by simpa using hlen
        simp [-getElem?_pos, -List.getElem?_map, -Int.natCast_add, wL11_0, s12, s13, s14, s2, s5, hltI, hlt, es', hc, hh0, hh1, hi0, hi0', hcc, h100I, hsg]
        rw [p1]
        simp [-Int.natCast_add, hg1, hg0, s5, s2]
        by_cases h32 : m = 32
        · subst h32
          rw [if_pos rfl] at hd
          simp [-Int.natCast_add, s5, s2, hg0', hg1', w1, s14]
          exact fin _ _ code (out ++ [t]) r' _ 0 (by simp [s2]) (by rw [get_set (by omega)]; simp) (by simp) (by simp) (by rw [take_set_ge (by omega), ht2]) hd.symm
        · rw [if_neg h32] at hd
          rw [← e32] at h32
          by_cases h45 : m = 45
          · subst h45
            rw [if_pos rfl] at hd
            simp [-Int.natCast_add, s12, s13, s14, s2, s5, w1]
            exact ⟨l.length - (i + 1), by omega, i + 1, code, out ++ [t], r', by omega, rfl, by omega, by simp [hout], hd, by simp [s12, strL], by simp [s13], by simp, by simp [s2], by simp [s5], ht2, hg0', by rw [hg1']; simp, by
              simpa using p2.set (fun s m f h => by rw [hg1] at h; cases h)⟩
          · rw [if_neg h45] at hd
            rw [← e45] at h45
            simp [-Int.natCast_add, h32, h45, s2, s5, hg0', set_same hg0']
            exact fin _ _ 0 [] .full 0 180 (by simp [s2]) hg0' (by simp) (by simp) ht2 hd.symm
      · have hi0' : ¬ (0 : Int) < i := by omega
        obtain ⟨r', g', p1, p2, hg1, hg0, ht1, hlen⟩ := key cc
        have hg0' : (g'.set (h0.length + 1) (.cells [.int .i64 cc, .list 1 (out.map AV.str ++ [.str t]) r']))[h0.length]? = some (.cells [.int .i64 0, .list 1 [] .full]) := by rw [List.getElem?_set_ne (by omega)]; exact hg0
        have hg1' : (g'.set (h0.length + 1) (.cells [.int .i64 cc, .list 1 (out.map AV.str ++ [.str t]) r']))[h0.length + 1]? = some (.cells [.int .i64 cc, .list 1 (out.map AV.str ++ [.str t]) r']) := get_set (by omega)
        have ht2 : (g'.set (h0.length + 1) (.cells [.int .i64 cc, .list 1 (out.map AV.str ++ [.str t]) r'])).take h0.length = h0 := by rw [take_set_ge (by omega), ht1]
        have hlen2 : (g'.set (h0.length + 1) (.cells [.int .i64 cc, .list 1 (out.map AV.str ++ [.str t]) r'])).length = h.length + 1 := by simpa using hlen
        simp [-getElem?_pos, -List.getElem?_map, -Int.natCast_add, wL11_0, s12, s13, s14, s2, s5, hltI, hlt, es', hc, hh0, hh1, hi0, hi0', h100I, hsg]
        rw [p1]
        simp [-Int.natCast_add, hg1, hg0, s5, s2]
        by_cases h32 : m = 32
        · subst h32
          rw [if_pos rfl] at hd
          simp [-Int.natCast_add, s5, s2, hg0', hg1', w1, s14]
          exact fin _ _ cc (out ++ [t]) r' _ 0 (by simp [s2]) (by rw [get_set (by omega)]; simp) (by simp) (by simp) (by rw [take_set_ge (by omega), ht2]) hd.symm
        · rw [if_neg h32] at hd
          rw [← e32] at h32
          by_cases h45 : m = 45
          · subst h45
            rw [if_pos rfl] at hd
            simp [-Int.natCast_add, s12, s13, s14, s2, s5, w1]
            exact ⟨l.length - (i + 1), by omega, i + 1, cc, out ++ [t], r', by omega, rfl, by omega, by simp [hout], hd, by simp [s12, strL], by simp [s13], by simp, by simp [s2], by simp [s5], ht2, hg0', by rw [hg1']; simp, by
              simpa using p2.set (fun s m f h => by rw [hg1] at h; cases h)⟩
          · rw [if_neg h45] at hd
            rw [← e45] at h45
            simp [-Int.natCast_add, h32, h45, s2, s5, hg0', set_same hg0']
            exact fin _ _ 0 [] .full 0 180 (by simp [s2]) hg0' (by simp) (by simp) ht2 hd.symm
  · have hil : i = l.length := by omega
    subst hil
    have hltI : ((l.length : Int) < l.length) = False := eq_false (by omega)
    rw [List.drop_length] at hd
    simp [wL11_0, wK11_0, s12, s13, s14, s2, s5, hltI, hh0, hh1, set_same hh0]
    exact fin _ _ 0 [] .full 0 181 (by simp [s2]) (by simpa using hh0) (by simp) (by simp) ht hd.symm
end Go.Proofs.YtjdpneceeinhhaaDoor
