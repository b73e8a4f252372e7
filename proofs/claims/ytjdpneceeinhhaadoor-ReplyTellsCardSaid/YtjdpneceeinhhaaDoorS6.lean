/-
  ReplyTells: the walk.
-/
import Derived.Test.YtjdpneceeinhhaaDoorS5
set_option linter.unusedVariables false
set_option linter.unusedSimpArgs false
namespace Go.Proofs.YtjdpneceeinhhaaDoor
open Go Go.Am

theorem app_gl {H : Heap} {b key : Nat} {ys : List AV} {r : Rt} (hb : H[b]? = some (.grow 1 [])) (hy : ∀ y ∈ ys, y.cells = [y]) (hl : ys.length ≤ 1000) : appA H key 1 16 9 (.gl 1 b 0) (.list 1 ys r) = some (.gl 1 key ys.length, (H.set b .dead).set key (.grow 1 ys)) := by
  have hf : ys.flatMap AV.cells = ys := by
    clear hl
    induction ys with
    | nil => rfl
    | cons y ys ih => rw [List.flatMap_cons, hy y (by simp), ih (fun z hz => hy z (by simp [hz]))]; rfl
  simp only [appA, srcOf, true_or, if_true, hb]
  rw [if_pos (by simp; omega)]
  simp [hf]
theorem rowOf_gl {h : Heap} {b : Nat} {ls : Txt} (hb : h[b]? = some (.grow 1 (ls.map AV.str))) : rowOf h (.gl 1 b ls.length) = some (ls.map AV.str) := by
  simp only [rowOf, hb]
  rw [if_pos (by simp), List.take_of_length_le (by simp)]
def InvW (ls : Txt) (e f : Int) (x bx : List AV) (k : Nat) (σ : Slots) (h : Heap) : Prop := ∃ (i : Nat) (Z : List AV), i ≤ ls.length ∧ k = ls.length - i ∧ Z.length = ls.length ∧ (∀ j, i ≤ j → Z[j]? = (ls.map AV.str)[j]?) ∧
  σ 4 = .ptr 0 0 ∧ σ 10 = .int .i64 e ∧ σ 13 = .int .i64 f ∧ σ 16 = .gl 1 4 ls.length ∧ σ 17 = .ptr 5 0 ∧ σ 142 = .int .i64 ls.length ∧ σ 143 = .int .i64 i ∧ h[0]? = some (.cells bx) ∧ h[4]? = some (.grow 1 Z) ∧ h[5]? = some (.cells x)
theorem dots_ok (ls : Txt) (hl : ls.length ≤ 150) (hs : ∀ s ∈ ls, s.length ≤ 600) (e f : Int) (x bx : List AV) (σ : Slots) (h : Heap) (Q : Ex → Slots → Heap → Prop)
    (t4 : σ 4 = .ptr 0 0) (t10 : σ 10 = .int .i64 e) (t13 : σ 13 = .int .i64 f) (t16 : σ 16 = .gl 1 4 ls.length) (t17 : σ 17 = .ptr 5 0) (t142 : σ 142 = .int .i64 ls.length) (t143 : σ 143 = .int .i64 0)
    (h0 : h[0]? = some (.cells bx)) (h4 : h[4]? = some (.grow 1 (ls.map AV.str))) (h5 : h[5]? = some (.cells x))
    (hQ : ∀ (σ' : Slots) (h' : Heap), σ' 4 = .ptr 0 0 → σ' 10 = .int .i64 e → σ' 13 = .int .i64 f → σ' 17 = .ptr 5 0 → h'[0]? = some (.cells bx) → h'[5]? = some (.cells x) → Q (.exit 2) σ' h') :
    Wp M (.loop L6_1) Q σ h := by
  refine Wp.loop (InvW ls e f x bx) ?_ (n := ls.length) ⟨0, ls.map AV.str, by omega, by omega, by simp, fun _ _ => rfl, t4, t10, t13, t16, t17, t142, by simpa using t143, h0, h4, h5⟩
  rintro k σ h ⟨i, Z, hi, rfl, hZ, hZj, t4, t10, t13, t16, t17, t142, t143, h0, h4, h5⟩
  by_cases hlt : i < ls.length
  · obtain ⟨s, es⟩ : ∃ s, ls[i]? = some s := ⟨_, List.getElem?_eq_getElem hlt⟩
    have es' : Z[i]? = some (.str s) := by rw [hZj i (Nat.le_refl _), List.getElem?_map, es]; rfl
    have hsl := hs s (List.mem_of_getElem? es)
    have hltI : ((i : Int) < ls.length) = True := eq_true (by omega)
    have e64 : IntKind.wrap .i64 ((i : Int) + 1) = ((i + 1 : Nat) : Int) := by rw [wrap64 (by omega) (by omega)]; rfl
    have b1 : s.length + 1 ≤ 140737488355328 := by omega
    have hiZ : i + 1 ≤ Z.length := by omega
    have h4l := (List.getElem?_eq_some_iff.1 h4).1
    simp [-getElem?_pos, -List.getElem?_map, -Int.natCast_add, wL6_1, t4, t10, t13, t16, t17, t142, t143, hlt, hltI, h4, es', b1, hiZ, e64]
    refine ⟨ls.length - (i + 1), by omega, i + 1, Z.take i ++ AV.str (s ++ [46]) :: Z.drop (i + 1), by omega, rfl, by simp; omega, fun j hj => ?_, by simp [t4], by simp [t10], by simp [t13], by simp [t16], by simp [t17], by simp [t142], by simp, ?_, ?_, ?_⟩
    · rw [List.getElem?_append_right (by simp; omega)]
      have : j - (Z.take i).length = (j - (i + 1)) + 1 := by simp; omega
      rw [this, List.getElem?_cons_succ, List.getElem?_drop, ← hZj j (by omega)]
      congr 1
      omega
    · rw [List.getElem?_set_ne (by omega)]; exact h0
    · rw [get_set h4l]
    · rw [List.getElem?_set_ne (by omega)]; exact h5
  · obtain rfl : i = ls.length := by omega
    have hltI : ((ls.length : Int) < ls.length) = False := eq_false (by omega)
    simp [wL6_1, t4, t10, t13, t16, t17, t142, t143, hltI]
    exact hQ _ _ (by simp [t4]) (by simp [t10]) (by simp [t13]) (by simp [t17]) h0 h5
set_option maxRecDepth 20000 in
theorem tells_ok (l : Txt) (c : Int) (ls : Txt) (code : Int) (hl : l.length ≤ big) (hls : ls.length ≤ big) : M.call 6 [strL l .no, repA c ls .no, .int .i64 code] [] = some (.bool true, []) := by
  refine call_of tab6 rfl (callF_wp ?_)
  have aw := fun h => awake_ok h
  by_cases h1 : l.length ≤ 150
  · have h1I : ((150 : Int) < l.length) = False := eq_false (by omega)
    by_cases h2 : ls.length ≤ 150
    · have h2I : ((150 : Int) < ls.length) = False := eq_false (by omega)
      simp [wB6, strL, repA, h1I, h2I]
      refine lens_ok l c ls code h1 h2 _ _ (by simp) (by simp) (by simp) (by simp) (fun σ' h' e => by simp [e]) fun σ' k1 k2 t0 t2 t4 => ?_
      obtain ⟨f1, hp1⟩ := parse_eq l hl .no
      obtain ⟨f2, hp2⟩ := rparse_eq l hl (fun s hs => by have := k1 s hs; unfold big; omega) .no
      obtain ⟨f3, hq1⟩ := print_eq c ls hls .no
      obtain ⟨f4, hq2⟩ := rprint_eq c ls hls (fun s hs => by have := k2 s hs; unfold big; omega) .no
      have hr1 := fun h => right_ok c ls hls .no h
      have hr2 := fun h => rright_ok c ls hls (fun s hs => by have := k2 s hs; unfold big; omega) .no h
      have hk1 := fun h => kind_ok code h
      have hk2 := fun h => rkind_ok code h
      have hlen := parseP_len l
      have hs1 := fun r1 r2 h => same_ok (parseP l).1.1 (parseP l).1.1 (parseP l).1.2 (parseP l).1.2 r1 r2 (by omega) h
      have hlp : (printP c ls).1.length ≤ big := by
        unfold printP
        split
        · simp [prL_len]; omega
        · simp [big]
      have hx1 := fun r1 r2 h => texts_ok (printP c ls).1 (printP c ls).1 r1 r2 hlp h
      have hrp : (printP c ls).2 = if rightP c ls then 0 else 180 := by unfold printP; split <;> rfl
      have hsay := fun b h (hh : h[b]? = some (AE.grow 1 (ls.map AV.str))) => say_ok c (.gl 1 b ls.length) ls h (rowOf_gl hh) (by omega)
      have hse := fun r1 r2 h => same_ok c c ls ls r1 r2 (by omega) h
      have hs0 := fun r1 r2 h => same_ok 0 0 [] [] r1 r2 (by simp [big]) h
      have hag := fun H b key r hb => app_gl (H := H) (b := b) (key := key) (ys := ls.map AV.str) (r := r) hb (by intro y hy; rw [List.mem_map] at hy; obtain ⟨s, _, rfl⟩ := hy; rfl) (by simp; omega)
      generalize parseP l = res at *
      obtain ⟨⟨rc, rls⟩, rn, re⟩ := res
      generalize printP c ls = pr at *
      obtain ⟨pl, pe⟩ := pr
      simp [repA, strL] at hp1 hp2 hq1 hq2 hr1 hr2 hs1 hx1 hse hs0
      simp only at hrp
      subst hrp
      simp [wK6_1, t0, t2, t4, hp1, hp2, hq1, hq2, hr1, hr2, hk1, hk2, hs1, hx1]
      rw [hag _ 3 _ _ rfl]
      cases hR : rightP c ls with
      | true =>
        rw [hR] at hsay
        simp only [if_true] at hsay
        simp [t0, t2, t4, hsay]
        refine dots_ok ls h2 k2 0 0 [.int .i64 c, .list 1 (ls.map AV.str) .no] [.int .i64 c, .list 1 (ls.map AV.str) .no] _ _ _ (by simp [t4]) (by simp) (by simp [hR]) (by simp) (by simp) (by simp) (by simp) (by simp) (by simp) (by simp) fun σ'' h' u4 u10 u13 u17 v0 v5 => ?_
        simp [wK6_0, u4, u10, u13, u17, v0, v5, hse, aw]
        try fail "x"
      | false =>
        rw [hR] at hsay
        simp only [Bool.false_eq_true, if_false] at hsay
        simp [t0, t2, t4, hsay]
        refine dots_ok ls h2 k2 180 180 [.int .i64 0, .list 1 [] .full] [.int .i64 c, .list 1 (ls.map AV.str) .no] _ _ _ (by simp [t4]) (by simp) (by simp [hR]) (by simp) (by simp) (by simp) (by simp) (by simp) (by simp) (by simp) fun σ'' h' u4 u10 u13 u17 v0 v5 => ?_
        simp [wK6_0, u4, u10, u13, u17, v0, v5, hs0, aw]
        try fail "x"
    · have h2I : ((150 : Int) < ls.length) = True := eq_true (by omega)
      simp [wB6, strL, repA, h1I, h2I, aw]
  · have h1I : ((150 : Int) < l.length) = True := eq_true (by omega)
    simp [wB6, strL, repA, h1I, aw]
set_option maxRecDepth 100000 in
theorem ReplyTells_law (xs : List AV) (h : HasArgs Tryd.prog [22, 24, 3] xs) : (lim XS T).call 6 xs [] = some (.bool true, []) := by
  obtain ⟨a0, r0, n0, rfl, h0, h⟩ := h
  obtain ⟨a1, r1, n1, rfl, h1, h⟩ := h
  obtain ⟨a2, r2, n2, rfl, h2, h⟩ := h
  obtain rfl := args_nil h
  obtain ⟨l, rfl, hl⟩ := arg_strs h0
  obtain ⟨c, ls, rfl, hls⟩ := arg_reply h1
  obtain ⟨i, rfl, _⟩ := has_int Tryd.underlying3 h2
  exact tells_ok l c ls i hl hls
end Go.Proofs.YtjdpneceeinhhaaDoor
