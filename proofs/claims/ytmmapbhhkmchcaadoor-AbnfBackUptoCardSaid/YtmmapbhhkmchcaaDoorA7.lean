/-
  abnf: part.
-/
import Derived.Test.YtmmapbhhkmchcaaDoorA6
set_option linter.unusedVariables false
set_option linter.unusedSimpArgs false
namespace Go.Proofs.YtmmapbhhkmchcaaDoor
open Go Go.Am

def times7 (mn mx : Int) : Bool := decide (0 ≤ mn ∧ mn ≤ 9999 ∧ (mx = -1 ∨ mn ≤ mx ∧ mx ≤ 9999))
theorem times7_eq (mn mx : Int) (t : Tr) : aloneP (timesT mn mx t) = times7 mn mx := by
  simp [aloneP, timesT, times7, Tr.k, Tr.kids, Tr.mn, Tr.mx, Tr.s, Tr.lo, Tr.hi]
theorem alone7_ok (mn mx : Int) (b : Nat) (h0 : Heap) : M.call 24 [.agg [.int .u8 7, .str [], .int .u8 0, .int .u8 0, .int .i64 mn, .int .i64 mx, .sl 7 b 0 1 1]] h0 = some (.bool (times7 mn mx), h0) := by
  refine call_of tab24 rfl (callF_wp ?_)
  generalize hQ : (fun e σ h => isEnd e ∧ ∃ vs, resVals σ h [ARes.tmp 2] = some vs ∧ finish h0 h (oneOf vs) = some (.bool (times7 mn mx), h0)) = Q
  have fin : ∀ (b : Bool), b = times7 mn mx → ∀ (σ : Slots) (l : List AE), σ 2 = .bool b → Q .ret σ (h0 ++ l) := by
    intro b hb σ l s2
    subst hQ
    subst hb
    simp [s2]
  have tl := fun b c kk kk' kv kv' s s' lo hi mn mx lo' hi' mn' mx' σ s1 s3 s4 s5 hq => tail_ok h0 b c kk kk' kv kv' s s' lo hi mn mx lo' hi' mn' mx' σ s1 s3 s4 s5 Q hq
  unfold times7 at fin
  by_cases p1 : 0 ≤ mn
  · by_cases p2 : mn ≤ 9999
    · by_cases p3 : mx = -1
      · simp [wB24, wJ24_0, p1, p2, p3]
        refine tl true true _ _ _ _ _ _ _ _ _ _ _ _ _ _ _ (by simp) (by simp) (by simp) (by simp) fun σ l e => fin _ ?_ σ l e
        simp [p1, p2, p3]
      · by_cases p4 : mn ≤ mx
        · simp [wB24, wJ24_0, p1, p2, p3, p4]
          refine tl (decide (mx ≤ 9999)) true _ _ _ _ _ _ _ _ _ _ _ _ _ _ _ (by simp) (by simp) (by simp) (by simp) fun σ l e => fin _ ?_ σ l e
          simp [p1, p2, p3, p4]
        · simp [wB24, wJ24_0, p1, p2, p3, p4]
          refine tl false true _ _ _ _ _ _ _ _ _ _ _ _ _ _ _ (by simp) (by simp) (by simp) (by simp) fun σ l e => fin _ ?_ σ l e
          simp [p1, p2, p3, p4]
    · simp [wB24, wJ24_0, p1, p2]
      refine tl false true _ _ _ _ _ _ _ _ _ _ _ _ _ _ _ (by simp) (by simp) (by simp) (by simp) fun σ l e => fin _ ?_ σ l e
      simp [p1, p2]
  · simp [wB24, wJ24_0, p1]
    refine tl false true _ _ _ _ _ _ _ _ _ _ _ _ _ _ _ (by simp) (by simp) (by simp) (by simp) fun σ l e => fin _ ?_ σ l e
    simp [p1]

theorem clean_sl1 {q : Heap} {n b : Nat} {t : Tr} (h1 : n ≤ b) (h2 : q[b]? = some (.cells t.encL)) : clean1 q n (.sl 7 b 0 1 1) = some (.list 7 [t.enc] .no) := by
  simp only [clean1]
  rw [if_neg (by omega), h2]
  simp only
  rw [if_neg (by simp), if_pos (by simp; exact Tr.encL_low n t)]
  simp [elems]
theorem clean_sl0 {q : Heap} {n b : Nat} (h1 : b < n) : clean1 q n (.sl 7 b 0 1 1) = some (.sl 7 b 0 1 1) := by
  simp only [clean1]
  rw [if_pos h1]
theorem times_enc (mn mx : Int) (t : Tr) : (timesT mn mx t).enc = .agg [.int .u8 7, .str [], .int .u8 0, .int .u8 0, .int .i64 mn, .int .i64 mx, .list 7 [t.enc] .no] := by simp [timesT, Tr.enc_mk]
section
variable {l : List Tok} {rt : Rt} {r : Nat} (hl : l.length ≤ 1000000000)
include hl in
/-- part where no times stand: thing. -/
theorem part_thing (a a' : Nat) (off off' : Bool) (hn : nextB l a off [9] = false) (tg : Heap → Tr) (h : Heap) (hr : h[r]? = some (stC l rt a off)) (hrt : ∀ t, rt = .tok t → t < h.length)
    (hth : ∀ h : Heap, h[r]? = some (stC l rt a off) → (∀ t, rt = .tok t → t < h.length) → M.call 84 [.ptr r 0] h = some ((tg h).enc, h.set r (stC l rt a' off'))) :
    ∃ q, M.call 75 [.ptr r 0] h = some ((tg (h ++ q)).enc, h.set r (stC l rt a' off')) := by
  obtain ⟨g, rfl, hlt⟩ := HH_of hr
  rw [HH_set0]
  rw [HH_len] at hrt
  have nx : ∀ rk q, M.call 57 [.ptr r 0, .list 1 (ofBytes [9]) rk] (HH g r (stC l rt a off) ++ q) = some (.bool false, HH g r (stC l rt a off) ++ q) := fun rk q => by
    rw [next_ok hl a off [9] (by simp) rk _ (HH_get hlt q), hn]
  have th := fun q => hth (HH g r (stC l rt a off) ++ q) (HH_get hlt q) (fun t ht => by have := hrt t ht; simp; omega)
  simp only [HH_set hlt] at th
  have hlow := stC_low (l := l) (a := a') (off := off') hrt
  refine ⟨?_, call_of tab75 rfl (callF_wp ?_)⟩
  rotate_left
  · simp [wB75, nx, th, Nat.add_assoc]
    rw [finish_HH (by rw [List.take_left' (by simp)]) hlt hlow, clean_enc]
    rfl
include hl in
theorem part_step (ht : ∀ t ∈ l, t.text.length ≤ 1000000000) (f : Nat) (ih : ∀ a p, thingS l f a = some p → CC 84 l rt r a p) (a : Nat) (p : Pr) (hp : partS l (f + 1) a = some p) : CC 75 l rt r a p := by
  unfold partS at hp
  have other : nextB l a false [9] = false → thingS l f a = some p → CC 75 l rt r a p := by
    intro hn hp
    have th := ih _ _ hp
    cases p with
    | ok t n =>
      intro h hr hrt
      obtain ⟨q, hq⟩ := part_thing hl a n false false hn (fun _ => t) h hr hrt (fun h hr hrt => th h hr hrt)
      exact hq
    | bad n =>
      obtain ⟨tg, th⟩ := th
      refine CC_bad fun h hr hrt => ?_
      obtain ⟨q, hq⟩ := part_thing hl a n false true hn tg h hr hrt (fun h hr hrt => th h hr hrt)
      exact ⟨_, hq⟩
  cases et : l[a]? with
  | none =>
    rw [et] at hp
    exact other (by simp [nextB, et]) hp
  | some x =>
    rw [et] at hp
    simp only at hp
    by_cases k9 : x.kind = 9
    · rw [if_pos k9, times7_eq] at hp
      have hal := (List.getElem?_eq_some_iff.1 et).1
      have nx := fun (g : Heap) (hlt : r < g.length) rk q => show M.call 57 [.ptr r 0, .list 1 (ofBytes [9]) rk] (HH g r (stC l rt a false) ++ q) = some (.bool true, HH g r (stC l rt a false) ++ q) by
        rw [next_ok hl a false [9] (by simp) rk _ (HH_get hlt q)]
        simp [nextB, et, k9]
      have tky := fun (g : Heap) (hlt : r < g.length) (hrt : ∀ t, rt = .tok t → t < g.length) (rk : Rt) (q : Heap) => at_HH (r := r) (g := g) hlt (fun h hg hr => take_yes (rt := rt) hl a [9] (by simp) rk x et h hr (fun t ht => by have := hrt t ht; omega) (by rw [k9]; decide)) q
      cases h7 : times7 x.mn x.mx with
      | false =>
        rw [h7] at hp
        simp at hp
        subst hp
        refine CC_bad fun h hr hrt => ?_
        obtain ⟨g, rfl, hlt⟩ := HH_of hr
        rw [HH_set0]
        rw [HH_len] at hrt
        have nx := nx g hlt
        have tk := tky g hlt hrt
        have al := alone7_ok x.mn x.mx
        have mk := fun b q (hb : b < g.length + q.length) => at_HH' (r := r) (g := g) hlt q (fun h hg hr => made_no (rt := rt) ⟨7, [], 0, 0, x.mn, x.mx, .sl 7 b 0 1 1⟩ hl a hal h hr (fun t ht => by have := hrt t ht; omega) (fun q' => clean_sl0 (by omega)) (fun h' _ => by rw [Cell7.cs]; simp only; rw [al, h7]))
        have th := fun q => at_HH (r := r) (g := g) (e' := stC l rt a true) hlt (fun h hg hr => thing_no hl a true (by simp [nextB]) h hr (fun t ht => by have := hrt t ht; omega)) q
        have hlow := stC_low (l := l) (a := a) (off := true) hrt
        simp only [Cell7.cs] at mk
        refine ⟨timesT x.mn x.mx zeroT, call_of tab75 rfl (callF_wp ?_)⟩
        simp [wB75, nx, tk, mk, th, tokA, tokL, k9, Nat.add_assoc]
        rw [finish_HH (by rw [List.take_left' (by simp)]) hlt hlow, times_enc]
        simp [cleans_cons]
        rw [clean_sl1 (n := g.length) (b := g.length + 4) (by omega) (by simp; rfl)]
        simp
      | true =>
        rw [h7] at hp
        simp only [if_true] at hp
        have al := alone7_ok x.mn x.mx
        cases hth : thingS l f (a + 1) with
        | none => rw [hth] at hp; cases hp
        | some p1 =>
          rw [hth] at hp
          have th := ih _ _ hth
          have all : ∀ (a' : Nat) (off : Bool) (tg : Heap → Tr) (h : Heap) (hr : h[r]? = some (stC l rt a false)) (hrt : ∀ t, rt = .tok t → t < h.length) (k : ∀ h : Heap, h[r]? = some (stC l rt (a + 1) false) → (∀ t, rt = .tok t → t < h.length) → M.call 84 [.ptr r 0] h = some ((tg h).enc, h.set r (stC l rt a' off))),
              ∃ q, M.call 75 [.ptr r 0] h = some ((timesT x.mn x.mx (tg q)).enc, h.set r (stC l rt a' off)) := by
            intro a' off tg h hr hrt k
            obtain ⟨g, rfl, hlt⟩ := HH_of hr
            rw [HH_set0]
            rw [HH_len] at hrt
            have nx := nx g hlt
            have tk := tky g hlt hrt
            have mk := fun b q (hb : b < g.length + q.length) => at_HH' (r := r) (g := g) (e := stC l rt (a + 1) false) (e' := stC l rt (a + 1) false) hlt q (fun h hg hr => by
              have := made_yes (l := l) (rt := rt) ⟨7, [], 0, 0, x.mn, x.mx, .sl 7 b 0 1 1⟩ (a + 1) false h hr (fun q' => clean_sl0 (by omega)) (fun _ h' _ => by rw [Cell7.cs]; simp only; rw [al, h7])
              rw [this, set_same' hr])
            simp only [Cell7.cs] at mk
            have th := fun q => k (HH g r (stC l rt (a + 1) false) ++ q) (HH_get hlt q) (fun t ht => by have := hrt t ht; simp; omega)
            simp only [HH_set hlt] at th
            have hlow := stC_low (l := l) (a := a') (off := off) hrt
            refine ⟨?_, call_of tab75 rfl (callF_wp ?_)⟩
            rotate_left
            · simp [wB75, nx, tk, mk, th, tokA, tokL, k9, Nat.add_assoc]
              rw [finish_HH (by rw [List.take_left' (by simp)]) hlt hlow, times_enc]
              simp [cleans_cons]
              rw [clean_sl1 (n := g.length) (b := g.length + 4) (by omega) (by simp; rfl)]
              rfl
          cases p1 with
          | ok t n =>
            simp only [Option.some.injEq] at hp
            subst hp
            intro h hr hrt
            obtain ⟨q, hq⟩ := all n false (fun _ => t) h hr hrt th
            exact hq
          | bad n =>
            simp only [Option.some.injEq] at hp
            subst hp
            obtain ⟨tg, th⟩ := th
            refine CC_bad fun h hr hrt => ?_
            obtain ⟨q, hq⟩ := all n true tg h hr hrt th
            exact ⟨_, hq⟩
    · rw [if_neg k9] at hp
      exact other (by simp [nextB, et, k9]) hp
end
end Go.Proofs.YtmmapbhhkmchcaaDoor
