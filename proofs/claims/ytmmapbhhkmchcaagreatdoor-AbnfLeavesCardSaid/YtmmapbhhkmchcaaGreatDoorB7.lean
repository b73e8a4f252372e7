/-
  The reference: rule, Parse.
-/
import Derived.Test.YtmmapbhhkmchcaaGreatDoorB6
set_option linter.unusedVariables false
set_option linter.unusedSimpArgs false
namespace Go.Proofs.YtmmapbhhkmchcaaGreatDoor
open Go Go.Am

theorem rparts_ok {l : List Tok} {rt : Rt} (hl : l.length ≤ 1000000000) (ht : ∀ t ∈ l, t.text.length ≤ 1000000000) : ∀ f, (∀ a p, a ≤ l.length → thingS l f a = some p → RC 139 l rt a p) ∧ (∀ a p, a ≤ l.length → partS l f a = some p → RC 132 l rt a p) ∧
    (∀ a p, a ≤ l.length → rowS l f a [] = some p → RC 119 l rt a p) ∧ (∀ a p, a ≤ l.length → choicesS l f a [] = some p → RC 83 l rt a p) := by
  intro f
  induction f using Nat.strongRecOn with
  | _ f ih =>
    refine ⟨fun a p ha hp => ?_, fun a p ha hp => ?_, fun a p ha hp => ?_, fun a p ha hp => ?_⟩
    · cases f with
      | zero => simp [thingS] at hp
      | succ f => exact rthing_step hl ht f (ih f (by omega)).2.2.2 a ha p hp
    · cases f with
      | zero => simp [partS] at hp
      | succ f => exact rpart_step hl f (ih f (by omega)).1 a ha p hp
    · exact rrow_step hl f (fun f' a p hf ha => (ih f' hf).2.1 a p ha) a ha p hp
    · exact rchoices_step hl f (fun f' a p hf ha => (ih f' hf).2.2.1 a p ha) a ha p hp
section
variable {l : List Tok} {rt : Rt} (hl : l.length ≤ 1000000000)
include hl in
theorem rcho_ok (ht : ∀ t ∈ l, t.text.length ≤ 1000000000) (a : Nat) (ha : a ≤ l.length) : RC 83 l rt a (choP l a) := (rparts_ok hl ht _).2.2.2 a _ ha (choP_eq l a)
/-- What rule hands back. -/
def RQ (p : Rr) (h : Heap) (x : AV × Heap) : Prop := match p with
  | .ok r n => x = (.tup [ruA r, .int .i64 n], h)
  | .bad q => ∃ r : Ru, x = (.tup [ruA r, .int .i64 (-1 - (q : Int))], h)
def zeroR : Ru := ⟨[], 0, false, zeroT⟩
theorem zeroR_eq : ruA zeroR = .agg [.str [], .int .i64 0, .bool false, .int .u8 0, .str [], .int .u8 0, .int .u8 0, .int .i64 0, .int .i64 0, .list 7 [] .full] := by
  unfold ruA
  rw [Tr.encL_eq]
  rfl
theorem ru_clean (q : Heap) (n : Nat) (x : Ru) : clean2 q n (ruA x) = some (ruA x) := by
  show (cleans q n _).map AV.agg = _
  rw [List.cons_append, List.cons_append, List.cons_append, List.nil_append]
  simp only [cleans_cons, clean_encL]
  simp [ruA, cleans_cons]
include hl in
theorem rrule_ok (ht : ∀ t ∈ l, t.text.length ≤ 1000000000) (a : Nat) (ha : a < l.length) (h0 : Heap) : ∃ x, M.call 40 [.list 7 (l.map tokA) rt, .int .i64 a] h0 = some x ∧ RQ (ruleS l a) h0 x := by
  obtain ⟨n, en⟩ : ∃ n, l[a]? = some n := ⟨_, List.getElem?_eq_getElem ha⟩
  have kc := fun a h => rkind_ok l rt hl a h
  have lf := rleaf_ok n (ht n (List.mem_of_getElem? en))
  unfold tokA tokL at lf
  have w1 : IntKind.wrap .i64 ((a : Int) + 1) = ((a + 1 : Nat) : Int) := by rw [wrap64 (by omega) (by omega)]; rfl
  have w2 : IntKind.wrap .i64 ((a : Int) + 2) = ((a + 2 : Nat) : Int) := by rw [wrap64 (by omega) (by omega)]; rfl
  have v1 : IntKind.wrap .i64 (-1 - (a : Int)) = -1 - (a : Int) := by rw [wrap64 (by omega) (by omega)]
  have v2 : IntKind.wrap .i64 (-2 - (a : Int)) = -1 - ((a + 1 : Nat) : Int) := by rw [wrap64 (by omega) (by omega)]; omega
  have z1 : ((n.kind.toNat : Int) = 1) = (n.kind = 1) := u8_eq n.kind 1 (by omega)
  have zz : AV.agg [.str [], .int .i64 0, .bool false, .int .u8 0, .str [], .int .u8 0, .int .u8 0, .int .i64 0, .int .i64 0, .list 7 [] .full] = ruA zeroR := zeroR_eq.symm
  unfold ruleS
  rw [en]
  simp only
  by_cases k1 : n.kind = 1
  · cases hal : aloneP (leafT n) with
    | false =>
      rw [hal] at lf
      simp [k1] at lf
      rw [if_neg (by simp)]
      refine ⟨(.tup [ruA zeroR, .int .i64 (-1 - (a : Int))], h0), call_of tab40 rfl (callF_wp ?_), zeroR, rfl⟩
      simp [-Int.natCast_add, -getElem?_pos, wB40, kc, en, ha, tokA, tokL, lf, k1, v1, Nat.add_assoc]
      exact zz
    | true =>
      rw [hal] at lf
      simp [k1] at lf
      rw [if_pos ⟨k1, rfl⟩]
      by_cases k23 : kd l (a + 1) = 2 ∨ kd l (a + 1) = 3
      · rw [if_pos k23]
        have hlt1 : a + 1 < l.length := by rcases k23 with e | e <;> exact kd_lt e (by decide)
        obtain ⟨n2, en2⟩ : ∃ n2, l[a + 1]? = some n2 := ⟨_, List.getElem?_eq_getElem hlt1⟩
        have hk2 := kd_of en2
        have cc := rcho_ok (rt := rt) hl ht (a + 2) (by omega)
        cases hch : choP l (a + 2) with
        | bad p =>
          rw [hch] at cc
          obtain ⟨tg, cc⟩ := cc
          have hq : -1 - (p : Int) < 0 := by omega
          refine ⟨(.tup [ruA zeroR, .int .i64 (-1 - (p : Int))], h0), call_of tab40 rfl (callF_wp ?_), zeroR, rfl⟩
          rcases k23 with e | e
          · simp [-Int.natCast_add, -getElem?_pos, wB40, kc, en, ha, tokA, tokL, lf, k1, e, cc, hq, w1, w2, Nat.add_assoc]
            exact zz
          · simp [-Int.natCast_add, -getElem?_pos, wB40, kc, en, ha, tokA, tokL, lf, k1, e, cc, hq, w1, w2, Nat.add_assoc]
            exact zz
        | ok t m =>
          rw [hch] at cc
          have cc : ∀ h, M.call 83 [.list 7 (l.map tokA) rt, .int .i64 ((a + 2 : Nat) : Int)] h = some (.tup [t.enc, .int .i64 m], h) := cc
          have hpr := cho_prog hch
          have hm0 : ¬ (m : Int) < 0 := by omega
          have w3 : IntKind.wrap .i64 ((m : Int) + 1) = ((m + 1 : Nat) : Int) := by rw [wrap64 (by omega) (by omega)]; rfl
          have v3 : IntKind.wrap .i64 (-1 - (m : Int)) = -1 - (m : Int) := by rw [wrap64 (by omega) (by omega)]
          by_cases k13 : kd l m = 13
          · simp only [if_pos k13]
            have hle : (leafT n).encL = [.int .u8 1, .str (smallP n.text), .int .u8 0, .int .u8 0, .int .i64 0, .int .i64 0, .list 7 [] .full] := by rw [Tr.encL_eq]; simp [leafT, k1, Tr.k, Tr.s, Tr.lo, Tr.hi, Tr.mn, Tr.mx, Tr.kids, Tr.full]
            refine ⟨(.tup [ruA ⟨smallP n.text, n.pos, decide (kd l (a + 1) = 3), t⟩, .int .i64 ((m + 1 : Nat) : Int)], h0), call_of tab40 rfl (callF_wp ?_), rfl⟩
            rcases k23 with e | e
            · have e2 : n2.kind = 2 := by rw [← hk2]; exact e
              simp [-Int.natCast_add, -getElem?_pos, wB40, kc, en, en2, ha, hlt1, tokA, tokL, lf, k1, e, e2, hle, cc, hm0, k13, w1, w2, w3, Nat.add_assoc]
              rfl
            · have e2 : n2.kind = 3 := by rw [← hk2]; exact e
              simp [-Int.natCast_add, -getElem?_pos, wB40, kc, en, en2, ha, hlt1, tokA, tokL, lf, k1, e, e2, hle, cc, hm0, k13, w1, w2, w3, Nat.add_assoc]
              rfl
          · simp only [if_neg k13]
            have k13' := eq_false (fun q => k13 (by have := u8_eq (kd l m) 13 (by omega); simp at this; exact this.mp q) : ¬ ((kd l m).toNat : Int) = 13)
            refine ⟨(.tup [ruA zeroR, .int .i64 (-1 - (m : Int))], h0), call_of tab40 rfl (callF_wp ?_), zeroR, rfl⟩
            rcases k23 with e | e
            · simp [-Int.natCast_add, -getElem?_pos, wB40, kc, en, en2, ha, tokA, tokL, lf, k1, e, cc, hm0, k13', v3, w1, w2, Nat.add_assoc]
              exact zz
            · simp [-Int.natCast_add, -getElem?_pos, wB40, kc, en, en2, ha, tokA, tokL, lf, k1, e, cc, hm0, k13', v3, w1, w2, Nat.add_assoc]
              exact zz
      · rw [if_neg k23]
        obtain ⟨k2, k3⟩ := not_or.1 k23
        have k2' := eq_false (fun q => k2 (by have := u8_eq (kd l (a + 1)) 2 (by omega); simp at this; exact this.mp q) : ¬ ((kd l (a + 1)).toNat : Int) = 2)
        have k3' := eq_false (fun q => k3 (by have := u8_eq (kd l (a + 1)) 3 (by omega); simp at this; exact this.mp q) : ¬ ((kd l (a + 1)).toNat : Int) = 3)
        refine ⟨(.tup [ruA zeroR, .int .i64 (-1 - ((a + 1 : Nat) : Int))], h0), call_of tab40 rfl (callF_wp ?_), zeroR, rfl⟩
        simp [-Int.natCast_add, -getElem?_pos, wB40, kc, en, ha, tokA, tokL, lf, k1, k2', k3', w1, v2, Nat.add_assoc]
        exact zz
  · rw [if_neg (fun h => k1 h.1)]
    have k1' := z1.trans (eq_false k1)
    refine ⟨(.tup [ruA zeroR, .int .i64 (-1 - (a : Int))], h0), call_of tab40 rfl (callF_wp ?_), zeroR, rfl⟩
    simp [-Int.natCast_add, -getElem?_pos, wB40, kc, en, ha, tokA, tokL, lf, k1', v1, Nat.add_assoc]
    exact zz
end
/-- An error's place. -/
theorem progB (l : List Tok) : ∀ f, (∀ a n, a ≤ l.length → thingS l f a = some (.bad n) → n ≤ l.length) ∧ (∀ a n, a ≤ l.length → partS l f a = some (.bad n) → n ≤ l.length) ∧
    (∀ a ks n, a ≤ l.length → rowS l f a ks = some (.bad n) → n ≤ l.length) ∧ (∀ a ks n, a ≤ l.length → choicesS l f a ks = some (.bad n) → n ≤ l.length) := by
  intro f
  induction f with
  | zero => exact ⟨fun a n _ h => by simp [thingS] at h, fun a n _ h => by simp [partS] at h, fun a ks n _ h => by simp [rowS] at h, fun a ks n _ h => by simp [choicesS] at h⟩
  | succ f ih =>
    obtain ⟨i1, i2, i3, i4⟩ := ih
    refine ⟨fun a n ha h => ?_, fun a n ha h => ?_, fun a ks n ha h => ?_, fun a ks n ha h => ?_⟩
    · unfold thingS at h
      by_cases hk : kd l a = 5 ∨ kd l a = 7
      · rw [if_pos hk] at h
        have hlt : a < l.length := by rcases hk with e | e <;> exact kd_lt e (by decide)
        cases hc : choicesS l f (a + 1) [] with
        | none => rw [hc] at h; cases h
        | some p =>
          rw [hc] at h
          cases p with
          | bad q => simp only [Option.some.injEq, Pr.bad.injEq] at h; subst h; exact i4 _ _ _ (by omega) hc
          | ok t m =>
            have := (prog l f).2.2.2 _ _ _ _ hc
            simp only at h
            by_cases hs : kd l m = kd l a + 1
            · rw [if_pos hs] at h; cases h
            · rw [if_neg hs] at h; simp only [Option.some.injEq, Pr.bad.injEq] at h; omega
      · rw [if_neg hk] at h
        cases e : l[a]? with
        | none => rw [e] at h; simp only [Option.some.injEq, Pr.bad.injEq] at h; omega
        | some t =>
          rw [e] at h
          simp only at h
          cases hal : aloneP (leafT t) <;> rw [hal] at h <;> simp at h
          omega
    · unfold partS at h
      cases e : l[a]? with
      | none => rw [e] at h; exact i1 _ _ ha h
      | some x =>
        have hlt := (List.getElem?_eq_some_iff.1 e).1
        rw [e] at h
        simp only at h
        by_cases hx : x.kind = 9
        · rw [if_pos hx] at h
          cases hal : aloneP (timesT x.mn x.mx zeroT) with
          | false => rw [hal] at h; simp at h; omega
          | true =>
            rw [hal] at h
            simp only [if_true] at h
            cases hc : thingS l f (a + 1) with
            | none => rw [hc] at h; cases h
            | some p =>
              rw [hc] at h
              cases p with
              | bad q => simp only [Option.some.injEq, Pr.bad.injEq] at h; subst h; exact i1 _ _ (by omega) hc
              | ok t m => cases h
        · rw [if_neg hx] at h
          exact i1 _ _ ha h
    · unfold rowS at h
      cases hb : (ks.isEmpty || begins (kd l a)) with
      | false => rw [hb] at h; simp at h
      | true =>
        rw [hb] at h
        simp only [if_true] at h
        cases hc : partS l f a with
        | none => rw [hc] at h; cases h
        | some p =>
          rw [hc] at h
          cases p with
          | bad q => simp only [Option.some.injEq, Pr.bad.injEq] at h; subst h; exact i2 _ _ ha hc
          | ok t m => exact i3 _ _ _ ((prog l f).2.1 _ _ _ hc).2 h
    · unfold choicesS at h
      cases hc : rowS l f a [] with
      | none => rw [hc] at h; cases h
      | some p =>
        rw [hc] at h
        cases p with
        | bad q => simp only [Option.some.injEq, Pr.bad.injEq] at h; subst h; exact i3 _ _ _ ha hc
        | ok t m =>
          simp only at h
          by_cases hs : kd l m = 4
          · rw [if_pos hs] at h
            exact i4 _ _ _ (by have := kd_lt hs (by decide); omega) h
          · rw [if_neg hs] at h; cases h
theorem ruleS_bad {l : List Tok} {a p : Nat} (ha : a < l.length) (h : ruleS l a = .bad p) : p ≤ l.length := by
  unfold ruleS at h
  cases e : l[a]? with
  | none => rw [e] at h; cases h; omega
  | some n =>
    rw [e] at h
    simp only at h
    by_cases h1 : n.kind = 1 ∧ aloneP (leafT n) = true
    · rw [if_pos h1] at h
      by_cases h2 : kd l (a + 1) = 2 ∨ kd l (a + 1) = 3
      · rw [if_pos h2] at h
        have hlt1 : a + 1 < l.length := by rcases h2 with e | e <;> exact kd_lt e (by decide)
        cases hc : choP l (a + 2) with
        | bad q => rw [hc] at h; cases h; exact (progB l _).2.2.2 (a + 2) [] _ (by omega) (by rw [choP_eq, hc])
        | ok t m =>
          rw [hc] at h
          have := cho_prog hc
          simp only at h
          by_cases h3 : kd l m = 13
          · rw [if_pos h3] at h; cases h
          · rw [if_neg h3] at h; cases h; omega
      · rw [if_neg h2] at h; cases h; omega
    · rw [if_neg h1] at h; cases h; omega
def ruL (x : Ru) : List AV := [.str x.name, .int .i64 x.pos, .bool x.more] ++ x.tree.encL
@[simp] theorem ruL_len (x : Ru) : (ruL x).length = 10 := by simp [ruL]
theorem ruA_cells (x : Ru) : (ruA x).cells = ruL x := rfl
theorem ruL_take (x : Ru) : (ruL x).take 10 = ruL x := List.take_of_length_le (by simp)
theorem ruL_drop (x : Ru) : (ruL x).drop 10 = [] := List.drop_eq_nil_of_le (by simp)
theorem ruL_agg (x : Ru) : AV.agg (ruL x) = ruA x := rfl
theorem ruL_tree (x : Ru) : (ruL x).drop 3 = x.tree.encL := rfl
theorem ruL_pos (x : Ru) : (ruL x)[1]? = some (.int .i64 x.pos) := rfl
def InvRp (l : List Tok) (rt : Rt) (res : List Ru × Int × Int) (h0 : Heap) (k : Nat) (σ : Slots) (h : Heap) : Prop := ∃ a f out ro, a ≤ l.length ∧ k = l.length - a ∧ l.length - a < f ∧ out.length ≤ a ∧ rulesS l f a out = res ∧
  σ 0 = .list 7 (l.map tokA) rt ∧ σ 5 = .list 10 (out.map ruA) ro ∧ σ 6 = .int .i64 (a : Nat) ∧ Ow h0.length h 10 27 ro out.length ∧ h.take h0.length = h0
theorem rparse_ok (l : List Tok) (rt : Rt) (hl : l.length ≤ 1000000000) (ht : ∀ t ∈ l, t.text.length ≤ 1000000000) (h0 : Heap) : ∃ x, M.call 12 [.list 7 (l.map tokA) rt] h0 = some x ∧ parR (parseP l) h0 x := by
  refine call_post tab12 rfl ?_
  generalize hres : parseP l = res
  generalize hQ : (fun e σ h => isEnd e ∧ ∃ vs, resVals σ h [ARes.tmp 2, ARes.tmp 3, ARes.tmp 4] = some vs ∧ ∃ r, finish h0 h (oneOf vs) = some r ∧ parR res h0 r) = Q
  have fin : ∀ (σ : Slots) (h : Heap) (xs : List Ru) (r : Rt) (a b : Int), σ 2 = .list 10 (xs.map ruA) r → (r = .full ∨ ∃ t, r = .tok t ∧ h0.length ≤ t) → σ 3 = .int .i64 a → σ 4 = .int .i64 b → h.take h0.length = h0 → res = (xs, a, b) → Q .ret σ h := by
    intro σ h xs r a b s6 hr s7 s8 ht e
    subst hQ
    have k := rus_low h0.length xs
    subst e
    rcases hr with rfl | ⟨t, rfl, hr⟩
    · simp [s6, s7, s8, finish_of_take ht, parR, k]
      exact ⟨_, _, ⟨rfl, rfl⟩, .inr ⟨rfl, rfl⟩⟩
    · have hr' : ¬ t < h0.length := by omega
      simp [s6, s7, s8, finish_of_take ht, parR, k, hr']
      exact ⟨_, _, ⟨rfl, rfl⟩, .inl ⟨rfl, rfl⟩⟩
  unfold parseP at hres
  simp [wB12]
  refine Wp.loop (InvRp l rt res h0) ?_ (n := l.length) ⟨0, l.length + 1, [], .full, by omega, by omega, by omega, by simp, hres, by simp, by simp, by simp, .full, by simp⟩
  rintro k σ h ⟨a, f, out, ro, ha, rfl, hf, hout, hd, s0, s5, s6, ow, hh⟩
  obtain ⟨f, rfl⟩ : ∃ g, f = g + 1 := ⟨f - 1, by omega⟩
  unfold rulesS at hd
  have hlen : h0.length ≤ h.length := by
    have := congrArg List.length hh
    simp at this
    omega
  have hh0 : ∀ q : Heap, (h ++ q).take h0.length = h0 := fun q => by rw [List.take_append_of_le_length hlen, hh]
  by_cases hlt : a < l.length
  · rw [if_pos hlt] at hd
    obtain ⟨x, rl, hx⟩ := rrule_ok (rt := rt) hl ht a hlt (h ++ [AE.dead])
    have hlt' : (a : Int) < l.length := by omega
    have wl : IntKind.wrap .i64 ((l.length : Int) - 1) = ((l.length - 1 : Nat) : Int) := by rw [wrap64 (by omega) (by omega)]; omega
    cases hru : ruleS l a with
    | bad p =>
      rw [hru] at hd hx
      simp only at hd
      obtain ⟨r0, rfl⟩ := hx
      have hq : -1 - (p : Int) < 0 := by omega
      have hpl : p ≤ l.length := ruleS_bad hlt hru
      have v1 : IntKind.wrap .i64 (-1 - (-1 - (p : Int))) = p := by rw [wrap64 (by omega) (by omega)]; omega
      by_cases hp : l.length ≤ p
      · have hp' : (l.length : Int) ≤ p := by omega
        obtain ⟨y, ey⟩ : ∃ y, l[l.length - 1]? = some y := ⟨_, List.getElem?_eq_getElem (by omega)⟩
        have hm : l.length - 1 < l.length := by omega
        have ep : posAt l p = y.pos := by unfold posAt; rw [Nat.min_eq_right (by omega), ey]
        simp [-getElem?_pos, -Int.natCast_add, wL12_0, s0, s5, s6, hlt, hlt', rl, hq, v1, hp, hp', wl, ey, hm, tokA, tokL, ruA_cells, Nat.add_assoc]
        refine fin _ _ [] .full y.pos 20 ?_ (.inl rfl) ?_ ?_ (hh0 _) (by rw [← hd, ep]) <;> simp
      · have hp' : ¬ (l.length : Int) ≤ p := by omega
        obtain ⟨y, ey⟩ : ∃ y, l[p]? = some y := ⟨_, List.getElem?_eq_getElem (by omega)⟩
        have hm : p < l.length := by omega
        have ep : posAt l p = y.pos := by unfold posAt; rw [Nat.min_eq_left (by omega), ey]
        simp [-getElem?_pos, -Int.natCast_add, wL12_0, s0, s5, s6, hlt, hlt', rl, hq, v1, hp, hp', wl, ey, hm, tokA, tokL, ruA_cells, Nat.add_assoc]
        refine fin _ _ [] .full y.pos 20 ?_ (.inl rfl) ?_ ?_ (hh0 _) (by rw [← hd, ep]) <;> simp
    | ok x m =>
      rw [hru] at hd hx
      simp only at hd
      obtain rfl := hx
      obtain ⟨hm0, hml, hxo⟩ : a < m ∧ m ≤ l.length ∧ TOk x.tree := by
        unfold ruleS at hru
        obtain ⟨n, en⟩ : ∃ n, l[a]? = some n := ⟨_, List.getElem?_eq_getElem hlt⟩
        rw [en] at hru
        simp only at hru
        by_cases h1 : n.kind = 1 ∧ aloneP (leafT n) = true
        · rw [if_pos h1] at hru
          by_cases h2 : kd l (a + 1) = 2 ∨ kd l (a + 1) = 3
          · rw [if_pos h2] at hru
            cases hc : choP l (a + 2) with
            | bad q => rw [hc] at hru; cases hru
            | ok t m1 =>
              rw [hc] at hru
              have h3 := cho_prog hc
              simp only at hru
              by_cases h4 : kd l m1 = 13
              · rw [if_pos h4] at hru
                have := kd_lt h4 (by decide)
                cases hru
                exact ⟨by omega, by omega, cho_TOk hl ht hc⟩
              · rw [if_neg h4] at hru; cases hru
          · rw [if_neg h2] at hru; cases hru
        · rw [if_neg h1] at hru; cases hru
      have hn0 : ¬ (m : Int) < 0 := by omega
      have rg := rright_ok x.tree hxo
      cases hfit : fitsP 100 x.tree with
      | false =>
        rw [hfit] at hd rg
        simp [-getElem?_pos, -Int.natCast_add, wL12_0, s0, s5, s6, hlt, hlt', rl, hn0, rg, ruA_cells, ruL_tree, ruL_pos, Nat.add_assoc]
        refine fin _ _ [] .full x.pos 21 ?_ (.inl rfl) ?_ ?_ (hh0 _) hd.symm <;> simp
      | true =>
        rw [hfit] at hd rg
        simp only [if_true] at hd
        simp [-getElem?_pos, -Int.natCast_add, wL12_0, s0, s5, s6, hlt, hlt', rl, hn0, rg, ruA_cells, ruL_tree, ruL_pos, ruL_take, ruL_agg, ruL_drop, Nat.add_assoc]
        obtain ⟨r2, g2, p1, p2, p3⟩ := app_list (n0 := h0.length) (key := h.length + 1) (sz := 10) (bytes := 104) (e := 27) (h := h ++ [AE.cells (ruL x), AE.dead]) (xs := out.map ruA) (ys := [ruA x]) (r := ro) (r2 := .full)
          (by simpa using ow.app _) (by omega) (by simp) (by simp; omega) (by simp; omega)
        rw [p1]
        simp
        refine ⟨l.length - m, by omega, m, f, out ++ [x], r2, hml, rfl, by omega, by simp; omega, hd, by simp [s0], by simp, by simp, by simpa using p2, by rw [p3.take]; exact hh0 _⟩
  · rw [if_neg hlt] at hd
    simp [-getElem?_pos, wL12_0, wK12_0, s0, s5, s6, hlt]
    refine fin _ _ out ro 0 0 (by simp [s5]) ?_ (by simp) (by simp) hh hd.symm
    rcases ow with q | ⟨t, q1, q2, q3⟩
    · exact .inl q
    · exact .inr ⟨t, q1, by omega⟩
end Go.Proofs.YtmmapbhhkmchcaaGreatDoor
