/-
  The reference: thing, part.
-/
import Derived.Test.YtmmapbhhkmchcaaGreatDoorB3
set_option linter.unusedVariables false
set_option linter.unusedSimpArgs false
namespace Go.Proofs.YtmmapbhhkmchcaaGreatDoor
open Go Go.Am

/-- What a part of the reference does. -/
def RC (f : FuncId) (l : List Tok) (rt : Rt) (a : Nat) : Pr → Prop
  | .ok t n => ∀ h : Heap, M.call f [.list 7 (l.map tokA) rt, .int .i64 a] h = some (.tup [t.enc, .int .i64 n], h)
  | .bad q => ∃ tg : Heap → Tr, ∀ h : Heap, M.call f [.list 7 (l.map tokA) rt, .int .i64 a] h = some (.tup [(tg h).enc, .int .i64 (-1 - (q : Int))], h)
theorem u6 : IntKind.wrap .u8 6 = 6 := by decide
theorem u8 : IntKind.wrap .u8 8 = 8 := by decide
@[simp] theorem clean2_enc (q : Heap) (n : Nat) (t : Tr) : clean2 q n t.enc = some t.enc := clean_enc q n t
section
variable {l : List Tok} {rt : Rt} (hl : l.length ≤ 1000000000)
theorem RC_bad {f : FuncId} {a q : Nat} (h : ∀ h : Heap, ∃ t : Tr, M.call f [.list 7 (l.map tokA) rt, .int .i64 a] h = some (.tup [t.enc, .int .i64 (-1 - (q : Int))], h)) : RC f l rt a (.bad q) := Classical.axiomOfChoice h
include hl in
theorem rthing_step (ht : ∀ t ∈ l, t.text.length ≤ 1000000000) (f : Nat) (ih : ∀ a p, a ≤ l.length → choicesS l f a [] = some p → RC 83 l rt a p) (a : Nat) (ha : a ≤ l.length) (p : Pr) (hp : thingS l (f + 1) a = some p) : RC 139 l rt a p := by
  unfold thingS at hp
  have kc := fun a h => rkind_ok l rt hl a h
  have w1 : IntKind.wrap .i64 ((a : Int) + 1) = ((a + 1 : Nat) : Int) := by rw [wrap64 (by omega) (by omega)]; rfl
  have w2 : IntKind.wrap .i64 (-1 - (a : Int)) = -1 - (a : Int) := by rw [wrap64 (by omega) (by omega)]
  by_cases hk : kd l a = 5 ∨ kd l a = 7
  · rw [if_pos hk] at hp
    have hlt : a < l.length := by rcases hk with e | e <;> exact kd_lt e (by decide)
    cases hch : choicesS l f (a + 1) [] with
    | none => rw [hch] at hp; cases hp
    | some p1 =>
      rw [hch] at hp
      have ch := ih (a + 1) p1 (by omega) hch
      cases p1 with
      | bad q =>
        simp only [Option.some.injEq] at hp
        subst hp
        obtain ⟨tg, ch⟩ := ch
        have hq : -1 - (q : Int) < 0 := by omega
        refine RC_bad fun h => ?_
        rcases hk with e | e
        all_goals
          refine ⟨?_, call_of tab139 rfl (callF_wp ?_)⟩
          rotate_left
          · simp [-Int.natCast_add, wB139, kc, e, w1, u6, u8, ch, hq, Nat.add_assoc]
            rfl
      | ok t n =>
        have hpr := (prog l f).2.2.2 _ _ _ _ hch
        have hn0 : ¬ (n : Int) < 0 := by omega
        have w3 : IntKind.wrap .i64 ((n : Int) + 1) = ((n + 1 : Nat) : Int) := by rw [wrap64 (by omega) (by omega)]; rfl
        have w4 : IntKind.wrap .i64 (-1 - (n : Int)) = -1 - (n : Int) := by rw [wrap64 (by omega) (by omega)]
        have ch : ∀ h, M.call 83 [.list 7 (l.map tokA) rt, .int .i64 ((a + 1 : Nat) : Int)] h = some (.tup [t.enc, .int .i64 n], h) := ch
        have e6 : ((kd l n).toNat : Int) = 6 ↔ kd l n = 6 := by have := u8_eq (kd l n) 6 (by omega); simp at this; exact this
        have e8 : ((kd l n).toNat : Int) = 8 ↔ kd l n = 8 := by have := u8_eq (kd l n) 8 (by omega); simp at this; exact this
        simp only at hp
        by_cases hs : kd l n = kd l a + 1
        · rw [if_pos hs] at hp
          simp only [Option.some.injEq] at hp
          subst hp
          intro h
          rcases hk with e | e
          · rw [e] at hs
            have e6' := eq_true (e6.2 hs)
            refine call_of tab139 rfl (callF_wp ?_)
            simp [-Int.natCast_add, wB139, kc, e, w1, u6, u8, w3, ch, hn0, e6', Nat.add_assoc]
          · rw [e] at hs
            have e8' := eq_true (e8.2 hs)
            refine call_of tab139 rfl (callF_wp ?_)
            simp [-Int.natCast_add, wB139, kc, e, w1, u6, u8, w3, ch, hn0, e8', mayT, Tr.enc_mk, cleans_cons, AV.lows, Nat.add_assoc]
        · rw [if_neg hs] at hp
          simp only [Option.some.injEq] at hp
          subst hp
          refine RC_bad fun h => ?_
          rcases hk with e | e
          · rw [e] at hs
            have e6' := eq_false (fun q => hs (e6.1 q))
            refine ⟨t, call_of tab139 rfl (callF_wp ?_)⟩
            simp [-Int.natCast_add, wB139, kc, e, w1, u6, u8, w4, ch, hn0, e6', Nat.add_assoc]
          · rw [e] at hs
            have e8' := eq_false (fun q => hs (e8.1 q))
            refine ⟨t, call_of tab139 rfl (callF_wp ?_)⟩
            simp [-Int.natCast_add, wB139, kc, e, w1, u6, u8, w4, ch, hn0, e8', Nat.add_assoc]
  · rw [if_neg hk] at hp
    obtain ⟨hk5, hk7⟩ := not_or.1 hk
    have e0 : (kd l a).toNat = 0 ↔ kd l a = 0 := by have := u8_eq (kd l a) 0 (by omega); simp at this; exact this
    have e5 := eq_false (fun q => hk5 (by have := u8_eq (kd l a) 5 (by omega); simp at this; exact this.mp q) : ¬ ((kd l a).toNat : Int) = 5)
    have e7 := eq_false (fun q => hk7 (by have := u8_eq (kd l a) 7 (by omega); simp at this; exact this.mp q) : ¬ ((kd l a).toNat : Int) = 7)
    cases et : l[a]? with
    | none =>
      have hk0 : kd l a = 0 := by simp [kd, et]
      rw [et] at hp
      simp only [Option.some.injEq] at hp
      subst hp
      refine RC_bad fun h => ⟨zeroT, call_of tab139 rfl (callF_wp ?_)⟩
      simp [-Int.natCast_add, wB139, kc, hk0, w2, zero_enc, cleans_cons, Nat.add_assoc]
    | some t =>
      have hlt := (List.getElem?_eq_some_iff.1 et).1
      have lf := rleaf_ok t (ht t (List.mem_of_getElem? et))
      unfold tokA tokL at lf
      rw [et] at hp
      simp only at hp
      by_cases hk0 : kd l a = 0
      · have htk : t.kind = 0 := by rw [← kd_of et]; exact hk0
        have hal : aloneP (leafT t) = false := by simp [leafT, htk, aloneP, Tr.k]
        rw [hal] at hp
        simp at hp
        subst hp
        refine RC_bad fun h => ⟨zeroT, call_of tab139 rfl (callF_wp ?_)⟩
        simp [-Int.natCast_add, wB139, kc, hk0, w2, zero_enc, cleans_cons, Nat.add_assoc]
      · have e0' := eq_false (fun q => hk0 (e0.1 q))
        cases hal : aloneP (leafT t) with
        | false =>
          rw [hal] at hp lf
          simp at hp
          subst hp
          refine RC_bad fun h => ⟨leafT t, call_of tab139 rfl (callF_wp ?_)⟩
          simp [-Int.natCast_add, -getElem?_pos, wB139, kc, e5, e7, e0', w2, et, hlt, lf, tokA, tokL, Nat.add_assoc]
        | true =>
          rw [hal] at hp lf
          simp at hp
          subst hp
          intro h
          refine call_of tab139 rfl (callF_wp ?_)
          simp [-Int.natCast_add, -getElem?_pos, wB139, kc, e5, e7, e0', w1, et, hlt, lf, tokA, tokL, Nat.add_assoc]
include hl in
theorem rpart_step (f : Nat) (ih : ∀ a p, a ≤ l.length → thingS l f a = some p → RC 139 l rt a p) (a : Nat) (ha : a ≤ l.length) (p : Pr) (hp : partS l (f + 1) a = some p) : RC 132 l rt a p := by
  unfold partS at hp
  have kc := fun a h => rkind_ok l rt hl a h
  have w1 : IntKind.wrap .i64 ((a : Int) + 1) = ((a + 1 : Nat) : Int) := by rw [wrap64 (by omega) (by omega)]; rfl
  have w2 : IntKind.wrap .i64 (-1 - (a : Int)) = -1 - (a : Int) := by rw [wrap64 (by omega) (by omega)]
  have k9 := u8_eq (kd l a) 9 (by omega)
  simp at k9
  have other : kd l a ≠ 9 → thingS l f a = some p → RC 132 l rt a p := by
    intro hn hp
    have th := ih _ _ ha hp
    have k9' := eq_false (fun q => hn (k9.mp q))
    cases p with
    | ok t n =>
      have th : ∀ h, M.call 139 [.list 7 (l.map tokA) rt, .int .i64 (a : Int)] h = some (.tup [t.enc, .int .i64 n], h) := th
      intro h
      refine call_of tab132 rfl (callF_wp ?_)
      simp [-Int.natCast_add, wB132, kc, k9', th, Nat.add_assoc]
    | bad n =>
      obtain ⟨tg, th⟩ := th
      refine RC_bad fun h => ⟨?_, call_of tab132 rfl (callF_wp ?_)⟩
      rotate_left
      · simp [-Int.natCast_add, wB132, kc, k9', th, Nat.add_assoc]
        rfl
  cases et : l[a]? with
  | none =>
    rw [et] at hp
    exact other (by simp [kd, et]) hp
  | some x =>
    have hlt := (List.getElem?_eq_some_iff.1 et).1
    have hkx := kd_of et
    rw [et] at hp
    simp only at hp
    by_cases hx : x.kind = 9
    · rw [if_pos hx, times7_eq] at hp
      have h9 : kd l a = 9 := hkx.trans hx
      have al := rone7_ok x.mn x.mx
      cases h7 : times7 x.mn x.mx with
      | false =>
        rw [h7] at hp al
        simp at hp
        subst hp
        refine RC_bad fun h => ⟨timesT x.mn x.mx zeroT, call_of tab132 rfl (callF_wp ?_)⟩
        simp [-Int.natCast_add, -getElem?_pos, wB132, kc, h9, al, et, hlt, tokA, tokL, w2, Nat.add_assoc]
        have hz : zeroT.encL = [.int .u8 0, .str [], .int .u8 0, .int .u8 0, .int .i64 0, .int .i64 0, .list 7 [] .full] := by rw [Tr.encL_eq]; rfl
        rw [clean_sl1 (t := zeroT) (n := h.length) (b := h.length + 1) (by omega) (by simp [hz])]
        simp [times_enc]
      | true =>
        rw [h7] at hp al
        simp only [if_true] at hp
        cases hth : thingS l f (a + 1) with
        | none => rw [hth] at hp; cases hp
        | some p1 =>
          rw [hth] at hp
          have th := ih (a + 1) _ (by omega) hth
          cases p1 with
          | ok t n =>
            simp only [Option.some.injEq] at hp
            subst hp
            have th : ∀ h, M.call 139 [.list 7 (l.map tokA) rt, .int .i64 ((a + 1 : Nat) : Int)] h = some (.tup [t.enc, .int .i64 n], h) := th
            intro h
            refine call_of tab132 rfl (callF_wp ?_)
            simp [-Int.natCast_add, -getElem?_pos, wB132, kc, h9, al, et, hlt, tokA, tokL, w1, th, Nat.add_assoc]
            rw [clean_sl1 (t := t) (n := h.length) (b := h.length + 1) (by omega) (by simp)]
            simp [times_enc]
          | bad q =>
            simp only [Option.some.injEq] at hp
            subst hp
            obtain ⟨tg, th⟩ := th
            refine RC_bad fun h => ⟨timesT x.mn x.mx ?_, call_of tab132 rfl (callF_wp ?_)⟩
            rotate_left
            · simp [-Int.natCast_add, -getElem?_pos, wB132, kc, h9, al, et, hlt, tokA, tokL, w1, th, Nat.add_assoc]
              rw [clean_sl1 (t := tg _) (n := h.length) (b := h.length + 1) (by omega) (by simp; rfl)]
              simp [times_enc]
              rfl
    · rw [if_neg hx] at hp
      exact other (by rw [hkx]; exact hx) hp
end
end Go.Proofs.YtmmapbhhkmchcaaGreatDoor
