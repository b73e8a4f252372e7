/-
  AbnfLeaves, the plain law: leaves are the tokens' names, chars, bytes and ranges.
-/
import Derived.Test.YtmmapbhhkmchcaaGreatDoorE4
set_option linter.unusedVariables false
set_option linter.unusedSimpArgs false
namespace Go.Proofs.YtmmapbhhkmchcaaGreatDoor
open Go Go.Am

def leafK (k : UInt8) : Bool := k == 1 || k == 10 || k == 11 || k == 12
mutual
/-- A tree's leaves, as tokens. -/
def leavesP : Tr → List Tok
  | .mk k s lo hi mn mx _ ks => if k = 1 then [{ kind := 1, text := s }] else if k = 2 then [{ kind := 10, text := s }] else if k = 3 then [{ kind := 11, text := s }] else if k = 4 then [{ kind := 12, lo := lo, hi := hi }] else leavesL ks
def leavesL : List Tr → List Tok
  | [] => []
  | t :: ts => leavesP t ++ leavesL ts
end
theorem leavesP_eq (t : Tr) : leavesP t = if t.k = 1 then [{ kind := 1, text := t.s }] else if t.k = 2 then [{ kind := 10, text := t.s }] else if t.k = 3 then [{ kind := 11, text := t.s }] else if t.k = 4 then [{ kind := 12, lo := t.lo, hi := t.hi }] else leavesL t.kids := by
  cases t
  simp only [leavesP, Tr.k, Tr.s, Tr.lo, Tr.hi, Tr.kids]
  rfl
theorem leavesL_app : ∀ (a b : List Tr), leavesL (a ++ b) = leavesL a ++ leavesL b
  | [], b => by simp [leavesL]
  | t :: a, b => by simp only [List.cons_append, leavesL, leavesL_app a b, List.append_assoc]
def wantT (t : Tok) : Tok := { t with pos := 0, text := if t.kind = 1 then Lib.toLowerA t.text else t.text }
def wantP (l : List Tok) : List Tok := (l.filter fun t => leafK t.kind).map wantT
theorem wantP_app (a b : List Tok) : wantP (a ++ b) = wantP a ++ wantP b := by simp [wantP]
theorem wantP_no {t : Tok} (h : leafK t.kind = false) : wantP [t] = [] := by simp [wantP, h]
theorem wantP_yes {t : Tok} (h : leafK t.kind = true) : wantP [t] = [wantT t] := by simp [wantP, h]
/-- What a token of each kind holds besides. -/
def shapeT (t : Tok) : Prop := (t.kind = 1 → t.mn = 0 ∧ t.mx = 0 ∧ t.lo = 0 ∧ t.hi = 0 ∧ t.text.all namC = true) ∧ (t.kind = 10 ∨ t.kind = 11 → t.mn = 0 ∧ t.mx = 0 ∧ t.lo = 0 ∧ t.hi = 0) ∧ (t.kind = 12 → t.mn = 0 ∧ t.mx = 0 ∧ t.text = [])
theorem sm_low {c : UInt8} (h : c.toNat < 128) : smC c = Lib.lowerB c := by
  have := allU8 (p := fun c => !decide (c.toNat < 128) || smC c == Lib.lowerB c) (by decide +kernel) c
  simpa [h] using this
theorem nam_lt {c : UInt8} (h : namC c = true) : c.toNat < 128 := by
  have := allU8 (p := fun c => !namC c || decide (c.toNat < 128)) (by decide +kernel) c
  simpa [h] using this
theorem small_low {s : List UInt8} (h : s.all namC = true) : smallP s = Lib.toLowerA s := by
  unfold smallP Lib.toLowerA
  exact List.map_congr_left fun c hc => sm_low (nam_lt (List.all_eq_true.1 h c hc))
theorem leaf_want {t : Tok} (hs : shapeT t) (hk : leafK t.kind = true) : leavesP (leafT t) = [wantT t] := by
  obtain ⟨s1, s2, s3⟩ := hs
  obtain ⟨k, p, tx, mn, mx, lo, hi⟩ := t
  simp only at s1 s2 s3 hk
  have : k = 1 ∨ k = 10 ∨ k = 11 ∨ k = 12 := by simpa [leafK, or_assoc] using hk
  rcases this with rfl | rfl | rfl | rfl
  · obtain ⟨rfl, rfl, rfl, rfl, h⟩ := s1 rfl
    simp [leafT, leavesP, wantT, small_low h]
  · obtain ⟨rfl, rfl, rfl, rfl⟩ := s2 (.inl rfl)
    simp [leafT, leavesP, wantT]
  · obtain ⟨rfl, rfl, rfl, rfl⟩ := s2 (.inr rfl)
    simp [leafT, leavesP, wantT]
  · obtain ⟨rfl, rfl, rfl⟩ := s3 rfl
    simp [leafT, leavesP, wantT]
theorem leavesL_join (k : UInt8) (hk : k = 5 ∨ k = 6) (ks : List Tr) : leavesP (joinT k ks) = leavesL ks := by
  match ks with
  | [t] => simp [joinT, leavesL]
  | [] => rcases hk with rfl | rfl <;> simp [joinT, rowT, leavesP]
  | x :: y :: ks => rcases hk with rfl | rfl <;> simp [joinT, rowT, leavesP]
def segP (l : List Tok) (a n : Nat) : List Tok := (l.take n).drop a
theorem seg_app (l : List Tok) {a m n : Nat} (h1 : a ≤ m) (h2 : m ≤ n) : segP l a m ++ segP l m n = segP l a n := by
  unfold segP
  have : l.take m = (l.take n).take m := by rw [List.take_take, Nat.min_eq_left h2]
  rw [this]
  have h3 : ((l.take n).take m).drop a = ((l.take n).drop a).take (m - a) := by rw [List.drop_take]
  have h4 : (l.take n).drop m = ((l.take n).drop a).drop (m - a) := by rw [List.drop_drop]; congr 1; omega
  rw [h3, h4, List.take_append_drop]
theorem seg_one {l : List Tok} {a : Nat} {t : Tok} (h : l[a]? = some t) : segP l a (a + 1) = [t] := by
  unfold segP
  obtain ⟨h1, h2⟩ := List.getElem?_eq_some_iff.1 h
  rw [List.take_add_one, h, List.drop_append, List.drop_of_length_le (by simp; omega)]
  have : a - (l.take a).length = 0 := by simp; omega
  rw [this]; rfl
theorem want_step {l : List Tok} {a n : Nat} {t : Tok} (h : l[a]? = some t) (hn : a + 1 ≤ n) (hk : leafK t.kind = false) : wantP (segP l a n) = wantP (segP l (a + 1) n) := by
  rw [← seg_app l (Nat.le_succ a) hn, wantP_app, seg_one h, wantP_no hk]
  rfl
theorem kd_get {l : List Tok} {a : Nat} {k : UInt8} (h : kd l a = k) (h0 : k ≠ 0) : ∃ t, l[a]? = some t ∧ t.kind = k := by
  cases e : l[a]? with
  | none => simp [kd, e] at h; exact absurd h.symm h0
  | some t => exact ⟨t, rfl, by rw [← kd_of e]; exact h⟩
theorem want_last {l : List Tok} {a n : Nat} {t : Tok} (h : l[n]? = some t) (hn : a ≤ n) (hk : leafK t.kind = false) : wantP (segP l a (n + 1)) = wantP (segP l a n) := by
  rw [← seg_app l hn (Nat.le_succ n), wantP_app, seg_one h, wantP_no hk, List.append_nil]
theorem leaves_parts {l : List Tok} (hs : ∀ t ∈ l, shapeT t) : ∀ f, (∀ a t n, thingS l f a = some (.ok t n) → leavesP t = wantP (segP l a n)) ∧ (∀ a t n, partS l f a = some (.ok t n) → leavesP t = wantP (segP l a n)) ∧
    (∀ a ks t n, rowS l f a ks = some (.ok t n) → leavesP t = leavesL ks ++ wantP (segP l a n)) ∧ (∀ a ks t n, choicesS l f a ks = some (.ok t n) → leavesP t = leavesL ks ++ wantP (segP l a n)) := by
  intro f
  induction f with
  | zero => exact ⟨fun a t n h => by simp [thingS] at h, fun a t n h => by simp [partS] at h, fun a ks t n h => by simp [rowS] at h, fun a ks t n h => by simp [choicesS] at h⟩
  | succ f ih =>
    obtain ⟨i1, i2, i3, i4⟩ := ih
    refine ⟨fun a t n h => ?_, fun a t n h => ?_, fun a ks t n h => ?_, fun a ks t n h => ?_⟩
    · unfold thingS at h
      by_cases hk : kd l a = 5 ∨ kd l a = 7
      · rw [if_pos hk] at h
        cases hc : choicesS l f (a + 1) [] with
        | none => rw [hc] at h; cases h
        | some p =>
          rw [hc] at h
          cases p with
          | bad q => cases h
          | ok t1 m =>
            have hpr := (prog l f).2.2.2 _ _ _ _ hc
            have hlv := i4 _ _ _ _ hc
            simp only [leavesL, List.nil_append] at hlv
            simp only at h
            by_cases hq : kd l m = kd l a + 1
            · rw [if_pos hq] at h
              simp only [Option.some.injEq, Pr.ok.injEq] at h
              obtain ⟨h, rfl⟩ := h
              obtain ⟨ta, ea, ka⟩ := kd_get (rfl : kd l a = kd l a) (by rcases hk with e | e <;> rw [e] <;> decide)
              obtain ⟨tm, em, km⟩ := kd_get hq (by rcases hk with e | e <;> rw [e] <;> decide)
              rw [want_last em (by omega) (by rw [km]; rcases hk with e | e <;> rw [e] <;> decide), want_step ea (by omega) (by rw [ka]; rcases hk with e | e <;> rw [e] <;> decide), ← hlv, ← h]
              split
              · simp [mayT, leavesP, leavesL]
              · rfl
            · rw [if_neg hq] at h; cases h
      · rw [if_neg hk] at h
        cases e : l[a]? with
        | none => rw [e] at h; cases h
        | some x =>
          rw [e] at h
          simp only at h
          cases hal : aloneP (leafT x) with
          | false => rw [hal] at h; simp at h
          | true =>
            rw [hal] at h
            simp only [if_true, Option.some.injEq, Pr.ok.injEq] at h
            obtain ⟨rfl, rfl⟩ := h
            have hkx : leafK x.kind = true := by
              unfold leafT at hal
              unfold leafK
              by_cases k1 : x.kind = 1
              · simp [k1]
              by_cases k10 : x.kind = 10
              · simp [k10]
              by_cases k11 : x.kind = 11
              · simp [k11]
              by_cases k12 : x.kind = 12
              · simp [k12]
              simp [k1, k10, k11, k12, aloneP, Tr.k] at hal
            rw [seg_one e, wantP_yes hkx]
            exact leaf_want (hs x (List.mem_of_getElem? e)) hkx
    · unfold partS at h
      cases e : l[a]? with
      | none => rw [e] at h; exact i1 _ _ _ h
      | some x =>
        rw [e] at h
        simp only at h
        by_cases hx : x.kind = 9
        · rw [if_pos hx] at h
          cases hal : aloneP (timesT x.mn x.mx zeroT) with
          | false => rw [hal] at h; simp at h
          | true =>
            rw [hal] at h
            simp only [if_true] at h
            cases hc : thingS l f (a + 1) with
            | none => rw [hc] at h; cases h
            | some p =>
              rw [hc] at h
              cases p with
              | bad q => cases h
              | ok t1 m =>
                have hpr := (prog l f).1 _ _ _ hc
                have hlv := i1 _ _ _ hc
                simp only [Option.some.injEq, Pr.ok.injEq] at h
                obtain ⟨rfl, rfl⟩ := h
                rw [want_step e (by omega) (by rw [hx]; decide), ← hlv]
                simp [timesT, leavesP, leavesL]
        · rw [if_neg hx] at h
          exact i1 _ _ _ h
    · unfold rowS at h
      cases hb : (ks.isEmpty || begins (kd l a)) with
      | false =>
        rw [hb] at h
        simp only [Bool.false_eq_true, if_false, Option.some.injEq, Pr.ok.injEq] at h
        obtain ⟨rfl, rfl⟩ := h
        rw [leavesL_join 5 (.inl rfl)]
        have : segP l a a = [] := by unfold segP; rw [List.drop_of_length_le (by simp; omega)]
        rw [this]
        simp [wantP]
      | true =>
        rw [hb] at h
        simp only [if_true] at h
        cases hc : partS l f a with
        | none => rw [hc] at h; cases h
        | some p =>
          rw [hc] at h
          cases p with
          | bad q => cases h
          | ok t1 m =>
            have hpr := (prog l f).2.1 _ _ _ hc
            have hpr2 := (prog l f).2.2.1 _ _ _ _ h
            rw [i3 _ _ _ _ h, leavesL_app, i2 _ _ _ hc |> fun e => (by simp only [leavesL, List.append_nil]; exact e : leavesL [t1] = wantP (segP l a m)), List.append_assoc, ← wantP_app, seg_app l (by omega) hpr2.2.1]
    · unfold choicesS at h
      cases hc : rowS l f a [] with
      | none => rw [hc] at h; cases h
      | some p =>
        rw [hc] at h
        cases p with
        | bad q => cases h
        | ok t1 m =>
          have hpr := (prog l f).2.2.1 _ _ _ _ hc
          have hlv := i3 _ _ _ _ hc
          simp only [leavesL, List.nil_append] at hlv
          have hone : leavesL (ks ++ [t1]) = leavesL ks ++ wantP (segP l a m) := by rw [leavesL_app, ← hlv]; simp [leavesL]
          simp only at h
          by_cases hq : kd l m = 4
          · rw [if_pos hq] at h
            obtain ⟨tm, em, km⟩ := kd_get hq (by decide)
            have hpr2 := (prog l f).2.2.2 _ _ _ _ h
            rw [i4 _ _ _ _ h, hone, List.append_assoc, ← want_step em (by omega) (by rw [km]; decide), ← wantP_app, seg_app l hpr.2.1 (by omega)]
          · rw [if_neg hq] at h
            simp only [Option.some.injEq, Pr.ok.injEq] at h
            obtain ⟨rfl, rfl⟩ := h
            rw [leavesL_join 6 (.inr rfl), hone]
def gotP (xs : List Ru) : List Tok := xs.flatMap fun x => { kind := 1, text := x.name } :: leavesP x.tree
/-- What the rules' leaves are, and each rule's name's token. -/
theorem rules_leaves {l : List Tok} (hs : ∀ t ∈ l, shapeT t) : ∀ (f a : Nat) (out rs : List Ru) (p e : Int), a ≤ l.length → l.length - a < f → rulesS l f a out = (rs, p, e) → e = 0 → gotP rs = gotP out ++ wantP (l.drop a)
  | 0, a, out, rs, p, e, _, hf, _, _ => by omega
  | f + 1, a, out, rs, p, e, ha, hf, h, he => by
    unfold rulesS at h
    by_cases hlt : a < l.length
    · rw [if_pos hlt] at h
      cases hr : ruleS l a with
      | bad q => rw [hr] at h; simp only [Prod.mk.injEq] at h; omega
      | ok x m =>
        rw [hr] at h
        obtain ⟨h1, h2, n, t, en, hk, hal, h23, hc, h13, rfl⟩ := ruleS_ok hr
        simp only at h
        cases hfit : fitsP 100 t with
        | false => rw [hfit] at h; simp at h; omega
        | true =>
          rw [hfit] at h
          simp only [if_true] at h
          have ih := rules_leaves hs f m _ rs p e h2 (by omega) h he
          have hcp := cho_prog hc
          have hlv := (leaves_parts hs _).2.2.2 (a + 2) [] t (m - 1) (by rw [choP_eq, hc])
          simp only [leavesL, List.nil_append] at hlv
          obtain ⟨t1, e1, k1⟩ := kd_get (rfl : kd l (a + 1) = kd l (a + 1)) (by rcases h23 with e | e <;> rw [e] <;> decide)
          obtain ⟨t2, e2, k2⟩ := kd_get h13 (by decide)
          have hseg : wantP (l.drop a) = wantT n :: (leavesP t ++ wantP (l.drop m)) := by
            have d1 : l.drop a = segP l a m ++ l.drop m := by
              unfold segP
              rw [List.drop_take]
              have : l.drop m = (l.drop a).drop (m - a) := by rw [List.drop_drop]; congr 1; omega
              rw [this, List.take_append_drop]
            have d2 : wantP (segP l a m) = wantT n :: leavesP t := by
              rw [← seg_app l (Nat.le_succ a) (by omega : a + 1 ≤ m), wantP_app, seg_one en, wantP_yes (by rw [hk]; decide), want_step e1 (by omega) (by rw [k1]; rcases h23 with e | e <;> rw [e] <;> decide)]
              have hm : m = m - 1 + 1 := by omega
              rw [hm, want_last e2 (by omega) (by rw [k2]; decide), hlv]
              rfl
            rw [d1, wantP_app, d2]
            simp
          rw [ih, hseg]
          have hn := leaf_want (hs n (List.mem_of_getElem? en)) (by rw [hk]; decide)
          have hn2 : leavesP (leafT n) = [{ kind := 1, text := smallP n.text }] := by simp [leafT, hk, leavesP]
          rw [hn2] at hn
          simp only [List.cons.injEq, and_true] at hn
          simp [gotP, hn]
    · rw [if_neg hlt] at h
      simp only [Prod.mk.injEq] at h
      obtain ⟨rfl, _⟩ := h
      rw [List.drop_of_length_le (by omega)]
      simp [wantP]
end Go.Proofs.YtmmapbhhkmchcaaGreatDoor
