import Derived.Test.YtmcjnbkodcdjnaaT8
set_option linter.unusedVariables false
set_option linter.unusedSimpArgs false
namespace Go.Proofs.Ytmcjnbkodcdjnaa
open Go Go.Am

theorem hasSuffix_ok (X : CallO) (hX : ∀ f, f ≠ 13 → f ≠ 14 → ∀ a h, X f a h = none) (s p : List UInt8) (hs : s.length ≤ 1000000) (h : Heap) : (lim X T).call 24 [.str s, .str p] h = some (.bool (decide (p.length ≤ s.length ∧ s.drop (s.length - p.length) = p)), h) := by
  refine lim_call_of tab24 (hX _ (by decide) (by decide) _ _) (callF_wp ?_)
  by_cases hl : p.length ≤ s.length
  · have w : IntKind.wrap .i64 ((s.length : Int) - p.length) = ((s.length - p.length : Nat) : Int) := by rw [wrap64 (by omega) (by omega)]; omega
    have : ((s.length - p.length : Nat) : Int) ≤ s.length := by omega
    simp [wB24, hl, w, this]
  · simp [wB24, hl]
theorem trimSuffix_ok (X : CallO) (hX : ∀ f, f ≠ 13 → f ≠ 14 → ∀ a h, X f a h = none) (s p : List UInt8) (hs : s.length ≤ 1000000) (h : Heap) : (lim X T).call 11 [.str s, .str p] h = some (.str (if p.length ≤ s.length ∧ s.drop (s.length - p.length) = p then s.take (s.length - p.length) else s), h) := by
  have h18 : (lim X T).call 18 [.str s, .str p] h = some (.str (if p.length ≤ s.length ∧ s.drop (s.length - p.length) = p then s.take (s.length - p.length) else s), h) := by
    refine lim_call_of tab18 (hX _ (by decide) (by decide) _ _) (callF_wp ?_)
    by_cases hc : p.length ≤ s.length ∧ s.drop (s.length - p.length) = p
    · have w : IntKind.wrap .i64 ((s.length : Int) - p.length) = ((s.length - p.length : Nat) : Int) := by rw [wrap64 (by omega) (by omega)]; omega
      simp [wB18, hasSuffix_ok X hX s p hs, hc.1, hc.2, w]
    · rw [if_neg hc]
      simp only [Classical.not_and_iff_not_or_not] at hc
      by_cases h1 : p.length ≤ s.length
      · have h2 : ¬ s.drop (s.length - p.length) = p := by rcases hc with hc | hc; exact absurd h1 hc; exact hc
        simp [wB18, hasSuffix_ok X hX s p hs, h1, h2]
      · simp [wB18, hasSuffix_ok X hX s p hs, h1]
  refine lim_call_of tab11 (hX _ (by decide) (by decide) _ _) (callF_wp ?_)
  simp [wB11, h18]

/-! What stays of bytes, and what a frame makes of it. -/
def bareOk (w : List UInt8) (c : UInt8) : Bool := c != 10 || w == [] || w.getLast? != some 13
def bareB (w : List UInt8) (c : UInt8) : List UInt8 := if bareOk w c then w ++ [c] else w
def bareF (b : List UInt8) : List UInt8 := b.foldl bareB []
def ends (w : List UInt8) : Bool := w.getLast? == some 13
def coreB (w : List UInt8) : List UInt8 := if ends w then w.dropLast else w

theorem keep_core {n : Nat} (q : List UInt8) (c : UInt8) (r : Bool) (l : List (List UInt8 × Bool)) : keepB n c ⟨q.take n, decide (n < q.length), r, l⟩ = ⟨(q ++ [c]).take n, decide (n < (q ++ [c]).length), r, l⟩ := by
  unfold keepB
  simp only [List.length_take]
  by_cases h : q.length < n
  · rw [if_pos (by omega), List.take_of_length_le (by omega), List.take_of_length_le (by simp; omega), decide_eq_false (by omega), decide_eq_false (by simp; omega)]
  · rw [if_neg (by omega), List.take_append_of_le_length (by omega), decide_eq_true (by simp; omega)]

theorem bare_step {n : Nat} (w : List UInt8) (c : UInt8) (hc : bareOk w c = true) (k : pushB n St0 w = ⟨(coreB w).take n, decide (n < (coreB w).length), ends w, []⟩) :
    pushB n St0 (w ++ [c]) = ⟨(coreB (w ++ [c])).take n, decide (n < (coreB (w ++ [c])).length), ends (w ++ [c]), []⟩ := by
  have e : pushB n St0 (w ++ [c]) = byteB n (pushB n St0 w) c := by simp [pushB]
  have e2 : ends (w ++ [c]) = (c == 13) := by simp [ends]
  have e3 : coreB (w ++ [c]) = if c == 13 then w else w ++ [c] := by simp [coreB, e2]
  rw [e, k, e2, e3]
  unfold byteB
  simp only
  by_cases hw : ends w = true
  · rw [if_pos hw, hw]
    have hl : w.getLast? = some 13 := by simpa [ends] using hw
    have hne : w ≠ [] := by intro e; rw [e] at hl; cases hl
    have h10 : ¬ c = 10 := by
      intro e
      subst e
      simp [bareOk, hl, hne] at hc
    have hq : coreB w ++ [13] = w := by
      unfold coreB
      rw [if_pos hw]
      rcases List.eq_nil_or_concat w with rfl | ⟨l, d, rfl⟩
      · exact absurd rfl hne
      · simp at hl
        subst hl
        simp
    rw [if_neg h10]
    by_cases h13 : c = 13
    · subst h13
      rw [if_pos rfl, keep_core, hq]
      simp
    · rw [if_neg h13, keep_core, hq, keep_core]
      simp [h13]
  · have hw' : ends w = false := by simpa using hw
    have hq : coreB w = w := by unfold coreB; rw [hw']; simp
    rw [hw', hq]
    simp only [Bool.false_eq_true, if_false]
    by_cases h13 : c = 13
    · subst h13
      simp
    · rw [if_neg h13, keep_core]
      simp [h13]
theorem bare_all {n : Nat} (b : List UInt8) : pushB n St0 (bareF b) = ⟨(coreB (bareF b)).take n, decide (n < (coreB (bareF b)).length), ends (bareF b), []⟩ := by
  have : ∀ (b w : List UInt8), pushB n St0 w = ⟨(coreB w).take n, decide (n < (coreB w).length), ends w, []⟩ → pushB n St0 (b.foldl bareB w) = ⟨(coreB (b.foldl bareB w)).take n, decide (n < (coreB (b.foldl bareB w)).length), ends (b.foldl bareB w), []⟩ := by
    intro b
    induction b with
    | nil => intro w k; exact k
    | cons c b ih =>
      intro w k
      simp only [List.foldl_cons]
      apply ih
      unfold bareB
      split
      · rename_i hc; exact bare_step w c hc k
      · exact k
  exact this b [] (by simp [pushB, St0, coreB, ends])
theorem bareF_len (b : List UInt8) : (bareF b).length ≤ b.length := by
  have : ∀ (b w : List UInt8), (b.foldl bareB w).length ≤ w.length + b.length := by
    intro b
    induction b with
    | nil => intro w; simp
    | cons c b ih =>
      intro w
      have := ih (bareB w c)
      have h2 : (bareB w c).length ≤ w.length + 1 := by unfold bareB; split <;> simp
      simp only [List.foldl_cons, List.length_cons]
      omega
  have := this b []
  simpa [bareF] using this
/-- The core, as the statement tells it. -/
theorem core_trim (w : List UInt8) : (if ([13] : List UInt8).length ≤ w.length ∧ w.drop (w.length - ([13] : List UInt8).length) = [13] then w.take (w.length - ([13] : List UInt8).length) else w) = coreB w := by
  unfold coreB ends
  rcases List.eq_nil_or_concat w with rfl | ⟨l, c, rfl⟩
  · simp
  · by_cases h : c = 13
    · subst h; simp
    · simp [h]
theorem core_rest (w : List UInt8) : (if ends w then coreB w ++ [13] else coreB w) = w := by
  unfold coreB
  rcases List.eq_nil_or_concat w with rfl | ⟨l, c, rfl⟩
  · simp [ends]
  · by_cases h : c = 13
    · subst h; simp [ends]
    · simp [ends, h]
theorem core_len (w : List UInt8) : (coreB w).length ≤ w.length ∧ w.length ≤ (coreB w).length + 1 := by
  unfold coreB; split <;> simp <;> omega
theorem core_pre (w : List UInt8) : (coreB w) <+: w := by
  unfold coreB; split
  · exact List.dropLast_prefix w
  · exact List.prefix_rfl

def InvB (b x : List UInt8) (rx rb : Rt) (n : Nat) (h0 : Heap) (k : Nat) (σ : Slots) (h : Heap) : Prop := ∃ i w r, i ≤ b.length ∧ k = b.length - i ∧ w = bareF (b.take i) ∧ σ 2 = .list 1 (ofBytes x) rx ∧ σ 7 = .int .i64 n ∧ σ 23 = .list 1 (ofBytes b) rb ∧ σ 24 = .int .i64 b.length ∧ σ 25 = .int .i64 i ∧ σ 8 = .list 1 (ofBytes w) r ∧ Ow h0.length h 1 5 r w.length ∧ h.take h0.length = h0

theorem bare_ok (X : CallO) (hX : ∀ f, f ≠ 13 → f ≠ 14 → ∀ a h, X f a h = none) (k : Nat) (hk : k ≤ 65535) (b x : List UInt8) (rb rx : Rt) (hx : x.length ≤ 9223372036854775807) (h0 : Heap) :
    (lim X T).call 5 [.int .u16 k, .list 1 (ofBytes b) rb, .list 1 (ofBytes x) rx] h0 = some (.bool true, h0) := by
  refine lim_call_of tab5 (hX _ (by decide) (by decide) _ _) (callF_wp ?_)
  by_cases hb : b.length ≤ 500
  · have hn : ¬ (500 < (b.length : Int)) := by omega
    have w0 : IntKind.wrap .i64 (k : Int) = k := wrap64 (by omega) (by omega)
    have w1 : IntKind.wrap .i64 (1 + (k : Int).tmod 2000) = ((k % 2000 + 1 : Nat) : Int) := by
      rw [show (k : Int).tmod 2000 = ((k % 2000 : Nat) : Int) from rfl, wrap64 (by omega) (by omega)]; omega
    generalize hnn : k % 2000 + 1 = n at *
    simp [wB5, w0, w1, hn]
    refine Wp.loop (InvB b x rx rb n h0) ?_ (n := b.length) ⟨0, [], .full, by omega, by omega, by simp [bareF], by simp, by simp, by simp, by simp, by simp, by simp, .full, by simp⟩
    rintro k σ h ⟨i, w, r, hi, rfl, hw, s2, s7, s23, s24, s25, s8, ow, ht⟩
    have hwl : w.length ≤ 500 := by have := bareF_len (b.take i); rw [← hw] at this; simp at this; omega
    by_cases hlt : i < b.length
    · obtain ⟨c, ec⟩ : ∃ c, b[i]? = some c := ⟨_, List.getElem?_eq_getElem hlt⟩
      have e64 : IntKind.wrap .i64 ((i : Int) + 1) = ((i + 1 : Nat) : Int) := by rw [wrap64 (by omega) (by omega)]; rfl
      have hw' : bareF (b.take (i + 1)) = bareB w c := by
        rw [hw, bareF, bareF, List.take_add_one, ec]
        simp
      have next : ∀ (σ' : Slots) (g : Heap) (w' : List UInt8) (r' : Rt), w' = bareB w c → σ' 2 = σ 2 → σ' 7 = σ 7 → σ' 23 = σ 23 → σ' 24 = σ 24 → σ' 25 = .int .i64 ((i + 1 : Nat) : Int) → σ' 8 = .list 1 (ofBytes w') r' → Ow h0.length g 1 5 r' w'.length → g.take h0.length = h0 → ∃ m, m < b.length - i ∧ InvB b x rx rb n h0 m σ' g :=
        fun σ' g w' r' a0 a1 a2 a3 a4 a5 a6 a7 a8 => ⟨b.length - (i + 1), by omega, i + 1, w', r', by omega, rfl, by rw [a0, hw'], by rw [a1, s2], by rw [a2, s7], by rw [a3, s23], by rw [a4, s24], a5, a6, a7, a8⟩
      have hle : h0.length ≤ h.length := by have := congrArg List.length ht; simp at this; omega
      -- it is kept
      have kept : bareOk w c = true → ∃ r' g, appA (h ++ [AE.dead]) h.length 1 1 5 (.list 1 (ofBytes w) r) (.list 1 [AV.int .u8 c.toNat] .full) = some (.list 1 (ofBytes (w ++ [c])) r', g) ∧ Ow h0.length g 1 5 r' (bareB w c).length ∧ g.take h0.length = h0 ∧ bareB w c = w ++ [c] := by
        intro hc
        obtain ⟨r', g, e1, e2, e3⟩ := app_list (n0 := h0.length) (key := h.length) (sz := 1) (bytes := 1) (e := 5) (h := h ++ [AE.dead]) (xs := ofBytes w) (ys := [AV.int .u8 c.toNat]) (r := r) (r2 := .full) (by simpa using ow.app [AE.dead]) hle (by simp) (by simp; omega) (by simp; omega)
        have hbc : bareB w c = w ++ [c] := by simp [bareB, hc]
        refine ⟨r', g, by simpa [ofBytes] using e1, by rw [hbc]; simpa using e2, by rw [e3.take, take_app hle, ht], hbc⟩
      have toc : ((c.toNat : Int) = 10) = (c = 10) := by
        apply propext
        exact ⟨fun e => UInt8.toNat_inj.1 (by rw [show (10 : UInt8).toNat = 10 from rfl]; omega), fun e => by subst e; rfl⟩
      by_cases h10 : c = 10
      · rcases List.eq_nil_or_concat w with hw0 | ⟨l, d, hwd⟩
        · obtain ⟨r', g, e1, e2, e3, e4⟩ := kept (by simp [bareOk, hw0])
          rw [hw0, h10] at e1
          simp at e1
          simp [-getElem?_pos, wL5_0, s2, s7, s23, s24, s25, s8, hlt, ec, hw0, h10, e64, e1]
          exact next _ _ (bareB w c) r' rfl (by simp) (by simp) (by simp) (by simp) (by simp) (by rw [e4]; simp [hw0, h10]) e2 e3
        · rw [List.concat_eq_append] at hwd
          have hl2 : IntKind.wrap .i64 (l.length : Int) = (l.length : Int) := by
            have : l.length ≤ 500 := by rw [hwd] at hwl; simp at hwl; omega
            rw [wrap64 (by omega) (by omega)]
          have hll : l.length ≤ 500 := by rw [hwd] at hwl; simp at hwl; omega
          have hl1 : IntKind.wrap .i64 ((l.length : Int) + 1 - 1) = (l.length : Int) := by rw [wrap64 (by omega) (by omega)]; omega
          have gd : (l ++ [d])[l.length]? = some d := by simp
          have tod : ((d.toNat : Int) = 13) = (d = 13) := by
            apply propext
            exact ⟨fun e => UInt8.toNat_inj.1 (by rw [show (13 : UInt8).toNat = 13 from rfl]; omega), fun e => by subst e; rfl⟩
          by_cases h13 : d = 13
          · subst h13
            have hb0 : bareB w c = w := by simp [bareB, bareOk, hwd, h10]
            simp [-getElem?_pos, wL5_0, s2, s7, s23, s24, s25, s8, hlt, ec, hwd, h10, hl1, hl2, e64, gd]
            exact next _ _ (bareB w c) r rfl (by simp) (by simp) (by simp) (by simp) (by simp) (by simp [hb0, s8]) (by rw [hb0]; exact ow) ht
          · obtain ⟨r', g, e1, e2, e3, e4⟩ := kept (by simp [bareOk, hwd, h13])
            rw [hwd, h10] at e1
            simp at e1
            simp [-getElem?_pos, wL5_0, s2, s7, s23, s24, s25, s8, hlt, ec, hwd, h10, h13, hl1, hl2, e64, tod, gd, e1]
            exact next _ _ (bareB w c) r' rfl (by simp) (by simp) (by simp) (by simp) (by simp) (by rw [e4]; simp [hwd, h10]) e2 e3
      · obtain ⟨r', g, e1, e2, e3, e4⟩ := kept (by simp [bareOk, h10])
        simp [-getElem?_pos, wL5_0, s2, s7, s23, s24, s25, s8, hlt, ec, toc, h10, e64, e1]
        exact next _ _ (bareB w c) r' rfl (by simp) (by simp) (by simp) (by simp) (by simp) (by rw [e4]; simp) e2 e3
    · have hib : b.take i = b := List.take_of_length_le (by omega)
      rw [hib] at hw
      simp [wL5_0, s24, s25, hlt]
      clear s23 s24 s25
      have e1 := fun h => all_eq X hX (n : Int) (by omega) (by omega) w x r rx (by omega) hx h
      rw [hw, bare_all b, ← hw] at e1
      have hcl := core_len w
      obtain ⟨tl, htl⟩ := core_pre w
      have htr := trimSuffix_ok X hX w [13] (by omega)
      rw [core_trim] at htr
      have hrs := core_rest w
      have ht1 : ∀ e, (h ++ [e]).take h0.length = h0 := fun e => by rw [take_app (by have := congrArg List.length ht; simp at this; omega), ht]
      have pre : w.take ((coreB w).take n).length = (coreB w).take n := by
        have : (coreB w).take n <+: w := (List.take_prefix n (coreB w)).trans (core_pre w)
        exact (List.prefix_iff_eq_take.1 this).symm
      clear htl
      generalize coreB w = q at *
      by_cases hwn : n < w.length
      · have hmin : min n q.length = n := by omega
        have pre' : List.take n w = List.take n q := by simpa [hmin] using pre
        by_cases hq : n < q.length
        · simp [wK5_0, s2, s7, s8, e1, hq, hwn, htr, hasPrefix_ok X hX, awake_ok X hX, hmin, pre', finish_of_take (ht1 _)]
        · simp [wK5_0, s2, s7, s8, e1, hq, hwn, htr, hasPrefix_ok X hX, awake_ok X hX, hmin, pre', finish_of_take (ht1 _)]
      · have hq : ¬ n < q.length := by omega
        have hr := fun o c h => rest_1 X (hX 12 (by decide) (by decide)) n q o c (by omega) h
        have hqt : q.take n = q := List.take_of_length_le (by omega)
        simp [wK5_0, s2, s7, s8, e1, hq, hwn, hr, hrs, awake_ok X hX, hqt, finish_of_take (ht1 _)]
  · have : 500 < (b.length : Int) := by omega
    simp [wB5, this, awake_ok X hX]

theorem FrameBare_law (xs : List AV) (h : HasArgs Try.prog [22, 23, 23] xs) : (lim noX T).call 5 xs [] = some (.bool true, []) := by
  obtain ⟨a0, r0, n0, rfl, h0, h⟩ := h
  obtain ⟨a1, r1, n1, rfl, h1, h⟩ := h
  obtain ⟨a2, r2, n2, rfl, h2, h⟩ := h
  obtain rfl := args_nil h
  obtain ⟨k, rfl, hk⟩ := has_u16 Try.underlying22 h0
  obtain ⟨b, rfl, _⟩ := has_bytes Try.underlying23 Try.underlying5 (by kernel_rfl) h1
  obtain ⟨x, rfl, hx⟩ := has_bytes Try.underlying23 Try.underlying5 (by kernel_rfl) h2
  exact bare_ok noX (fun _ _ _ _ _ => rfl) k hk b x _ _ hx []
end Go.Proofs.Ytmcjnbkodcdjnaa
