/-
  frankinglaw01: LexWhole.
-/
import Derived.Test.YtiobaboailhafaaW3
set_option linter.unusedVariables false
set_option linter.unusedSimpArgs false
namespace Go.Proofs.Ytiobaboailhafaa
open Go Go.Am

theorem signF_ok (k : UInt8) (h : Heap) : M.call 13 [.int .u8 k.toNat] h = some (.str (signB k), h) := by
  refine call_of tab13 rfl (callF_wp ?_)
  have e2 := u8_eq k 2 (by omega)
  have e3 := u8_eq k 3 (by omega)
  have e4 := u8_eq k 4 (by omega)
  have e5 := u8_eq k 5 (by omega)
  have e6 := u8_eq k 6 (by omega)
  have e7 := u8_eq k 7 (by omega)
  have e8 := u8_eq k 8 (by omega)
  have e12 := u8_eq k 12 (by omega)
  have e11 := u8_eq k 11 (by omega)
  simp at e2 e3 e4 e5 e6 e7 e8 e12 e11
  by_cases h2 : k = 2
  · subst h2; simp [wB13, signB]
  by_cases h3 : k = 3
  · subst h3; simp [wB13, signB]
  by_cases h4 : k = 4
  · subst h4; simp [wB13, signB]
  by_cases h5 : k = 5
  · subst h5; simp [wB13, signB]
  by_cases h6 : k = 6
  · subst h6; simp [wB13, signB]
  by_cases h7 : k = 7
  · subst h7; simp [wB13, signB]
  by_cases h8 : k = 8
  · subst h8; simp [wB13, signB]
  by_cases h12 : k = 12
  · subst h12; simp [wB13, signB]
  by_cases h11 : k = 11
  · subst h11; simp [wB13, signB]
  simp [wB13, signB, e2, e3, e4, e5, e6, e7, e8, e12, e11, h2, h3, h4, h5, h6, h7, h8, h12, h11]

theorem st_take {l : List Tok} {i : Nat} {t : Tok} (h : l[i]? = some t) : stOf (l.take (i + 1)) = stp (stOf (l.take i)) t := by
  rw [List.take_add_one, h]
  exact stOf_snoc _ _
theorem stands_kind {q : List UInt8} {t : Tok} (h : stands q t) : t.kind = 1 ∨ t.kind = 10 ∨ t.kind = 9 ∨ t.kind = 13 ∨ (t.kind ≠ 1 ∧ t.kind ≠ 10 ∧ t.kind ≠ 9 ∧ t.kind ≠ 13 ∧ signB t.kind ≠ [] ∧ signB t.kind <+: q) := by
  unfold stands at h
  by_cases h1 : t.kind = 1
  · exact .inl h1
  rw [if_neg h1] at h
  by_cases h2 : t.kind = 10
  · exact .inr (.inl h2)
  rw [if_neg h2] at h
  by_cases h3 : t.kind = 9
  · exact .inr (.inr (.inl h3))
  rw [if_neg h3] at h
  by_cases h4 : t.kind = 13
  · exact .inr (.inr (.inr (.inl h4)))
  rw [if_neg h4] at h
  exact .inr (.inr (.inr (.inr ⟨h1, h2, h3, h4, h.1, h.2⟩)))
theorem pre_take {p q : List UInt8} (h : p <+: q) : q.take p.length = p := (List.prefix_iff_eq_take.1 h).symm
theorem st_nonneg (l : List Tok) (h : ∀ t ∈ l, 0 ≤ t.pos) : 0 ≤ (stOf l).1 := by
  have : ∀ (l : List Tok) (st : Int × Bool), 0 ≤ st.1 → (∀ t ∈ l, 0 ≤ t.pos) → 0 ≤ (l.foldl stp st).1 := by
    intro l
    induction l with
    | nil => intro st h _; exact h
    | cons t l ih =>
      intro st h1 h2
      refine ih _ ?_ fun u hu => h2 u (List.mem_cons_of_mem _ hu)
      have := h2 t List.mem_cons_self
      unfold stp
      split <;> simp only <;> omega
  exact this l _ (by simp) h
def InvWh (s : List UInt8) (l : List Tok) (r : Rt) (n : Nat) (σ : Slots) (h' : Heap) : Prop := ∃ i, i ≤ l.length ∧ n = l.length - i ∧ 0 ≤ (stOf (l.take i)).1 ∧ σ 0 = .str s ∧ σ 3 = .list 7 (l.map tokA) r ∧ σ 4 = .int .i64 0 ∧ σ 38 = .list 7 (l.map tokA) r ∧ σ 39 = .int .i64 l.length ∧ σ 6 = .int .i64 (stOf (l.take i)).1 ∧ σ 40 = .int .i64 i

set_option maxRecDepth 20000 in
theorem whole_loop (s : List UInt8) (hs : s.length ≤ 4000) (l : List Tok) (hl : l.length ≤ 1000000000) (r : Rt) (hc : chkA s l) (hlast : l = [] ∨ ∃ k, l = k ++ [endT s.length]) (Q : Ex → Slots → Heap → Prop) (hQ : ∀ σ h, σ 2 = .bool true → Q .ret σ h) :
    ∀ (n : Nat) (σ : Slots) (h : Heap), InvWh s l r n σ h → Wp M (.loop L4_0) (blkQ 0 (thenQ (Wp M K4_0 Q) Q)) σ h := by
  intro n σ h hI
  refine Wp.loop (InvWh s l r) ?_ hI
  clear hI
  rintro n σ h ⟨i, hi, rfl, hst, s0, s3, s4, s38, s39, s6, s40⟩
  have e64 : IntKind.wrap .i64 ((i : Int) + 1) = ((i + 1 : Nat) : Int) := by rw [wrap64 (by omega) (by omega)]; rfl
  by_cases hlt : i < l.length
  · obtain ⟨t, et⟩ : ∃ t, l[i]? = some t := ⟨_, List.getElem?_eq_getElem hlt⟩
    obtain ⟨c1, c2, c3, c4⟩ := hc i t et
    have hnx := st_take et
    have hend : ∀ (σ : Slots) (h : Heap), σ 0 = .str s → σ 3 = .list 7 (l.map tokA) r → σ 4 = .int .i64 0 → σ 38 = .list 7 (l.map tokA) r → σ 39 = .int .i64 l.length → σ 6 = .int .i64 (if t.kind = 13 then t.pos else t.pos + 1) → σ 40 = .int .i64 ((i + 1 : Nat) : Int) → ∃ m, m < l.length - i ∧ InvWh s l r m σ h := by
      intro σ h t0 t3 t4 t38 t39 t6 t40
      refine ⟨l.length - (i + 1), by omega, i + 1, by omega, rfl, ?_, t0, t3, t4, t38, t39, ?_, t40⟩
      · rw [hnx]; unfold stp; simp only; split <;> omega
      · rw [t6, hnx]; rfl
    clear hnx
    obtain ⟨kind, pos, text, mn, mx, lo, hi'⟩ := t
    simp only at c1 c2 c3 c4 hend
    obtain ⟨p, rfl⟩ : ∃ p : Nat, pos = p := ⟨pos.toNat, by omega⟩
    have hp : p ≤ s.length := by omega
    have hlt1 : ¬ (p : Int) < (stOf (l.take i)).1 := by omega
    have hgt : ¬ (s.length : Int) < p := by omega
    have wp1 : IntKind.wrap .i64 ((p : Int) + 1) = (p : Int) + 1 := wrap64 (by omega) (by omega)
    have kinds := stands_kind c4
    simp only [Int.toNat_natCast] at c4 kinds
    have e1 := u8_eq kind 1 (by omega)
    have e10 := u8_eq kind 10 (by omega)
    have e9 := u8_eq kind 9 (by omega)
    have e13 := u8_eq kind 13 (by omega)
    simp at e1 e10 e9 e13
    -- what stood ahead
    have ahead : ∃ b : Bool, (i = 0 ∧ b = true ∨ ∃ j u, i = j + 1 ∧ l[j]? = some u ∧ b = (u.kind == 13)) ∧ (b = true → kind = 1) := by
      rcases Nat.eq_zero_or_pos i with h | h
      · subst h
        exact ⟨true, .inl ⟨rfl, rfl⟩, fun _ => c3 rfl⟩
      · obtain ⟨j, rfl⟩ : ∃ j, i = j + 1 := ⟨i - 1, by omega⟩
        obtain ⟨u, eu⟩ : ∃ u, l[j]? = some u := ⟨_, List.getElem?_eq_getElem (by omega)⟩
        refine ⟨u.kind == 13, .inr ⟨j, u, rfl, eu, rfl⟩, fun hb => c3 ?_⟩
        rw [st_take eu]
        exact hb
    have e13u : ∀ u : Tok, ((u.kind.toNat : Int) = 13) = (u.kind = 13) := fun u => by
      have := u8_eq u.kind 13 (by omega)
      simpa using this
    have hpf := fun (q : List UInt8) (h : Heap) => hasPrefix_ok (s.drop p) q h
    have hend0 := fun (σ : Slots) (h : Heap) => hend σ h
    clear hst
    generalize hsti : (stOf (l.take i)).1 = st at *
    have hlt2 : ((p : Int) < st) = False := eq_false hlt1
    have hgt2 : ((s.length : Int) < p) = False := eq_false hgt
    have hgt3 : (p : Int) ≤ s.length := by omega
    obtain ⟨b, hb, hk⟩ := ahead
    cases b with
    | true =>
      have hk1 := hk rfl
      subst hk1
      have c4' := c4
      unfold stands at c4'
      simp only [if_true] at c4'
      have hpt : (s.drop p).take text.length = text := pre_take c4'.2
      have hne : ¬ text = [] := c4'.1
      rcases hb with ⟨rfl, _⟩ | ⟨j, u, rfl, eu, hu⟩
      · have h00 : (0 : Int) < l.length := by omega
        simp [-getElem?_pos, -Int.natCast_add, wL4_0, s0, s3, s4, s38, s39, s6, s40, hlt, h00, et, tokA, tokL, e64, hlt2, c1, hgt2, hgt3, wp1, hp, hpf, hpt, hne, Nat.add_assoc]
        have w11 : IntKind.wrap .i64 1 = 1 := by decide
        refine hend _ _ ?_ ?_ ?_ ?_ ?_ ?_ ?_ <;> simp [s0, s3, s4, s38, s39, w11]
      · have hu13 : u.kind = 13 := by simpa using hu.symm
        have w1 : IntKind.wrap .i64 (j : Int) = (j : Int) := wrap64 (by omega) (by omega)
        have e64' : IntKind.wrap .i64 ((j : Int) + 1 + 1) = (j : Int) + 1 + 1 := wrap64 (by omega) (by omega)
        have hj : j < l.length := by omega
        have hltI : (j : Int) + 1 < l.length := by omega
        have hge : 0 ≤ (j : Int) + 1 := by omega
        have hz : ((j : Int) + 1 = 0) = False := eq_false (by omega)
        simp [-getElem?_pos, wL4_0, s0, s3, s4, s38, s39, s6, s40, hlt, hltI, hge, hj, et, eu, hu13, hz, w1, tokA, tokL, e64', hlt2, c1, hgt2, hgt3, wp1, hp, hpf, hpt, hne, Nat.add_assoc]
        refine hend _ _ ?_ ?_ ?_ ?_ ?_ ?_ ?_ <;> simp [s0, s3, s4, s38, s39, e64']
    | false =>
      rcases hb with ⟨_, hb⟩ | ⟨j, u, rfl, eu, hu⟩
      · cases hb
      have hu13 : ¬ u.kind = 13 := by simpa using hu.symm
      have w1 : IntKind.wrap .i64 (j : Int) = (j : Int) := wrap64 (by omega) (by omega)
      have e64' : IntKind.wrap .i64 ((j : Int) + 1 + 1) = (j : Int) + 1 + 1 := wrap64 (by omega) (by omega)
      have hj : j < l.length := by omega
      have hltI : (j : Int) + 1 < l.length := by omega
      have hge : 0 ≤ (j : Int) + 1 := by omega
      have hz : ((j : Int) + 1 = 0) = False := eq_false (by omega)
      have e13u' := e13u u
      rcases kinds with h | h | h | h | ⟨h1, h10, h9, h13, hs1, hs2⟩
      · subst h
        have c4' := c4
        unfold stands at c4'
        simp only [if_true] at c4'
        have hpt : (s.drop p).take text.length = text := pre_take c4'.2
        have hne : ¬ text = [] := c4'.1
        simp [-getElem?_pos, wL4_0, s0, s3, s4, s38, s39, s6, s40, hlt, hltI, hge, hj, et, eu, e13u', hu13, hz, w1, tokA, tokL, e64', hlt2, c1, hgt2, hgt3, wp1, hp, hpf, hpt, hne, Nat.add_assoc]
        refine hend _ _ ?_ ?_ ?_ ?_ ?_ ?_ ?_ <;> simp [s0, s3, s4, s38, s39, e64']
      · subst h
        have c4' := c4
        unfold stands at c4'
        simp only [if_true, if_neg (show ¬ (10 : UInt8) = 1 by decide)] at c4'
        have hpt := pre_take c4'
        have hlen : text.length ≤ 4000 := by
          have := c4'.length_le
          simp at this
          omega
        have l1 : 1 + text.length ≤ 140737488355328 := by omega
        have l2 : text.length + 1 + 1 ≤ 140737488355328 := by omega
        simp at hpt
        simp [-getElem?_pos, wL4_0, s0, s3, s4, s38, s39, s6, s40, hlt, hltI, hge, hj, et, eu, e13u', hu13, hz, w1, tokA, tokL, e64', hlt2, c1, hgt2, hgt3, wp1, hp, hpf, hpt, l1, l2, Nat.add_assoc]
        refine hend _ _ ?_ ?_ ?_ ?_ ?_ ?_ ?_ <;> simp [s0, s3, s4, s38, s39, e64']
      · subst h
        have c4' := c4
        unfold stands at c4'
        simp only [if_true, if_neg (show ¬ (9 : UInt8) = 1 by decide), if_neg (show ¬ (9 : UInt8) = 10 by decide)] at c4'
        obtain ⟨⟨d, d1, d2⟩, k1, k2, k3, k4, k5⟩ := c4'
        have hps : p < s.length := by
          have := (List.getElem?_eq_some_iff.1 d1).1
          simp at this
          omega
        have hps' : ¬ s.length ≤ p := by omega
        have d1' : s[p]? = some d := by simpa using d1
        have q1 : (mn < 0) = False := eq_false (by omega)
        have q2 : ((9999 : Int) < mn) = False := eq_false (by omega)
        have q3 : (mx < -1) = False := eq_false (by omega)
        have q4 : ((9999 : Int) < mx) = False := eq_false (by omega)
        have ed42 := u8_eq d 42 (by omega)
        simp at ed42
        have dd : ((d.toNat : Int) = 42) = True ∨ (((d.toNat : Int) = 42) = False ∧ ((d.toNat : Int) < 48) = False ∧ ((57 : Int) < d.toNat) = False ∧ (48 : Int) ≤ d.toNat ∧ (d.toNat : Int) ≤ 57) := by
          rcases d2 with h | h
          · exact .inl (eq_true (ed42.2 h))
          · simp [digC] at h
            exact .inr ⟨eq_false (by omega), eq_false (by omega), eq_false (by omega), by omega, by omega⟩
        have q5 : (0 ≤ mx) = False ∧ mx < 0 ∨ (0 ≤ mx) = True ∧ (mx < mn) = False ∧ mn ≤ mx := by
          rcases Int.lt_or_le mx 0 with h | h
          · exact .inl ⟨eq_false (by omega), h⟩
          · exact .inr ⟨eq_true h, eq_false (by omega), by omega⟩
        rcases dd with dd | ⟨dd1, dd2, dd3, dd4, dd5⟩ <;> rcases q5 with ⟨q5, q6⟩ | ⟨q5, q6, q7⟩
        · simp [-getElem?_pos, wL4_0, s0, s3, s4, s38, s39, s6, s40, hlt, hltI, hge, hj, et, eu, e13u', hu13, hz, w1, tokA, tokL, e64', hlt2, c1, hgt2, hgt3, wp1, hp, hpf, hps, hps', d1', dd, q1, q2, q3, q4, q5, q6, k1, k2, k3, k4, Nat.add_assoc]
          refine hend _ _ ?_ ?_ ?_ ?_ ?_ ?_ ?_ <;> simp [s0, s3, s4, s38, s39, e64']
        · simp [-getElem?_pos, wL4_0, s0, s3, s4, s38, s39, s6, s40, hlt, hltI, hge, hj, et, eu, e13u', hu13, hz, w1, tokA, tokL, e64', hlt2, c1, hgt2, hgt3, wp1, hp, hpf, hps, hps', d1', dd, q1, q2, q3, q4, q5, q6, q7, k1, k2, k3, k4, Nat.add_assoc]
          refine hend _ _ ?_ ?_ ?_ ?_ ?_ ?_ ?_ <;> simp [s0, s3, s4, s38, s39, e64']
        · simp [-getElem?_pos, wL4_0, s0, s3, s4, s38, s39, s6, s40, hlt, hltI, hge, hj, et, eu, e13u', hu13, hz, w1, tokA, tokL, e64', hlt2, c1, hgt2, hgt3, wp1, hp, hpf, hps, hps', d1', dd1, dd2, dd3, dd4, dd5, q1, q2, q3, q4, q5, q6, k1, k2, k3, k4, Nat.add_assoc]
          refine hend _ _ ?_ ?_ ?_ ?_ ?_ ?_ ?_ <;> simp [s0, s3, s4, s38, s39, e64']
        · simp [-getElem?_pos, wL4_0, s0, s3, s4, s38, s39, s6, s40, hlt, hltI, hge, hj, et, eu, e13u', hu13, hz, w1, tokA, tokL, e64', hlt2, c1, hgt2, hgt3, wp1, hp, hpf, hps, hps', d1', dd1, dd2, dd3, dd4, dd5, q1, q2, q3, q4, q5, q6, q7, k1, k2, k3, k4, Nat.add_assoc]
          refine hend _ _ ?_ ?_ ?_ ?_ ?_ ?_ ?_ <;> simp [s0, s3, s4, s38, s39, e64']
      · subst h
        simp [-getElem?_pos, wL4_0, s0, s3, s4, s38, s39, s6, s40, hlt, hltI, hge, hj, et, eu, e13u', hu13, hz, w1, tokA, tokL, e64', hlt2, c1, hgt2, hgt3, wp1, hp, hpf, Nat.add_assoc]
        refine hend _ _ ?_ ?_ ?_ ?_ ?_ ?_ ?_ <;> simp [s0, s3, s4, s38, s39, e64']
      · have hpt := pre_take hs2
        have hsg := fun h => signF_ok kind h
        generalize signB kind = sg at *
        simp [-getElem?_pos, wL4_0, s0, s3, s4, s38, s39, s6, s40, hlt, hltI, hge, hj, et, eu, e13u', hu13, hz, w1, tokA, tokL, e64', hlt2, c1, hgt2, hgt3, wp1, hp, hpf, hpt, hs1, hsg, e1, e10, e9, e13, h1, h10, h9, h13, Nat.add_assoc]
        refine hend _ _ ?_ ?_ ?_ ?_ ?_ ?_ ?_ <;> simp [s0, s3, s4, s38, s39, h13, e64']
  · have hi' : i = l.length := by omega
    subst hi'
    rcases hlast with rfl | ⟨k, rfl⟩
    · simp [wL4_0, wK4_0, s0, s3, s4, s38, s39, s6, s40, awake_ok]
      exact hQ _ _ (by simp)
    · have w1 : IntKind.wrap .i64 (k.length : Int) = (k.length : Int) := wrap64 (by simp at hl; omega) (by simp at hl; omega)
      have hk0 : ((k.length : Int) + 1 = 0) = False := eq_false (by omega)
      have hg : ∀ x : AV, (k.map tokA ++ [x])[k.length]? = some x := fun x => by rw [List.getElem?_append_right (by simp)]; simp
      simp [-getElem?_pos, wL4_0, wK4_0, s0, s3, s4, s38, s39, s6, s40, awake_ok, w1, hk0, hg, endT, tokA, tokL]
      exact hQ _ _ (by simp)
theorem lexP_short (s : List UInt8) (hs : s.length ≤ 4000) : (lexP s).1.length ≤ 1000000000 := by
  unfold lexP
  rw [if_neg (by omega)]
  have := lexP_len s (s.length + 1) 0 false []
  have h2 : (s.length + 1) * (s.length + 4) ≤ 4001 * 4004 := Nat.mul_le_mul (by omega) (by omega)
  simp at this
  omega
theorem lexWhole_true (s : List UInt8) : M.call 4 [.str s] [] = some (.bool true, []) := by
  refine call_of tab4 rfl (callF_wp ?_)
  by_cases hl : 4000 < s.length
  · have hl' : (4000 : Int) < s.length := by omega
    simp [wB4, hl', awake_ok]
  · have hl' : ¬ (4000 : Int) < s.length := by omega
    obtain ⟨x, hx, r, rfl⟩ := lex_ok s (by omega) []
    have hlen := lexP_short s (by omega)
    obtain ⟨g1, g2⟩ := lexP_chk s (by omega)
    generalize lexP s = res at *
    obtain ⟨l, p, e⟩ := res
    simp only at hx hlen g1 g2
    by_cases he : e = 0
    · obtain ⟨rfl, k2, k3⟩ := g1 he
      subst he
      simp [wB4, hl', hx]
      refine whole_loop s (by omega) l hlen r k2 k3 _ ?_ l.length _ _ ⟨0, by omega, by omega, by simp [stOf], by simp, by simp, by simp, by simp, by simp, by simp [stOf], by simp⟩
      intro σ h h2
      have hf := fun v => finish_of_take (h0 := []) (h := h) (by simp) v
      simp [h2, hf]
    · obtain ⟨rfl, k2, k3⟩ := g2 he
      simp [wB4, hl', hx, he, k2, k3, awake_ok]
theorem LexWhole_law (xs : List AV) (h : HasArgs Try.prog [9] xs) : (lim XS T).call 4 xs [] = some (.bool true, []) := by
  obtain ⟨a0, r0, n0, rfl, h0, h⟩ := h
  obtain rfl := args_nil h
  obtain ⟨s, rfl, _⟩ := has_str Try.underlying9 h0
  exact lexWhole_true s
end Go.Proofs.Ytiobaboailhafaa
