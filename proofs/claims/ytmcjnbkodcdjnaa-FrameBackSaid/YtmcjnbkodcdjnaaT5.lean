import Derived.Test.YtmcjnbkodcdjnaaT4
set_option linter.unusedVariables false
set_option linter.unusedSimpArgs false
namespace Go.Proofs.Ytmcjnbkodcdjnaa
open Go Go.Am

def St0 : St := ⟨[], false, false, []⟩

theorem keepB_out (m : Int) (c : UInt8) (h : List UInt8) (o r : Bool) (l : List (List UInt8 × Bool)) : keepB m c ⟨h, o, r, l⟩ = ⟨(keepB m c ⟨h, o, r, []⟩).held, (keepB m c ⟨h, o, r, []⟩).over, (keepB m c ⟨h, o, r, []⟩).cr, l⟩ := by
  unfold keepB
  simp only
  split <;> rfl
theorem keepB_out0 (m : Int) (c : UInt8) (s : St) : (keepB m c s).out = s.out := by unfold keepB; split <;> rfl
theorem keepB_cr (m : Int) (c : UInt8) (s : St) : (keepB m c s).cr = s.cr := by unfold keepB; split <;> rfl
theorem keepB_len (m : Int) (c : UInt8) (s : St) : (keepB m c s).held.length ≤ s.held.length + 1 := by unfold keepB; split <;> simp

def outB (l : List (List UInt8 × Bool)) (s : St) : St := ⟨s.held, s.over, s.cr, l ++ s.out⟩
theorem keepB_outB (m : Int) (c : UInt8) (s : St) (l : List (List UInt8 × Bool)) : keepB m c (outB l s) = outB l (keepB m c s) := by
  unfold keepB outB
  simp only
  split <;> rfl
theorem byteB_outB (m : Int) (s : St) (c : UInt8) (l : List (List UInt8 × Bool)) : byteB m (outB l s) c = outB l (byteB m s c) := by
  unfold byteB
  simp only [keepB_outB]
  have e : (outB l s).cr = s.cr := rfl
  have e2 : (⟨(outB l s).held, (outB l s).over, false, (outB l s).out⟩ : St) = outB l ⟨s.held, s.over, false, s.out⟩ := rfl
  rw [e, e2]
  simp only [keepB_outB]
  split
  · split
    · simp [outB]
    · split <;> rfl
  · split <;> rfl
theorem pushB_outB (m : Int) (l : List (List UInt8 × Bool)) (b : List UInt8) : ∀ s, pushB m (outB l s) b = outB l (pushB m s b) := by
  induction b with
  | nil => intro s; rfl
  | cons c b ih => intro s; unfold pushB at *; simp only [List.foldl_cons]; rw [byteB_outB, ih]
theorem byteB_len (m : Int) (s : St) (c : UInt8) : (byteB m s c).held.length ≤ s.held.length + 2 ∧ (byteB m s c).out.length ≤ s.out.length + 1 := by
  unfold byteB
  split
  · split
    · simp
    · split
      · exact ⟨by have := keepB_len m 13 s; omega, by rw [keepB_out0]; omega⟩
      · refine ⟨?_, by rw [keepB_out0, keepB_out0]; simp⟩
        have h1 := keepB_len m c (keepB m 13 ⟨s.held, s.over, false, s.out⟩)
        have h2 := keepB_len m 13 ⟨s.held, s.over, false, s.out⟩
        simp only at h2
        omega
  · split
    · simp
    · exact ⟨by have := keepB_len m c s; omega, by rw [keepB_out0]; omega⟩
theorem pushB_len (m : Int) (b : List UInt8) : ∀ s, (pushB m s b).held.length ≤ s.held.length + 2 * b.length ∧ (pushB m s b).out.length ≤ s.out.length + b.length := by
  induction b with
  | nil => intro s; simp [pushB]
  | cons c b ih =>
    intro s
    have h1 := byteB_len m s c
    have h2 := ih (byteB m s c)
    unfold pushB at *
    simp only [List.foldl_cons, List.length_cons]
    omega

def allR (m : Int) (s : St) (h0 : Heap) (x : AV × Heap) : Prop := ∃ r, (r = Rt.no ∨ r = Rt.full) ∧ x = (.tup [frA m s.held s.over s.cr, .list 2 (s.out.map lnA) r, .bool true], h0)

def InvA (h0 : Heap) (m : Int) (b sizes : List UInt8) (rs : Rt) (n : Nat) (σ : Slots) (h : Heap) : Prop := ∃ i k s r rb, k ≤ b.length ∧ i ≤ k ∧ n = b.length - k ∧ s = pushB m St0 (b.take k) ∧
  σ 1 = .list 1 (ofBytes (b.drop k)) rb ∧ σ 2 = .list 1 (ofBytes sizes) rs ∧ σ 6 = .ptr h0.length 0 ∧ σ 9 = .ptr (h0.length + 1) 0 ∧ σ 10 = .int .i64 0 ∧ σ 11 = .list 2 (s.out.map lnA) r ∧ σ 12 = .int .i64 i ∧
  h.take h0.length = h0 ∧ (∃ p q u v, h[h0.length]? = some (.cells [p, q, u, v])) ∧ h[h0.length + 1]? = some (.cells [.int .i64 m, .str s.held, .bool s.over, .bool s.cr]) ∧ Ow (h0.length + 2) h 2 34 r s.out.length

theorem all_ok (X : CallO) (hX : ∀ a h, X 8 a h = none) (hX2 : ∀ a h, X 15 a h = none) (hX3 : ∀ a h, X 16 a h = none) (hX4 : ∀ a h, X 23 a h = none) (m : Int) (h1 : 1 ≤ m) (h2 : m ≤ 2000) (b sizes : List UInt8) (rb rs : Rt) (hb : b.length ≤ 10000) (hs : sizes.length ≤ 9223372036854775807) (h0 : Heap) :
    ∃ x, (lim X T).call 8 [.int .i64 m, .list 1 (ofBytes b) rb, .list 1 (ofBytes sizes) rs] h0 = some x ∧ allR m (pushB m St0 b) h0 x := by
  refine call_post tab8 (hX _ _) ?_
  generalize hQ : (fun e σ h => isEnd e ∧ ∃ vs, resVals σ h [ARes.cell 6 (some 4), ARes.tmp 7, ARes.tmp 8] = some vs ∧ ∃ r, finish h0 h (oneOf vs) = some r ∧ allR m (pushB m St0 b) h0 r) = Q
  simp [wB8, Nat.add_assoc, new_ok X hX2 m _ h1 h2, frA]
  refine Wp.loop (InvA h0 m b sizes rs) ?_ (n := b.length) ⟨0, 0, St0, .full, rb, by omega, by omega, rfl, by simp [pushB], by simp, by simp, by simp, by simp, by simp, by simp [St0], by simp, by simp, ⟨.int .i64 0, .str [], .bool false, .bool false, by simp⟩, by simp [St0], .full⟩
  rintro n σ h ⟨i, k, s, r, rb', hk, hik, rfl, hs0, s1, s2, s6, s9, s10, s11, s12, ht, ⟨p, q, u, v, hp⟩, hf, ho⟩
  by_cases hlt : k < b.length
  · have hlen : ((b.drop k).length : Int) = b.length - k := by simp; omega
    -- the piece
    have hpiece : ∀ (j : Nat) (σ' : Slots), 1 ≤ j → j ≤ b.length - k → σ' 1 = σ 1 → σ' 2 = σ 2 → σ' 6 = σ 6 → σ' 9 = σ 9 → σ' 10 = σ 10 → σ' 11 = σ 11 → σ' 12 = σ 12 → σ' 13 = .int .i64 j →
        Wp (lim X T) J8_0 (blkQ 1 (thenQ (Wp (lim X T) J8_1 (thenQ (fun σ' h' => ∃ m_1, m_1 < b.length - k ∧ InvA h0 m b sizes rs m_1 σ' h') (blkQ 0 (thenQ (Wp (lim X T) K8_0 Q) Q)))) (thenQ (fun σ' h' => ∃ m_1, m_1 < b.length - k ∧ InvA h0 m b sizes rs m_1 σ' h') (blkQ 0 (thenQ (Wp (lim X T) K8_0 Q) Q))))) σ' h := by
      intro j σ' hj1 hj2 t1 t2 t6 t9 t10 t11 t12 t13
      rw [s1] at t1; rw [s2] at t2; rw [s6] at t6; rw [s9] at t9; rw [s10] at t10; rw [s11] at t11; rw [s12] at t12
      have hbl := pushB_len m (b.take k) St0
      simp only [St0, List.length_nil, Nat.zero_add, List.length_take] at hbl
      have hs0' := hs0
      rw [St0] at hs0'
      rw [← hs0'] at hbl
      obtain ⟨x, hx, r', hr', rfl⟩ := push_ok X hX3 hX4 m s.held s.over s.cr ((b.drop k).take j) (if j = b.length - k then rb' else Rt.no) (by omega) (by simp; omega) h
      rw [frA] at hx
      generalize hs' : pushB m ⟨s.held, s.over, s.cr, []⟩ ((b.drop k).take j) = s' at hx
      have hsl := pushB_len m ((b.drop k).take j) ⟨s.held, s.over, s.cr, []⟩
      rw [hs'] at hsl
      simp at hsl
      simp [wJ8_0, t1, t2, t6, t9, t10, t11, t12, t13, hf, hj2, hx, frA]
      have lf := lt_of_get hf
      obtain ⟨r2, g, e2, o2, a2⟩ := app_list (n0 := h0.length + 2) (key := h.length) (sz := 2) (bytes := 24) (e := 34) (h := h.set (h0.length + 1) (AE.cells [AV.int IntKind.i64 m, AV.str s'.held, AV.bool s'.over, AV.bool s'.cr]) ++ [AE.dead])
        (xs := s.out.map lnA) (ys := s'.out.map lnA) (r := r) (r2 := r') (by
          rw [List.length_map]
          exact (ho.set (fun _ _ _ e => by rw [hf] at e; cases e)).app _) (by omega) (by simp) (by simp; omega) (by simp; omega)
      have o1 : Ow (h0.length + 2) (h.set (h0.length + 1) (AE.cells [AV.int IntKind.i64 m, AV.str s'.held, AV.bool s'.over, AV.bool s'.cr]) ++ [AE.dead]) 2 34 r s.out.length := (ho.set (fun _ _ _ e => by rw [hf] at e; cases e)).app _
      rw [e2]
      have e64 : IntKind.wrap .i64 ((i : Int) + 1) = ((i + 1 : Nat) : Int) := by rw [wrap64 (by omega) (by omega)]; rfl
      simp [wJ8_1, t1, t12, t13, e64, hj2]
      refine ⟨b.length - (k + j), by omega, i + 1, k + j, outB s.out s', r2, _, by omega, by omega, rfl, ?_, by simp; rfl, by simpa using t2, by simpa using t6, by simpa using t9, by simpa using t10, by simp [outB], by simp, ?_, ⟨p, q, u, v, ?_⟩, ?_, ?_⟩
      · have : pushB m s ((b.drop k).take j) = outB s.out s' := by
          rw [← hs', ← pushB_outB]
          simp [outB]
        rw [← this, hs0, pushB, pushB, ← List.foldl_append, List.take_add]
        rfl
      · rw [a2.takeLe (by omega), take_app (by simp; omega), take_set (by omega), ht]
      · exact a2.keep o1 (by rw [List.getElem?_append_left (by simp; omega), get_set_ne (by omega)]; exact hp) (by simp) (by omega)
      · exact a2.keep o1 (by rw [List.getElem?_append_left (by simp; omega), get_set_eq lf]; rfl) (by simp) (by omega)
      · simpa [outB] using o2
    have hpos : 0 < b.length - k := by omega
    by_cases hz : sizes = []
    · subst hz
      simp [wL8_0, s1, s2, s6, s9, s10, s11, s12, hpos]
      refine hpiece (b.length - k) _ (by omega) (Nat.le_refl _) ?_ ?_ ?_ ?_ ?_ ?_ ?_ ?_ <;> simp
    · have hz' : 0 < sizes.length := List.length_pos_iff.2 hz
      have hm : i % sizes.length < sizes.length := Nat.mod_lt _ hz'
      have hc : sizes[i % sizes.length]? = some sizes[i % sizes.length] := List.getElem?_eq_getElem hm
      generalize sizes[i % sizes.length] = c at hc
      have hcb := c.toNat_lt
      have w1 : IntKind.wrap .i64 (c.toNat : Int) = (c.toNat : Int) := wrap64 (by omega) (by omega)
      have w2 : IntKind.wrap .i64 (1 + (c.toNat : Int)) = ((1 + c.toNat : Nat) : Int) := by rw [wrap64 (by omega) (by omega)]; simp
      have hmin : (if ((1 + c.toNat : Nat) : Int) < ((b.length - k : Nat) : Int) then ((1 + c.toNat : Nat) : Int) else ((b.length - k : Nat) : Int)) = ((min (b.length - k) (1 + c.toNat) : Nat) : Int) := by split <;> omega
      have he : ((i : Int) % (sizes.length : Int)).toNat = i % sizes.length := by rw [← Int.natCast_emod]; rfl
      have he0 : 0 ≤ (i : Int) % (sizes.length : Int) := by rw [← Int.natCast_emod]; omega
      simp [wL8_0, s1, s2, s6, s9, s10, s11, s12, hpos, hz', hz, hc, w1, w2, -Int.natCast_add, hmin, he, he0]
      refine hpiece (min (b.length - k) (1 + c.toNat)) _ (by omega) (by omega) ?_ ?_ ?_ ?_ ?_ ?_ ?_ ?_
      all_goals simp
      split <;> omega
  · have hkb : k = b.length := by omega
    subst hkb
    have lf := lt_of_get hf
    have ft : ∀ e, (h.set h0.length e).take h0.length = h0 := fun e => by rw [take_set (by omega), ht]
    have gs : ∀ e, (h.set h0.length e)[h0.length]? = some e := fun e => get_set_eq (by omega)
    simp [wL8_0, s1, s2, s6, s9, s10, s11, s12, wK8_0, hf, hp]
    subst hQ
    rw [List.take_length] at hs0
    rw [← hs0]
    have ho' : ∀ t, r = .tok t → ¬ t < h0.length := fun t e => by
      rcases ho with ho | ⟨t', e1, e2, _⟩
      · rw [ho] at e; cases e
      · rw [e1] at e; injection e with e; omega
    cases r with
    | no => rcases ho with ho | ⟨t', e1, e2, _⟩ <;> contradiction
    | full => simp [s6, gs, finish_of_take (ft _), allR, frA]; exact ⟨_, _, ⟨rfl, rfl⟩, .inr ⟨rfl, rfl⟩⟩
    | tok t => simp [s6, gs, finish_of_take (ft _), allR, frA, ho' t rfl]; exact ⟨_, _, ⟨rfl, rfl⟩, .inl ⟨rfl, rfl⟩⟩
end Go.Proofs.Ytmcjnbkodcdjnaa
