/-
  abnf: Parse.
-/
import Derived.Test.YtmmapbhhkmchcaaDoorA13
set_option linter.unusedVariables false
set_option linter.unusedSimpArgs false
namespace Go.Proofs.YtmmapbhhkmchcaaDoor
open Go Go.Am

def parR (res : List Ru × Int × Int) (h0 : Heap) (x : AV × Heap) : Prop := ∃ b, x = (.tup [.list 10 (res.1.map ruA) (rtB b), .int .i64 res.2.1, .int .i64 res.2.2], h0)
theorem ruA_low (n : Nat) (x : Ru) : (ruA x).low n := by
  have := Tr.encL_low n x.tree
  simp [ruA, this]
theorem rus_low (n : Nat) (l : List Ru) : AV.lows n (l.map ruA) := lows_map _ _ fun x _ => ruA_low n x
def InvPa (l : List Tok) (rt : Rt) (res : List Ru × Int × Int) (h0 : Heap) (k : Nat) (σ : Slots) (h : Heap) : Prop := ∃ a f out ro, a ≤ l.length ∧ k = l.length - a ∧ l.length - a < f ∧ out.length ≤ a ∧ rulesS l f a out = res ∧
  σ 0 = .list 7 (l.map tokA) rt ∧ σ 5 = .ptr h0.length 0 ∧ σ 6 = .list 10 (out.map ruA) ro ∧ Ow (h0.length + 1) h 10 26 ro out.length ∧ h.take (h0.length + 1) = h0 ++ [stC l rt a false]

theorem parse_ok (l : List Tok) (rt : Rt) (hl : l.length ≤ 1000000000) (ht : ∀ t ∈ l, t.text.length ≤ 1000000000) (h0 : Heap) (hrt0 : ∀ t, rt = .tok t → t < h0.length) : ∃ x, M.call 18 [.list 7 (l.map tokA) rt] h0 = some x ∧ parR (parseP l) h0 x := by
  refine call_post tab18 rfl ?_
  generalize hres : parseP l = res
  generalize hQ : (fun e σ h => isEnd e ∧ ∃ vs, resVals σ h [ARes.tmp 2, ARes.tmp 3, ARes.tmp 4] = some vs ∧ ∃ r, finish h0 h (oneOf vs) = some r ∧ parR res h0 r) = Q
  have fin : ∀ (σ : Slots) (h : Heap) (xs : List Ru) (r : Rt) (a b : Int), σ 2 = .list 10 (xs.map ruA) r → (r = .full ∨ ∃ t, r = .tok t ∧ h0.length ≤ t) → σ 3 = .int .i64 a → σ 4 = .int .i64 b → h.take h0.length = h0 → res = (xs, a, b) → Q .ret σ h := by
    intro σ h xs r a b s6 hr s7 s8 ht e
    subst hQ
    have k := rus_low h0.length xs
    subst e
    rcases hr with rfl | ⟨t, rfl, hr⟩
    · simp [s6, s7, s8, finish_of_take ht, parR, k]
      exact ⟨_, _, ⟨rfl, rfl⟩, .inr ⟨rfl, rfl⟩⟩
    · have hr' : ¬ t < h0.length := by omega
      simp [s6, s7, s8, finish_of_take ht, parR, k, hr']
      exact ⟨_, _, ⟨rfl, rfl⟩, .inl ⟨rfl, rfl⟩⟩
  unfold parseP at hres
  simp [wB18]
  refine Wp.loop (InvPa l rt res h0) ?_ (n := l.length) ⟨0, l.length + 1, [], .full, by omega, by omega, by omega, by simp, hres, by simp, by simp, by simp, .full, by rw [List.take_of_length_le (by simp)]; simp [stC]⟩
  rintro k σ h ⟨a, f, out, ro, ha, rfl, hf, hout, hd, s0, s5, s6, ow, hh⟩
  obtain ⟨f, rfl⟩ : ∃ g, f = g + 1 := ⟨f - 1, by omega⟩
  unfold rulesS at hd
  have hlen : h0.length + 1 ≤ h.length := by
    have := congrArg List.length hh
    simp at this
    omega
  have hst : h[h0.length]? = some (stC l rt a false) := by
    have := congrArg (fun q : Heap => q[h0.length]?) hh
    simp only [List.getElem?_take, if_pos (Nat.lt_succ_self _)] at this
    rw [this]
    simp
  have hh0 : h.take h0.length = h0 := by
    have := congrArg (List.take h0.length) hh
    simpa [List.take_take] using this
  by_cases hlt : a < l.length
  · rw [if_pos hlt] at hd
    have hstl := (List.getElem?_eq_some_iff.1 hst).1
    have ht0 : ∀ q : Heap, (h ++ q).take h0.length = h0 := fun q => by rw [List.take_append_of_le_length (by omega), hh0]
    have hrtl : ∀ t, rt = .tok t → t < h.length := fun t ht => by have := hrt0 t ht; omega
    obtain ⟨n, en⟩ : ∃ n, l[a]? = some n := ⟨_, List.getElem?_eq_getElem hlt⟩
    have hnl := ht n (List.mem_of_getElem? en)
    have hgen := HH_of hst
    obtain ⟨g, rfl, hgl⟩ := hgen
    rw [HH_len] at hlen hstl hrtl
    have hhg : ∀ (e : AE) (q : Heap), (HH g h0.length e ++ q).take h0.length = h0 := fun e q => by
      rw [List.take_append_of_le_length (by simp; omega)]
      have := hh0
      unfold HH at this ⊢
      rw [List.take_set_of_le (by omega)] at this ⊢
      exact this
    have T := fun (h : Heap) (hg : g.length ≤ h.length) t (ht : rt = .tok t) => show t < h.length by have := hrtl t ht; omega
    -- the reader's steps, behind an error
    have tno := fun (a : Nat) (off : Bool) ks (hk : ks.length ≤ 1000) (hn : nextB l a off ks = false) rk q => at_HH (r := h0.length) (g := g) hgl (fun h hg hr => take_no (rt := rt) hl a off ks hk rk h hr (T h hg) hn) q
    have tyes := fun (a : Nat) ks (hk : ks.length ≤ 1000) t (et : l[a]? = some t) (hn : ks.contains t.kind = true) rk q => at_HH (r := h0.length) (g := g) hgl (fun h hg hr => take_yes (rt := rt) hl a ks hk rk t et h hr (T h hg) hn) q
    have moff := fun (a : Nat) (s : List UInt8) q => at_HH (r := h0.length) (g := g) (e := stC l rt a true) (e' := stC l rt a true) hgl (fun h hg hr => by
      have := made_yes (l := l) (rt := rt) ⟨1, s, 0, 0, 0, 0, .list 7 [] .full⟩ a true h hr (by simp) (by simp)
      rw [this, set_same' hr]) q
    simp only [Cell7.cs] at moff
    have choff : ∀ a : Nat, ∃ tg : Heap → Tr, ∀ q : Heap, M.call 35 [.ptr h0.length 0] (HH g h0.length (stC l rt a true) ++ q) = some ((tg q).enc, HH g h0.length (stC l rt a true) ++ q) := fun a => by
      obtain ⟨tg, htg⟩ := choices_off (rt := rt) (r := h0.length) hl a
      refine ⟨fun q => tg (HH g h0.length (stC l rt a true) ++ q), fun q => ?_⟩
      rw [htg _ (HH_get hgl q) (T _ (by simp)), HH_set hgl]
    have e1 := fun (e : AE) q => HH_get (g := g) (r := h0.length) (e := e) hgl q
    have e0' : (HH g h0.length (stC l rt a false))[h0.length]? = some (stC l rt a false) := HH_get0 hgl
    have e0 := fun (e : AE) => HH_get0 (g := g) (r := h0.length) (e := e) hgl
    have wl : IntKind.wrap .i64 ((l.length : Int) - 1) = ((l.length - 1 : Nat) : Int) := by rw [wrap64 (by omega) (by omega)]; omega
    have sm0 := small_ok [] (by simp)
    have sm1 := small_ok n.text hnl
    have hlt' : (a : Int) < l.length := by omega
    have offEnd : ∀ p : Nat, ruleS l a = .bad p → res = ([], posAt l p, 20) := fun p hp => by rw [hp] at hd; exact hd.symm
    have hmin : ∀ p : Nat, ∃ (m : Nat) (x : Tok), m < l.length ∧ l[m]? = some x ∧ (if l.length - 1 < p then ((l.length - 1 : Nat) : Int) else (p : Int)) = (m : Int) ∧ posAt l p = x.pos := fun p => by
      by_cases hp : l.length - 1 < p
      · refine ⟨l.length - 1, l[l.length - 1]'(by omega), by omega, List.getElem?_eq_getElem _, by rw [if_pos hp], ?_⟩
        unfold posAt
        rw [Nat.min_eq_right (by omega), List.getElem?_eq_getElem (by omega)]
      · refine ⟨p, l[p]'(by omega), by omega, List.getElem?_eq_getElem _, by rw [if_neg hp], ?_⟩
        unfold posAt
        rw [Nat.min_eq_left (by omega), List.getElem?_eq_getElem (by omega)]
    by_cases k1 : n.kind = 1
    · have hc1 : ([1] : List UInt8).contains n.kind = true := by rw [k1]; decide
      have tk1 := tyes a [1] (by simp) n en hc1
      have hlf : leafT n = .mk 1 (smallP n.text) 0 0 0 0 true [] := by simp [leafT, k1]
      have hlk : (leafT n).enc = .agg [.int .u8 1, .str (smallP n.text), .int .u8 0, .int .u8 0, .int .i64 0, .int .i64 0, .list 7 [] .full] := by rw [hlf]; simp [Tr.enc_mk]
      have hls : (leafT n).s.length ≤ 1000000000 := by rw [hlf]; simpa [Tr.s, smallP] using hnl
      cases hal : aloneP (leafT n) with
      | false =>
        have hb : ruleS l a = .bad a := by unfold ruleS; rw [en]; simp [hal]
        obtain ⟨m, x, hm, ex, em, ep⟩ := hmin a
        obtain ⟨tg, ch⟩ := choff a
        have mk := fun q => at_HH (r := h0.length) (g := g) hgl (fun h hg hr => madeT_no (rt := rt) hl (leafT n) hls a hlt h hr (T h hg) hal) q
        rw [hlk] at mk
        have tk2 := tno a true [2, 3] (by simp) (by simp [nextB])
        have tk3 := tno a true [13] (by simp) (by simp [nextB])
        unfold stC at tk1 tk2 tk3 mk ch e1 e0
        simp [-getElem?_pos, -Int.natCast_add, wL18_0, s0, s5, s6, stC, e1, e0, hlt, hlt', tk1, tk2, tk3, mk, ch, sm1, tok_zero, wl, em, ex, hm, tokA, tokL, k1, Nat.add_assoc]
        refine fin _ _ [] .full x.pos 20 ?_ (.inl rfl) ?_ ?_ (hhg _ _) (by rw [offEnd a hb, ep]) <;> simp
      | true =>
        have mk := fun q => at_HH (r := h0.length) (g := g) (e := stC l rt (a + 1) false) (e' := stC l rt (a + 1) false) hgl (fun h hg hr => by rw [madeT_yes (leafT n) hls (a + 1) h hr hal, set_same' hr]) q
        rw [hlk] at mk
        by_cases k23 : kd l (a + 1) = 2 ∨ kd l (a + 1) = 3
        · obtain ⟨n2, en2⟩ : ∃ n2, l[a + 1]? = some n2 := by
            have : a + 1 < l.length := by rcases k23 with e | e <;> exact kd_lt e (by decide)
            exact ⟨_, List.getElem?_eq_getElem this⟩
          have hk2 := kd_of en2
          have tk2 := tyes (a + 1) [2, 3] (by simp) n2 en2 (by rw [← hk2]; rcases k23 with e | e <;> rw [e] <;> decide)
          have cc := cho_ok (rt := rt) (r := h0.length) hl ht (a + 2)
          cases hch : choP l (a + 2) with
          | bad p =>
            have hb : ruleS l a = .bad p := by unfold ruleS; rw [en]; simp [k1, hal, k23, hch]
            rw [hch] at cc
            obtain ⟨m, x, hm, ex, em, ep⟩ := hmin p
            obtain ⟨tg, htg⟩ := cc
            have ch : ∃ tg : Heap → Tr, ∀ q : Heap, M.call 35 [.ptr h0.length 0] (HH g h0.length (stC l rt (a + 2) false) ++ q) = some ((tg q).enc, HH g h0.length (stC l rt p true) ++ q) :=
              ⟨fun q => tg (HH g h0.length (stC l rt (a + 2) false) ++ q), fun q => by rw [htg _ (HH_get hgl q) (T _ (by simp)), HH_set hgl]⟩
            obtain ⟨tg, ch⟩ := ch
            have tk3 := tno p true [13] (by simp) (by simp [nextB])
            unfold stC at tk1 tk2 tk3 mk ch e1 e0
            simp [-getElem?_pos, -Int.natCast_add, wL18_0, s0, s5, s6, stC, e1, e0, hlt, hlt', tk1, tk2, tk3, mk, ch, sm1, tok_zero, wl, em, ex, hm, tokA, tokL, k1, Nat.add_assoc]
            refine fin _ _ [] .full x.pos 20 ?_ (.inl rfl) ?_ ?_ (hhg _ _) (by rw [offEnd p hb, ep]) <;> simp
          | ok t m =>
            rw [hch] at cc
            have ch := fun q => at_HH (r := h0.length) (g := g) hgl (fun h hg hr => cc h hr (T h hg)) q
            have hpr := cho_prog hch
            have hto := cho_TOk hl ht hch
            by_cases k13 : kd l m = 13
            · obtain ⟨n3, en3⟩ : ∃ n3, l[m]? = some n3 := ⟨_, List.getElem?_eq_getElem (kd_lt k13 (by decide))⟩
              have tk3 := tyes m [13] (by simp) n3 en3 (by rw [← kd_of en3, k13]; decide)
              have hb : ruleS l a = .ok ⟨smallP n.text, n.pos, decide (kd l (a + 1) = 3), t⟩ (m + 1) := by unfold ruleS; rw [en]; simp [k1, hal, k23, hch, k13]
              rw [hb] at hd
              simp only at hd
              have rg := right_ok t hto
              cases hfit : fitsP 100 t with
              | false =>
                rw [hfit] at hd rg
                unfold stC at tk1 tk2 tk3 mk ch e1 e0
                simp [-getElem?_pos, -Int.natCast_add, wL18_0, s0, s5, s6, stC, e1, e0, hlt, hlt', tk1, tk2, tk3, mk, ch, rg, sm1, tok_zero, wl, tokA, tokL, k1, Nat.add_assoc]
                refine fin _ _ [] .full n.pos 21 ?_ (.inl rfl) ?_ ?_ (hhg _ _) hd.symm <;> simp
              | true =>
                rw [hfit] at hd rg
                simp only [if_true] at hd
                have e3 : ((n2.kind.toNat : Int) = 3) = (n2.kind = 3) := u8_eq n2.kind 3 (by omega)
                unfold stC at tk1 tk2 tk3 mk ch e1 e0
                simp [-getElem?_pos, -Int.natCast_add, wL18_0, s0, s5, s6, stC, e1, e0, hlt, hlt', tk1, tk2, tk3, mk, ch, rg, sm1, tok_zero, wl, tokA, tokL, k1, e3, Nat.add_assoc]
                have ow' : Ow (h0.length + 1) (HH g h0.length (stC l rt (m + 1) false)) 10 26 ro out.length := by
                  have := ow.set (i := h0.length) (x := stC l rt (m + 1) false) (fun s m f => by rw [e0']; simp [stC])
                  rwa [HH_set0] at this
                unfold stC at ow'
                obtain ⟨r2, g2, p1, p2, p3⟩ := app_list (n0 := h0.length + 1) (key := g.length + 6) (sz := 10) (bytes := 104) (e := 26)
                  (h := HH g h0.length (.cells [.list 7 (l.map tokA) rt, .int .i64 ((m + 1 : Nat) : Int), .bool false]) ++ [AE.tok 1 1 5,
                    AE.cells [AV.int IntKind.u8 1, AV.int IntKind.i64 n.pos, AV.str n.text, AV.int IntKind.i64 n.mn, AV.int IntKind.i64 n.mx, AV.int IntKind.u8 ↑n.lo.toNat, AV.int IntKind.u8 ↑n.hi.toNat],
                    AE.tok 1 2 5,
                    AE.cells [AV.int IntKind.u8 ↑n2.kind.toNat, AV.int IntKind.i64 n2.pos, AV.str n2.text, AV.int IntKind.i64 n2.mn, AV.int IntKind.i64 n2.mx, AV.int IntKind.u8 ↑n2.lo.toNat, AV.int IntKind.u8 ↑n2.hi.toNat],
                    AE.cells t.encL, AE.tok 1 1 5, AE.dead])
                  (xs := out.map ruA) (ys := [AV.agg (AV.str (smallP n.text) :: AV.int IntKind.i64 n.pos :: AV.bool (decide (n2.kind = 3)) :: t.encL)]) (r := ro) (r2 := .full)
                  (by simpa using ow'.app _) (by omega) (by simp) (by simp; omega) (by simp; omega)
                rw [p1]
                simp
                refine ⟨l.length - (m + 1), by omega, m + 1, f, out ++ [⟨smallP n.text, n.pos, decide (kd l (a + 1) = 3), t⟩], r2, by have := kd_lt k13 (by decide); omega, rfl, by omega, by simp; omega, hd, by simp [s0], by simp [s5], ?_, by simpa using p2, ?_⟩
                · simp [ruA, hk2]
                · rw [p3.take, List.take_append_of_le_length (by simp; omega)]
                  have h1 := congrArg (fun q : Heap => q.set h0.length (stC l rt (m + 1) false)) hh
                  simp only [← List.take_set, HH_set0] at h1
                  unfold stC at h1
                  rw [h1]
                  simp [stC]
            · have hb : ruleS l a = .bad m := by unfold ruleS; rw [en]; simp [k1, hal, k23, hch, k13]
              obtain ⟨mm, x, hm, ex, em, ep⟩ := hmin m
              have tk3 := tno m false [13] (by simp) (by
                unfold nextB
                cases e : l[m]? with
                | none => rfl
                | some t => rw [kd_of e] at k13; simp [k13])
              unfold stC at tk1 tk2 tk3 mk ch e1 e0
              simp [-getElem?_pos, -Int.natCast_add, wL18_0, s0, s5, s6, stC, e1, e0, hlt, hlt', tk1, tk2, tk3, mk, ch, sm1, tok_zero, wl, em, ex, hm, tokA, tokL, k1, Nat.add_assoc]
              refine fin _ _ [] .full x.pos 20 ?_ (.inl rfl) ?_ ?_ (hhg _ _) (by rw [offEnd m hb, ep]) <;> simp
        · have hb : ruleS l a = .bad (a + 1) := by unfold ruleS; rw [en]; simp [k1, hal, k23]
          obtain ⟨m, x, hm, ex, em, ep⟩ := hmin (a + 1)
          obtain ⟨tg, ch⟩ := choff (a + 1)
          have tk2 := tno (a + 1) false [2, 3] (by simp) (by
            unfold nextB
            cases e : l[a + 1]? with
            | none => rfl
            | some t => rw [kd_of e] at k23; simp at k23 ⊢; exact k23)
          have tk3 := tno (a + 1) true [13] (by simp) (by simp [nextB])
          unfold stC at tk1 tk2 tk3 mk ch e1 e0
          simp [-getElem?_pos, -Int.natCast_add, wL18_0, s0, s5, s6, stC, e1, e0, hlt, hlt', tk1, tk2, tk3, mk, ch, sm1, tok_zero, wl, em, ex, hm, tokA, tokL, k1, Nat.add_assoc]
          refine fin _ _ [] .full x.pos 20 ?_ (.inl rfl) ?_ ?_ (hhg _ _) (by rw [offEnd _ hb, ep]) <;> simp
    · have hb : ruleS l a = .bad a := by unfold ruleS; rw [en]; simp [k1]
      obtain ⟨m, x, hm, ex, em, ep⟩ := hmin a
      obtain ⟨tg, ch⟩ := choff a
      have tk1 := tno a false [1] (by simp) (by simp [nextB, en, k1])
      have tk2 := tno a true [2, 3] (by simp) (by simp [nextB])
      have tk3 := tno a true [13] (by simp) (by simp [nextB])
      have mk := moff a []
      simp [smallP] at sm0
      unfold stC at tk1 tk2 tk3 mk ch e1 e0
      simp [-getElem?_pos, -Int.natCast_add, wL18_0, s0, s5, s6, stC, e1, e0, hlt, hlt', tk1, tk2, tk3, mk, ch, sm0, tok_zero, wl, em, ex, hm, tokA, tokL, Nat.add_assoc]
      refine fin _ _ [] .full x.pos 20 ?_ (.inl rfl) ?_ ?_ (hhg _ _) (by rw [offEnd a hb, ep]) <;> simp
  · rw [if_neg hlt] at hd
    have hst' := hst
    unfold stC at hst'
    have hlt' : ¬ (a : Int) < l.length := by omega
    simp [-getElem?_pos, wL18_0, wK18_0, s0, s5, s6, hst', hlt, hlt']
    refine fin _ _ out ro 0 0 (by simp [s6]) ?_ (by simp) (by simp) hh0 hd.symm
    rcases ow with q | ⟨t, q1, q2, q3⟩
    · exact .inl q
    · exact .inr ⟨t, q1, by omega⟩
end Go.Proofs.YtmmapbhhkmchcaaDoor
