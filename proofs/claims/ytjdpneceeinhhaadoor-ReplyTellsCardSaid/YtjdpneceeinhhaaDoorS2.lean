/-
  frankingref18: Right, Print.
-/
import Derived.Test.YtjdpneceeinhhaaDoorS1
set_option linter.unusedVariables false
set_option linter.unusedSimpArgs false
namespace Go.Proofs.YtjdpneceeinhhaaDoor
open Go Go.Am

def InvRr (c : Int) (l : Txt) (r : Rt) (h0 : Heap) (k : Nat) (σ : Slots) (h : Heap) : Prop := ∃ i, i ≤ l.length ∧ k = l.length - i ∧ (l.take i).all saidP = true ∧ σ 1 = .ptr h0.length 0 ∧ σ 3 = .int .i64 i ∧ h = h0 ++ [.cells [.int .i64 c, .list 1 (l.map AV.str) r]]
theorem rright_ok (c : Int) (l : Txt) (hl : l.length ≤ big) (hm : ∀ s ∈ l, s.length ≤ big) (r : Rt) (h0 : Heap) : M.call 17 [repA c l r] h0 = some (.bool (rightP c l), h0) := by
  refine call_of tab17 rfl (callF_wp ?_)
  simp [wB17, repA, strL]
  refine Wp.loop (InvRr c l r h0) ?_ (n := l.length) ⟨0, by omega, by omega, by simp, by simp, by simp, by simp⟩
  rintro k σ h ⟨i, hi, rfl, hall, s1, s3, rfl⟩
  by_cases hlt : i < l.length
  · obtain ⟨s, es⟩ : ∃ s, l[i]? = some s := ⟨_, List.getElem?_eq_getElem hlt⟩
    have es' : (l.map AV.str)[i]? = some (.str s) := by rw [List.getElem?_map, es]; rfl
    have hltI : (i : Int) < l.length := by omega
    have e64 : IntKind.wrap .i64 ((i : Int) + 1) = ((i + 1 : Nat) : Int) := by rw [wrap64 (by omega) (by unfold big at hl; omega)]; rfl
    have ht := fun h => rtext_ok s (hm s (List.mem_of_getElem? es)) h
    cases hb : saidP s with
    | true =>
      rw [hb] at ht
      simp [-getElem?_pos, -List.getElem?_map, -Int.natCast_add, wL17_0, s1, s3, hlt, hltI, es', ht, e64]
      exact ⟨l.length - (i + 1), by omega, i + 1, by omega, rfl, by
        rw [List.take_add_one, es]
        simp [List.all_append, hb]
        simpa using hall, by simp [s1], by simp, rfl⟩
    | false =>
      rw [hb] at ht
      have : rightP c l = false := by
        unfold rightP
        have : l.all saidP = false := by
          rw [Bool.eq_false_iff]
          intro ha
          rw [List.all_eq_true] at ha
          have := ha s (List.mem_of_getElem? es)
          rw [hb] at this; cases this
        rw [this, Bool.and_false]
      simp [-getElem?_pos, -List.getElem?_map, -Int.natCast_add, wL17_0, s1, s3, hlt, hltI, es', ht, e64, this]
  · obtain rfl : i = l.length := by omega
    rw [List.take_of_length_le (Nat.le_refl _)] at hall
    have hk := fun h => rkind_ok c h
    have e0 : ((kindN c : Int) = 0) = (kindN c = 0) := propext ⟨fun h => by omega, fun h => by omega⟩
    have e1 : ((1 : Int) ≤ l.length) = (1 ≤ l.length) := propext ⟨fun h => by omega, fun h => by omega⟩
    have e2 : ((l.length : Int) ≤ 100) = (l.length ≤ 100) := propext ⟨fun h => by omega, fun h => by omega⟩
    by_cases k1 : kindN c = 0
    · simp [wL17_0, wK17_0, s1, s3, hk, e0, e1, e2, rightP, hall, k1]
    · have k1' : 0 < kindN c := by omega
      by_cases k2 : 1 ≤ l.length
      · have k2' : 0 < l.length := k2
        by_cases k3 : l.length ≤ 100
        · simp [wL17_0, wK17_0, s1, s3, hk, e0, e1, e2, rightP, hall, k1, k1', k2, k2', k3]
        · simp [wL17_0, wK17_0, s1, s3, hk, e0, e1, e2, rightP, hall, k1, k1', k2, k2', k3]
      · have k2' : ¬ 0 < l.length := k2
        simp [wL17_0, wK17_0, s1, s3, hk, e0, e1, e2, rightP, hall, k1, k1', k2, k2']

def InvRp (c : Int) (l : Txt) (n : Nat) (rl : Rt) (h0 : Heap) (k : Nat) (σ : Slots) (h : Heap) : Prop := ∃ (i : Nat) (r : Rt), i ≤ l.length ∧ k = l.length - i ∧
  σ 1 = .ptr h0.length 0 ∧ σ 4 = .str (dig3 n) ∧ σ 6 = .int .i64 i ∧ σ 5 = .list 1 (((prL c l).take i).map AV.str) r ∧
  h.take h0.length = h0 ∧ h[h0.length]? = some (.cells [.int .i64 c, .list 1 (l.map AV.str) rl]) ∧ Ow (h0.length + 1) h 1 9 r i
theorem rprint_ok (c : Int) (l : Txt) (hl : l.length ≤ big) (hm : ∀ s ∈ l, s.length ≤ big) (rl : Rt) (h0 : Heap) : ∃ x, M.call 19 [repA c l rl] h0 = some x ∧ prR (printP c l) h0 x := by
  refine call_post tab19 rfl ?_
  have hr := fun h => rright_ok c l hl hm rl h
  unfold printP
  cases hR : rightP c l with
  | false =>
    rw [hR] at hr
    simp [repA, strL] at hr
    simp [wB19, repA, strL, hr, prR]
  | true =>
    rw [hR] at hr
    simp [repA, strL] at hr
    obtain ⟨⟨n, rfl, hn1, hn2⟩, hl1, hl2, hsaid⟩ := right_spec hR
    have h3 := itoa3 (n := n) (by omega) (by omega)
    have q1 : (n : Int).tdiv 100 = ((n / 100 : Nat) : Int) := rfl
    have q2 : (n : Int).tdiv 10 = ((n / 10 : Nat) : Int) := rfl
    have q3 : ((n / 10 : Nat) : Int).tmod 10 = ((n / 10 % 10 : Nat) : Int) := rfl
    have q4 : (n : Int).tmod 10 = ((n % 10 : Nat) : Int) := rfl
    have hx : n / 100 ≤ 9 := by omega
    have hy : n / 10 % 10 ≤ 9 := by omega
    have hz : n % 10 ≤ 9 := by omega
    have w0 : IntKind.wrap .i64 ((n / 10 : Nat) : Int) = ((n / 10 : Nat) : Int) := wrap64 (by omega) (by omega)
    have hd3 : dig3 n = [dg (n / 100), dg (n / 10 % 10), dg (n % 10)] := rfl
    generalize n / 10 = t at *
    generalize n / 100 = x at *
    generalize t % 10 = y at *
    generalize n % 10 = z at *
    have wd : ∀ d : Nat, d ≤ 9 → IntKind.wrap .i64 (d : Int) = d := fun d hd => wrap64 (by omega) (by omega)
    have wa : ∀ d : Nat, d ≤ 9 → IntKind.wrap .i64 (48 + (d : Int)) = 48 + (d : Int) := fun d hd => wrap64 (by omega) (by omega)
    have wb : ∀ d : Nat, d ≤ 9 → IntKind.wrap .u8 (48 + (d : Int)) = 48 + (d : Int) := fun d hd => wrap8 (by omega) (by omega)
    have tn : ∀ d : Nat, (48 + (d : Int)).toNat = 48 + d := fun d => by omega
    have ab : asBytes [.int .u8 (48 + (x : Int)), .int .u8 (48 + (y : Int)), .int .u8 (48 + (z : Int))] = some (dig3 n) := by
      simp only [asBytes, Option.map_some, tn, hd3]
      rfl
    generalize hD : dig3 n = D at *
    have hDl : D.length = 3 := by rw [hd3]; rfl
    simp [wB19, repA, strL, hr, q1, q2, q3, q4, w0, wd x hx, wd y hy, wd z hz, wa x hx, wa y hy, wa z hz, wb x hx, wb y hy, wb z hz, ab]
    refine Wp.loop (InvRp n l n rl h0) ?_ (n := l.length) ⟨0, .full, by omega, by omega, by simp, by simp [hD], by simp, by simp, by simp, by simp, .full⟩
    rintro k σ h ⟨i, r, hi, rfl, s1, s4, s6, s5, ht, hh, ow⟩
    rw [hD] at s4
    have hle : h0.length + 1 ≤ h.length := by
      have := (List.getElem?_eq_some_iff.1 hh).1
      omega
    by_cases hlt : i < l.length
    · obtain ⟨s, es⟩ : ∃ s, l[i]? = some s := ⟨_, List.getElem?_eq_getElem hlt⟩
      have es' : (l.map AV.str)[i]? = some (.str s) := by rw [List.getElem?_map, es]; rfl
      have hsl : s.length ≤ 500 := by
        have := hsaid s (List.mem_of_getElem? es)
        simp [saidP] at this
        exact this.1
      have hltI : (i : Int) < l.length := by omega
      have e64 : IntKind.wrap .i64 ((i : Int) + 1) = ((i + 1 : Nat) : Int) := by rw [wrap64 (by omega) (by omega)]; rfl
      have w1 : IntKind.wrap .i64 ((l.length : Int) - 1) = (l.length : Int) - 1 := wrap64 (by omega) (by omega)
      have htake : (prL n l).take (i + 1) = (prL n l).take i ++ [mkL n l.length i s] := by rw [List.take_add_one, prL_get, es]; rfl
      have hpl : ((prL n l).take i).length = i := by rw [List.length_take, prL_len]; omega
      have hh' : ∀ l', (h ++ l')[h0.length]? = some (.cells [.int .i64 n, .list 1 (l.map AV.str) rl]) := fun l' => by rw [List.getElem?_append_left (by omega)]; exact hh
      generalize (prL n l).take i = P at *
      obtain ⟨r', g', p1, p2, p3⟩ := app_list (n0 := h0.length + 1) (key := h.length) (sz := 1) (bytes := 16) (e := 9) (h := h ++ [AE.dead]) (xs := P.map AV.str) (ys := [.str (mkL n l.length i s)]) (r := r) (r2 := .full)
        (by simpa [hpl] using ow.app _) (by omega) (by simp) (by rw [List.length_map, hpl]; simp; omega) (by rw [List.length_map, hpl]; simp; omega)
      have hg : g'[h0.length]? = some (.cells [.int .i64 n, .list 1 (l.map AV.str) rl]) := p3.keep (by simpa [hpl] using ow.app _) (hh' _) (fun _ _ _ h => by cases h) (by omega)
      have htk : g'.take h0.length = h0 := by rw [p3.takeLe (by omega), take_app (by omega), ht]
      have next : ∀ σ : Slots, σ 1 = .ptr h0.length 0 → σ 4 = .str D → σ 6 = .int .i64 ((i + 1 : Nat) : Int) → σ 5 = .list 1 (P.map AV.str ++ [.str (mkL n l.length i s)]) r' → ∃ m, m < l.length - i ∧ InvRp n l n rl h0 m σ g' := fun σ t1 t4 t6 t5 =>
        ⟨l.length - (i + 1), by omega, i + 1, r', by omega, rfl, t1, by rw [t4, hD], t6, by rw [t5, htake]; simp, htk, hg, by simpa [hpl] using p2⟩
      have b1 : D.length + 1 ≤ 140737488355328 := by omega
      have b2 : D.length + 1 + s.length ≤ 140737488355328 := by omega
      have b3 : D.length + (s.length + 1) ≤ 140737488355328 := by omega
      by_cases hlast : i + 1 = l.length
      · have hl' : ((i : Int) < (l.length : Int) - 1) = False := eq_false (by omega)
        have emk : mkL n l.length i s = D ++ 32 :: s := by unfold mkL; rw [if_pos hlast, h3]
        rw [emk] at p1 next
        simp [-getElem?_pos, -List.getElem?_map, -Int.natCast_add, wL19_0, s1, s4, s6, s5, hlt, hltI, es', hh, hh', w1, hl', b1, b2, b3]
        rw [p1]
        simp [-Int.natCast_add, s6, e64]
        exact next _ (by simp [s1]) (by simp [s4]) (by simp) (by simp)
      · have hl' : ((i : Int) < (l.length : Int) - 1) = True := eq_true (by omega)
        have emk : mkL n l.length i s = D ++ 45 :: s := by unfold mkL; rw [if_neg hlast, h3]
        rw [emk] at p1 next
        simp [-getElem?_pos, -List.getElem?_map, -Int.natCast_add, wL19_0, s1, s4, s6, s5, hlt, hltI, es', hh, hh', w1, hl', b1, b2, b3]
        rw [p1]
        simp [-Int.natCast_add, s6, e64]
        exact next _ (by simp [s1]) (by simp [s4]) (by simp) (by simp)
    · have hil : i = l.length := by omega
      subst hil
      have hltI : ((l.length : Int) < l.length) = False := eq_false (by omega)
      have hfull : (prL n l).take l.length = prL n l := List.take_of_length_le (by rw [prL_len]; exact Nat.le_refl _)
      rw [hfull] at s5
      have klow := txt_low h0.length (prL n l)
      simp [wL19_0, wK19_0, s1, s4, s6, s5, hh, hltI, prR, strL, finish_of_take ht]
      rcases r with _ | _ | t <;> simp [klow]
end Go.Proofs.YtjdpneceeinhhaaDoor
