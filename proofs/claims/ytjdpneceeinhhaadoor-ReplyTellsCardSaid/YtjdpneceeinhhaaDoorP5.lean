/-
  reply: Print.
-/
import Derived.Test.YtjdpneceeinhhaaDoorP4
set_option linter.unusedVariables false
set_option linter.unusedSimpArgs false
namespace Go.Proofs.YtjdpneceeinhhaaDoor
open Go Go.Am

def dg (n : Nat) : UInt8 := UInt8.ofNat (48 + n)
def dig3 (n : Nat) : List UInt8 := [dg (n / 100), dg (n / 10 % 10), dg (n % 10)]
theorem itoa3 {n : Nat} (h1 : 100 ≤ n) (h2 : n ≤ 999) : Lib.itoa (n : Int) = dig3 n := by
  unfold Lib.itoa
  rw [if_neg (by omega)]
  simp only [Int.toNat_natCast]
  rw [Lib.decDigits, dif_neg (by omega), Lib.decDigits, dif_neg (by omega), Lib.decDigits, dif_pos (by omega)]
  have : n / 10 / 10 = n / 100 := by omega
  simp [dig3, dg, this]
theorem dg_nat {n : Nat} (h : n ≤ 9) : (dg n).toNat = 48 + n := by
  unfold dg
  rw [UInt8.toNat_ofNat', Nat.mod_eq_of_lt (by omega)]
theorem num3 {n : Nat} (h2 : n ≤ 999) : numP (dg (n / 100)) (dg (n / 10 % 10)) (dg (n % 10)) = some n := by
  have a1 := dg_nat (n := n / 100) (by omega)
  have a2 := dg_nat (n := n / 10 % 10) (by omega)
  have a3 := dg_nat (n := n % 10) (by omega)
  unfold numP digC
  rw [a1, a2, a3]
  rw [if_pos (by simp; omega)]
  congr 1
  omega
def mkL (c : Int) (n i : Nat) (s : List UInt8) : List UInt8 := Lib.itoa c ++ ((if i + 1 = n then 32 else 45) :: s)
def prL (c : Int) (l : Txt) : Txt := l.zipIdx.map fun p => mkL c l.length p.2 p.1
theorem prL_len (c : Int) (l : Txt) : (prL c l).length = l.length := by simp [prL]
theorem prL_get (c : Int) (l : Txt) (i : Nat) : (prL c l)[i]? = (l[i]?).map (mkL c l.length i) := by
  simp [prL, List.getElem?_zipIdx]
  cases l[i]? <;> simp
def printP (c : Int) (l : Txt) : Txt × Int := if rightP c l then (prL c l, 0) else ([], 180)
theorem right_spec {c : Int} {l : Txt} (h : rightP c l = true) : (∃ n : Nat, c = n ∧ 200 ≤ n ∧ n ≤ 599) ∧ 0 < l.length ∧ l.length ≤ 100 ∧ ∀ s ∈ l, saidP s = true := by
  simp only [rightP, Bool.and_eq_true, decide_eq_true_eq] at h
  obtain ⟨⟨h1, h2, h3⟩, h4⟩ := h
  rw [List.all_eq_true] at h4
  refine ⟨⟨c.toNat, ?_, ?_, ?_⟩, h2, h3, h4⟩ <;> (unfold kindN at h1; split at h1 <;> omega)
def prR (res : Txt × Int) (h0 : Heap) (x : AV × Heap) : Prop := ∃ r, x = (.tup [strL res.1 r, .int .i64 res.2], h0)
def InvPr (c : Int) (l : Txt) (rl : Rt) (h0 : Heap) (k : Nat) (σ : Slots) (h : Heap) : Prop := ∃ (i : Nat) (r : Rt), i ≤ l.length ∧ k = l.length - i ∧
  σ 1 = .ptr h0.length 0 ∧ σ 12 = strL l rl ∧ σ 13 = .int .i64 l.length ∧ σ 14 = .int .i64 i ∧ σ 4 = .list 1 (((prL c l).take i).map AV.str) r ∧
  h.take h0.length = h0 ∧ h[h0.length]? = some (.cells [.int .i64 c, strL l rl]) ∧ Ow (h0.length + 1) h 1 9 r i
theorem print_ok (c : Int) (l : Txt) (hl : l.length ≤ big) (rl : Rt) (h0 : Heap) : ∃ x, M.call 9 [repA c l rl] h0 = some x ∧ prR (printP c l) h0 x := by
  refine call_post tab9 rfl ?_
  have hr := fun h => right_ok c l hl rl h
  unfold printP
  cases hR : rightP c l with
  | false =>
    rw [hR] at hr
    simp [repA, strL] at hr
    simp [wB9, repA, strL, hr, prR]
  | true =>
    rw [hR] at hr
    simp [repA, strL] at hr
    obtain ⟨⟨n, rfl, hn1, hn2⟩, hl1, hl2, hsaid⟩ := right_spec hR
    have hit := fun h => itoa_ok (n : Int) (by omega) (by omega) h
    have h3 := itoa3 (n := n) (by omega) (by omega)
    simp [wB9, repA, strL, hr]
    refine Wp.loop (InvPr n l rl h0) ?_ (n := l.length) ⟨0, .full, by omega, by omega, by simp, by simp [strL], by simp, by simp, by simp, by simp, by simp [strL], .full⟩
    rintro k σ h ⟨i, r, hi, rfl, s1, s12, s13, s14, s4, ht, hh, ow⟩
    unfold strL at s12 hh
    have hle : h0.length + 1 ≤ h.length := by
      have := (List.getElem?_eq_some_iff.1 hh).1
      omega
    by_cases hlt : i < l.length
    · obtain ⟨s, es⟩ : ∃ s, l[i]? = some s := ⟨_, List.getElem?_eq_getElem hlt⟩
      have es' : (l.map AV.str)[i]? = some (.str s) := by rw [List.getElem?_map, es]; rfl
      have hsl : s.length ≤ 500 := by
        have := hsaid s (List.mem_of_getElem? es)
        simp [saidP] at this
        exact this.1
      have hltI : (i : Int) < l.length := by omega
      have e64 : IntKind.wrap .i64 ((i : Int) + 1) = ((i + 1 : Nat) : Int) := by rw [wrap64 (by omega) (by omega)]; rfl
      have w1 : IntKind.wrap .i64 ((l.length : Int) - 1) = (l.length : Int) - 1 := wrap64 (by omega) (by omega)
      have htake : (prL n l).take (i + 1) = (prL n l).take i ++ [mkL n l.length i s] := by rw [List.take_add_one, prL_get, es]; rfl
      have h3l : (Lib.itoa (n : Int)).length = 3 := by rw [h3]; rfl
      have hpl : ((prL n l).take i).length = i := by rw [List.length_take, prL_len]; omega
      have hh' : ∀ l', (h ++ l')[h0.length]? = some (.cells [.int .i64 n, .list 1 (l.map AV.str) rl]) := fun l' => by rw [List.getElem?_append_left (by omega)]; exact hh
      generalize (prL n l).take i = P at *
      obtain ⟨r', g', p1, p2, p3⟩ := app_list (n0 := h0.length + 1) (key := h.length) (sz := 1) (bytes := 16) (e := 9) (h := h ++ [AE.dead]) (xs := P.map AV.str) (ys := [.str (mkL n l.length i s)]) (r := r) (r2 := .full)
        (by simpa [hpl] using ow.app _) (by omega) (by simp) (by rw [List.length_map, hpl]; simp; omega) (by rw [List.length_map, hpl]; simp; omega)
      have hg : g'[h0.length]? = some (.cells [.int .i64 n, .list 1 (l.map AV.str) rl]) := p3.keep (by simpa [hpl] using ow.app _) (hh' _) (fun _ _ _ h => by cases h) (by omega)
      have htk : g'.take h0.length = h0 := by rw [p3.takeLe (by omega), take_app (by omega), ht]
      have next : ∀ σ : Slots, σ 1 = .ptr h0.length 0 → σ 12 = strL l rl → σ 13 = .int .i64 l.length → σ 14 = .int .i64 ((i + 1 : Nat) : Int) → σ 4 = .list 1 (P.map AV.str ++ [.str (mkL n l.length i s)]) r' → ∃ m, m < l.length - i ∧ InvPr n l rl h0 m σ g' := fun σ t1 t12 t13 t14 t4 =>
        ⟨l.length - (i + 1), by omega, i + 1, r', by omega, rfl, t1, t12, t13, t14, by rw [t4, htake]; simp, htk, by rw [hg]; rfl, by simpa [hpl] using p2⟩
      have b1 : (Lib.itoa (n : Int)).length + 1 ≤ 140737488355328 := by omega
      have b2 : (Lib.itoa (n : Int)).length + 1 + s.length ≤ 140737488355328 := by omega
      have b3 : (Lib.itoa (n : Int)).length + (s.length + 1) ≤ 140737488355328 := by omega
      by_cases hlast : i + 1 = l.length
      · have hl' : ((i : Int) = (l.length : Int) - 1) = True := eq_true (by omega)
        have emk : mkL n l.length i s = Lib.itoa n ++ 32 :: s := by unfold mkL; rw [if_pos hlast]
        rw [emk] at p1 next
        simp [-getElem?_pos, -List.getElem?_map, -Int.natCast_add, wL9_0, s1, s12, s13, s14, s4, hlt, hltI, es', hh, hh', w1, hl', hit, b1, b2, b3]
        rw [p1]
        simp [-Int.natCast_add, s14, e64]
        exact next _ (by simp [s1]) (by simp [s12, strL]) (by simp [s13]) (by simp) (by simp)
      · have hl' : ¬ (i : Int) = (l.length : Int) - 1 := by omega
        have emk : mkL n l.length i s = Lib.itoa n ++ 45 :: s := by unfold mkL; rw [if_neg hlast]
        rw [emk] at p1 next
        simp [-getElem?_pos, -List.getElem?_map, -Int.natCast_add, wL9_0, s1, s12, s13, s14, s4, hlt, hltI, es', hh, hh', w1, hl', hit, b1, b2, b3]
        rw [p1]
        simp [-Int.natCast_add, s14, e64]
        exact next _ (by simp [s1]) (by simp [s12, strL]) (by simp [s13]) (by simp) (by simp)
    · have hil : i = l.length := by omega
      subst hil
      have hltI : ((l.length : Int) < l.length) = False := eq_false (by omega)
      have hfull : (prL n l).take l.length = prL n l := List.take_of_length_le (by rw [prL_len]; exact Nat.le_refl _)
      rw [hfull] at s4
      have klow := txt_low h0.length (prL n l)
      simp [wL9_0, wK9_0, s1, s12, s13, s14, s4, hltI, prR, strL, finish_of_take ht]
      rcases r with _ | _ | t <;> simp [klow]
end Go.Proofs.YtjdpneceeinhhaaDoor
