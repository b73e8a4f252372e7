/-
  rules: Leads.
-/
import Derived.Test.YtcflbdikkcpiaaaGreatDoorXP
set_option linter.unusedVariables false
set_option linter.unusedSimpArgs false
namespace Go.Proofs.YtcflbdikkcpiaaaGreatDoor
open Go Go.Am
theorem rightG_new : ∀ {l : List Ru} {ahead : List (List UInt8)} {j : Nat} {x : Ru}, rightG l ahead = true → l[j]? = some x → x.name ∉ ahead ++ (l.take j).map Ru.name
 | [], ahead, j, x, _, h => by simp at h
 | y :: l, ahead, 0, x, hr, h => by
  simp at h
  subst h
  rw [rightG] at hr
  split at hr
  ·cases hr
  ·rename_i hn
   simp at hn
   simpa using hn.2.2.1
 | y :: l, ahead, j + 1, x, hr, h => by
  rw [rightG] at hr
  split at hr
  ·cases hr
  ·have := rightG_new (j := j) (x := x) hr (by simpa using h)
   simpa using this
def ledP (rows : List Ru) (a : Nat) (been : List Bool) : Nat → List Ru → List (List UInt8)
 | _, [] => []
 | i, x :: l => if been[i]?.getD false && decide (i ≠ a) then x.name :: ledP rows a been (i + 1) l else ledP rows a been (i + 1) l
def leadsP (l : List Ru) (s : List UInt8) : List (List UInt8) × Bool :=
 if (findG l s).2 && rightG l [] then (ledP l (findG l s).1 (thr (nxG l) (l.length + 1) (findG l s).1 (List.replicate l.length false, [])).1 0 l, true) else ([], false)
def InvLd0 (l : List Ru) (r : Rt) (a : Nat) (h0 : Heap) (k : Nat) (σ : Slots) (h : Heap) : Prop := ∃ i, i ≤ l.length ∧ k = l.length - i ∧ h.take h0.length = h0 ∧ h0.length + 3 ≤ h.length ∧ h[h0.length]? = some (.cells [.list 10 (l.map ruA) r]) ∧ h[h0.length + 1]? = some (.amap (keysE ((l.take i).map Ru.name) 0)) ∧ h[h0.length + 2]? = some (.cells [.list 10 (l.map ruA) r, .map (h0.length + 1)]) ∧ σ 2 = .ptr h0.length 0 ∧ σ 6 = .int .i64 (a : Nat) ∧ σ 8 = .ptr (h0.length + 2) 0 ∧ σ 33 = .list 10 (l.map ruA) r ∧ σ 34 = .int .i64 (l.length : Nat) ∧ σ 35 = .int .i64 (i : Nat)
theorem ld0 (l : List Ru) (r : Rt) (a : Nat) (hl : l.length ≤ 1000000) (hr : rightG l [] = true) (h0 : Heap) (Q : Ex → Slots → Heap → Prop)
  (hK : ∀ σ h, h.take h0.length = h0 → h0.length + 3 ≤ h.length → h[h0.length]? = some (.cells [.list 10 (l.map ruA) r]) → h[h0.length + 1]? = some (.amap (keysE (l.map Ru.name) 0)) → h[h0.length + 2]? = some (.cells [.list 10 (l.map ruA) r, .map (h0.length + 1)]) → σ 2 = .ptr h0.length 0 → σ 6 = .int .i64 (a : Nat) → σ 8 = .ptr (h0.length + 2) 0 → Wp M K16_1 Q σ h) :
  ∀ (σ : Slots) (g : Heap), InvLd0 l r a h0 l.length σ g → Wp M (.loop L16_0) (blkQ 0 (thenQ (Wp M K16_1 Q) Q)) σ g := by
 intro σ g hI
 refine Wp.loop (InvLd0 l r a h0) ?_ (n := l.length) hI
 clear hI σ g
 rintro k σ g ⟨i, hi, rfl, hg, hgl, g0, g1, g2, s2, s6, s8, s33, s34, s35⟩
 by_cases hlt : i < l.length
 ·obtain ⟨x, hxi⟩ : ∃ x, l[i]? = some x := ⟨_, List.getElem?_eq_getElem hlt⟩
  have hltI : (i : Int) < l.length := by omega
  have hadd : IntKind.wrap .i64 ((i : Int) + 1) = ((i + 1 : Nat) : Int) := by rw [wrap64 (by omega) (by omega)]; rfl
  have hnew := rightG_new hr hxi
  simp only [List.nil_append] at hnew
  have hpk := posK_none.2 hnew
  rw [List.map_take] at hpk
  have g1' : ∀ q, (g ++ q)[h0.length + 1]? = some (.amap (keysE ((l.take i).map Ru.name) 0)) := fun q => get_left g1 q
  have g2' : ∀ q, (g ++ q)[h0.length + 2]? = some (.cells [.list 10 (l.map ruA) r, .map (h0.length + 1)]) := fun q => get_left g2 q
  have hlen : ((l.take i).map Ru.name).length = i := by simp; omega
  have hsn : keysE ((l.take i).map Ru.name) 0 ++ [(.str x.name, .int .i64 (i : Nat))] = keysE ((l.take (i + 1)).map Ru.name) 0 := by
   rw [List.take_add_one, hxi]
   simp only [Option.toList_some, List.map_append, List.map_cons, List.map_nil]
   rw [keysE_snoc, hlen, Nat.zero_add]
  simp [-getElem?_pos, -Int.natCast_add, wL16_0, s2, s6, s8, s33, s34, s35, hltI, hlt, hxi, ruA_cells, ruL_take, ruL_agg, ruL_name, g1', g2', find_keys, hpk, hadd]
  simp only [List.map_take] at hsn
  rw [hsn]
  refine ⟨l.length - (i + 1), by omega, i + 1, by omega, rfl, ?_, by simp; omega, ?_, ?_, ?_, by simp [s2], by simp [s6], by simp [s8], by simp [s33], by simp [s34], by simp⟩
  ·rw [take_set (by omega), List.take_append_of_le_length (by omega)]; exact hg
  ·rw [get_set_ne (by omega)]; exact get_left g0 _
  ·rw [get_set_eq (by simp; omega), List.map_take]
  ·rw [get_set_ne (by omega)]; exact g2' _
 ·obtain rfl : i = l.length := by omega
  simp only [List.take_length] at g1
  simp [-getElem?_pos, -Int.natCast_add, wL16_0, s33, s34, s35]
  exact hK _ _ hg hgl g0 g1 g2 (by simp [s2]) (by simp [s6]) (by simp [s8])
def InvLd1 (l : List Ru) (r : Rt) (a : Nat) (been : List Bool) (R : List (List UInt8)) (m pw kb : Nat) (out : List Nat) (ro : Rt) (H : Heap) (k : Nat) (σ : Slots) (h : Heap) : Prop := ∃ i acc q, i ≤ l.length ∧ k = l.length - i ∧ acc ++ ledP l a been i (l.drop i) = R ∧ acc.length ≤ i ∧ h.take H.length = H ∧ H.length ≤ pw ∧ H.length ≤ kb ∧
 h[pw]? = some (.cells [.list 10 (l.map ruA) r, .map m, .sl 1 kb 0 l.length l.length, .list 1 (ints out) ro]) ∧ h[kb]? = some (.cells (been.map AV.bool)) ∧ σ 6 = .int .i64 (a : Nat) ∧ σ 11 = .ptr pw 0 ∧ σ 12 = .list 1 (acc.map AV.str) q ∧ σ 57 = .list 10 (l.map ruA) r ∧ σ 58 = .int .i64 (l.length : Nat) ∧ σ 59 = .int .i64 (i : Nat) ∧
 ((acc = [] ∧ q = .full) ∨ (acc ≠ [] ∧ ∃ u, q = .tok u ∧ H.length ≤ u ∧ h[u]? = some (.tok 1 acc.length 9)))
theorem ld1 (l : List Ru) (r : Rt) (a : Nat) (been : List Bool) (R : List (List UInt8)) (m pw kb : Nat) (out : List Nat) (ro : Rt) (H : Heap) (hl : l.length ≤ 1000000) (hb : been.length = l.length) (Q : Ex → Slots → Heap → Prop)
  (hQ : ∀ (σ : Slots) (h : Heap) (q : Rt), h.take H.length = H → (q = .full ∨ ∃ u, q = .tok u ∧ H.length ≤ u) → σ 4 = .list 1 (R.map AV.str) q → σ 5 = .bool true → Q .ret σ h) :
  ∀ (σ : Slots) (g : Heap), InvLd1 l r a been R m pw kb out ro H l.length σ g → Wp M (.loop L16_1) (blkQ 2 (thenQ (Wp M K16_0 Q) Q)) σ g := by
 intro σ g hI
 refine Wp.loop (InvLd1 l r a been R m pw kb out ro H) ?_ (n := l.length) hI
 clear hI σ g
 rintro k σ g ⟨i, acc, q, hi, rfl, hr, hacc, hg, hpw, hkb, gp, gk, s6, s11, s12, s57, s58, s59, how⟩
 have hgp := lt_of_get gp
 have hgk := lt_of_get gk
 by_cases hlt : i < l.length
 ·obtain ⟨x, hxi⟩ : ∃ x, l[i]? = some x := ⟨_, List.getElem?_eq_getElem hlt⟩
  have hd : l.drop i = x :: l.drop (i + 1) := by
   rw [List.drop_eq_getElem_cons hlt]
   congr 1
   rw [List.getElem?_eq_getElem hlt] at hxi
   exact Option.some.inj hxi
  have hltI : (i : Int) < l.length := by omega
  have hadd : IntKind.wrap .i64 ((i : Int) + 1) = ((i + 1 : Nat) : Int) := by rw [wrap64 (by omega) (by omega)]; rfl
  obtain ⟨bv, hbv⟩ : ∃ bv, been[i]? = some bv := ⟨_, List.getElem?_eq_getElem (by omega)⟩
  have gp' : ∀ z, (g ++ z)[pw]? = some (.cells [.list 10 (l.map ruA) r, .map m, .sl 1 kb 0 l.length l.length, .list 1 (ints out) ro]) := fun z => get_left gp z
  have gk' : ∀ z, (g ++ z)[kb]? = some (.cells (been.map AV.bool)) := fun z => get_left gk z
  have take' : ∀ z, (g ++ z).take H.length = H := fun z => by rw [List.take_append_of_le_length (by omega)]; exact hg
  rw [hd, ledP, hbv] at hr
  simp only [Option.getD_some] at hr
  have hia : ((i : Int) = (a : Int)) = (i = a) := by apply propext; omega
  have stay : ∀ (σ' : Slots), σ' 6 = .int .i64 (a : Nat) → σ' 11 = .ptr pw 0 → σ' 12 = .list 1 (acc.map AV.str) q → σ' 57 = .list 10 (l.map ruA) r → σ' 58 = .int .i64 (l.length : Nat) → σ' 59 = .int .i64 ((i + 1 : Nat) : Int) → acc ++ ledP l a been (i + 1) (l.drop (i + 1)) = R → ∃ m_1, m_1 < l.length - i ∧ InvLd1 l r a been R m pw kb out ro H m_1 σ' (g ++ [.cells (ruL x)]) := by
   intro σ' u6 u11 u12 u57 u58 u59 hrr
   refine ⟨l.length - (i + 1), by omega, i + 1, acc, q, by omega, rfl, hrr, by omega, take' _, hpw, hkb, gp' _, gk' _, u6, u11, u12, u57, u58, u59, ?_⟩
   rcases how with e | ⟨e0, u, e1, e2, e3⟩
   ·exact .inl e
   ·exact .inr ⟨e0, u, e1, e2, get_left e3 _⟩
  cases bv with
  | false =>
   simp only [Bool.false_and, Bool.false_eq_true, if_false] at hr
   simp [-getElem?_pos, -Int.natCast_add, wL16_1, wJ16_0, s6, s11, s12, s57, s58, s59, hltI, hlt, hxi, ruA_cells, ruL_take, ruL_agg, ruL_name, gp', gk', hbv, hadd]
   refine stay _ ?_ ?_ ?_ ?_ ?_ ?_ hr <;> simp [s6, s11, s12, s57, s58]
  | true =>
   by_cases hiA : i = a
   ·subst hiA
    simp only [ne_eq, not_true_eq_false, decide_false, Bool.and_false, Bool.false_eq_true, if_false] at hr
    simp [-getElem?_pos, -Int.natCast_add, wL16_1, wJ16_0, s6, s11, s12, s57, s58, s59, hltI, hlt, hxi, ruA_cells, ruL_take, ruL_agg, ruL_name, gp', gk', hbv, hadd]
    refine stay _ ?_ ?_ ?_ ?_ ?_ ?_ hr <;> simp [s6, s11, s12, s57, s58]
   ·have hiI : ¬ (i : Int) = (a : Int) := by omega
    simp only [ne_eq, hiA, not_false_eq_true, decide_true, Bool.and_self, if_true] at hr
    simp [-getElem?_pos, -Int.natCast_add, wL16_1, wJ16_0, s6, s11, s12, s57, s58, s59, hltI, hlt, hxi, ruA_cells, ruL_take, ruL_agg, ruL_name, gp', gk', hbv, hadd, hiI, hiA]
    have hrr : (acc ++ [x.name]) ++ ledP l a been (i + 1) (l.drop (i + 1)) = R := by simpa using hr
    have hsn : acc.map AV.str ++ [.str x.name] = (acc ++ [x.name]).map AV.str := by simp
    have hlm : (acc.map AV.str).length = acc.length := by simp
    rcases how with ⟨rfl, rfl⟩ | ⟨h0, u, rfl, hu1, hu2⟩
    ·refine onO_appK (xs := List.map AV.str []) trivial (by simp) (by simp) (by simp) ?_
     rw [hsn, hlm]
     simp [-getElem?_pos, -Int.natCast_add, kill, wJ16_0, s59, hadd]
     refine ⟨l.length - (i + 1), by omega, i + 1, [x.name], .tok (g.length + 1), by omega, rfl, by simpa using hrr, by simp, take' _, hpw, hkb, gp' _, gk' _, by simp [s6], by simp [s11], by simp, by simp [s57], by simp [s58], by simp, .inr ⟨by simp, g.length + 1, rfl, by omega, ?_⟩⟩
     rw [List.getElem?_append_right (by omega)]
     simp
    ·have hul := lt_of_get hu2
     refine onO_appK (by show (g ++ _)[u]? = _; rw [hlm]; exact get_left hu2 _) (by simp) (by rw [hlm]; simp; omega) (by rw [hlm]; simp; omega) ?_
     rw [hsn, hlm]
     have hk1 : ∀ z, (g ++ z).set u .dead = g.set u .dead ++ z := fun z => by rw [List.set_append_left _ _ hul]
     have hup : u ≠ pw := fun e => by rw [e, gp] at hu2; cases hu2
     have huk : u ≠ kb := fun e => by rw [e, gk] at hu2; cases hu2
     simp [-getElem?_pos, -Int.natCast_add, kill, wJ16_0, s59, hadd, hk1]
     refine ⟨l.length - (i + 1), by omega, i + 1, acc ++ [x.name], .tok (g.length + 1), by omega, rfl, hrr, by simp; omega, ?_, hpw, hkb, get_left (by rw [get_set_ne hup]; exact gp) _, get_left (by rw [get_set_ne huk]; exact gk) _, by simp [s6], by simp [s11], by simp, by simp [s57], by simp [s58], by simp, .inr ⟨by simp, g.length + 1, rfl, by omega, ?_⟩⟩
     ·rw [List.take_append_of_le_length (by simp; omega), take_set hu1]; exact hg
     ·rw [List.getElem?_append_right (by simp)]
      simp
 ·obtain rfl : i = l.length := by omega
  simp only [List.drop_length, ledP, List.append_nil] at hr
  subst hr
  simp [-getElem?_pos, -Int.natCast_add, wL16_1, wK16_0, s12, s57, s58, s59]
  refine hQ _ g q hg ?_ (by simp) (by simp)
  rcases how with ⟨_, e⟩ | ⟨_, u, e1, e2, _⟩
  ·exact .inl e
  ·exact .inr ⟨u, e1, e2⟩
theorem leads_ok (l : List Ru) (r : Rt) (s : List UInt8) (hl : l.length ≤ 1000000) (hx : ∀ x ∈ l, ROk x) (h0 : Heap) : ∃ b, M.call 16 [gmA l r, .str s] h0 = some (.tup [.list 1 ((leadsP l s).1.map AV.str) (rtB b), .bool (leadsP l s).2], h0) := by
 obtain ⟨P, hP⟩ : ∃ P, leadsP l s = P := ⟨_, rfl⟩
 rw [hP]
 suffices key : ∃ x, M.call 16 [gmA l r, .str s] h0 = some x ∧ ∃ b, x = (.tup [.list 1 (P.1.map AV.str) (rtB b), .bool P.2], h0) by
  obtain ⟨x, e, b, rfl⟩ := key
  exact ⟨b, e⟩
 refine call_post tab16 rfl ?_
 generalize hQ : (fun e σ h => isEnd e ∧ ∃ vs, resVals σ h [ARes.tmp 4, ARes.tmp 5] = some vs ∧ ∃ x, finish h0 h (oneOf vs) = some x ∧ ∃ b, x = (.tup [.list 1 (P.1.map AV.str) (rtB b), .bool P.2], h0)) = Q
 have fin : ∀ (σ : Slots) (h : Heap) (q : Rt), h.take h0.length = h0 → (q = .full ∨ ∃ u, q = .tok u ∧ h0.length ≤ u) → σ 4 = .list 1 (P.1.map AV.str) q → σ 5 = .bool P.2 → Q .ret σ h := by
  intro σ h q e1 e3 e4 e5
  subst hQ
  have hlow : AV.lows h0.length (P.1.map AV.str) := lows_iff.2 fun y hy => by
   obtain ⟨k, _, rfl⟩ := List.mem_map.1 hy
   trivial
  rcases e3 with rfl | ⟨u, rfl, hu⟩
  ·simp [e4, e5]
   rw [finish_of_take e1]
   simp [clean, cleans2, clean2, cleans, clean1, hlow, AV.low]
   exact ⟨_, _, ⟨rfl, rfl⟩, .inr ⟨rfl, rfl⟩⟩
  ·have hu' : ¬ u < h0.length := by omega
   simp [e4, e5]
   rw [finish_of_take e1]
   simp [clean, cleans2, clean2, cleans, clean1, hlow, AV.low, hu']
   exact ⟨_, _, ⟨rfl, rfl⟩, .inl ⟨rfl, rfl⟩⟩
 have fd := find_ok l r s (by omega)
 have rg := gright_ok l r (by omega) hx
 unfold gmA at fd rg
 unfold leadsP at hP
 cases h1 : (findG l s).2 with
 | false =>
  rw [h1] at fd hP
  simp only [Bool.false_and, Bool.false_eq_true, if_false] at hP
  subst hP
  simp [-getElem?_pos, -Int.natCast_add, wB16, gmA, fd]
  exact fin _ _ .full (by simp) (.inl rfl) (by simp) (by simp)
 | true =>
  cases h2 : rightG l [] with
  | false =>
   rw [h1] at fd
   rw [h2] at rg
   rw [h1, h2] at hP
   simp only [Bool.and_false, Bool.false_eq_true, if_false] at hP
   subst hP
   simp [-getElem?_pos, -Int.natCast_add, wB16, gmA, fd, rg]
   exact fin _ _ .full (by simp) (.inl rfl) (by simp) (by simp)
  | true =>
   rw [h1] at fd
   rw [h2] at rg
   rw [h1, h2] at hP
   simp only [Bool.and_self, if_true] at hP
   have hal : (findG l s).1 < l.length := by
    unfold findG at h1 ⊢
    cases hp : posK s (l.map Ru.name) with
    | none => rw [hp] at h1; cases h1
    | some j => have := (posK_some hp).1; simpa using this
   obtain ⟨a, ha⟩ : ∃ a, (findG l s).1 = a := ⟨_, rfl⟩
   rw [ha] at fd hP hal
   have hrep : (l.length : Nat) ≤ 70368744177664 := by omega
   have hrepI : ((l.length : Nat) : Int) ≤ 70368744177664 := by omega
   have L := ld0 l r a hl h2 h0 Q (fun σ g g1 g2 g3 g4 g5 s2 s6 s8 => by
    have g5' : ∀ z, (g ++ z)[h0.length + 2]? = some (.cells [.list 10 (l.map ruA) r, .map (h0.length + 1)]) := fun z => get_left g5 z
    have hT : TH (.list 10 (l.map ruA) r) (h0.length + 1) l.length (g.length + 1) g.length g (List.replicate l.length false) [] .full (g ++ [.cells (List.replicate l.length (.bool false)), .cells [.list 10 (l.map ruA) r, .map (h0.length + 1), .sl 1 g.length 0 l.length l.length, .list 1 [] .full]]) :=
     ⟨by simp, by omega, Nat.le_refl _, by simp [ints], by simp, by simp, by simp [cf_rep], .inl ⟨rfl, rfl⟩⟩
    obtain ⟨v, h', r', e1, e2, e3⟩ := through_ok hl hx (H0 := g) (m := h0.length + 1) (pw := g.length + 1) (kb := g.length) (.inl ⟨r, rfl⟩) g4 l.length a (List.replicate l.length false) [] .full _ hal (by rw [cf_rep]; exact Nat.le_refl _) hT
    have h2' : h'[h0.length]? = some (.cells [.list 10 (l.map ruA) r]) := of_take e2.take g3
    simp [-getElem?_pos, -Int.natCast_add, wK16_1, s2, s6, s8, g5, g5', hrep, hrepI, Nat.add_assoc, e1, h2']
    refine ⟨by omega, ?_⟩
    refine ld1 l r a _ P.1 (h0.length + 1) (g.length + 1) g.length _ r' g hl e2.bn Q (fun σ' h q t1 t2 t4 t5 => ?_) _ _ ⟨0, [], .full, Nat.zero_le _, rfl, ?_, by simp, e2.take, by omega, Nat.le_refl _, e2.cw, e2.ck, ?_, ?_, ?_, ?_, ?_, ?_, .inl ⟨rfl, rfl⟩⟩
    ·refine fin σ' h q ?_ ?_ t4 (by rw [t5, ← hP])
     ·have := congrArg (List.take h0.length) t1
      rw [List.take_take, Nat.min_eq_left (by omega), g1] at this
      exact this
     ·rcases t2 with e | ⟨u, e, eu⟩
      ·exact .inl e
      ·exact .inr ⟨u, e, by omega⟩
    ·rw [← hP]; rfl
    all_goals simp [s6])
   simp [-getElem?_pos, -Int.natCast_add, wB16, gmA, fd, rg, Nat.add_assoc]
   refine L _ _ ⟨0, Nat.zero_le _, rfl, by simp, by simp, by simp, by simp [keysE], by simp, by simp, by simp, by simp, by simp, by simp, by simp⟩
def of3P (s : List UInt8) : List Ru × List UInt8 × Int := if (ofP s).2.2 = 0 then gatherP (ofP s).1 else ([], [], (ofP s).2.2)
def Out3 (P : List Ru × List UInt8 × Int) (h0 : Heap) (x : AV × Heap) : Prop := ∃ b, x = (.tup [gmA P.1 (rtB b), .str P.2.1, .int .i64 P.2.2], h0)
theorem of3_ok (s : List UInt8) (hs : s.length ≤ 900000000) (hl : LOk (ofP s).1) (h0 : Heap) : ∃ b, M.call 26 [.str s] h0 = some (.tup [gmA (of3P s).1 (rtB b), .str (of3P s).2.1, .int .i64 (of3P s).2.2], h0) := by
 obtain ⟨P, hP⟩ : ∃ P, of3P s = P := ⟨_, rfl⟩
 rw [hP]
 suffices key : ∃ x, M.call 26 [.str s] h0 = some x ∧ Out3 P h0 x by
  obtain ⟨x, e, b, rfl⟩ := key
  exact ⟨b, e⟩
 refine call_post tab26 rfl ?_
 generalize hQ : (fun e σ h => isEnd e ∧ ∃ vs, resVals σ h [ARes.cell 2 (some 1), ARes.tmp 3, ARes.tmp 4] = some vs ∧ ∃ x, finish h0 h (oneOf vs) = some x ∧ Out3 P h0 x) = Q
 have fin : ∀ (σ : Slots) (h : Heap) (b : Bool), h.take h0.length = h0 → h[h0.length]? = some (.cells [.list 10 (P.1.map ruA) (rtB b)]) → σ 2 = .ptr h0.length 0 → σ 3 = .str P.2.1 → σ 4 = .int .i64 P.2.2 → Q .ret σ h := by
  intro σ h b e1 e2 e4 e5 e6
  subst hQ
  have hlow := rus_low h0.length P.1
  simp [e4, e2, e5, e6]
  rw [finish_of_take e1]
  cases b <;> simp [clean, cleans2, clean2, cleans, clean1, hlow, AV.low, rtB]
  ·exact ⟨_, _, ⟨rfl, rfl⟩, false, rfl⟩
  ·exact ⟨_, _, ⟨rfl, rfl⟩, true, rfl⟩
 obtain ⟨bf, ho⟩ := of_all s hs
 unfold of3P at hP
 by_cases he : (ofP s).2.2 = 0
 ·rw [if_pos he] at hP
  obtain ⟨b, hg⟩ := gatherF_ok (ofP s).1 (rtB (bf (h0 ++ [.cells [.list 10 [] .full]]))) hl (h0 ++ [.cells [.list 10 [] .full]])
  rw [hP] at hg
  unfold gmA at hg
  simp [-getElem?_pos, -Int.natCast_add, wB26, ho, he, hg]
  refine fin _ _ b ?_ ?_ ?_ ?_ ?_ <;> simp
 ·rw [if_neg he] at hP
  subst hP
  simp [-getElem?_pos, -Int.natCast_add, wB26, ho, he]
  refine fin _ _ true ?_ ?_ ?_ ?_ ?_ <;> simp
theorem fails3_ok (s n : List UInt8) (w : Int) (hs : s.length ≤ 900000000) (hl : LOk (ofP s).1) (hlen : (of3P s).1.length ≤ 1000000000) (h0 : Heap) : M.call 29 [.str s, .str n, .int .i64 w] h0 = some (.bool (decide ((of3P s).2.2 = w ∧ (of3P s).2.1 = n ∧ (of3P s).1 = [])), h0) := by
 refine call_of tab29 rfl (callF_wp ?_)
 obtain ⟨b, hx⟩ := of3_ok s hs hl h0
 obtain ⟨b1, hx1⟩ := of3_ok s hs hl (h0 ++ [.dead])
 generalize of3P s = res at *
 obtain ⟨l, p, e⟩ := res
 simp only at hx hx1 hlen
 unfold gmA at hx hx1
 have hl0 : ((l.length : Nat) = 0) = (l = []) := by apply propext; exact ⟨List.eq_nil_of_length_eq_zero, fun h => by rw [h]; rfl⟩
 by_cases h1 : e = w
 ·by_cases h2 : p = n
  ·simp [-getElem?_pos, wB29, hx, hx1, h1, h2, hl0]
  ·simp [-getElem?_pos, wB29, hx, hx1, h1, h2, hl0]
 ·simp [-getElem?_pos, wB29, hx, hx1, h1, hl0]
def InvTt (a b : List (List UInt8)) (ra rb : Rt) (h0 : Heap) (k : Nat) (σ : Slots) (h : Heap) : Prop := ∃ i, i ≤ a.length ∧ k = a.length - i ∧ decide (a = b) = decide (a.drop i = b.drop i) ∧ σ 0 = .list 1 (a.map AV.str) ra ∧ σ 1 = .list 1 (b.map AV.str) rb ∧ σ 12 = .int .i64 (a.length : Nat) ∧ σ 13 = .int .i64 (i : Nat) ∧ h = h0
theorem texts_ok (a b : List (List UInt8)) (ra rb : Rt) (ha : a.length ≤ 1000000000) (hb : b.length ≤ 1000000000) (h0 : Heap) : M.call 20 [.list 1 (a.map AV.str) ra, .list 1 (b.map AV.str) rb] h0 = some (.bool (decide (a = b)), h0) := by
 refine call_of tab20 rfl (callF_wp ?_)
 by_cases hl : a.length = b.length
 ·have hlI : (a.length : Int) = (b.length : Int) := by omega
  simp [-getElem?_pos, -Int.natCast_add, wB20, hl, hlI]
  refine Wp.loop (InvTt a b ra rb h0) ?_ (n := a.length) ⟨0, Nat.zero_le _, rfl, rfl, by simp, by simp, by simp [hl], by simp, rfl⟩
  rintro k σ h ⟨i, hi, rfl, hr, s0, s1, s12, s13, rfl⟩
  by_cases hlt : i < a.length
  ·obtain ⟨x, hx⟩ : ∃ x, a[i]? = some x := ⟨_, List.getElem?_eq_getElem hlt⟩
   obtain ⟨y, hy⟩ : ∃ y, b[i]? = some y := ⟨_, List.getElem?_eq_getElem (by omega)⟩
   have hlt2 : i < b.length := by omega
   have hltI : (i : Int) < a.length := by omega
   have hltI2 : (i : Int) < b.length := by omega
   have hadd : IntKind.wrap .i64 ((i : Int) + 1) = ((i + 1 : Nat) : Int) := by rw [wrap64 (by omega) (by omega)]; rfl
   have d1 : a.drop i = x :: a.drop (i + 1) := by
    rw [List.drop_eq_getElem_cons hlt]
    congr 1
    rw [List.getElem?_eq_getElem hlt] at hx
    exact Option.some.inj hx
   have d2 : b.drop i = y :: b.drop (i + 1) := by
    rw [List.drop_eq_getElem_cons hlt2]
    congr 1
    rw [List.getElem?_eq_getElem hlt2] at hy
    exact Option.some.inj hy
   rw [d1, d2] at hr
   by_cases hxy : x = y
   ·subst hxy
    simp [-getElem?_pos, -Int.natCast_add, wL20_0, s0, s1, s12, s13, hltI, hlt, hlt2, hltI2, hx, hy, hadd]
    exact ⟨a.length - (i + 1), by omega, i + 1, by omega, rfl, by rw [hr]; simp, by simp [s0], by simp [s1], by simp [s12], by simp, rfl⟩
   ·have : decide (a = b) = false := by rw [hr]; simp [hxy]
    simp [-getElem?_pos, -Int.natCast_add, wL20_0, s0, s1, s12, s13, hltI, hlt, hlt2, hltI2, hx, hy, hxy, this]
  ·obtain rfl : i = a.length := by omega
   have : decide (a = b) = true := by rw [hr, hl]; simp [← hl]
   simp [-getElem?_pos, -Int.natCast_add, wL20_0, wK20_0, s0, s1, s12, s13, this]
 ·have hlI : ¬ (a.length : Int) = (b.length : Int) := by omega
  have hab : ¬ a = b := fun e => hl (by rw [e])
  simp [-getElem?_pos, -Int.natCast_add, wB20, hl, hlI, hab]
def InvNs (l : List Ru) (r : Rt) (h0 : Heap) (k : Nat) (σ : Slots) (h : Heap) : Prop := ∃ i q, i ≤ l.length ∧ k = l.length - i ∧ h.take h0.length = h0 ∧ h0.length ≤ h.length ∧ σ 3 = .list 1 ((l.take i).map fun x => .str x.name) q ∧ σ 7 = .list 10 (l.map ruA) r ∧ σ 8 = .int .i64 (l.length : Nat) ∧ σ 9 = .int .i64 (i : Nat) ∧
 (q = .full ∨ ∃ u, q = .tok u ∧ h0.length ≤ u ∧ h[u]? = some (.tok 1 i 9))
theorem names3_ok (l : List Ru) (r : Rt) (hl : l.length ≤ 1000000) (h0 : Heap) : ∃ b, M.call 28 [gmA l r] h0 = some (.list 1 ((l.map Ru.name).map AV.str) (rtB b), h0) := by
 suffices key : ∃ x, M.call 28 [gmA l r] h0 = some x ∧ ∃ b, x = (.list 1 ((l.map Ru.name).map AV.str) (rtB b), h0) by
  obtain ⟨x, e, b, rfl⟩ := key
  exact ⟨b, e⟩
 refine call_post tab28 rfl ?_
 generalize hQ : (fun e σ h => isEnd e ∧ ∃ vs, resVals σ h [ARes.tmp 2] = some vs ∧ ∃ x, finish h0 h (oneOf vs) = some x ∧ ∃ b, x = (.list 1 ((l.map Ru.name).map AV.str) (rtB b), h0)) = Q
 have hlow : AV.lows h0.length ((l.map Ru.name).map AV.str) := lows_iff.2 fun y hy => by
  obtain ⟨k, _, rfl⟩ := List.mem_map.1 hy
  trivial
 have fin : ∀ (σ : Slots) (h : Heap) (q : Rt), h.take h0.length = h0 → (q = .full ∨ ∃ u, q = .tok u ∧ h0.length ≤ u) → σ 2 = .list 1 ((l.map Ru.name).map AV.str) q → Q .ret σ h := by
  intro σ h q e1 e3 e4
  subst hQ
  generalize (l.map Ru.name).map AV.str = xs at *
  rcases e3 with rfl | ⟨u, rfl, hu⟩
  ·simp [e4]
   rw [finish_of_take e1]
   simp [clean, clean2, clean1, hlow, AV.low]
   exact ⟨_, _, ⟨rfl, rfl⟩, .inr ⟨rfl, rfl⟩⟩
  ·have hu' : ¬ u < h0.length := by omega
   simp [e4]
   rw [finish_of_take e1]
   simp [clean, clean2, clean1, hlow, AV.low, hu']
   exact ⟨_, _, ⟨rfl, rfl⟩, .inl ⟨rfl, rfl⟩⟩
 have L : ∀ (σ : Slots) (g : Heap), InvNs l r h0 l.length σ g → Wp M (.loop L28_0) (blkQ 0 (thenQ (Wp M K28_0 Q) Q)) σ g := by
  intro σ g hI
  refine Wp.loop (InvNs l r h0) ?_ (n := l.length) hI
  clear hI σ g
  rintro k σ g ⟨i, q, hi, rfl, hg, hgl, s3, s7, s8, s9, how⟩
  by_cases hlt : i < l.length
  ·obtain ⟨x, hxi⟩ : ∃ x, l[i]? = some x := ⟨_, List.getElem?_eq_getElem hlt⟩
   have hltI : (i : Int) < l.length := by omega
   have hadd : IntKind.wrap .i64 ((i : Int) + 1) = ((i + 1 : Nat) : Int) := by rw [wrap64 (by omega) (by omega)]; rfl
   have hsn : ((l.take i).map fun x => AV.str x.name) ++ [.str x.name] = (l.take (i + 1)).map fun x => AV.str x.name := by
    rw [List.take_add_one, hxi]
    simp
   have hlm : ((l.take i).map fun x => AV.str x.name).length = i := by simp; omega
   obtain ⟨xs, hxs⟩ : ∃ xs, ((l.take i).map fun x => AV.str x.name) = xs := ⟨_, rfl⟩
   rw [hxs] at s3 hsn hlm
   simp [-getElem?_pos, -Int.natCast_add, wL28_0, s3, s7, s8, s9, hltI, hlt, hxi, ruA_cells, ruL_take, ruL_agg, ruL_name, hadd]
   have take' : ∀ z, (g ++ z).take h0.length = h0 := fun z => by rw [List.take_append_of_le_length hgl]; exact hg
   rcases how with rfl | ⟨u, rfl, hu1, hu2⟩
   ·refine onO_appK trivial (by simp) (by rw [hlm]; simp; omega) (by rw [hlm]; simp; omega) ?_
    rw [hsn, hlm]
    simp [-getElem?_pos, -Int.natCast_add, kill, s9, hadd]
    refine ⟨l.length - (i + 1), by omega, i + 1, .tok (g.length + 1), by omega, rfl, take' _, by simp; omega, by simp, by simp [s7], by simp [s8], by simp, .inr ⟨g.length + 1, rfl, by omega, ?_⟩⟩
    rw [List.getElem?_append_right (by omega)]
    simp
   ·have hul := lt_of_get hu2
    refine onO_appK (by show (g ++ _)[u]? = _; rw [hlm]; exact get_left hu2 _) (by simp) (by rw [hlm]; simp; omega) (by rw [hlm]; simp; omega) ?_
    rw [hsn, hlm]
    have hk1 : ∀ z, (g ++ z).set u .dead = g.set u .dead ++ z := fun z => by rw [List.set_append_left _ _ hul]
    simp [-getElem?_pos, -Int.natCast_add, kill, s9, hadd, hk1]
    refine ⟨l.length - (i + 1), by omega, i + 1, .tok (g.length + 1), by omega, rfl, ?_, by simp; omega, by simp, by simp [s7], by simp [s8], by simp, .inr ⟨g.length + 1, rfl, by omega, ?_⟩⟩
    ·rw [List.take_append_of_le_length (by simp; omega), take_set hu1]; exact hg
    ·rw [List.getElem?_append_right (by simp)]
     simp
  ·obtain rfl : i = l.length := by omega
   rw [List.take_length] at s3
   simp [-getElem?_pos, -Int.natCast_add, wL28_0, wK28_0, s3, s7, s8, s9]
   refine fin _ _ q hg ?_ (by simp)
   rcases how with e | ⟨u, e1, e2, _⟩
   ·exact .inl e
   ·exact .inr ⟨u, e1, e2⟩
 simp [-getElem?_pos, -Int.natCast_add, wB28, gmA]
 refine L _ _ ⟨0, .full, Nat.zero_le _, rfl, by simp, by simp, by simp, by simp, by simp, by simp, .inl rfl⟩
def t31 : List UInt8 := [97, 32, 61, 32, 98, 32, 99, 10, 98, 32, 61, 32, 34, 120, 34, 10, 99, 32, 61, 32, 98]
def t32 : List UInt8 := [97, 32, 61, 32, 34, 120, 34, 10, 97, 32, 61, 47, 32, 34, 121, 34]
def t33 : List UInt8 := [97, 32, 61, 32, 98]
def t34 : List UInt8 := [97, 32, 61, 32, 98, 10, 98, 32, 61, 32, 97]
def t35 : List UInt8 := [97, 32, 61, 32, 34, 120, 34, 10, 97, 32, 61, 32, 34, 121, 34]
def t36 : List UInt8 := [97, 32, 61, 47, 32, 34, 120, 34]
def lokB (l : List Ru) : Bool := decide (l.length ≤ 1000000) && (l.all fun x => decide (x.name.length ≤ 1000000000) && decide (x.tree.wt ≤ 1000000000)) && decide (wts (l.map Ru.tree) ≤ 900000000)
theorem LOk_of {l : List Ru} (h : lokB l = true) : LOk l := by
 unfold lokB at h
 simp only [Bool.and_eq_true, decide_eq_true_eq, List.all_eq_true] at h
 exact ⟨h.1.1, fun x hx => h.1.2 x hx, h.2⟩
def x32 : Ru := ⟨[97], 0, false, .mk 6 [] 0 0 0 0 false [.mk 2 [120] 0 0 0 0 true [], .mk 2 [121] 0 0 0 0 true []]⟩
def y32 : Tr := .mk 6 [] 0 0 0 0 true [.mk 2 [120] 0 0 0 0 true [], .mk 2 [121] 0 0 0 0 true []]
theorem e31 : (of3P t31).1.map Ru.name = [[98], [99], [97]] ∧ (of3P t31).2 = ([], 0) := by constructor <;> kernel_rfl
theorem e32 : of3P t32 = ([x32], [], 0) := by kernel_rfl
theorem e33 : of3P t33 = ([], [98], 32) := by kernel_rfl
theorem e34 : of3P t34 = ([], [97], 33) := by kernel_rfl
theorem e35 : of3P t35 = ([], [97], 30) := by kernel_rfl
theorem e36 : of3P t36 = ([], [97], 31) := by kernel_rfl
theorem e37 : leadsP (of3P t31).1 [97] = ([[98], [99]], true) := by kernel_rfl
set_option maxRecDepth 20000 in
theorem awake3_ok (h0 : Heap) : M.call 9 [] h0 = some (.bool true, h0) := by
 refine call_of tab9 rfl (callF_wp ?_)
 have o1 := of3_ok t31 (by decide) (LOk_of (by kernel_rfl))
 have o2 := of3_ok t32 (by decide) (LOk_of (by kernel_rfl))
 have k1 : lokB (of3P t31).1 = true := by kernel_rfl
 have hk1 := LOk_of k1
 have f3 := fun h => fails3_ok t33 [98] 32 (by decide) (LOk_of (by kernel_rfl)) (by rw [e33]; decide) h
 have f4 := fun h => fails3_ok t34 [97] 33 (by decide) (LOk_of (by kernel_rfl)) (by rw [e34]; decide) h
 have f5 := fun h => fails3_ok t35 [97] 30 (by decide) (LOk_of (by kernel_rfl)) (by rw [e35]; decide) h
 have f6 := fun h => fails3_ok t36 [97] 31 (by decide) (LOk_of (by kernel_rfl)) (by rw [e36]; decide) h
 rw [e33] at f3
 rw [e34] at f4
 rw [e35] at f5
 rw [e36] at f6
 rw [e32] at o2
 obtain ⟨n1, n2⟩ := e31
 have m2 : (of3P t31).2.2 = 0 := by rw [n2]
 have m1 : (of3P t31).2.1 = [] := by rw [n2]
 have l7 := fun r h => leads_ok (of3P t31).1 r [97] hk1.len hk1.all h
 rw [e37] at l7
 have ns := fun r h => names3_ok (of3P t31).1 r hk1.len h
 rw [n1] at ns
 rw [m1, m2] at o1
 generalize (of3P t31).1 = g1 at *
 have tr : ∀ h, M.call 22 [x32.tree.enc, y32.enc] h = some (.bool true, h) := fun h => by
  rw [trees_ok x32.tree y32 (TOk_wt (by decide +kernel)) (TOk_wt (by decide +kernel)) h]
  rfl
 have tx1 := fun ra rb h => texts_ok [[98], [99], [97]] [[98], [99], [97]] ra rb (by decide) (by decide) h
 have tx2 := fun ra rb h => texts_ok [[98], [99]] [[98], [99]] ra rb (by decide) (by decide) h
 unfold gmA at o1 o2 l7 ns
 obtain ⟨b1, o1⟩ := Classical.axiomOfChoice o1
 obtain ⟨b2, o2⟩ := Classical.axiomOfChoice o2
 obtain ⟨b7, l7⟩ := Classical.axiomOfChoice (fun p : Bool × Heap => l7 (rtB p.1) p.2)
 obtain ⟨bn, ns⟩ := Classical.axiomOfChoice (fun p : Bool × Heap => ns (rtB p.1) p.2)
 have l7 : ∀ b h, M.call 16 [.agg [.list 10 (g1.map ruA) (rtB b)], .str [97]] h = some (.tup [.list 1 [.str [98], .str [99]] (rtB (b7 (b, h))), .bool true], h) := fun b h => l7 (b, h)
 have ns : ∀ b h, M.call 28 [.agg [.list 10 (g1.map ruA) (rtB b)]] h = some (.list 1 [.str [98], .str [99], .str [97]] (rtB (bn (b, h))), h) := fun b h => ns (b, h)
 simp only [List.map_cons, List.map_nil] at tx1 tx2
 simp at f3 f4 f5 f6 o1 o2
 simp only [t31, t32, t33, t34, t35, t36] at o1 o2 f3 f4 f5 f6
 unfold y32 at tr
 simp [Tr.enc, Tr.encL_eq, x32, Tr.k, Tr.s, Tr.lo, Tr.hi, Tr.mn, Tr.mx, Tr.kids, Tr.full] at tr
 have hx32 : ruA x32 = .agg [.str [97], .int .i64 0, .bool false, .int .u8 6, .str [], .int .u8 0, .int .u8 0, .int .i64 0, .int .i64 0, .list 7 [.agg [.int .u8 2, .str [120], .int .u8 0, .int .u8 0, .int .i64 0, .int .i64 0, .list 7 [] (rtB true)], .agg [.int .u8 2, .str [121], .int .u8 0, .int .u8 0, .int .i64 0, .int .i64 0, .list 7 [] (rtB true)]] (rtB false)] := by
  simp [ruA, x32, Tr.enc, Tr.encL_eq, Tr.k, Tr.s, Tr.lo, Tr.hi, Tr.mn, Tr.mx, Tr.kids, Tr.full]
 have hw0 : IntKind.i64.wrap 0 = 0 := by decide
 simp [-getElem?_pos, -Int.natCast_add, wB9, hw0, o1, o2, l7, ns, tx1, tx2, hx32, tr, f3, f4, f5, f6, Nat.add_assoc]
end Go.Proofs.YtcflbdikkcpiaaaGreatDoor
