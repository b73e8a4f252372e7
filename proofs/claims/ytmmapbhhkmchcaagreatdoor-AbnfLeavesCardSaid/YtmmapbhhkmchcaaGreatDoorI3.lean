/-
  AbnfLeaves, in the machine.
-/
import Derived.Test.YtmmapbhhkmchcaaGreatDoorI2
set_option linter.unusedVariables false
set_option linter.unusedSimpArgs false
namespace Go.Proofs.YtmmapbhhkmchcaaGreatDoor
open Go Go.Am

def InvWt (l : List Tok) (rt : Rt) (s : List UInt8) (R : AV) (k : Nat) (σ : Slots) (h : Heap) : Prop := ∃ i r, i ≤ l.length ∧ k = l.length - i ∧ σ 0 = .str s ∧ σ 6 = R ∧ σ 9 = .list 7 ((wantP (l.take i)).map tokA) r ∧ σ 57 = .list 7 (l.map tokA) rt ∧ σ 58 = .int .i64 (l.length : Nat) ∧ σ 59 = .int .i64 i ∧ Ow 0 h 7 57 r (wantP (l.take i)).length
def InvGt (rs : List Ru) (b : Bool) (s : List UInt8) (W : AV) (k : Nat) (σ : Slots) (h : Heap) : Prop := ∃ i r, i ≤ rs.length ∧ k = rs.length - i ∧ σ 0 = .str s ∧ σ 9 = W ∧ σ 12 = .list 7 ((gotP (rs.take i)).map tokA) r ∧ σ 83 = .list 10 (rs.map ruA) (rtB b) ∧ σ 84 = .int .i64 (rs.length : Nat) ∧ σ 85 = .int .i64 i ∧ Ow 0 h 7 57 r (gotP (rs.take i)).length
theorem want_len (l : List Tok) : (wantP l).length ≤ l.length := by
  simp only [wantP, List.length_map]
  exact List.length_filter_le _ _
theorem got_take (rs : List Ru) (i : Nat) : (gotP (rs.take i)).length ≤ (gotP rs).length := by
  have : gotP rs = gotP (rs.take i) ++ gotP (rs.drop i) := by
    unfold gotP
    rw [← List.flatMap_append, List.take_append_drop]
  rw [this, List.length_append]
  omega
theorem lowers_len (s : List UInt8) : (Lib.toLowerA s).length = s.length := by simp [Lib.toLowerA]
set_option maxRecDepth 20000 in
theorem leaves_true (s : List UInt8) : M.call 6 [.str s] [] = some (.bool true, []) := by
  refine call_of tab6 rfl (callF_wp ?_)
  by_cases c : 3000 < s.length
  · have c' : (3000 : Int) < s.length := by omega
    simp [wB6, c', awake_ok]
  have c' : ¬ (3000 : Int) < s.length := by omega
  obtain ⟨y, hy, r, rfl, hr⟩ := lex_ok' s (by omega) []
  have hc := lexP_cnt s
  have ht := lexP_t s
  have hg := lexP_good s
  have he := lexP_err s
  generalize hlx : lexP s = res at *
  obtain ⟨l, p, e⟩ := res
  simp only at hy hc ht hg he
  have hrt : ∀ t, r = .tok t → t < ([] : Heap).length := hr
  obtain ⟨z, hz, b, rfl⟩ := parse_ok l r (by omega) (fun t h => by have := ht t h; omega) [] hrt
  obtain ⟨k1, k2⟩ := parseP_ok (l := l) (by omega) (fun t h => by have := ht t h; omega)
  have herr := rules_err hg (l.length + 1) 0 []
  have hall := rules_each (l := l) (l.length + 1) 0 [] (fun x hx => by cases hx)
  have hlv := fun rs p e he h => rules_leaves (fun t ht => (hg t ht).2) (l.length + 1) 0 [] rs p e (by omega) (by omega) h he
  change ((parseP l).2.2 ≠ 0 → (parseP l).1 = [] ∧ 0 ≤ (parseP l).2.1 ∧ (parseP l).2.1 ≤ s.length) at herr
  change ∀ x ∈ (parseP l).1, _ at hall
  change ∀ rs p e, e = 0 → parseP l = (rs, p, e) → _ at hlv
  by_cases e0 : e = 0
  · subst e0
    generalize hps : parseP l = ps at *
    obtain ⟨rs, q, f⟩ := ps
    simp only at hz herr hall k1 k2
    by_cases f0 : f = 0
    · subst f0
      have hlv := hlv rs q 0 rfl rfl
      simp only [gotP, List.flatMap_nil, List.nil_append, List.drop_zero] at hlv
      have hlv : gotP rs = wantP l := hlv
      have hwl := want_len l
      simp [-getElem?_pos, wB6, c', hy, hz]
      refine Wp.loop (InvWt l r s (.list 10 (rs.map ruA) (rtB b))) ?_ (n := l.length) ⟨0, .full, by omega, by omega, by simp, by simp, by simp [wantP], by simp, by simp, by simp, .full⟩
      rintro k σ h ⟨i, r9, hi, rfl, s0, s6, s9, s57, s58, s59, ow⟩
      by_cases hlt : i < l.length
      · obtain ⟨t, et⟩ : ∃ t, l[i]? = some t := ⟨_, List.getElem?_eq_getElem hlt⟩
        have e64 : IntKind.wrap .i64 ((i : Int) + 1) = ((i + 1 : Nat) : Int) := by rw [wrap64 (by omega) (by omega)]; rfl
        have hgt := hg t (List.mem_of_getElem? et)
        have hwt : wantP (l.take (i + 1)) = wantP (l.take i) ++ wantP [t] := by rw [List.take_add_one, et, wantP_app]; rfl
        have hwl2 := want_len (l.take i)
        rw [List.length_take] at hwl2
        have ke : ∀ k : Nat, k < 256 → ((t.kind.toNat : Int) = (k : Int)) = (t.kind = UInt8.ofNat k) := fun k hk => u8_eq t.kind k hk
        have q1 := ke 1 (by omega)
        have q10 := ke 10 (by omega)
        have q11 := ke 11 (by omega)
        have q12 := ke 12 (by omega)
        simp at q1 q10 q11 q12
        have app : ∀ (cs : List AV), ∃ r2 g2, appA (h ++ [AE.cells cs, AE.dead]) (h.length + 1) 7 56 57 (.list 7 ((wantP (l.take i)).map tokA) r9) (.list 7 [tokA (wantT t)] .full) = some (.list 7 ((wantP (l.take i)).map tokA ++ [tokA (wantT t)]) r2, g2) ∧
            (leafK t.kind = true → ∀ σ' : Slots, σ' 0 = σ 0 → σ' 6 = σ 6 → σ' 57 = σ 57 → σ' 58 = σ 58 → σ' 59 = .int .i64 ((i + 1 : Nat) : Int) → σ' 9 = .list 7 ((wantP (l.take i)).map tokA ++ [tokA (wantT t)]) r2 → ∃ m, m < l.length - i ∧ InvWt l r s (.list 10 (rs.map ruA) (rtB b)) m σ' g2) := by
          intro cs
          obtain ⟨r2, g2, p1, p2, p3⟩ := app_list (n0 := 0) (key := h.length + 1) (sz := 7) (bytes := 56) (e := 57) (h := h ++ [AE.cells cs, AE.dead]) (xs := (wantP (l.take i)).map tokA) (ys := [tokA (wantT t)]) (r := r9) (r2 := .full)
            (by simpa using ow.app _) (by omega) (by simp) (by simp; omega) (by simp; omega)
          refine ⟨r2, g2, p1, fun hk σ' a0 a6 a57 a58 a59 a9 => ⟨l.length - (i + 1), by omega, i + 1, r2, by omega, rfl, by rw [a0, s0], by rw [a6, s6], ?_, by rw [a57, s57], by rw [a58, s58], a59, ?_⟩⟩
          · rw [a9, hwt, wantP_yes hk]; simp
          · rw [hwt, wantP_yes hk]; simpa using p2
        by_cases k1 : t.kind = 1
        · obtain ⟨_, ⟨hs, _, _⟩⟩ := hgt
          obtain ⟨m1, m2, m3, m4, hnm⟩ := hs k1
          have tl := fun h => toLower_ok t.text (by have := ht t (List.mem_of_getElem? et); omega) (fun b hb => nam_lt (List.all_eq_true.1 hnm b hb)) h
          have hwT : tokA (wantT t) = .agg [.int .u8 1, .int .i64 0, .str (Lib.toLowerA t.text), .int .i64 0, .int .i64 0, .int .u8 0, .int .u8 0] := by simp [wantT, tokA, tokL, k1, m1, m2, m3, m4]
          obtain ⟨r2, g2, a1, a2⟩ := app [.int .u8 1, .int .i64 0, .str (Lib.toLowerA t.text), .int .i64 0, .int .i64 0, .int .u8 0, .int .u8 0]
          have a2 := a2 (by rw [k1]; decide)
          rw [hwT] at a1 a2
          simp [-getElem?_pos, -Int.natCast_add, wL6_0, s0, s6, s9, s57, s58, s59, hlt, et, tokA, tokL, k1, m1, m2, m3, m4, tl, Nat.add_assoc]
          rw [a1]
          simp [-Int.natCast_add, s59, e64]
          refine a2 _ ?_ ?_ ?_ ?_ ?_ ?_ <;> simp
        have q1' := eq_false (fun q => k1 (q1.mp q))
        have hwT : tokA (wantT t) = .agg [.int .u8 t.kind.toNat, .int .i64 0, .str t.text, .int .i64 t.mn, .int .i64 t.mx, .int .u8 t.lo.toNat, .int .u8 t.hi.toNat] := by simp [wantT, tokA, tokL, k1]
        obtain ⟨r2, g2, a1, a2⟩ := app [.int .u8 t.kind.toNat, .int .i64 0, .str t.text, .int .i64 t.mn, .int .i64 t.mx, .int .u8 t.lo.toNat, .int .u8 t.hi.toNat]
        rw [hwT] at a1 a2
        by_cases k10 : t.kind = 10
        · have a2 := a2 (by rw [k10]; decide)
          rw [k10] at a1 a2
          simp [-Int.natCast_add] at a1 a2
          simp [-getElem?_pos, -Int.natCast_add, wL6_0, s0, s6, s9, s57, s58, s59, hlt, et, tokA, tokL, k10, Nat.add_assoc]
          rw [a1]
          simp [-Int.natCast_add, s59, e64]
          refine a2 _ ?_ ?_ ?_ ?_ ?_ ?_ <;> simp
        have q10' := eq_false (fun q => k10 (q10.mp q))
        by_cases k11 : t.kind = 11
        · have a2 := a2 (by rw [k11]; decide)
          rw [k11] at a1 a2
          simp [-Int.natCast_add] at a1 a2
          simp [-getElem?_pos, -Int.natCast_add, wL6_0, s0, s6, s9, s57, s58, s59, hlt, et, tokA, tokL, k11, Nat.add_assoc]
          rw [a1]
          simp [-Int.natCast_add, s59, e64]
          refine a2 _ ?_ ?_ ?_ ?_ ?_ ?_ <;> simp
        have q11' := eq_false (fun q => k11 (q11.mp q))
        by_cases k12 : t.kind = 12
        · have a2 := a2 (by rw [k12]; decide)
          rw [k12] at a1 a2
          simp [-Int.natCast_add] at a1 a2
          simp [-getElem?_pos, -Int.natCast_add, wL6_0, s0, s6, s9, s57, s58, s59, hlt, et, tokA, tokL, k12, Nat.add_assoc]
          rw [a1]
          simp [-Int.natCast_add, s59, e64]
          refine a2 _ ?_ ?_ ?_ ?_ ?_ ?_ <;> simp
        have q12' := eq_false (fun q => k12 (q12.mp q))
        have hno : leafK t.kind = false := by simp [leafK, k1, k10, k11, k12]
        rw [wantP_no hno, List.append_nil] at hwt
        simp [-getElem?_pos, -Int.natCast_add, wL6_0, s0, s6, s9, s57, s58, s59, hlt, et, tokA, tokL, q1', q10', q11', q12', e64, Nat.add_assoc]
        exact ⟨l.length - (i + 1), by omega, i + 1, r9, by omega, rfl, by simp [s0], by simp [s6], by rw [hwt]; simp [s9, tokA, tokL], by simp [s57, tokA, tokL], by simp [s58], by simp, by rw [hwt]; exact ow.app _⟩
      · have : i = l.length := by omega
        subst this
        rw [List.take_length] at s9
        clear ow
        simp [-getElem?_pos, wL6_0, wK6_1, s0, s6, s9, s57, s58, s59]
        refine Wp.loop (InvGt rs b s (.list 7 ((wantP l).map tokA) r9)) ?_ (n := rs.length) ⟨0, .full, by omega, by omega, by simp [s0], by simp [s9], by simp [gotP], by simp, by simp, by simp, .full⟩
        clear s0 s6 s9 s57 s58 s59 σ hi hlt
        rintro k σ h ⟨i, r12, hi, rfl, s0, s9, s12, s83, s84, s85, ow⟩
        by_cases hlt : i < rs.length
        · obtain ⟨x, ex⟩ : ∃ x, rs[i]? = some x := ⟨_, List.getElem?_eq_getElem hlt⟩
          have hxm := List.mem_of_getElem? ex
          have e64 : IntKind.wrap .i64 ((i : Int) + 1) = ((i + 1 : Nat) : Int) := by rw [wrap64 (by omega) (by omega)]; rfl
          obtain ⟨hfx, n, hn, hnk, hnm, hnp⟩ := hall x hxm
          obtain ⟨⟨np, hp1, hp2, hp3⟩, ⟨hns, _, _⟩⟩ := hg n hn
          obtain ⟨m1, m2, m3, m4, hna⟩ := hns hnk
          have hpre := hp3 hnk
          have hnl := hpre.length_le
          simp only [List.length_drop] at hnl
          have hlen : x.name.length = n.text.length := by rw [hnm]; simp [smallP]
          have hpx : x.pos = (np : Int) := by rw [hnp, hp1]
          have hsl : (s.take (np + n.text.length)).drop np = n.text := by
            rw [List.drop_take]
            obtain ⟨q, hq⟩ := hpre
            rw [← hq]
            simp
          have tl := fun h => toLower_ok n.text (by omega) (fun b hb => nam_lt (List.all_eq_true.1 hna b hb)) h
          rw [← small_low hna, ← hnm] at tl
          have w1 : IntKind.wrap .i64 ((np : Int) + (n.text.length : Int)) = ((np + n.text.length : Nat) : Int) := by rw [wrap64 (by omega) (by omega)]; rfl
          have rg := right_ok x.tree (k1 x hxm).1
          rw [hfx] at rg
          have hgt := got_take rs
          have htk : gotP (rs.take (i + 1)) = gotP (rs.take i) ++ ({ kind := 1, text := x.name } :: leavesP x.tree) := by
            rw [List.take_add_one, ex]
            simp [gotP]
          have hl1 := hgt (i + 1)
          rw [htk, List.length_append, List.length_cons, hlv] at hl1
          have c1 : ¬ (np : Int) < 0 := by omega
          have c2 : ¬ (s.length : Int) < ((np + n.text.length : Nat) : Int) := by omega
          have c3 : np + n.text.length ≤ s.length := by omega
          simp [-getElem?_pos, -Int.natCast_add, wL6_1, s0, s9, s12, s83, s84, s85, hlt, ex, ruA_cells, ruL_take, ruL_drop, ruL_tree, ruL_pos, ruL_name, ruL_agg, rg, hpx, hlen, w1, c1, c2, c3, hsl, tl, Nat.add_assoc]
          obtain ⟨r2, g2, p1, p2, p3⟩ := app_list (n0 := 0) (key := h.length + 1) (sz := 7) (bytes := 56) (e := 57) (h := h ++ [AE.cells (ruL x), AE.dead]) (xs := (gotP (rs.take i)).map tokA) (ys := [tokA { kind := 1, text := x.name }]) (r := r12) (r2 := .full)
            (by simpa using ow.app _) (by omega) (by simp) (by simp; omega) (by simp; omega)
          obtain ⟨y, hy, r3, h3, rfl, o1, o2, o3⟩ := leaves_okN x.tree.size x.tree (Nat.le_refl _) (k1 x hxm).1 0 (gotP (rs.take i) ++ [{ kind := 1, text := x.name }]) r2 g2 (by omega) (by simp; omega) (by simpa using p2)
          have hnk : ∀ t, r12 = .tok t → t < h.length := fun t ht => by
            rcases ow with q | ⟨t', q1, q2, q3⟩
            · rw [q] at ht; cases ht
            · rw [q1] at ht; injection ht with ht; subst ht; exact (List.getElem?_eq_some_iff.1 q3).1
          simp only [List.map_append, List.map_cons, List.map_nil] at hy
          simp [tokA, tokL] at p1
          rw [p1]
          simp [tokA, tokL] at hy
          simp [-Int.natCast_add, tokA, tokL, hy, s85, e64]
          refine ⟨?_, rs.length - (i + 1), by omega, i + 1, r3, by omega, rfl, by simp [s0], by simp [s9], ?_, by simp [s83], by simp [s84], by simp, ?_⟩
          · intro u hu v hv
            simp only [List.mem_singleton] at hu
            subst hu
            rcases List.mem_cons.1 hv with rfl | hv
            · omega
            · cases r12 with
              | tok t =>
                simp only [List.mem_singleton] at hv
                subst hv
                have := hnk _ rfl
                omega
              | no => cases hv
              | full => cases hv
          · rw [htk]; simp [tokA, tokL]
          · rw [htk]
            have : gotP (rs.take i) ++ ({ kind := 1, text := x.name } :: leavesP x.tree) = gotP (rs.take i) ++ [{ kind := 1, text := x.name }] ++ leavesP x.tree := by simp
            rw [this]
            exact o1
        · have : i = rs.length := by omega
          subst this
          rw [List.take_length, hlv] at s12
          have tk := toks_ok (wantP l) (wantP l) r12 r9 (by omega)
          simp at tk
          simp [-getElem?_pos, wL6_1, wK6_0, s0, s9, s12, s83, s84, s85, tk, awake_ok, fin_nil]
    · obtain ⟨h1, h2, h3⟩ := herr f0
      subst h1
      simp [-getElem?_pos, wB6, c', hy, hz, f0, h2, h3, awake_ok, fin_nil]
  · have hl0 := he e0
    subst hl0
    have hp0 : parseP [] = ([], 0, 0) := rfl
    rw [hp0] at hz
    simp at hz
    simp [-getElem?_pos, wB6, c', hy, hz, e0, awake_ok, fin_nil]
end Go.Proofs.YtmmapbhhkmchcaaGreatDoor
