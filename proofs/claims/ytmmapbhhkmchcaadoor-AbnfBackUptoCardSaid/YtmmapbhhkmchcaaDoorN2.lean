/-
  AbnfBack, in the machine.
-/
import Derived.Test.YtmmapbhhkmchcaaDoorN1
import Derived.Test.YtmmapbhhkmchcaaDoorG3
set_option linter.unusedVariables false
set_option linter.unusedSimpArgs false
namespace Go.Proofs.YtmmapbhhkmchcaaDoor
open Go Go.Am

def namesL : List (List UInt8) := [[97], [98], [99, 50], [100, 45, 101], [102], [103], [104], [105]]
theorem names_ok (h : Heap) : M.call 7 [] h = some (.list 1 (namesL.map AV.str) .full, h) := by
  refine call_of tab7 rfl (callF_wp ?_)
  simp [wB7, namesL]
def InvBa (L : List Ru) (rx : Rt) (k : Nat) (σ : Slots) (h : Heap) : Prop := ∃ i, i ≤ L.length ∧ k = L.length - i ∧ σ 56 = .list 10 (L.map ruA) rx ∧ σ 57 = .int .i64 (L.length : Nat) ∧ σ 58 = .int .i64 (i : Nat)
theorem ruL_name' (x : Ru) : (ruL x)[0]? = some (.str x.name) := rfl
set_option maxRecDepth 20000 in
theorem back_true (x : Ru) (U : List Nat) (more : Bool) (s : List UInt8) (hU : ∀ j ∈ U, j ≤ 65535) (hn : x.name.length ≤ 1000000000) (hw : x.tree.wt ≤ 1000000000) :
    M.call 3 [ruA x, .list 1 (U.map fun j => .int .u16 (j : Nat)) .no, .bool more, .str s] [] = some (.bool true, []) := by
  have hT := TOk_wt hw
  have nd := nodes300_ok x.tree hT
  refine call_of tab3 rfl (callF_wp ?_)
  by_cases c1 : 300 < ndT x.tree 300 0
  · simp [-getElem?_pos, wB3, ruA_cells, ruL_tree, ruL_take, nd, c1, awake_ok, fin_nil]
  by_cases c2 : 200 < U.length
  · have c2' : (200 : Int) < U.length := by omega
    simp [-getElem?_pos, wB3, ruA_cells, ruL_tree, ruL_take, nd, c1, c2', awake_ok, fin_nil]
  have c2' : ¬ (200 : Int) < U.length := by omega
  by_cases c3 : 2000 < s.length
  · have c3' : (2000 : Int) < s.length := by omega
    simp [-getElem?_pos, wB3, ruA_cells, ruL_tree, ruL_take, nd, c1, c2', c3', awake_ok, fin_nil]
  have c3' : ¬ (2000 : Int) < s.length := by omega
  obtain ⟨t, gt, ft, wt⟩ := grown_okN U (by omega) hU .no namesL .full (by decide) (by decide) [.cells (ruL x), .dead] (fun t h => by cases h) (fun t h => by cases h)
  have ft100 := fits_mono 7 100 t (by omega) ft
  have Tt : TOk t := TOk_wt (by omega)
  have rg := right_ok t Tt
  rw [ft100] at rg
  obtain ⟨bf, ho⟩ := of_all s (by omega)
  obtain ⟨hall, hcnt⟩ := of_wt (s := s) (by omega)
  obtain ⟨all, hall', hcl, hof⟩ : ∃ all : List Ru, (∀ y ∈ all, y.tree.wt ≤ 1000000000 ∧ y.name.length ≤ 2000) ∧ all.length ≤ 1000000000 ∧ all = if (ofP s).2.2 = 0 then (ofP s).1 else [] := by
    by_cases e : (ofP s).2.2 = 0
    · exact ⟨_, hall, hcnt, by rw [if_pos e]⟩
    · exact ⟨[], by simp, by simp, by rw [if_neg e]⟩
  generalize hG : (⟨[114, 45, 49], 0, more, t⟩ : Ru) = G at *
  have eG : (.agg (.str [114, 45, 49] :: .int .i64 0 :: .bool more :: t.encL) : AV) = ruA G := by subst hG; rfl
  have hGt : G.tree = t := by subst hG; rfl
  -- a rule, printed and read
  obtain ⟨L, hL⟩ : ∃ L, [G, x] ++ all = L := ⟨_, rfl⟩
  have hmem : ∀ y ∈ L, y.tree.wt ≤ 1000000000 ∧ y.name.length ≤ 1000000000 := by
    subst hL
    intro y hy
    simp only [List.cons_append, List.nil_append, List.mem_cons] at hy
    rcases hy with rfl | rfl | hy
    · subst hG; exact ⟨by simp only; omega, by simp⟩
    · exact ⟨hw, hn⟩
    · have := hall' y hy; exact ⟨this.1, by omega⟩
  have hlen : L.length ≤ 1000000002 := by subst hL; simp; omega
  have LP : ∀ (σ : Slots) (h : Heap) (rx : Rt), σ 56 = .list 10 (L.map ruA) rx → σ 57 = .int .i64 (L.length : Nat) → σ 58 = .int .i64 0 →
      Wp M (.loop L3_0) (blkQ 0 (thenQ (Wp M K3_0 (fun e σ h => isEnd e ∧ ∃ vs, resVals σ h [ARes.tmp 8] = some vs ∧ finish [] h (oneOf vs) = some (.bool true, []))) (fun e σ h => isEnd e ∧ ∃ vs, resVals σ h [ARes.tmp 8] = some vs ∧ finish [] h (oneOf vs) = some (.bool true, [])))) σ h := by
    intro σ h rx s56 s57 s58
    refine Wp.loop (InvBa L rx) ?_ (n := L.length) ⟨0, Nat.zero_le _, rfl, s56, s57, s58⟩
    clear s56 s57 s58 σ h
    rintro k σ h ⟨i, hi, rfl, s56, s57, s58⟩
    by_cases hlt : i < L.length
    · obtain ⟨y, hy⟩ : ∃ y, L[i]? = some y := ⟨_, List.getElem?_eq_getElem hlt⟩
      obtain ⟨hyw, hyn⟩ := hmem y (List.mem_of_getElem? hy)
      have hTy := TOk_wt hyw
      have pr := print_ok y hyn hyw hTy
      have rgy := right_ok y.tree hTy
      have hadd : IntKind.wrap .i64 ((i : Int) + 1) = ((i + 1 : Nat) : Int) := by rw [wrap64 (by omega) (by omega)]; rfl
      have hltI : (i : Int) < L.length := by omega
      have next : ∀ (σ' : Slots) (h' : Heap), σ' 56 = .list 10 (L.map ruA) rx → σ' 57 = .int .i64 (L.length : Nat) → σ' 58 = .int .i64 ((i + 1 : Nat) : Int) → ∃ m, m < L.length - i ∧ InvBa L rx m σ' h' := fun σ' h' q1 q2 q3 => ⟨L.length - (i + 1), by omega, i + 1, by omega, rfl, q1, q2, q3⟩
      by_cases hp : (printP y).2 = 0
      · by_cases hl : 60000 < (printP y).1.length
        · have hl' : (60000 : Int) < (printP y).1.length := by omega
          simp [-getElem?_pos, -Int.natCast_add, wL3_0, s56, s57, s58, hltI, hlt, hy, ruA_cells, ruL_take, ruL_agg, ruL_tree, ruL_name', pr, hp, hl', hadd]
          exact next _ _ (by simp [s56]) (by simp [s57]) (by simp)
        · have hl' : ¬ (60000 : Int) < (printP y).1.length := by omega
          obtain ⟨pos, o1, o2⟩ := back_of hp (by omega)
          obtain ⟨bf2, ho2⟩ := of_all (printP y).1 (by omega)
          have Ty := of_TOk (s := (printP y).1) (by omega)
          rw [o1] at ho2 Ty
          have rl : ∀ ra h, M.call 11 [.list 10 [ruA ⟨y.name, pos, y.more, normT y.tree⟩] ra, .list 10 [ruA y] .full, .bool false] h = some (.bool true, h) := fun ra h => by
            have := rules_ok false [⟨y.name, pos, y.more, normT y.tree⟩] [y] ra .full (by simp) (by simp) (fun z hz => Ty z hz) (fun z hz => by simp only [List.mem_singleton] at hz; subst hz; exact hTy) h
            rw [o2] at this
            exact this
          simp at ho2
          simp [-getElem?_pos, -Int.natCast_add, wL3_0, s56, s57, s58, hltI, hlt, hy, ruA_cells, ruL_take, ruL_agg, ruL_tree, ruL_name', pr, hp, hl', hadd, ho2, rl]
          exact next _ _ (by simp [s56]) (by simp [s57]) (by simp)
      · obtain ⟨hp1, hp2⟩ := not_right hp
        rw [hp1] at pr
        by_cases hnm : y.name = [114, 45, 49]
        · have hf := hp2 hnm
          rw [hf] at rgy
          simp [-getElem?_pos, -Int.natCast_add, wL3_0, s56, s57, s58, hltI, hlt, hy, ruA_cells, ruL_take, ruL_agg, ruL_tree, ruL_name', pr, hnm, rgy, hadd]
          exact next _ _ (by simp [s56]) (by simp [s57]) (by simp)
        · simp [-getElem?_pos, -Int.natCast_add, wL3_0, s56, s57, s58, hltI, hlt, hy, ruA_cells, ruL_take, ruL_agg, ruL_tree, ruL_name', pr, hnm, hadd]
          exact next _ _ (by simp [s56]) (by simp [s57]) (by simp)
    · obtain rfl : i = L.length := by omega
      simp [-getElem?_pos, wL3_0, wK3_0, s56, s57, s58, awake_ok, fin_nil]
  have hnm := fun h => names_ok h
  have hcat : [ruA G, ruA x] ++ all.map ruA = L.map ruA := by subst hL; simp
  have hln : 2 + (all.map ruA).length = L.length := by subst hL; simp; omega
  by_cases e0 : (ofP s).2.2 = 0
  · rw [if_pos e0] at hof
    rw [← hof] at ho
    simp [-getElem?_pos, -Int.natCast_add, wB3, ruA_cells, ruL_tree, ruL_take, ruL_agg, nd, c1, c2', c3', hnm, gt, rg, ho, e0, eG, hGt]
    refine onO_app (n0 := 2) (xs := [ruA G, ruA x]) .full (by omega) (by simp) (by simp; omega) (by simp; omega) fun rx H' hO hA => ?_
    rw [hcat]
    simp [-getElem?_pos, -Int.natCast_add]
    simp [-Int.natCast_add] at LP
    refine LP _ _ rx ?_ ?_ ?_ <;> simp
  · rw [if_neg e0] at hof
    subst hof
    simp [-getElem?_pos, -Int.natCast_add, wB3, ruA_cells, ruL_tree, ruL_take, ruL_agg, nd, c1, c2', c3', hnm, gt, rg, ho, e0, eG, hGt]
    refine onO_app (n0 := 2) (xs := [ruA G, ruA x]) (ys := []) .full (by omega) (by simp) (by simp) (by simp) fun rx H' hO hA => ?_
    rw [show [ruA G, ruA x] ++ [] = L.map ruA from hcat]
    simp [-getElem?_pos, -Int.natCast_add]
    simp [-Int.natCast_add] at LP
    refine LP _ _ rx ?_ ?_ ?_ <;> simp
end Go.Proofs.YtmmapbhhkmchcaaDoor
