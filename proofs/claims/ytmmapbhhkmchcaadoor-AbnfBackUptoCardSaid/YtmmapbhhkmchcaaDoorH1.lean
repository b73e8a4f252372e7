/-
  frankinglaw02: what the arguments are.
-/
import Derived.Test.YtmmapbhhkmchcaaDoorH0
import Derived.Test.YtmmapbhhkmchcaaDoorN2
set_option linter.unusedVariables false
set_option linter.unusedSimpArgs false
set_option maxRecDepth 100000
namespace Go.Proofs.YtmmapbhhkmchcaaDoor
open Go Go.Am

section
variable {P : Program} {n : Nat} {t e : TypeId} {a : List AV}
theorem hasc_u8 (hu : P.underlying t = some (.int .u8)) (h : Has P n t a) : ∃ c : UInt8, a = [.int .u8 c.toNat] := by
  cases n with
  | zero => exact h.elim
  | succ m =>
    simp only [Has, hu] at h
    obtain ⟨i, rfl, hw⟩ := h
    obtain ⟨j, rfl, hj⟩ := nat_of_wf (m := 255) hw ⟨by decide, by decide⟩
    exact ⟨UInt8.ofNat j, by rw [UInt8.toNat_ofNat', Nat.mod_eq_of_lt (by omega)]⟩
theorem hasc_i64 (hu : P.underlying t = some (.int .i64)) (h : Has P n t a) : ∃ i : Int, a = [.int .i64 i] := by
  cases n with
  | zero => exact h.elim
  | succ m =>
    simp only [Has, hu] at h
    obtain ⟨i, rfl, hw⟩ := h
    exact ⟨i, rfl⟩
theorem hasc_bool (hu : P.underlying t = some .bool) (h : Has P n t a) : ∃ b, a = [.bool b] := by
  cases n with
  | zero => exact h.elim
  | succ m =>
    simp only [Has, hu] at h
    exact h
theorem hasc_str (hu : P.underlying t = some .string) (h : Has P n t a) : ∃ l : List UInt8, a = [.str l] := by
  cases n with
  | zero => exact h.elim
  | succ m =>
    simp only [Has, hu] at h
    obtain ⟨l, rfl, _⟩ := h
    exact ⟨l, rfl⟩
end

theorem cells24 : Tryd.prog.cellsOf 24 = 7 := by kernel_rfl

theorem tr_of_has : ∀ (n : Nat) (zs : List AV), Has Tryd.prog n 24 zs → ∃ t : Tr, zs = t.encL := by
  intro n
  induction n using Nat.strongRecOn with
  | _ n ih =>
    intro zs h
    cases n with
    | zero => exact h.elim
    | succ m =>
      simp only [Has, Tryd.underlying24] at h
      obtain ⟨a1, b1, rfl, h1, a2, b2, rfl, h2, a3, b3, rfl, h3, a4, b4, rfl, h4, a5, b5, rfl, h5, a6, b6, rfl, h6, a7, b7, rfl, h7, rfl⟩ := h
      obtain ⟨k, rfl⟩ := hasc_u8 Tryd.underlying5 h1
      obtain ⟨s, rfl⟩ := hasc_str Tryd.underlying9 h2
      obtain ⟨lo, rfl⟩ := hasc_u8 Tryd.underlying5 h3
      obtain ⟨hi, rfl⟩ := hasc_u8 Tryd.underlying5 h4
      obtain ⟨mn, rfl⟩ := hasc_i64 Tryd.underlying3 h5
      obtain ⟨mx, rfl⟩ := hasc_i64 Tryd.underlying3 h6
      cases m with
      | zero => exact h7.elim
      | succ m =>
        change Has Tryd.prog (m + 1) 22 a7 at h7
        simp only [Has, Tryd.underlying22] at h7
        obtain ⟨xs, rfl, _, hx⟩ := h7
        have hg : aggT Tryd.prog 24 = true := by unfold aggT; rw [Tryd.underlying24]
        obtain ⟨ks, rfl⟩ := choose_list (p := Tr.enc) fun x hx' => (by
          have := hx x hx'
          unfold HasE at this
          rw [hg, if_pos rfl] at this
          obtain ⟨zs, rfl, h8⟩ := this
          obtain ⟨t, rfl⟩ := ih m (by omega) zs h8
          exact ⟨t, rfl⟩ : ∃ y : Tr, x = y.enc)
        rw [cells24]
        refine ⟨.mk k s lo hi mn mx false ks, ?_⟩
        rw [Tr.encL_eq]
        rfl
theorem arg_rule {n : Nat} {a : AV} (h : HasE Tryd.prog (Has Tryd.prog n) 26 a) : ∃ x : Ru, a = ruA x := by
  obtain ⟨cs, m, rfl, a1, b1, rfl, h1, a2, b2, rfl, h2, a3, b3, rfl, h3, a4, b4, rfl, h4, rfl⟩ := has_struct Tryd.underlying26 h
  obtain ⟨s, rfl⟩ := hasc_str Tryd.underlying9 h1
  obtain ⟨p, rfl⟩ := hasc_i64 Tryd.underlying3 h2
  obtain ⟨b, rfl⟩ := hasc_bool Tryd.underlying4 h3
  obtain ⟨t, rfl⟩ := tr_of_has m a4 h4
  exact ⟨⟨s, p, b, t⟩, by simp [ruA]⟩
theorem arg_nums {n : Nat} {x : AV} (h : HasE Tryd.prog (Has Tryd.prog n) 27 x) : ∃ U : List Nat, x = .list 1 (U.map fun j => .int .u16 (j : Nat)) .no ∧ (∀ j ∈ U, j ≤ 65535) := by
  obtain ⟨xs, m, rfl, h1, h2⟩ := has_slice Tryd.underlying27 h
  obtain ⟨U, rfl, hU⟩ := choose_list' (p := fun j : Nat => AV.int .u16 (j : Nat)) (q := fun j : Nat => j ≤ 65535) fun x hx => has_u16 Tryd.underlying80 (h2 x hx)
  have hc : Tryd.prog.cellsOf 80 = 1 := by kernel_rfl
  rw [hc]
  exact ⟨U, rfl, hU⟩
mutual
theorem wt_bk : ∀ t : Tr, t.wt ≤ 16 * bks t.encL
  | .mk k s lo hi mn mx r ks => by
    have := wts_bk ks
    simp only [Tr.wt, Tr.encL, bks, bk]
    omega
theorem wts_bk : ∀ l : List Tr, wts l ≤ 16 * bks (encs l)
  | [] => by simp [wts]
  | t :: l => by
    have := wt_bk t
    have := wts_bk l
    simp only [wts, encs, bks, bk]
    omega
end
theorem AbnfBack_law (xs : List AV) (h : HasArgs Tryd.prog [26, 27, 4, 9] xs) (hb : bks xs ≤ 1048576) : (lim XS T).call 3 xs [] = some (.bool true, []) := by
  obtain ⟨a0, r0, n0, rfl, h0, h⟩ := h
  obtain ⟨a1, r1, n1, rfl, h1, h⟩ := h
  obtain ⟨a2, r2, n2, rfl, h2, h⟩ := h
  obtain ⟨a3, r3, n3, rfl, h3, h⟩ := h
  obtain rfl := args_nil h
  obtain ⟨x, rfl⟩ := arg_rule h0
  obtain ⟨U, rfl, hU⟩ := arg_nums h1
  obtain ⟨b, rfl⟩ := has_bool Tryd.underlying4 h2
  obtain ⟨s, rfl, _⟩ := has_str Tryd.underlying9 h3
  have h4 := wt_bk x.tree
  simp only [bks, bk, ruA, List.cons_append, List.nil_append] at hb
  exact back_true x U b s hU (by omega) (by omega)
end Go.Proofs.YtmmapbhhkmchcaaDoor
