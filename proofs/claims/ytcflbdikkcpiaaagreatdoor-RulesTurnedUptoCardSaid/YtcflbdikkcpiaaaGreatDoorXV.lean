/-
  frankinglaw03: what the arguments are.
-/
import Derived.Test.YtcflbdikkcpiaaaGreatDoorXU
import Derived.Test.YtcflbdikkcpiaaaGreatDoorXR
set_option linter.unusedVariables false
set_option linter.unusedSimpArgs false
set_option maxRecDepth 100000
namespace Go.Proofs.YtcflbdikkcpiaaaGreatDoor
open Go Go.Am
section
variable {P : Program} {n : Nat} {t e : TypeId} {a : List AV}
theorem hasc_u8 (hu : P.underlying t = some (.int .u8)) (h : Has P n t a) : ∃ c : UInt8, a = [.int .u8 c.toNat] := by
 cases n with
 | zero => exact h.elim
 | succ m =>
  simp only [Has, hu] at h
  obtain ⟨i, rfl, hw⟩ := h
  obtain ⟨j, rfl, hj⟩ := nat_of_wf (m := 255) hw ⟨by decide, by decide⟩
  exact ⟨UInt8.ofNat j, by rw [UInt8.toNat_ofNat', Nat.mod_eq_of_lt (by omega)]⟩
theorem hasc_i64 (hu : P.underlying t = some (.int .i64)) (h : Has P n t a) : ∃ i : Int, a = [.int .i64 i] := by
 cases n with
 | zero => exact h.elim
 | succ m =>
  simp only [Has, hu] at h
  obtain ⟨i, rfl, hw⟩ := h
  exact ⟨i, rfl⟩
theorem hasc_bool (hu : P.underlying t = some .bool) (h : Has P n t a) : ∃ b, a = [.bool b] := by
 cases n with
 | zero => exact h.elim
 | succ m =>
  simp only [Has, hu] at h
  exact h
theorem hasc_str (hu : P.underlying t = some .string) (h : Has P n t a) : ∃ l : List UInt8, a = [.str l] := by
 cases n with
 | zero => exact h.elim
 | succ m =>
  simp only [Has, hu] at h
  obtain ⟨l, rfl, _⟩ := h
  exact ⟨l, rfl⟩
end
theorem cells36 : Tryz.prog.cellsOf 36 = 7 := by kernel_rfl
theorem tr_of_has : ∀ (n : Nat) (zs : List AV), Has Tryz.prog n 36 zs → ∃ t : Tr, zs = t.encL := by
 intro n
 induction n using Nat.strongRecOn with
 | _ n ih =>
  intro zs h
  cases n with
  | zero => exact h.elim
  | succ m =>
   simp only [Has, Tryz.underlying36] at h
   obtain ⟨a1, b1, rfl, h1, a2, b2, rfl, h2, a3, b3, rfl, h3, a4, b4, rfl, h4, a5, b5, rfl, h5, a6, b6, rfl, h6, a7, b7, rfl, h7, rfl⟩ := h
   obtain ⟨k, rfl⟩ := hasc_u8 Tryz.underlying5 h1
   obtain ⟨s, rfl⟩ := hasc_str Tryz.underlying9 h2
   obtain ⟨lo, rfl⟩ := hasc_u8 Tryz.underlying5 h3
   obtain ⟨hi, rfl⟩ := hasc_u8 Tryz.underlying5 h4
   obtain ⟨mn, rfl⟩ := hasc_i64 Tryz.underlying3 h5
   obtain ⟨mx, rfl⟩ := hasc_i64 Tryz.underlying3 h6
   cases m with
   | zero => exact h7.elim
   | succ m =>
    change Has Tryz.prog (m + 1) 34 a7 at h7
    simp only [Has, Tryz.underlying34] at h7
    obtain ⟨xs, rfl, _, hx⟩ := h7
    have hg : aggT Tryz.prog 36 = true := by unfold aggT; rw [Tryz.underlying36]
    obtain ⟨ks, rfl⟩ := choose_list (p := Tr.enc) fun x hx' => (by
     have := hx x hx'
     unfold HasE at this
     rw [hg, if_pos rfl] at this
     obtain ⟨zs, rfl, h8⟩ := this
     obtain ⟨t, rfl⟩ := ih m (by omega) zs h8
     exact ⟨t, rfl⟩ : ∃ y : Tr, x = y.enc)
    rw [cells36]
    refine ⟨.mk k s lo hi mn mx false ks, ?_⟩
    rw [Tr.encL_eq]
    rfl
theorem cells38 : Tryz.prog.cellsOf 38 = 10 := by kernel_rfl
theorem arg_rules {n : Nat} {a : AV} (h : HasE Tryz.prog (Has Tryz.prog n) 22 a) : ∃ l : List Ru, a = .list 10 (l.map ruA) .no := by
 obtain ⟨xs, m, rfl, _, hx⟩ := has_slice Tryz.underlying22 h
 obtain ⟨l, rfl⟩ := choose_list (p := ruA) fun x hx' => (by
  obtain ⟨cs, m, rfl, a1, b1, rfl, h1, a2, b2, rfl, h2, a3, b3, rfl, h3, a4, b4, rfl, h4, rfl⟩ := has_struct Tryz.underlying38 (hx x hx')
  obtain ⟨s, rfl⟩ := hasc_str Tryz.underlying9 h1
  obtain ⟨p, rfl⟩ := hasc_i64 Tryz.underlying3 h2
  obtain ⟨b, rfl⟩ := hasc_bool Tryz.underlying4 h3
  obtain ⟨t, rfl⟩ := tr_of_has m a4 h4
  exact ⟨⟨s, p, b, t⟩, by simp [ruA]⟩ : ∃ y : Ru, x = ruA y)
 rw [cells38]
 exact ⟨l, rfl⟩
mutual
theorem wt_bk : ∀ t : Tr, t.wt ≤ 16 * bks t.encL
 | .mk k s lo hi mn mx r ks => by
  have := wts_bk ks
  simp only [Tr.wt, Tr.encL, bks, bk]
  omega
theorem wts_bk : ∀ l : List Tr, wts l ≤ 16 * bks (encs l)
 | [] => by simp [wts]
 | t :: l => by
  have := wt_bk t
  have := wts_bk l
  simp only [wts, encs, bks, bk]
  omega
end
theorem rules_bk : ∀ l : List Ru, wts (l.map Ru.tree) + l.length + (l.map fun x => x.name.length).sum ≤ 16 * bks (l.map ruA)
 | [] => by simp [wts]
 | x :: l => by
  have h1 := wt_bk x.tree
  have h2 := rules_bk l
  simp only [List.map_cons, wts, List.length_cons, List.sum_cons, bks, ruA, bk, List.cons_append, List.nil_append]
  omega
theorem lIn_bk {l : List Ru} (h : bks (l.map ruA) ≤ 1048576) : LIn l := by
 have h1 := rules_bk l
 have h3 : ∀ l : List Ru, 10 * l.length ≤ bks (l.map ruA) := by
  intro l
  induction l with
  | nil => simp
  | cons x l ih =>
   have := bks_app [.str x.name, .int .i64 x.pos, .bool x.more] x.tree.encL
   rw [Tr.encL_eq] at this
   simp only [List.map_cons, List.length_cons, bks, ruA, bk, Tr.encL_eq, List.cons_append, List.nil_append] at ih ⊢
   omega
 have h4 := h3 l
 refine ⟨by omega, fun x hx => ?_, by omega⟩
 have : x.name.length ≤ (l.map fun x => x.name.length).sum := by
  clear h h1 h3 h4
  induction l with
  | nil => cases hx
  | cons y l ih =>
   simp only [List.map_cons, List.sum_cons]
   rcases List.mem_cons.1 hx with rfl | hx
   ·omega
   ·have := ih hx; omega
 omega
end Go.Proofs.YtcflbdikkcpiaaaGreatDoor
set_option maxRecDepth 100000
namespace Go.Proofs.YtcflbdikkcpiaaaGreatDoor
open Go Go.Am
theorem RulesTurned_law (xs : List AV) (h : HasArgs Tryz.prog [22, 23, 51] xs) (hb : bks xs ≤ 1048576) : (lim XS T).call 5 xs [] = some (.bool true, []) := by
 obtain ⟨a0, r0, n0, rfl, h0, h⟩ := h
 obtain ⟨a1, r1, n1, rfl, h1, h⟩ := h
 obtain ⟨a2, r2, n2, rfl, h2, h⟩ := h
 obtain rfl := args_nil h
 obtain ⟨l, rfl⟩ := arg_rules h0
 obtain ⟨U, rfl, hU, lU⟩ := arg_rows h1
 obtain ⟨o, rfl, lo⟩ := has_bytes Tryz.underlying51 Tryz.underlying5 (by kernel_rfl) h2
 simp only [bks, bk] at hb
 have hm : maxLen ≤ 9223372036854775807 := by unfold maxLen; omega
 exact turn_true l .no (lIn_bk (by omega)) U .no (fun u hu => ⟨(hU u hu).1, by have := (hU u hu).2; omega⟩) (by omega) o .no (by omega)
end Go.Proofs.YtcflbdikkcpiaaaGreatDoor
