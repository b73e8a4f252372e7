/-
  frankinglaw02: what the arguments are.
-/
import Derived.Test.YtmmapbhhkmchcaaGreatDoorH0
import Derived.Test.YtmmapbhhkmchcaaGreatDoorE4
set_option linter.unusedVariables false
set_option linter.unusedSimpArgs false
set_option maxRecDepth 100000
namespace Go.Proofs.YtmmapbhhkmchcaaGreatDoor
open Go Go.Am

section
variable {P : Program} {n : Nat} {t e : TypeId} {a : List AV}
theorem hasc_u8 (hu : P.underlying t = some (.int .u8)) (h : Has P n t a) : ∃ c : UInt8, a = [.int .u8 c.toNat] := by
  cases n with
  | zero => exact h.elim
  | succ m =>
    simp only [Has, hu] at h
    obtain ⟨i, rfl, hw⟩ := h
    obtain ⟨j, rfl, hj⟩ := nat_of_wf (m := 255) hw ⟨by decide, by decide⟩
    exact ⟨UInt8.ofNat j, by rw [UInt8.toNat_ofNat', Nat.mod_eq_of_lt (by omega)]⟩
theorem hasc_i64 (hu : P.underlying t = some (.int .i64)) (h : Has P n t a) : ∃ i : Int, a = [.int .i64 i] := by
  cases n with
  | zero => exact h.elim
  | succ m =>
    simp only [Has, hu] at h
    obtain ⟨i, rfl, hw⟩ := h
    exact ⟨i, rfl⟩
theorem hasc_bool (hu : P.underlying t = some .bool) (h : Has P n t a) : ∃ b, a = [.bool b] := by
  cases n with
  | zero => exact h.elim
  | succ m =>
    simp only [Has, hu] at h
    exact h
theorem hasc_str (hu : P.underlying t = some .string) (h : Has P n t a) : ∃ l : List UInt8, a = [.str l] := by
  cases n with
  | zero => exact h.elim
  | succ m =>
    simp only [Has, hu] at h
    obtain ⟨l, rfl, _⟩ := h
    exact ⟨l, rfl⟩
end

theorem cells25 : Tryz.prog.cellsOf 25 = 7 := by kernel_rfl

theorem cells57 : Tryz.prog.cellsOf 57 = 7 := by kernel_rfl
theorem tr_of_has : ∀ (n : Nat) (zs : List AV), Has Tryz.prog n 25 zs → ∃ t : Tr, zs = t.encL := by
  intro n
  induction n using Nat.strongRecOn with
  | _ n ih =>
    intro zs h
    cases n with
    | zero => exact h.elim
    | succ m =>
      simp only [Has, Tryz.underlying25] at h
      obtain ⟨a1, b1, rfl, h1, a2, b2, rfl, h2, a3, b3, rfl, h3, a4, b4, rfl, h4, a5, b5, rfl, h5, a6, b6, rfl, h6, a7, b7, rfl, h7, rfl⟩ := h
      obtain ⟨k, rfl⟩ := hasc_u8 Tryz.underlying5 h1
      obtain ⟨s, rfl⟩ := hasc_str Tryz.underlying9 h2
      obtain ⟨lo, rfl⟩ := hasc_u8 Tryz.underlying5 h3
      obtain ⟨hi, rfl⟩ := hasc_u8 Tryz.underlying5 h4
      obtain ⟨mn, rfl⟩ := hasc_i64 Tryz.underlying3 h5
      obtain ⟨mx, rfl⟩ := hasc_i64 Tryz.underlying3 h6
      cases m with
      | zero => exact h7.elim
      | succ m =>
        change Has Tryz.prog (m + 1) 23 a7 at h7
        simp only [Has, Tryz.underlying23] at h7
        obtain ⟨xs, rfl, _, hx⟩ := h7
        have hg : aggT Tryz.prog 25 = true := by unfold aggT; rw [Tryz.underlying25]
        obtain ⟨ks, rfl⟩ := choose_list (p := Tr.enc) fun x hx' => (by
          have := hx x hx'
          unfold HasE at this
          rw [hg, if_pos rfl] at this
          obtain ⟨zs, rfl, h8⟩ := this
          obtain ⟨t, rfl⟩ := ih m (by omega) zs h8
          exact ⟨t, rfl⟩ : ∃ y : Tr, x = y.enc)
        rw [cells25]
        refine ⟨.mk k s lo hi mn mx false ks, ?_⟩
        rw [Tr.encL_eq]
        rfl
theorem arg_rule {n : Nat} {a : AV} (h : HasE Tryz.prog (Has Tryz.prog n) 27 a) : ∃ x : Ru, a = ruA x := by
  obtain ⟨cs, m, rfl, a1, b1, rfl, h1, a2, b2, rfl, h2, a3, b3, rfl, h3, a4, b4, rfl, h4, rfl⟩ := has_struct Tryz.underlying27 h
  obtain ⟨s, rfl⟩ := hasc_str Tryz.underlying9 h1
  obtain ⟨p, rfl⟩ := hasc_i64 Tryz.underlying3 h2
  obtain ⟨b, rfl⟩ := hasc_bool Tryz.underlying4 h3
  obtain ⟨t, rfl⟩ := tr_of_has m a4 h4
  exact ⟨⟨s, p, b, t⟩, by simp [ruA]⟩
theorem arg_toks {n : Nat} {a : AV} (h : HasE Tryz.prog (Has Tryz.prog n) 22 a) : ∃ l : List Tok, a = .list 7 (l.map tokA) .no := by
  obtain ⟨xs, m, rfl, _, hx⟩ := has_slice Tryz.underlying22 h
  obtain ⟨l, rfl⟩ := choose_list (p := tokA) fun x hx' => (by
    obtain ⟨cs, m, rfl, a1, b1, rfl, h1, a2, b2, rfl, h2, a3, b3, rfl, h3, a4, b4, rfl, h4, a5, b5, rfl, h5, a6, b6, rfl, h6, a7, b7, rfl, h7, rfl⟩ := has_struct Tryz.underlying57 (hx x hx')
    obtain ⟨k, rfl⟩ := hasc_u8 Tryz.underlying5 h1
    obtain ⟨p, rfl⟩ := hasc_i64 Tryz.underlying3 h2
    obtain ⟨s, rfl⟩ := hasc_str Tryz.underlying9 h3
    obtain ⟨mn, rfl⟩ := hasc_i64 Tryz.underlying3 h4
    obtain ⟨mx, rfl⟩ := hasc_i64 Tryz.underlying3 h5
    obtain ⟨lo, rfl⟩ := hasc_u8 Tryz.underlying5 h6
    obtain ⟨hi, rfl⟩ := hasc_u8 Tryz.underlying5 h7
    exact ⟨{ kind := k, pos := p, text := s, mn := mn, mx := mx, lo := lo, hi := hi }, by simp [tokA, tokL]⟩ : ∃ y : Tok, x = tokA y)
  rw [cells57]
  exact ⟨l, rfl⟩
mutual
theorem wt_bk : ∀ t : Tr, t.wt ≤ 16 * bks t.encL
  | .mk k s lo hi mn mx r ks => by
    have := wts_bk ks
    simp only [Tr.wt, Tr.encL, bks, bk]
    omega
theorem wts_bk : ∀ l : List Tr, wts l ≤ 16 * bks (encs l)
  | [] => by simp [wts]
  | t :: l => by
    have := wt_bk t
    have := wts_bk l
    simp only [wts, encs, bks, bk]
    omega
end
theorem bks_mem : ∀ {l : List AV} {x : AV}, x ∈ l → bk x ≤ bks l
  | y :: l, x, h => by
    simp only [bks]
    rcases List.mem_cons.1 h with rfl | h
    · omega
    · have := bks_mem h; omega
theorem toks_bk (l : List Tok) : (∀ t ∈ l, t.text.length ≤ bks (l.map tokA)) ∧ l.length ≤ bks (l.map tokA) := by
  constructor
  · intro t ht
    have := bks_mem (List.mem_map_of_mem (f := tokA) ht)
    simp only [tokA, tokL, bk, bks] at this
    omega
  · induction l with
    | nil => simp
    | cons t l ih =>
      simp only [List.map_cons, bks, List.length_cons, tokA, tokL, bk] at ih ⊢
      omega

theorem AbnfTells_law (xs : List AV) (h : HasArgs Tryz.prog [22, 27, 9] xs) (hb : bks xs ≤ 1048576) : (lim XS T).call 3 xs [] = some (.bool true, []) := by
  obtain ⟨a0, r0, n0, rfl, h0, h⟩ := h
  obtain ⟨a1, r1, n1, rfl, h1, h⟩ := h
  obtain ⟨a2, r2, n2, rfl, h2, h⟩ := h
  obtain rfl := args_nil h
  obtain ⟨l, rfl⟩ := arg_toks h0
  obtain ⟨x, rfl⟩ := arg_rule h1
  obtain ⟨s, rfl, _⟩ := has_str Tryz.underlying9 h2
  have h3 := toks_bk l
  have h4 := wt_bk x.tree
  simp only [bks, bk, ruA, List.cons_append, List.nil_append] at hb
  exact tells_true l x s .no (by simp) (by omega) (fun t ht => by have := h3.1 t ht; omega) (by omega) (by omega)
end Go.Proofs.YtmmapbhhkmchcaaGreatDoor
