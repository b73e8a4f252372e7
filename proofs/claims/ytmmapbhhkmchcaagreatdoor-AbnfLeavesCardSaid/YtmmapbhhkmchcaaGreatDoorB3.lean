/-
  The reference: small letters, leaves, kinds.
-/
import Derived.Test.YtmmapbhhkmchcaaGreatDoorB2
set_option linter.unusedVariables false
set_option linter.unusedSimpArgs false
namespace Go.Proofs.YtmmapbhhkmchcaaGreatDoor
open Go Go.Am

theorem rkind_ok (l : List Tok) (rt : Rt) (hl : l.length ≤ 1000000000) (a : Nat) (h : Heap) : M.call 82 [.list 7 (l.map tokA) rt, .int .i64 a] h = some (.int .u8 (kd l a).toNat, h) := by
  refine call_of tab82 rfl (callF_wp ?_)
  by_cases hlt : a < l.length
  · obtain ⟨t, et⟩ : ∃ t, l[a]? = some t := ⟨_, List.getElem?_eq_getElem hlt⟩
    simp [-getElem?_pos, wB82, hlt, et, tokA, tokL, kd]
  · have et : l[a]? = none := List.getElem?_eq_none (by omega)
    simp [-getElem?_pos, wB82, hlt, et, kd]
theorem allU8 {p : UInt8 → Bool} (h : ((List.range 256).all fun n => p (UInt8.ofNat n)) = true) (c : UInt8) : p c = true := by
  have := List.all_eq_true.1 h c.toNat (by simp; exact c.toNat_lt)
  simpa using this
theorem rbegins_ok (c : UInt8) (h : Heap) : M.call 131 [.int .u8 c.toNat] h = some (.bool (begins c), h) := by
  refine call_of tab131 rfl (callF_wp ?_)
  have e1 : ((c.toNat : Int) = 1) = (c = 1) := u8_eq c 1 (by omega)
  have e5 : ((c.toNat : Int) = 5) = (c = 5) := u8_eq c 5 (by omega)
  have e7 : ((c.toNat : Int) = 7) = (c = 7) := u8_eq c 7 (by omega)
  by_cases h1 : c = 1
  · subst h1; simp [wB131]; decide
  by_cases h5 : c = 5
  · subst h5; simp [wB131]; decide
  by_cases h7 : c = 7
  · subst h7; simp [wB131]; decide
  have e1' := e1.trans (eq_false h1)
  have e5' := e5.trans (eq_false h5)
  have e7' := e7.trans (eq_false h7)
  by_cases h9 : 9 ≤ c.toNat
  · by_cases h12 : c.toNat ≤ 12 <;> simp [wB131, e1', e5', e7', h1, h5, h7, lit_le, le_lit, h9, h12, begins]
  · simp [wB131, e1', e5', e7', h1, h5, h7, lit_le, le_lit, h9, begins]

def InvRs (s : List UInt8) (h0 : Heap) (k : Nat) (σ : Slots) (h : Heap) : Prop := ∃ i ro, i ≤ s.length ∧ k = s.length - i ∧ σ 0 = .str s ∧ σ 4 = .int .i64 i ∧ σ 3 = .list 1 (ofBytes (smallP (s.take i))) ro ∧ Ow h0.length h 1 5 ro i ∧ h.take h0.length = h0
theorem smC_up {c : UInt8} (h : 65 ≤ c.toNat) (h' : c.toNat ≤ 90) : IntKind.wrap .u8 (IntKind.wrap .u8 ((c.toNat : Int) - 65) + 97) = ((smC c).toNat : Int) := by
  have := allU8 (p := fun c => !decide (65 ≤ c.toNat) || (!decide (c.toNat ≤ 90) || decide (IntKind.wrap .u8 (IntKind.wrap .u8 ((c.toNat : Int) - 65) + 97) = ((smC c).toNat : Int)))) (by decide +kernel) c
  simpa [h, h'] using this
theorem rsmall_ok (s : List UInt8) (hs : s.length ≤ 1000000000) (h0 : Heap) : M.call 118 [.str s] h0 = some (.str (smallP s), h0) := by
  refine call_of tab118 rfl (callF_wp ?_)
  simp [wB118]
  refine Wp.loop (InvRs s h0) ?_ (n := s.length) ⟨0, .full, by omega, by omega, by simp, by simp, by simp [smallP], .full, by simp⟩
  rintro k σ h ⟨i, ro, hi, rfl, s0, s4, s3, ow, hh⟩
  have hle : h0.length ≤ h.length := by
    have := congrArg List.length hh
    simp at this
    omega
  by_cases hlt : i < s.length
  · obtain ⟨c, ec⟩ : ∃ c, s[i]? = some c := ⟨_, List.getElem?_eq_getElem hlt⟩
    have e64 : IntKind.wrap .i64 ((i : Int) + 1) = ((i + 1 : Nat) : Int) := by rw [wrap64 (by omega) (by omega)]; rfl
    have ht : smallP (s.take (i + 1)) = smallP (s.take i) ++ [smC c] := by simp [smallP, List.take_add_one, ec]
    have hlen : (ofBytes (smallP (s.take i))).length = i := by simp [smallP, ofBytes]; omega
    obtain ⟨r2, g, p1, p2, p3⟩ := app_list (n0 := h0.length) (key := h.length) (sz := 1) (bytes := 1) (e := 5) (h := h ++ [AE.dead]) (xs := ofBytes (smallP (s.take i))) (ys := [AV.int .u8 (smC c).toNat]) (r := ro) (r2 := .full)
      (by rw [hlen]; exact ow.app _) (by omega) (by simp) (by simp [hlen]; omega) (by simp [hlen]; omega)
    rw [hlen] at p2
    have next : ∀ σ' : Slots, σ' 0 = σ 0 → σ' 4 = .int .i64 ((i + 1 : Nat) : Int) → σ' 3 = .list 1 (ofBytes (smallP (s.take i)) ++ [AV.int .u8 (smC c).toNat]) r2 → ∃ m, m < s.length - i ∧ InvRs s h0 m σ' g := fun σ' q0 q4 q3 =>
      ⟨s.length - (i + 1), by omega, i + 1, r2, by omega, rfl, by rw [q0, s0], q4, by rw [q3, ht]; simp [ofBytes], p2, by rw [p3.take, take_app hle, hh]⟩
    by_cases h1 : 65 ≤ c.toNat
    · by_cases h2 : c.toNat ≤ 90
      · have w := smC_up h1 h2
        simp [-getElem?_pos, -Int.natCast_add, wL118_0, wJ118_0, wJ118_1, s0, s3, s4, hlt, ec, lit_le, le_lit, h1, h2, w, e64, Nat.add_assoc]
        rw [p1]
        simp [-Int.natCast_add, wJ118_1, s4, e64]
        refine next _ ?_ ?_ ?_ <;> simp
      · have w : smC c = c := by unfold smC; rw [if_neg (by omega)]
        rw [w] at p1 next
        simp [-getElem?_pos, -Int.natCast_add, wL118_0, wJ118_0, wJ118_1, s0, s3, s4, hlt, ec, lit_le, le_lit, h1, h2, w, e64, Nat.add_assoc]
        rw [p1]
        simp [-Int.natCast_add, wJ118_1, s4, e64]
        refine next _ ?_ ?_ ?_ <;> simp
    · have w : smC c = c := by unfold smC; rw [if_neg (by omega)]
      rw [w] at p1 next
      simp [-getElem?_pos, -Int.natCast_add, wL118_0, wJ118_0, wJ118_1, s0, s3, s4, hlt, ec, lit_le, le_lit, h1, w, e64, Nat.add_assoc]
      rw [p1]
      simp [-Int.natCast_add, wJ118_1, s4, e64]
      refine next _ ?_ ?_ ?_ <;> simp
  · have : i = s.length := by omega
    subst this
    rw [List.take_length] at s3
    simp [wL118_0, wK118_0, s0, s3, s4, finish_of_take hh]
theorem rleaf_ok (t : Tok) (ht : t.text.length ≤ 1000000000) (h0 : Heap) : M.call 81 [tokA t] h0 = some (.tup [(leafT t).enc, .bool (aloneP (leafT t))], h0) := by
  refine call_of tab81 rfl (callF_wp ?_)
  have sm := rsmall_ok t.text ht
  have ke : ∀ k : Nat, k < 256 → ((t.kind.toNat : Int) = (k : Int)) = (t.kind = UInt8.ofNat k) := fun k hk => u8_eq t.kind k hk
  have k1' := ke 1 (by omega)
  have k10' := ke 10 (by omega)
  have k11' := ke 11 (by omega)
  have k12' := ke 12 (by omega)
  simp at k1' k10' k11' k12'
  clear ke
  have hsl : (leafT t).s.length ≤ 1000000000 := by
    unfold leafT
    split
    · simpa [Tr.s, smallP] using ht
    split
    · exact ht
    split
    · exact ht
    split <;> simp [Tr.s]
  have on := rone_ok (leafT t) hsl
  generalize hb : aloneP (leafT t) = b at *
  clear hb
  by_cases k1 : t.kind = 1
  · have hl : leafT t = .mk 1 (smallP t.text) 0 0 0 0 true [] := by simp [leafT, k1]
    rw [hl, Tr.enc_mk] at on ⊢
    simp at on
    simp [wB81, wJ81_0, tokA, tokL, k1', k10', k11', k12', k1, sm, on, cleans_cons, Nat.add_assoc]
  by_cases k10 : t.kind = 10
  · have hl : leafT t = .mk 2 t.text 0 0 0 0 true [] := by simp [leafT, k10]
    rw [hl, Tr.enc_mk] at on ⊢
    simp at on
    simp [wB81, wJ81_0, tokA, tokL, k1', k10', k11', k12', k1, k10, sm, on, cleans_cons, Nat.add_assoc]
  by_cases k11 : t.kind = 11
  · have hl : leafT t = .mk 3 t.text 0 0 0 0 true [] := by simp [leafT, k11]
    rw [hl, Tr.enc_mk] at on ⊢
    simp at on
    simp [wB81, wJ81_0, tokA, tokL, k1', k10', k11', k12', k1, k10, k11, sm, on, cleans_cons, Nat.add_assoc]
  by_cases k12 : t.kind = 12
  · have hl : leafT t = .mk 4 [] t.lo t.hi 0 0 true [] := by simp [leafT, k12]
    rw [hl, Tr.enc_mk] at on ⊢
    simp at on
    simp [wB81, wJ81_0, tokA, tokL, k1', k10', k11', k12', k1, k10, k11, k12, sm, on, cleans_cons, Nat.add_assoc]
  have hl : leafT t = .mk 0 [] 0 0 0 0 true [] := by simp [leafT, k1, k10, k11, k12]
  rw [hl, Tr.enc_mk] at on ⊢
  simp at on
  simp [wB81, wJ81_0, tokA, tokL, k1', k10', k11', k12', k1, k10, k11, k12, sm, on, cleans_cons, Nat.add_assoc]
end Go.Proofs.YtmmapbhhkmchcaaGreatDoor
