/-
  frankingref18: text, line, Kind.
-/
import Derived.Test.YtjdpneceeinhhaaDoorQ2
set_option linter.unusedVariables false
set_option linter.unusedSimpArgs false
namespace Go.Proofs.YtjdpneceeinhhaaDoor
open Go Go.Am

theorem kindN_cases (c : Int) : (c < 200 ∧ kindN c = 0) ∨ (200 ≤ c ∧ c ≤ 299 ∧ kindN c = 2) ∨ (300 ≤ c ∧ c ≤ 399 ∧ kindN c = 3) ∨ (400 ≤ c ∧ c ≤ 499 ∧ kindN c = 4) ∨ (500 ≤ c ∧ c ≤ 599 ∧ kindN c = 5) ∨ (599 < c ∧ kindN c = 0) := by
  unfold kindN
  split <;> omega
theorem rkind_ok (c : Int) (h : Heap) : M.call 18 [.int .i64 c] h = some (.int .u8 (kindN c), h) := by
  refine call_of tab18 rfl (callF_wp ?_)
  have tr : ∀ {p : Prop}, p → p = True := fun h => eq_true h
  have fl : ∀ {p : Prop}, ¬ p → p = False := fun h => eq_false h
  rcases kindN_cases c with ⟨a, e⟩ | ⟨a, b, e⟩ | ⟨a, b, e⟩ | ⟨a, b, e⟩ | ⟨a, b, e⟩ | ⟨a, e⟩ <;> rw [e]
  · simp [wB18, fl (p := 200 ≤ c) (by omega), fl (p := 300 ≤ c) (by omega), fl (p := 400 ≤ c) (by omega), fl (p := 500 ≤ c) (by omega)]
  · simp [wB18, tr (p := 200 ≤ c) (by omega), tr (p := c ≤ 299) (by omega)]
  · simp [wB18, tr (p := 200 ≤ c) (by omega), fl (p := c ≤ 299) (by omega), tr (p := 300 ≤ c) (by omega), tr (p := c ≤ 399) (by omega)]
  · simp [wB18, tr (p := 200 ≤ c) (by omega), fl (p := c ≤ 299) (by omega), tr (p := 300 ≤ c) (by omega), fl (p := c ≤ 399) (by omega), tr (p := 400 ≤ c) (by omega), tr (p := c ≤ 499) (by omega)]
  · simp [wB18, tr (p := 200 ≤ c) (by omega), fl (p := c ≤ 299) (by omega), tr (p := 300 ≤ c) (by omega), fl (p := c ≤ 399) (by omega), tr (p := 400 ≤ c) (by omega), fl (p := c ≤ 499) (by omega), tr (p := 500 ≤ c) (by omega), tr (p := c ≤ 599) (by omega)]
  · simp [wB18, tr (p := 200 ≤ c) (by omega), fl (p := c ≤ 299) (by omega), tr (p := 300 ≤ c) (by omega), fl (p := c ≤ 399) (by omega), tr (p := 400 ≤ c) (by omega), fl (p := c ≤ 499) (by omega), tr (p := 500 ≤ c) (by omega), fl (p := c ≤ 599) (by omega)]

def InvRt (s : List UInt8) (h0 : Heap) (k : Nat) (σ : Slots) (h : Heap) : Prop := ∃ i, i ≤ s.length ∧ k = s.length - i ∧ (s.take i).all okT = true ∧ σ 0 = .str s ∧ σ 3 = .int .i64 i ∧ h = h0
theorem rtext_ok (s : List UInt8) (hs : s.length ≤ big) (h0 : Heap) : M.call 28 [.str s] h0 = some (.bool (saidP s), h0) := by
  refine call_of tab28 rfl (callF_wp ?_)
  simp [wB28]
  refine Wp.loop (InvRt s h0) ?_ (n := s.length) ⟨0, by omega, by omega, by simp, by simp, by simp, rfl⟩
  rintro k σ h ⟨i, hi, rfl, hall, s0, s3, rfl⟩
  by_cases hlt : i < s.length
  · obtain ⟨c, ec⟩ : ∃ c, s[i]? = some c := ⟨_, List.getElem?_eq_getElem hlt⟩
    have hltI : (i : Int) < s.length := by omega
    have e64 : IntKind.wrap .i64 ((i : Int) + 1) = ((i + 1 : Nat) : Int) := by rw [wrap64 (by omega) (by unfold big at hs; omega)]; rfl
    have e9 : ((c.toNat : Int) = 9) = (c.toNat = 9) := propext ⟨fun h => by omega, fun h => by omega⟩
    have e32 : ((c.toNat : Int) < 32) = (c.toNat < 32) := propext ⟨fun h => by omega, fun h => by omega⟩
    have e126 : ((126 : Int) < (c.toNat : Int)) = (126 < c.toNat) := propext ⟨fun h => by omega, fun h => by omega⟩
    have next : okT c = true → ∀ σ' : Slots, σ' 0 = .str s → σ' 3 = .int .i64 ((i + 1 : Nat) : Int) → ∃ m, m < s.length - i ∧ InvRt s h m σ' h := fun hc σ' t0 t3 => ⟨s.length - (i + 1), by omega, i + 1, by omega, rfl, by
      rw [List.take_add_one, ec]
      simp [List.all_append, hc]
      simpa using hall, t0, t3, rfl⟩
    have bad : okT c = false → saidP s = false := fun hc => by
      unfold saidP
      have : s.all okT = false := by
        rw [Bool.eq_false_iff]
        intro ha
        rw [List.all_eq_true] at ha
        have := ha c (List.mem_of_getElem? ec)
        rw [hc] at this; cases this
      rw [this, Bool.and_false]
    by_cases h9 : c.toNat = 9
    · simp [-getElem?_pos, -Int.natCast_add, wL28_0, s0, s3, hlt, hltI, ec, e9, e32, e126, h9, e64]
      exact next (by simp [okT, h9]) _ (by simp [s0]) (by simp)
    · by_cases h32 : c.toNat < 32
      · have := bad (by simp [okT]; omega)
        simp [-getElem?_pos, -Int.natCast_add, wL28_0, s0, s3, hlt, hltI, ec, e9, e32, e126, h9, h32, this]
      · by_cases h126 : 126 < c.toNat
        · have := bad (by simp [okT]; omega)
          simp [-getElem?_pos, -Int.natCast_add, wL28_0, s0, s3, hlt, hltI, ec, e9, e32, e126, h9, h32, h126, this]
        · simp [-getElem?_pos, -Int.natCast_add, wL28_0, s0, s3, hlt, hltI, ec, e9, e32, e126, h9, h32, h126, e64]
          exact next (by simp [okT]; omega) _ (by simp [s0]) (by simp)
  · obtain rfl : i = s.length := by omega
    rw [List.take_of_length_le (Nat.le_refl _)] at hall
    have e500 : ((s.length : Int) ≤ 500) = (s.length ≤ 500) := propext ⟨fun h => by omega, fun h => by omega⟩
    simp [wL28_0, wK28_0, s0, s3, saidP, hall, e500]

def lineP : List UInt8 → Bool
  | a :: b :: c :: m :: t => decide (50 ≤ a.toNat ∧ a.toNat ≤ 53) && digC b && digC c && (m == 45 || m == 32) && saidP t
  | _ => false
theorem lineP_cut (s : List UInt8) : lineP s = ((cutP s).2.2.2 && ((cutP s).2.1 == 45 || (cutP s).2.1 == 32)) := by
  match s with
  | [] => rfl
  | [a] => rfl
  | [a, b] => rfl
  | [a, b, c] => rfl
  | a :: b :: c :: m :: t =>
    unfold lineP cutP
    simp only
    cases hn : numP a b c with
    | none =>
      have : (decide (50 ≤ a.toNat ∧ a.toNat ≤ 53) && digC b && digC c) = false := by
        unfold numP at hn
        split at hn
        · cases hn
        · rename_i hd
          rw [Bool.eq_false_iff]
          intro h
          apply hd
          simp only [Bool.and_eq_true, decide_eq_true_eq] at h ⊢
          exact ⟨⟨by simp [digC]; omega, h.1.2⟩, h.2⟩
      rw [this]
      simp
    | some n =>
      unfold numP at hn
      split at hn
      · rename_i hd
        simp only [Bool.and_eq_true] at hd
        obtain ⟨⟨da, db⟩, dc⟩ := hd
        injection hn with hn
        rw [db, dc]
        simp only [digC, decide_eq_true_eq] at da db dc
        have : decide (50 ≤ a.toNat ∧ a.toNat ≤ 53) = decide (0 < kindN (n : Int)) := by
          congr 1
          apply propext
          rcases kindN_cases (n : Int) with ⟨h, e⟩ | ⟨h, h', e⟩ | ⟨h, h', e⟩ | ⟨h, h', e⟩ | ⟨h, h', e⟩ | ⟨h, e⟩ <;> rw [e] <;> constructor <;> intro k <;> omega
        rw [this]
        simp only [Bool.and_true]
        cases decide (0 < kindN (n : Int)) <;> cases saidP t <;> cases (m == 45 || m == 32) <;> rfl
      · cases hn
theorem rline_ok (s : List UInt8) (hs : s.length ≤ big) (h : Heap) : M.call 27 [.str s] h = some (.bool (lineP s), h) := by
  refine call_of tab27 rfl (callF_wp ?_)
  have short : ∀ s : List UInt8, s.length < 4 → lineP s = false → Wp M B27 (fun e σ h' => isEnd e ∧ ∃ vs, resVals σ h' [ARes.tmp 2] = some vs ∧ finish h h' (oneOf vs) = some (.bool (lineP s), h)) (fun i => [AV.str s].getD i .junk) h := by
    intro s hl e
    have hl' : (s.length : Int) < 4 := by omega
    rw [e]
    simp [wB27, hl']
  match s, hs with
  | [], _ => exact short _ (by simp) rfl
  | [a], _ => exact short _ (by simp) rfl
  | [a, b], _ => exact short _ (by simp) rfl
  | [a, b, c], _ => exact short _ (by simp) rfl
  | a :: b :: c :: m :: t, hs =>
    have hl : ¬ ((t.length : Int) + 1 + 1 + 1 + 1 < 4) := by omega
    have l2 : (4 : Int) ≤ (t.length : Int) + 1 + 1 + 1 + 1 := by omega
    have ht := fun h => rtext_ok t (by simp at hs; omega) h
    have ge : ∀ (x : UInt8) (n : Nat), ((n : Int) ≤ (x.toNat : Int)) = (n ≤ x.toNat) := fun x n => propext ⟨fun h => by omega, fun h => by omega⟩
    have le : ∀ (x : UInt8) (n : Nat), ((x.toNat : Int) ≤ (n : Int)) = (x.toNat ≤ n) := fun x n => propext ⟨fun h => by omega, fun h => by omega⟩
    have a1 : ((50 : Int) ≤ (a.toNat : Int)) = (50 ≤ a.toNat) := ge a 50
    have a2 : ((a.toNat : Int) ≤ (53 : Int)) = (a.toNat ≤ 53) := le a 53
    have b1 : ((48 : Int) ≤ (b.toNat : Int)) = (48 ≤ b.toNat) := ge b 48
    have b2 : ((b.toNat : Int) ≤ (57 : Int)) = (b.toNat ≤ 57) := le b 57
    have c1 : ((48 : Int) ≤ (c.toNat : Int)) = (48 ≤ c.toNat) := ge c 48
    have c2 : ((c.toNat : Int) ≤ (57 : Int)) = (c.toNat ≤ 57) := le c 57
    have e32 : ((m.toNat : Int) = 32) = (m = 32) := u8_eq m 32 (by omega)
    have e45 : ((m.toNat : Int) = 45) = (m = 45) := u8_eq m 45 (by omega)
    unfold lineP digC
    simp only
    by_cases p1 : 50 ≤ a.toNat
    · by_cases p2 : a.toNat ≤ 53
      · by_cases p3 : 48 ≤ b.toNat
        · by_cases p4 : b.toNat ≤ 57
          · by_cases p5 : 48 ≤ c.toNat
            · by_cases p6 : c.toNat ≤ 57
              · by_cases p7 : m = 45
                · simp [wB27, hl, l2, ht, a1, a2, b1, b2, c1, c2, e32, e45, p1, p2, p3, p4, p5, p6, p7]
                · by_cases p8 : m = 32
                  · simp [wB27, hl, l2, ht, a1, a2, b1, b2, c1, c2, e32, e45, p1, p2, p3, p4, p5, p6, p7, p8]
                  · simp [wB27, hl, l2, ht, a1, a2, b1, b2, c1, c2, e32, e45, p1, p2, p3, p4, p5, p6, p7, p8]
              · simp [wB27, hl, l2, ht, a1, a2, b1, b2, c1, c2, e32, e45, p1, p2, p3, p4, p5, p6]
            · simp [wB27, hl, l2, ht, a1, a2, b1, b2, c1, c2, e32, e45, p1, p2, p3, p4, p5]
          · simp [wB27, hl, l2, ht, a1, a2, b1, b2, c1, c2, e32, e45, p1, p2, p3, p4]
        · simp [wB27, hl, l2, ht, a1, a2, b1, b2, c1, c2, e32, e45, p1, p2, p3]
      · simp [wB27, hl, l2, ht, a1, a2, b1, b2, c1, c2, e32, e45, p1, p2]
    · simp [wB27, hl, l2, ht, a1, a2, b1, b2, c1, c2, e32, e45, p1]
end Go.Proofs.YtjdpneceeinhhaaDoor
