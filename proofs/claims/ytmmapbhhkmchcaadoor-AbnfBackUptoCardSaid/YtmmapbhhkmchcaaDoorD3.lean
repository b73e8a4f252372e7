/-
  abnf: a tree's text.
-/
import Derived.Test.YtmmapbhhkmchcaaDoorD2
set_option linter.unusedVariables false
set_option linter.unusedSimpArgs false
namespace Go.Proofs.YtmmapbhhkmchcaaDoor
open Go Go.Am

def needs (m k : UInt8) : Bool := k == 6 || (k == 5 && m != 6) || (k == 7 && m == 7)
mutual
/-- A tree's text. -/
def textP : Tr → List UInt8
  | .mk k s lo hi mn mx _ ks =>
    if k = 1 then s else if k = 2 then 34 :: (s ++ [34]) else if k = 3 then 37 :: 120 :: Lib.join (s.map hexP) [46]
    else if k = 4 then 37 :: 120 :: (hexP lo ++ 45 :: hexP hi)
    else if k = 7 then manyP mn mx ++ (brks 7 ks).headD []
    else if k = 5 then Lib.join (brks 5 ks) [32]
    else Lib.join (brks 6 ks) [32, 47, 32]
def brks (m : UInt8) : List Tr → List (List UInt8)
  | [] => []
  | t :: ts => (if needs m t.k then 40 :: (textP t ++ [41]) else textP t) :: brks m ts
end
def brk (m : UInt8) (t : Tr) : List UInt8 := if needs m t.k then 40 :: (textP t ++ [41]) else textP t
theorem brks_map (m : UInt8) : ∀ l : List Tr, brks m l = l.map (brk m)
  | [] => by simp only [brks, List.map_nil]
  | t :: l => by simp only [brks, List.map_cons, brk, brks_map m l]
theorem textP_eq (t : Tr) : textP t = if t.k = 1 then t.s else if t.k = 2 then 34 :: (t.s ++ [34]) else if t.k = 3 then 37 :: 120 :: Lib.join (t.s.map hexP) [46]
    else if t.k = 4 then 37 :: 120 :: (hexP t.lo ++ 45 :: hexP t.hi)
    else if t.k = 7 then manyP t.mn t.mx ++ (t.kids.map (brk 7)).headD []
    else if t.k = 5 then Lib.join (t.kids.map (brk 5)) [32]
    else Lib.join (t.kids.map (brk 6)) [32, 47, 32] := by
  cases t
  simp only [textP, Tr.k, Tr.s, Tr.lo, Tr.hi, Tr.mn, Tr.mx, Tr.kids, brks_map]
  rfl
mutual
/-- A tree's weight: no text is longer. -/
def Tr.wt : Tr → Nat
  | .mk _ s _ _ _ _ _ ks => 3 * s.length + 16 + wts ks
def wts : List Tr → Nat
  | [] => 0
  | t :: ts => t.wt + wts ts
end
theorem wt_eq (t : Tr) : t.wt = 3 * t.s.length + 16 + wts t.kids := by
  cases t
  simp only [Tr.wt, Tr.s, Tr.kids]
theorem wts_mem : ∀ {ks : List Tr} {t : Tr}, t ∈ ks → t.wt ≤ wts ks
  | x :: ks, t, h => by
    simp only [wts]
    rcases List.mem_cons.1 h with rfl | h
    · omega
    · have := wts_mem h; omega
theorem wt_kid {t k : Tr} (h : k ∈ t.kids) : k.wt + 16 ≤ t.wt := by
  rw [wt_eq t]
  have := wts_mem h
  omega
theorem join_len (sep : List UInt8) : ∀ l : List (List UInt8), (Lib.join l sep).length ≤ (l.map fun x => x.length + sep.length).sum
  | [] => by simp [Lib.join]
  | [x] => by simp [Lib.join]
  | x :: y :: l => by
    have := join_len sep (y :: l)
    simp [Lib.join, List.intercalate] at this ⊢
    omega
theorem fits_alone {d : Nat} {t : Tr} (h : fitsP d t = true) : aloneP t = true := by
  cases d with
  | zero => simp [fitsP] at h
  | succ d => simp [fitsP] at h; exact h.1
theorem fits_kid {d : Nat} {t k : Tr} (h : fitsP d t = true) (hk : k ∈ t.kids) : fitsP (d - 1) k = true := by
  cases d with
  | zero => simp [fitsP] at h
  | succ d => simp [fitsP] at h; exact h.2 k hk
/-- What a right tree of kind 7 has. -/
theorem alone7 {t : Tr} (h : aloneP t = true) (k : t.k = 7) : t.kids.length = 1 ∧ 0 ≤ t.mn ∧ t.mn ≤ 9999 ∧ -1 ≤ t.mx ∧ t.mx ≤ 9999 ∧ (t.mx = -1 ∨ t.mn ≤ t.mx) := by
  unfold aloneP at h
  simp [k] at h
  obtain ⟨⟨h1, h2, h3, h4⟩, h5⟩ := h
  refine ⟨h1, h2, h3, ?_, ?_, ?_⟩ <;> omega
theorem alone_kinds {t : Tr} (h : aloneP t = true) : t.k = 1 ∨ t.k = 2 ∨ t.k = 3 ∨ t.k = 4 ∨ t.k = 5 ∨ t.k = 6 ∨ t.k = 7 := by
  unfold aloneP at h
  by_cases h1 : t.k = 1
  · exact .inl h1
  by_cases h2 : t.k = 2
  · exact .inr (.inl h2)
  by_cases h3 : t.k = 3
  · exact .inr (.inr (.inl h3))
  by_cases h4 : t.k = 4
  · exact .inr (.inr (.inr (.inl h4)))
  by_cases h5 : t.k = 5
  · exact .inr (.inr (.inr (.inr (.inl h5))))
  by_cases h6 : t.k = 6
  · exact .inr (.inr (.inr (.inr (.inr (.inl h6)))))
  by_cases h7 : t.k = 7
  · exact .inr (.inr (.inr (.inr (.inr (.inr h7)))))
  simp [h1, h2, h3, h4, h5, h6, h7] at h
theorem sum_le : ∀ (l : List Tr) (f : Tr → Nat), (∀ k ∈ l, f k ≤ k.wt) → (l.map f).sum ≤ wts l
  | [], f, h => by simp [wts]
  | t :: l, f, h => by
    have := sum_le l f (fun k hk => h k (List.mem_cons_of_mem _ hk))
    have := h t (List.mem_cons_self ..)
    simp only [List.map_cons, List.sum_cons, wts]
    omega
theorem hex_sum : ∀ s : List UInt8, ((s.map hexP).map fun x => x.length + 1).sum = 3 * s.length
  | [] => rfl
  | c :: s => by
    have := hex_sum s
    simp only [List.map_cons, List.sum_cons, List.length_cons, this, hexP, List.length_nil]
    omega
theorem text_lenN : ∀ (n d : Nat) (t : Tr), t.size ≤ n → fitsP d t = true → (textP t).length + 5 ≤ t.wt
  | 0, d, t, hn, _ => by cases t; simp [Tr.size] at hn
  | n + 1, d, t, hn, hf => by
    have ha := fits_alone hf
    have ih : ∀ k ∈ t.kids, (textP k).length + 5 ≤ k.wt := fun k hk => text_lenN n (d - 1) k (by have := Tr.size_kid hk; omega) (fits_kid hf hk)
    have hb : ∀ m, ∀ k ∈ t.kids, (brk m k).length + 3 ≤ k.wt := fun m k hk => by
      have := ih k hk
      unfold brk
      split
      · simp; omega
      · omega
    rw [textP_eq, wt_eq]
    by_cases k1 : t.k = 1
    · rw [if_pos k1]; omega
    by_cases k2 : t.k = 2
    · rw [if_neg k1, if_pos k2]; simp; omega
    by_cases k3 : t.k = 3
    · rw [if_neg k1, if_neg k2, if_pos k3]
      have := join_len [46] (t.s.map hexP)
      have h2 := hex_sum t.s
      simp only [List.length_cons, List.length_nil] at this ⊢
      simp only [Nat.zero_add] at this
      rw [h2] at this
      omega
    by_cases k4 : t.k = 4
    · rw [if_neg k1, if_neg k2, if_neg k3, if_pos k4]
      simp [hexP]; omega
    by_cases k7 : t.k = 7
    · rw [if_neg k1, if_neg k2, if_neg k3, if_neg k4, if_pos k7]
      obtain ⟨a1, a2, a3, a4, a5, _⟩ := alone7 ha k7
      have hm := many_len a2 a3 a5
      match hks : t.kids with
      | [] => simp; omega
      | k :: ks =>
        have hbk := hb 7 k (by rw [hks]; exact List.mem_cons_self ..)
        have hkw : k.wt ≤ wts (k :: ks) := wts_mem (List.mem_cons_self ..)
        simp
        omega
    by_cases k5 : t.k = 5
    · rw [if_neg k1, if_neg k2, if_neg k3, if_neg k4, if_neg k7, if_pos k5]
      have h1 := join_len [32] (t.kids.map (brk 5))
      have h2 := sum_le t.kids (fun k => (brk 5 k).length + 1) (fun k hk => by have := hb 5 k hk; omega)
      simp only [List.map_map, List.length_cons, List.length_nil] at h1
      have h3 : ((t.kids.map ((fun x : List UInt8 => x.length + (0 + 1)) ∘ brk 5)).sum) = (t.kids.map (fun k => (brk 5 k).length + 1)).sum := rfl
      omega
    · rw [if_neg k1, if_neg k2, if_neg k3, if_neg k4, if_neg k7, if_neg k5]
      have h1 := join_len [32, 47, 32] (t.kids.map (brk 6))
      have h2 := sum_le t.kids (fun k => (brk 6 k).length + 3) (fun k hk => hb 6 k hk)
      simp only [List.map_map, List.length_cons, List.length_nil] at h1
      have h3 : ((t.kids.map ((fun x : List UInt8 => x.length + (0 + 1 + 1 + 1)) ∘ brk 6)).sum) = (t.kids.map (fun k => (brk 6 k).length + 3)).sum := rfl
      omega
theorem text_len {d : Nat} {t : Tr} (hf : fitsP d t = true) : (textP t).length + 5 ≤ t.wt := text_lenN t.size d t (Nat.le_refl _) hf
end Go.Proofs.YtmmapbhhkmchcaaDoor
