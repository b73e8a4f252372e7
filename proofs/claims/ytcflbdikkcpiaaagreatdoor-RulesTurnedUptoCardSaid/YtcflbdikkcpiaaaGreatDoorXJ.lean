/-
  abnf: a tree's text: its small pieces, here and in the reference.
-/
import Derived.Test.YtcflbdikkcpiaaaGreatDoorXI
set_option linter.unusedVariables false
set_option linter.unusedSimpArgs false
namespace Go.Proofs.YtcflbdikkcpiaaaGreatDoor
open Go Go.Am
def hexL : List UInt8 := [48, 49, 50, 51, 52, 53, 54, 55, 56, 57, 65, 66, 67, 68, 69, 70]
def hexD (n : Nat) : UInt8 := UInt8.ofNat (if n < 10 then 48 + n else 55 + n)
def hexP (b : UInt8) : List UInt8 := [hexD (b.toNat / 16), hexD (b.toNat % 16)]
theorem wrap8 {i : Int} (h1 : 0 ≤ i) (h2 : i < 256) : IntKind.wrap .u8 i = i := by
 simp [IntKind.wrap, IntKind.bits, IntKind.signed]
 omega
theorem hexL_get (n : Nat) (h : n < 16) : hexL[n]? = some (hexD n) := by
 have : ((List.range 16).all fun n => hexL[n]? == some (hexD n)) = true := by decide +kernel
 have := List.all_eq_true.1 this n (by simpa using h)
 simpa using this
theorem shr4 (u : Nat) (hu : u < 256) : abin .shr (.int .u8 (u : Int)) (.int .u64 4) = some (.int .u8 ((u / 16 : Nat) : Int)) := by
 have e : (u : Int).fdiv 16 = ((u / 16 : Nat) : Int) := by rw [Int.fdiv_eq_ediv_of_nonneg _ (by omega)]; rfl
 simp [abin, ibin, IntKind.bits]
 rw [e]; rfl
theorem and15 (u : Nat) (hu : u < 256) : bitsOp .and .u8 (u : Int) 15 = ((u % 16 : Nat) : Int) := by
 have : ((List.range 256).all fun u => bitsOp .and .u8 (u : Int) 15 == ((u % 16 : Nat) : Int)) = true := by decide +kernel
 have := List.all_eq_true.1 this u (List.mem_range.2 hu)
 simpa using this
theorem hex_ok (b : UInt8) (h : Heap) : M.call 59 [.int .u8 b.toNat] h = some (.str (hexP b), h) := by
 have hb := b.toNat_lt
 have e1 := hexL_get (b.toNat / 16) (by omega)
 have e2 := hexL_get (b.toNat % 16) (by omega)
 unfold hexL at e1 e2
 refine call_of tab59 rfl (callF_wp ?_)
 simp [-getElem?_pos, wB59, shr4 b.toNat hb, and15 b.toNat hb]
 rw [show ((b.toNat : Int) / 16).toNat = b.toNat / 16 by omega, e1]
 simp [-getElem?_pos, wB59, shr4 b.toNat hb, and15 b.toNat hb]
 rw [show ((b.toNat : Int) % 16).toNat = b.toNat % 16 by omega, e2]
 have : asBytes [AV.int .u8 (hexD (b.toNat / 16)).toNat, AV.int .u8 (hexD (b.toNat % 16)).toNat] = some (hexP b) := asBytes_ofBytes (hexP b)
 simp [this]
 omega
theorem dec_len : ∀ (k n : Nat), n < 10 ^ k → 1 ≤ k → (Lib.decDigits n).length ≤ k
 | 0, n, h, h1 => by omega
 | 1, n, h, h1 => by rw [Lib.decDigits, dif_pos (by omega)]; simp
 | k + 2, n, h, h1 => by
  rw [Lib.decDigits]
  split
  ·simp
  ·have := dec_len (k + 1) (n / 10) (by rw [Nat.div_lt_iff_lt_mul (by omega)]; rw [Nat.pow_succ] at h; exact h) (by omega)
   simp
   omega
theorem dec_len4 {n : Nat} (h : n ≤ 9999) : (Lib.decDigits n).length ≤ 4 := dec_len 4 n (by omega) (by omega)
def manyP (mn mx : Int) : List UInt8 := if mn = mx then Lib.itoa mn else (if 0 < mn then Lib.itoa mn else []) ++ 42 :: (if 0 ≤ mx then Lib.itoa mx else [])
theorem itoa_len4 {n : Int} (h0 : 0 ≤ n) (h : n ≤ 9999) : (Lib.itoa n).length ≤ 4 := by
 unfold Lib.itoa
 rw [if_neg (by omega)]
 exact dec_len4 (by omega)
theorem many_len {mn mx : Int} (h1 : 0 ≤ mn) (h2 : mn ≤ 9999) (h4 : mx ≤ 9999) : (manyP mn mx).length ≤ 9 := by
 have a1 := itoa_len4 h1 h2
 unfold manyP
 split
 ·omega
 ·split <;> split
  ·rename_i q
   have := itoa_len4 q h4
   simp; omega
  ·simp; omega
  ·rename_i q
   have := itoa_len4 q h4
   simp; omega
  ·simp
theorem many_ok (mn mx : Int) (h1 : 0 ≤ mn) (h2 : mn ≤ 9999) (h3 : -1 ≤ mx) (h4 : mx ≤ 9999) (h : Heap) : M.call 61 [.int .i64 mn, .int .i64 mx] h = some (.str (manyP mn mx), h) := by
 refine call_of tab61 rfl (callF_wp ?_)
 have i1 := fun h => itoa_ok mn (by omega) (by omega) h
 have i2 := fun h => itoa_ok mx (by omega) (by omega) h
 have a1 := itoa_len4 h1 h2
 have b1 : (Lib.itoa mn).length + 1 ≤ 140737488355328 := by omega
 unfold manyP
 by_cases c1 : 0 < mn
 ·by_cases c2 : mn = mx
  ·rw [← c2]
   simp [wB61, wJ61_0, wJ61_1, i1, c1, b1]
  ·by_cases c3 : 0 ≤ mx
   ·have a2 := itoa_len4 c3 h4
    have b2 : (Lib.itoa mn).length + (1 + (Lib.itoa mx).length) ≤ 140737488355328 := by omega
    simp [wB61, wJ61_0, wJ61_1, i1, i2, c1, c2, c3, b1, b2, Nat.add_assoc]
   ·simp [wB61, wJ61_0, wJ61_1, i1, i2, c1, c2, c3, b1]
 ·by_cases c2 : mn = mx
  ·rw [← c2]
   simp [wB61, wJ61_0, wJ61_1, i1, c1, b1]
  ·by_cases c3 : 0 ≤ mx
   ·have a2 := itoa_len4 c3 h4
    have b2 : 1 + (Lib.itoa mx).length ≤ 140737488355328 := by omega
    simp [wB61, wJ61_0, wJ61_1, i1, i2, c1, c2, c3, b2]
   ·simp [wB61, wJ61_0, wJ61_1, i1, i2, c1, c2, c3]
def dgB (m : Nat) : UInt8 := UInt8.ofNat (48 + m)
def needs (m k : UInt8) : Bool := k == 6 || (k == 5 && m != 6) || (k == 7 && m == 7)
mutual
def textP : Tr → List UInt8
 | .mk k s lo hi mn mx _ ks =>
  if k = 1 then s else if k = 2 then 34 :: (s ++ [34]) else if k = 3 then 37 :: 120 :: Lib.join (s.map hexP) [46]
  else if k = 4 then 37 :: 120 :: (hexP lo ++ 45 :: hexP hi)
  else if k = 7 then manyP mn mx ++ (brks 7 ks).headD []
  else if k = 5 then Lib.join (brks 5 ks) [32]
  else Lib.join (brks 6 ks) [32, 47, 32]
def brks (m : UInt8) : List Tr → List (List UInt8)
 | [] => []
 | t :: ts => (if needs m t.k then 40 :: (textP t ++ [41]) else textP t) :: brks m ts
end
def brk (m : UInt8) (t : Tr) : List UInt8 := if needs m t.k then 40 :: (textP t ++ [41]) else textP t
theorem brks_map (m : UInt8) : ∀ l : List Tr, brks m l = l.map (brk m)
 | [] => by simp only [brks, List.map_nil]
 | t :: l => by simp only [brks, List.map_cons, brk, brks_map m l]
theorem textP_eq (t : Tr) : textP t = if t.k = 1 then t.s else if t.k = 2 then 34 :: (t.s ++ [34]) else if t.k = 3 then 37 :: 120 :: Lib.join (t.s.map hexP) [46]
  else if t.k = 4 then 37 :: 120 :: (hexP t.lo ++ 45 :: hexP t.hi)
  else if t.k = 7 then manyP t.mn t.mx ++ (t.kids.map (brk 7)).headD []
  else if t.k = 5 then Lib.join (t.kids.map (brk 5)) [32]
  else Lib.join (t.kids.map (brk 6)) [32, 47, 32] := by
 cases t
 simp only [textP, Tr.k, Tr.s, Tr.lo, Tr.hi, Tr.mn, Tr.mx, Tr.kids, brks_map]
 rfl
mutual
def Tr.wt : Tr → Nat
 | .mk _ s _ _ _ _ _ ks => 3 * s.length + 16 + wts ks
def wts : List Tr → Nat
 | [] => 0
 | t :: ts => t.wt + wts ts
end
theorem wt_eq (t : Tr) : t.wt = 3 * t.s.length + 16 + wts t.kids := by
 cases t
 simp only [Tr.wt, Tr.s, Tr.kids]
theorem wts_mem : ∀ {ks : List Tr} {t : Tr}, t ∈ ks → t.wt ≤ wts ks
 | x :: ks, t, h => by
  simp only [wts]
  rcases List.mem_cons.1 h with rfl | h
  ·omega
  ·have := wts_mem h; omega
theorem wt_kid {t k : Tr} (h : k ∈ t.kids) : k.wt + 16 ≤ t.wt := by
 rw [wt_eq t]
 have := wts_mem h
 omega
theorem join_len (sep : List UInt8) : ∀ l : List (List UInt8), (Lib.join l sep).length ≤ (l.map fun x => x.length + sep.length).sum
 | [] => by simp [Lib.join]
 | [x] => by simp [Lib.join]
 | x :: y :: l => by
  have := join_len sep (y :: l)
  simp [Lib.join, List.intercalate] at this ⊢
  omega
theorem fits_alone {d : Nat} {t : Tr} (h : fitsP d t = true) : aloneP t = true := by
 cases d with
 | zero => simp [fitsP] at h
 | succ d => simp [fitsP] at h; exact h.1
theorem fits_kid {d : Nat} {t k : Tr} (h : fitsP d t = true) (hk : k ∈ t.kids) : fitsP (d - 1) k = true := by
 cases d with
 | zero => simp [fitsP] at h
 | succ d => simp [fitsP] at h; exact h.2 k hk
theorem alone7 {t : Tr} (h : aloneP t = true) (k : t.k = 7) : t.kids.length = 1 ∧ 0 ≤ t.mn ∧ t.mn ≤ 9999 ∧ -1 ≤ t.mx ∧ t.mx ≤ 9999 ∧ (t.mx = -1 ∨ t.mn ≤ t.mx) := by
 unfold aloneP at h
 simp [k] at h
 obtain ⟨⟨h1, h2, h3, h4⟩, h5⟩ := h
 refine ⟨h1, h2, h3, ?_, ?_, ?_⟩ <;> omega
theorem alone_kinds {t : Tr} (h : aloneP t = true) : t.k = 1 ∨ t.k = 2 ∨ t.k = 3 ∨ t.k = 4 ∨ t.k = 5 ∨ t.k = 6 ∨ t.k = 7 := by
 unfold aloneP at h
 by_cases h1 : t.k = 1
 ·exact .inl h1
 by_cases h2 : t.k = 2
 ·exact .inr (.inl h2)
 by_cases h3 : t.k = 3
 ·exact .inr (.inr (.inl h3))
 by_cases h4 : t.k = 4
 ·exact .inr (.inr (.inr (.inl h4)))
 by_cases h5 : t.k = 5
 ·exact .inr (.inr (.inr (.inr (.inl h5))))
 by_cases h6 : t.k = 6
 ·exact .inr (.inr (.inr (.inr (.inr (.inl h6)))))
 by_cases h7 : t.k = 7
 ·exact .inr (.inr (.inr (.inr (.inr (.inr h7)))))
 simp [h1, h2, h3, h4, h5, h6, h7] at h
theorem sum_le : ∀ (l : List Tr) (f : Tr → Nat), (∀ k ∈ l, f k ≤ k.wt) → (l.map f).sum ≤ wts l
 | [], f, h => by simp [wts]
 | t :: l, f, h => by
  have := sum_le l f (fun k hk => h k (List.mem_cons_of_mem _ hk))
  have := h t (List.mem_cons_self ..)
  simp only [List.map_cons, List.sum_cons, wts]
  omega
theorem hex_sum : ∀ s : List UInt8, ((s.map hexP).map fun x => x.length + 1).sum = 3 * s.length
 | [] => rfl
 | c :: s => by
  have := hex_sum s
  simp only [List.map_cons, List.sum_cons, List.length_cons, this, hexP, List.length_nil]
  omega
theorem text_lenN : ∀ (n d : Nat) (t : Tr), t.size ≤ n → fitsP d t = true → (textP t).length + 5 ≤ t.wt
 | 0, d, t, hn, _ => by cases t; simp [Tr.size] at hn
 | n + 1, d, t, hn, hf => by
  have ha := fits_alone hf
  have ih : ∀ k ∈ t.kids, (textP k).length + 5 ≤ k.wt := fun k hk => text_lenN n (d - 1) k (by have := Tr.size_kid hk; omega) (fits_kid hf hk)
  have hb : ∀ m, ∀ k ∈ t.kids, (brk m k).length + 3 ≤ k.wt := fun m k hk => by
   have := ih k hk
   unfold brk
   split
   ·simp; omega
   ·omega
  rw [textP_eq, wt_eq]
  by_cases k1 : t.k = 1
  ·rw [if_pos k1]; omega
  by_cases k2 : t.k = 2
  ·rw [if_neg k1, if_pos k2]; simp; omega
  by_cases k3 : t.k = 3
  ·rw [if_neg k1, if_neg k2, if_pos k3]
   have := join_len [46] (t.s.map hexP)
   have h2 := hex_sum t.s
   simp only [List.length_cons, List.length_nil] at this ⊢
   simp only [Nat.zero_add] at this
   rw [h2] at this
   omega
  by_cases k4 : t.k = 4
  ·rw [if_neg k1, if_neg k2, if_neg k3, if_pos k4]
   simp [hexP]; omega
  by_cases k7 : t.k = 7
  ·rw [if_neg k1, if_neg k2, if_neg k3, if_neg k4, if_pos k7]
   obtain ⟨a1, a2, a3, a4, a5, _⟩ := alone7 ha k7
   have hm := many_len a2 a3 a5
   match hks : t.kids with
   | [] => simp; omega
   | k :: ks =>
    have hbk := hb 7 k (by rw [hks]; exact List.mem_cons_self ..)
    have hkw : k.wt ≤ wts (k :: ks) := wts_mem (List.mem_cons_self ..)
    simp
    omega
  by_cases k5 : t.k = 5
  ·rw [if_neg k1, if_neg k2, if_neg k3, if_neg k4, if_neg k7, if_pos k5]
   have h1 := join_len [32] (t.kids.map (brk 5))
   have h2 := sum_le t.kids (fun k => (brk 5 k).length + 1) (fun k hk => by have := hb 5 k hk; omega)
   simp only [List.map_map, List.length_cons, List.length_nil] at h1
   have h3 : ((t.kids.map ((fun x : List UInt8 => x.length + (0 + 1)) ∘ brk 5)).sum) = (t.kids.map (fun k => (brk 5 k).length + 1)).sum := rfl
   omega
  ·rw [if_neg k1, if_neg k2, if_neg k3, if_neg k4, if_neg k7, if_neg k5]
   have h1 := join_len [32, 47, 32] (t.kids.map (brk 6))
   have h2 := sum_le t.kids (fun k => (brk 6 k).length + 3) (fun k hk => hb 6 k hk)
   simp only [List.map_map, List.length_cons, List.length_nil] at h1
   have h3 : ((t.kids.map ((fun x : List UInt8 => x.length + (0 + 1 + 1 + 1)) ∘ brk 6)).sum) = (t.kids.map (fun k => (brk 6 k).length + 3)).sum := rfl
   omega
theorem text_len {d : Nat} {t : Tr} (hf : fitsP d t = true) : (textP t).length + 5 ≤ t.wt := text_lenN t.size d t (Nat.le_refl _) hf
def InvBk (t : Tr) (ks : List UInt8) (r : Rt) (h0 : Heap) (k : Nat) (σ : Slots) (h : Heap) : Prop := ∃ i, i ≤ ks.length ∧ k = ks.length - i ∧ ks.contains t.k = (ks.drop i).contains t.k ∧ σ 2 = .ptr h0.length 0 ∧ σ 7 = .list 1 (ofBytes ks) r ∧ σ 8 = .int .i64 (ks.length : Nat) ∧ σ 9 = .int .i64 i ∧ h = h0 ++ [.cells t.encL]
theorem bracketed_ok (t : Tr) (tx : ∀ h, M.call 47 [t.enc] h = some (.str (textP t), h)) (hl : (textP t).length ≤ 1000000000) (ks : List UInt8) (hk : ks.length ≤ 1000) (r : Rt) (h0 : Heap) :
  M.call 62 [t.enc, .list 1 (ofBytes ks) r] h0 = some (.str (if ks.contains t.k then 40 :: (textP t ++ [41]) else textP t), h0) := by
 generalize hR : (if ks.contains t.k then 40 :: (textP t ++ [41]) else textP t) = R
 refine call_of tab62 rfl (callF_wp ?_)
 unfold Tr.enc at tx ⊢
 rw [Tr.encL_eq] at tx ⊢
 simp [wB62]
 refine Wp.loop (InvBk t ks r h0) ?_ (n := ks.length) ⟨0, by omega, by omega, by simp, by simp, by simp, by simp, by simp, by rw [Tr.encL_eq]⟩
 rintro k σ h ⟨i, hi, rfl, he, s2, s7, s8, s9, rfl⟩
 rw [Tr.encL_eq]
 have b1 : 1 + (textP t).length ≤ 140737488355328 := by omega
 have b2 : (textP t).length ≤ 140737488355326 := by omega
 by_cases hlt : i < ks.length
 ·obtain ⟨c, ec⟩ : ∃ c, ks[i]? = some c := ⟨_, List.getElem?_eq_getElem hlt⟩
  have hd := drop_at ec
  have e64 : IntKind.wrap .i64 ((i : Int) + 1) = ((i + 1 : Nat) : Int) := by rw [wrap64 (by omega) (by omega)]; rfl
  have ee : ((t.k.toNat : Int) = c.toNat) = (t.k = c) := propext ⟨fun h => UInt8.toNat_inj.1 (by omega), fun h => by rw [h]⟩
  rw [hd] at he
  by_cases hc : t.k = c
  ·have hct : ks.contains t.k = true := by rw [he]; simp [hc]
   rw [if_pos hct] at hR
   subst hR
   simp [-getElem?_pos, -Int.natCast_add, wL62_0, s2, s7, s8, s9, hlt, ec, ee.trans (eq_true hc), tx, b1, b2, Nat.add_assoc]
  ·have hct : ks.contains t.k = (ks.drop (i + 1)).contains t.k := by rw [he]; simp [hc]
   simp [-getElem?_pos, -Int.natCast_add, wL62_0, s2, s7, s8, s9, hlt, ec, ee, hc, e64, Nat.add_assoc]
   exact ⟨ks.length - (i + 1), by omega, i + 1, by omega, rfl, hct, by simp [s2], by simp [s7], by simp [s8], by simp, by rw [Tr.encL_eq]⟩
 ·have : i = ks.length := by omega
  subst this
  rw [List.drop_length] at he
  rw [he] at hR
  simp at hR
  subst hR
  simp [wL62_0, wK62_0, s2, s7, s8, s9, tx]
theorem ct5 (k : UInt8) : ([5, 6] : List UInt8).contains k = needs 5 k := by
 have := allU8 (p := fun k => ([5, 6] : List UInt8).contains k == needs 5 k) (by decide +kernel) k
 simpa using this
theorem ct6 (k : UInt8) : ([6] : List UInt8).contains k = needs 6 k := by
 have := allU8 (p := fun k => ([6] : List UInt8).contains k == needs 6 k) (by decide +kernel) k
 simpa using this
theorem ct7 (k : UInt8) : ([7, 5, 6] : List UInt8).contains k = needs 7 k := by
 have := allU8 (p := fun k => ([7, 5, 6] : List UInt8).contains k == needs 7 k) (by decide +kernel) k
 simpa using this
def InvTx0 (t : Tr) (h0 : Heap) (k : Nat) (σ : Slots) (h : Heap) : Prop := ∃ i r, i ≤ t.s.length ∧ k = t.s.length - i ∧ σ 1 = .ptr h0.length 0 ∧ σ 3 = .list 1 (((t.s.take i).map hexP).map AV.str) r ∧ σ 25 = .int .i64 (t.s.length : Nat) ∧ σ 26 = .int .i64 i ∧ Ow (h0.length + 1) h 1 9 r i ∧ h.take (h0.length + 1) = h0 ++ [.cells t.encL]
def InvTx1 (m : UInt8) (a b c : Nat) (E : TypeId) (t : Tr) (h0 : Heap) (k : Nat) (σ : Slots) (h : Heap) : Prop := ∃ i r, i ≤ t.kids.length ∧ k = t.kids.length - i ∧ σ a = .list 7 (t.kids.map Tr.enc) (rtB t.full) ∧ σ 3 = .list 1 (((t.kids.take i).map (brk m)).map AV.str) r ∧ σ b = .int .i64 (t.kids.length : Nat) ∧ σ c = .int .i64 i ∧ Ow (h0.length + 1) h 1 E r i ∧ h.take (h0.length + 1) = h0 ++ [.cells t.encL]
theorem text_okN : ∀ (n d : Nat) (t : Tr), t.size ≤ n → fitsP d t = true → t.wt ≤ 1000000000 → TOk t → ∀ h0 : Heap, M.call 47 [t.enc] h0 = some (.str (textP t), h0)
 | 0, d, t, hn, _, _, _, _ => by cases t; simp [Tr.size] at hn
 | n + 1, d, t, hn, hf, hw, hT, h0 => by
  have ha := fits_alone hf
  have hlen := text_len hf
  have kw : ∀ x ∈ t.kids, x.wt + 16 ≤ t.wt := fun x hx => wt_kid hx
  have ih : ∀ x ∈ t.kids, ∀ h0 : Heap, M.call 47 [x.enc] h0 = some (.str (textP x), h0) := fun x hx =>
   text_okN n (d - 1) x (by have := Tr.size_kid hx; omega) (fits_kid hf hx) (by have := kw x hx; omega) (hT.kid hx)
  have bk : ∀ x ∈ t.kids, ∀ (ks : List UInt8) (hk : ks.length ≤ 1000) (r : Rt) (h0 : Heap), M.call 62 [x.enc, .list 1 (ofBytes ks) r] h0 = some (.str (if ks.contains x.k then 40 :: (textP x ++ [41]) else textP x), h0) := fun x hx =>
   bracketed_ok x (ih x hx) (by have := text_len (fits_kid hf hx); have := kw x hx; omega)
  have hk := hT.n
  have hs := hT.s
  refine call_of tab47 rfl (callF_wp ?_)
  generalize hQ : (fun e σ h => isEnd e ∧ ∃ vs, resVals σ h [ARes.tmp 2] = some vs ∧ finish h0 h (oneOf vs) = some (.str (textP t), h0)) = Q
  have fin : ∀ (σ : Slots) (h : Heap) (v : List UInt8), v = textP t → σ 2 = .str v → h.take h0.length = h0 → Q .ret σ h := by
   intro σ h v hv s2 hh
   subst hQ
   subst hv
   simp [s2, finish_of_take hh]
  have hh0 : ∀ {h : Heap}, h.take (h0.length + 1) = h0 ++ [.cells t.encL] → h0.length + 1 ≤ h.length ∧ h.take h0.length = h0 ∧ ∀ q, (h ++ q)[h0.length]? = some (.cells t.encL) := by
   intro h hh
   have h1 : h0.length + 1 ≤ h.length := by
    have := congrArg List.length hh
    simp at this
    omega
   refine ⟨h1, ?_, fun q => ?_⟩
   ·have := congrArg (List.take h0.length) hh
    rwa [List.take_take, Nat.min_eq_left (by omega), List.take_left' (by simp)] at this
   ·rw [List.getElem?_append_left (by omega)]
    have := congrArg (fun q : Heap => q[h0.length]?) hh
    simp only [List.getElem?_take, if_pos (Nat.lt_succ_self _)] at this
    rw [this]
    simp
  have htx := textP_eq t
  unfold Tr.enc
  rcases alone_kinds ha with k | k | k | k | k | k | k
  ·have e : textP t = t.s := by rw [htx, if_pos k]
   rw [Tr.encL_eq]
   simp [wB47, k]
   refine fin _ _ _ e.symm ?_ ?_ <;> simp
  ·have e : textP t = 34 :: (t.s ++ [34]) := by rw [htx, k]; rfl
   have b1 : 1 + t.s.length ≤ 140737488355328 := by omega
   have b2 : t.s.length ≤ 140737488355326 := by omega
   rw [Tr.encL_eq]
   simp [wB47, k, b1, b2, Nat.add_assoc]
   refine fin _ _ _ e.symm ?_ ?_ <;> simp
  ·have e : textP t = 37 :: 120 :: Lib.join (t.s.map hexP) [46] := by rw [htx, k]; rfl
   have jl : (Lib.join (t.s.map hexP) [46]).length + 2 ≤ 1000000000 := by rw [e] at hlen; simp at hlen; omega
   have jn := fun r h => join_ok (t.s.map hexP) [46] r (by simp; omega) (by omega) h
   have jb : 2 + (Lib.join (t.s.map hexP) [46]).length ≤ 140737488355328 := by omega
   have jb2 : (Lib.join (t.s.map hexP) [46]).length ≤ 140737488355326 := by omega
   have hcs : [AV.int .u8 (3 : Nat), .str t.s, .int .u8 t.lo.toNat, .int .u8 t.hi.toNat, .int .i64 t.mn, .int .i64 t.mx, .list 7 (t.kids.map Tr.enc) (rtB t.full)] = t.encL := by rw [Tr.encL_eq, k]; rfl
   rw [Tr.encL_eq]
   simp [wB47, k]
   refine Wp.loop (InvTx0 t h0) ?_ (n := t.s.length) ⟨0, .full, by omega, by omega, by simp, by simp, by simp, by simp, .full, by rw [List.take_of_length_le (by simp), ← hcs]; rfl⟩
   rintro j σ h ⟨i, r, hi, rfl, s1, s3, s25, s26, ow, hh⟩
   obtain ⟨hle, hh1, hat⟩ := hh0 hh
   have hat0 := hat []
   rw [List.append_nil] at hat0
   rw [Tr.encL_eq] at hat hat0
   by_cases hlt : i < t.s.length
   ·obtain ⟨c, ec⟩ : ∃ c, t.s[i]? = some c := ⟨_, List.getElem?_eq_getElem hlt⟩
    have hx := hex_ok c
    have e64 : IntKind.wrap .i64 ((i : Int) + 1) = ((i + 1 : Nat) : Int) := by rw [wrap64 (by omega) (by omega)]; rfl
    simp [-getElem?_pos, -Int.natCast_add, -List.map_map, -List.map_take, wL47_0, s1, s3, s25, s26, hat, hat0, hlt, ec, hx, Nat.add_assoc]
    have hm : (((t.s.take i).map hexP).map AV.str).length = i := by simp; omega
    obtain ⟨r2, g2, p1, p2, p3⟩ := app_list (n0 := h0.length + 1) (key := h.length) (sz := 1) (bytes := 16) (e := 9) (h := h ++ [AE.dead]) (xs := ((t.s.take i).map hexP).map AV.str) (ys := [AV.str (hexP c)]) (r := r) (r2 := .full)
     (by rw [hm]; exact ow.app _) (by omega) (by simp) (by rw [hm]; simp; omega) (by rw [hm]; simp; omega)
    rw [hm] at p2
    rw [p1]
    simp [-Int.natCast_add, s26, e64]
    refine ⟨t.s.length - (i + 1), by omega, i + 1, r2, by omega, rfl, by simp [s1], ?_, by simp [s25], by simp, p2, by rw [p3.take, List.take_append_of_le_length (by omega), hh]⟩
    simp [List.take_add_one, ec]
   ·have : i = t.s.length := by omega
    subst this
    rw [List.take_length] at s3
    simp [-List.map_map, -List.map_take, wL47_0, wK47_0, s1, s3, s25, s26, jn, jb, jb2]
    refine fin _ _ _ e.symm ?_ hh1
    simp
  ·have e : textP t = 37 :: 120 :: (hexP t.lo ++ 45 :: hexP t.hi) := by rw [htx, k]; rfl
   have hx1 := hex_ok t.lo
   have hx2 := hex_ok t.hi
   have l1 : (hexP t.lo).length = 2 := rfl
   have l2 : (hexP t.hi).length = 2 := rfl
   rw [Tr.encL_eq]
   simp [wB47, k, hx1, hx2, l1, l2, Nat.add_assoc]
   refine fin _ _ _ e.symm ?_ ?_ <;> simp
  ·have e : textP t = Lib.join (t.kids.map (brk 5)) [32] := by rw [htx, k]; rfl
   have jn := fun r h => join_ok (t.kids.map (brk 5)) [32] r (by simp; omega) (by rw [← e]; omega) h
   have hcs : [AV.int .u8 (5 : Nat), .str t.s, .int .u8 t.lo.toNat, .int .u8 t.hi.toNat, .int .i64 t.mn, .int .i64 t.mx, .list 7 (t.kids.map Tr.enc) (rtB t.full)] = t.encL := by rw [Tr.encL_eq, k]; rfl
   rw [Tr.encL_eq]
   simp [wB47, k]
   refine Wp.loop (InvTx1 5 69 70 71 9 t h0) ?_ (n := t.kids.length) ⟨0, .full, by omega, by omega, by simp, by simp, by simp, by simp, .full, by rw [List.take_of_length_le (by simp), ← hcs]; rfl⟩
   rintro j σ h ⟨i, r, hi, rfl, sa, s3, sb, sc, ow, hh⟩
   obtain ⟨hle, hh1, hat⟩ := hh0 hh
   by_cases hlt : i < t.kids.length
   ·obtain ⟨x, ex⟩ : ∃ x, t.kids[i]? = some x := ⟨_, List.getElem?_eq_getElem hlt⟩
    have hx := fun r h => bk x (List.mem_of_getElem? ex) [5, 6] (by simp) r h
    have eb : (if ([5, 6] : List UInt8).contains x.k then 40 :: (textP x ++ [41]) else textP x) = brk 5 x := by rw [ct5]; rfl
    simp only [eb] at hx
    have e64 : IntKind.wrap .i64 ((i : Int) + 1) = ((i + 1 : Nat) : Int) := by rw [wrap64 (by omega) (by omega)]; rfl
    simp [-getElem?_pos, -Int.natCast_add, -List.map_map, -List.map_take, wL47_1, sa, s3, sb, sc, hlt, ex, hx, Nat.add_assoc]
    have hm : (((t.kids.take i).map (brk 5)).map AV.str).length = i := by simp; omega
    obtain ⟨r2, g2, p1, p2, p3⟩ := app_list (n0 := h0.length + 1) (key := h.length + 2) (sz := 1) (bytes := 16) (e := 9) (h := h ++ [AE.cells x.encL, AE.tok 1 2 5, AE.dead]) (xs := ((t.kids.take i).map (brk 5)).map AV.str) (ys := [AV.str (brk 5 x)]) (r := r) (r2 := .full)
     (by rw [hm]; exact ow.app _) (by omega) (by simp) (by rw [hm]; simp; omega) (by rw [hm]; simp; omega)
    rw [hm] at p2
    rw [p1]
    simp [-Int.natCast_add, sc, e64]
    refine ⟨t.kids.length - (i + 1), by omega, i + 1, r2, by omega, rfl, by simp [sa], ?_, by simp [sb], by simp, p2, by rw [p3.take, List.take_append_of_le_length (by omega), hh]⟩
    simp [List.take_add_one, ex]
   ·have : i = t.kids.length := by omega
    subst this
    rw [List.take_length] at s3
    simp [-List.map_map, -List.map_take, wL47_1, wK47_1, sa, s3, sb, sc, jn]
    refine fin _ _ _ e.symm ?_ hh1
    simp
  ·have e : textP t = Lib.join (t.kids.map (brk 6)) [32, 47, 32] := by rw [htx, k]; rfl
   have jn := fun r h => join_ok (t.kids.map (brk 6)) [32, 47, 32] r (by simp; omega) (by rw [← e]; omega) h
   have hcs : [AV.int .u8 (6 : Nat), .str t.s, .int .u8 t.lo.toNat, .int .u8 t.hi.toNat, .int .i64 t.mn, .int .i64 t.mx, .list 7 (t.kids.map Tr.enc) (rtB t.full)] = t.encL := by rw [Tr.encL_eq, k]; rfl
   rw [Tr.encL_eq]
   simp [wB47, wK47_3, k]
   refine Wp.loop (InvTx1 6 85 86 87 9 t h0) ?_ (n := t.kids.length) ⟨0, .full, by omega, by omega, by simp, by simp, by simp, by simp, .full, by rw [List.take_of_length_le (by simp), ← hcs]; rfl⟩
   rintro j σ h ⟨i, r, hi, rfl, sa, s3, sb, sc, ow, hh⟩
   obtain ⟨hle, hh1, hat⟩ := hh0 hh
   by_cases hlt : i < t.kids.length
   ·obtain ⟨x, ex⟩ : ∃ x, t.kids[i]? = some x := ⟨_, List.getElem?_eq_getElem hlt⟩
    have hx := fun r h => bk x (List.mem_of_getElem? ex) [6] (by simp) r h
    have eb : (if ([6] : List UInt8).contains x.k then 40 :: (textP x ++ [41]) else textP x) = brk 6 x := by rw [ct6]; rfl
    simp only [eb] at hx
    have e64 : IntKind.wrap .i64 ((i : Int) + 1) = ((i + 1 : Nat) : Int) := by rw [wrap64 (by omega) (by omega)]; rfl
    simp [-getElem?_pos, -Int.natCast_add, -List.map_map, -List.map_take, wL47_2, sa, s3, sb, sc, hlt, ex, hx, Nat.add_assoc]
    have hm : (((t.kids.take i).map (brk 6)).map AV.str).length = i := by simp; omega
    obtain ⟨r2, g2, p1, p2, p3⟩ := app_list (n0 := h0.length + 1) (key := h.length + 2) (sz := 1) (bytes := 16) (e := 9) (h := h ++ [AE.cells x.encL, AE.tok 1 1 5, AE.dead]) (xs := ((t.kids.take i).map (brk 6)).map AV.str) (ys := [AV.str (brk 6 x)]) (r := r) (r2 := .full)
     (by rw [hm]; exact ow.app _) (by omega) (by simp) (by rw [hm]; simp; omega) (by rw [hm]; simp; omega)
    rw [hm] at p2
    rw [p1]
    simp [-Int.natCast_add, sc, e64]
    refine ⟨t.kids.length - (i + 1), by omega, i + 1, r2, by omega, rfl, by simp [sa], ?_, by simp [sb], by simp, p2, by rw [p3.take, List.take_append_of_le_length (by omega), hh]⟩
    simp [List.take_add_one, ex]
   ·have : i = t.kids.length := by omega
    subst this
    rw [List.take_length] at s3
    simp [-List.map_map, -List.map_take, wL47_2, wK47_2, sa, s3, sb, sc, jn]
    refine fin _ _ _ e.symm ?_ hh1
    simp
  ·have e : textP t = manyP t.mn t.mx ++ (t.kids.map (brk 7)).headD [] := by rw [htx, k]; rfl
   obtain ⟨a1, a2, a3, a4, a5, a6⟩ := alone7 ha k
   obtain ⟨x, hx⟩ : ∃ x, t.kids = [x] := by
    match t.kids, a1 with
    | [x], _ => exact ⟨x, rfl⟩
   have tm := many_ok t.mn t.mx a2 a3 a4 a5
   have bk7 := fun r h => bk x (by rw [hx]; simp) [7, 5, 6] (by simp) r h
   have eb : (if ([7, 5, 6] : List UInt8).contains x.k then 40 :: (textP x ++ [41]) else textP x) = brk 7 x := by rw [ct7]; rfl
   simp only [eb] at bk7
   have e2 : textP t = manyP t.mn t.mx ++ brk 7 x := by rw [e, hx]; rfl
   have b1 : (manyP t.mn t.mx).length + (brk 7 x).length ≤ 140737488355328 := by rw [e2] at hlen; simp at hlen; omega
   rw [Tr.encL_eq]
   simp [wB47, k, hx, tm, bk7, b1, Nat.add_assoc]
   refine fin _ _ _ e2.symm ?_ ?_ <;> simp
theorem text_ok (d : Nat) (t : Tr) (hf : fitsP d t = true) (hw : t.wt ≤ 1000000000) (hT : TOk t) (h0 : Heap) : M.call 47 [t.enc] h0 = some (.str (textP t), h0) := text_okN t.size d t (Nat.le_refl _) hf hw hT h0
def printP (x : Ru) : List UInt8 × Int := if namedP x.name && fitsP 100 x.tree then (x.name ++ ((if x.more then [32, 61, 47, 32] else [32, 61, 32]) ++ textP x.tree), 0) else ([], 2)
theorem print_ok (x : Ru) (hn : x.name.length ≤ 1000000000) (hw : x.tree.wt ≤ 1000000000) (hT : TOk x.tree) (h0 : Heap) : M.call 25 [ruA x] h0 = some (.tup [.str (printP x).1, .int .i64 (printP x).2], h0) := by
 have nm := named_ok x.name hn
 have rg := right_ok x.tree hT
 refine call_of tab25 rfl (callF_wp ?_)
 unfold printP
 cases h1 : namedP x.name with
 | false =>
  rw [h1] at nm
  simp [-getElem?_pos, wB25, ruA_cells, ruL_take, ruL_drop, ruL_agg, ruL_name, ruL_tree, ruL_more, nm]
 | true =>
  cases h2 : fitsP 100 x.tree with
  | false =>
   rw [h1] at nm
   rw [h2] at rg
   simp [-getElem?_pos, wB25, ruA_cells, ruL_take, ruL_drop, ruL_agg, ruL_name, ruL_tree, ruL_more, nm, rg]
  | true =>
   have tx := text_ok 100 x.tree h2 hw hT
   have tl := text_len h2
   rw [h1] at nm
   rw [h2] at rg
   cases h3 : x.more with
   | false =>
    have b1 : x.name.length + 3 ≤ 140737488355328 := by omega
    have b2 : x.name.length + (3 + (textP x.tree).length) ≤ 140737488355328 := by omega
    simp [-getElem?_pos, wB25, wJ25_0, ruA_cells, ruL_take, ruL_drop, ruL_agg, ruL_name, ruL_tree, ruL_more, nm, rg, tx, h3, b1, b2, Nat.add_assoc]
   | true =>
    have b1 : x.name.length + 4 ≤ 140737488355328 := by omega
    have b2 : x.name.length + (4 + (textP x.tree).length) ≤ 140737488355328 := by omega
    simp [-getElem?_pos, wB25, wJ25_0, ruA_cells, ruL_take, ruL_drop, ruL_agg, ruL_name, ruL_tree, ruL_more, nm, rg, tx, h3, b1, b2, Nat.add_assoc]
end Go.Proofs.YtcflbdikkcpiaaaGreatDoor
