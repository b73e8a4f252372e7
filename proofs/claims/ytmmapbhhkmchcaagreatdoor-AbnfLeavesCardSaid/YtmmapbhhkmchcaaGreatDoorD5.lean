/-
  The reference: Text, Print.
-/
import Derived.Test.YtmmapbhhkmchcaaGreatDoorD4
set_option linter.unusedVariables false
set_option linter.unusedSimpArgs false
namespace Go.Proofs.YtmmapbhhkmchcaaGreatDoor
open Go Go.Am

theorem join_snoc (sep : List UInt8) : ∀ (l : List (List UInt8)) (y : List UInt8), Lib.join (l ++ [y]) sep = if l = [] then y else Lib.join l sep ++ (sep ++ y)
  | [], y => by simp [Lib.join, List.intercalate]
  | [x], y => by simp [Lib.join, List.intercalate]
  | x :: z :: l, y => by
    have := join_snoc sep (z :: l) y
    simp [Lib.join, List.intercalate] at this ⊢
    exact this
theorem wts_take : ∀ (l : List Tr) (i : Nat), wts (l.take i) ≤ wts l
  | [], i => by simp [wts]
  | t :: l, 0 => by simp [wts]
  | t :: l, i + 1 => by
    have := wts_take l i
    simp only [List.take_succ_cons, wts]
    omega
def InvRt0 (t : Tr) (h0 : Heap) (k : Nat) (σ : Slots) (h : Heap) : Prop := ∃ i, i ≤ t.s.length ∧ k = t.s.length - i ∧ σ 1 = .ptr h0.length 0 ∧ σ 3 = .str (Lib.join ((t.s.take i).map hexP) [46]) ∧ σ 4 = .int .i64 i ∧ h = h0 ++ [.cells t.encL]
def InvRt1 (m : UInt8) (sep : List UInt8) (t : Tr) (h0 : Heap) (k : Nat) (σ : Slots) (h : Heap) : Prop := ∃ i, i ≤ t.kids.length ∧ k = t.kids.length - i ∧ σ 1 = .ptr h0.length 0 ∧ σ 3 = .str (Lib.join ((t.kids.take i).map (brk m)) sep) ∧ σ 5 = .int .i64 i ∧ h.take (h0.length + 1) = h0 ++ [.cells t.encL]
set_option maxRecDepth 20000 in
theorem rtext_okN : ∀ (n d : Nat) (t : Tr), t.size ≤ n → fitsP d t = true → t.wt ≤ 1000000000 → TOk t → ∀ h0 : Heap, M.call 47 [t.enc] h0 = some (.str (textP t), h0)
  | 0, d, t, hn, _, _, _, _ => by cases t; simp [Tr.size] at hn
  | n + 1, d, t, hn, hf, hw, hT, h0 => by
    have ha := fits_alone hf
    have hlen := text_len hf
    have kw : ∀ x ∈ t.kids, x.wt + 16 ≤ t.wt := fun x hx => wt_kid hx
    have ih : ∀ x ∈ t.kids, ∀ h0 : Heap, M.call 47 [x.enc] h0 = some (.str (textP x), h0) := fun x hx =>
      rtext_okN n (d - 1) x (by have := Tr.size_kid hx; omega) (fits_kid hf hx) (by have := kw x hx; omega) (hT.kid hx)
    have hk := hT.n
    have hs := hT.s
    have hweq := wt_eq t
    refine call_of tab47 rfl (callF_wp ?_)
    generalize hQ : (fun e σ h => isEnd e ∧ ∃ vs, resVals σ h [ARes.tmp 2] = some vs ∧ finish h0 h (oneOf vs) = some (.str (textP t), h0)) = Q
    have fin : ∀ (σ : Slots) (h : Heap) (v : List UInt8), v = textP t → σ 2 = .str v → h.take h0.length = h0 → Q .ret σ h := by
      intro σ h v hv s2 hh
      subst hQ
      subst hv
      simp [s2, finish_of_take hh]
    have hh0 : ∀ {h : Heap}, h.take (h0.length + 1) = h0 ++ [.cells t.encL] → h0.length + 1 ≤ h.length ∧ h.take h0.length = h0 ∧ ∀ q, (h ++ q)[h0.length]? = some (.cells t.encL) := by
      intro h hh
      have h1 : h0.length + 1 ≤ h.length := by
        have := congrArg List.length hh
        simp at this
        omega
      refine ⟨h1, ?_, fun q => ?_⟩
      · have := congrArg (List.take h0.length) hh
        rwa [List.take_take, Nat.min_eq_left (by omega), List.take_left' (by simp)] at this
      · rw [List.getElem?_append_left (by omega)]
        have := congrArg (fun q : Heap => q[h0.length]?) hh
        simp only [List.getElem?_take, if_pos (Nat.lt_succ_self _)] at this
        rw [this]
        simp
    have htx := textP_eq t
    have kk : ∀ x ∈ t.kids, x.k = 1 ∨ x.k = 2 ∨ x.k = 3 ∨ x.k = 4 ∨ x.k = 5 ∨ x.k = 6 ∨ x.k = 7 := fun x hx => alone_kinds (fits_alone (fits_kid hf hx))
    unfold Tr.enc
    rcases alone_kinds ha with k | k | k | k | k | k | k
    · have e : textP t = t.s := by rw [htx, if_pos k]
      rw [Tr.encL_eq]
      simp [wB47, k]
      refine fin _ _ _ e.symm ?_ ?_ <;> simp
    · have e : textP t = 34 :: (t.s ++ [34]) := by rw [htx, k]; rfl
      have b1 : 1 + t.s.length ≤ 140737488355328 := by omega
      have b2 : t.s.length ≤ 140737488355326 := by omega
      rw [Tr.encL_eq]
      simp [wB47, k, b1, b2, Nat.add_assoc]
      refine fin _ _ _ e.symm ?_ ?_ <;> simp
    · have e : textP t = 37 :: 120 :: Lib.join (t.s.map hexP) [46] := by rw [htx, k]; rfl
      have hcs : [AV.int .u8 (3 : Nat), .str t.s, .int .u8 t.lo.toNat, .int .u8 t.hi.toNat, .int .i64 t.mn, .int .i64 t.mx, .list 7 (t.kids.map Tr.enc) (rtB t.full)] = t.encL := by rw [Tr.encL_eq, k]; rfl
      have jl : ∀ i, (Lib.join ((t.s.take i).map hexP) [46]).length ≤ 3 * t.s.length := fun i => by
        have h1 := join_len [46] ((t.s.take i).map hexP)
        have h2 := hex_sum (t.s.take i)
        simp only [List.length_cons, List.length_nil, Nat.zero_add] at h1
        rw [h2] at h1
        simp only [List.length_take] at h1
        omega
      rw [Tr.encL_eq]
      simp [wB47, k]
      refine Wp.loop (InvRt0 t h0) ?_ (n := t.s.length) ⟨0, by omega, by omega, by simp, by simp [Lib.join, List.intercalate], by simp, by rw [← hcs]; rfl⟩
      rintro j σ h ⟨i, hi, rfl, s1, s3, s4, rfl⟩
      rw [Tr.encL_eq]
      have jli := jl i
      by_cases hlt : i < t.s.length
      · obtain ⟨c, ec⟩ : ∃ c, t.s[i]? = some c := ⟨_, List.getElem?_eq_getElem hlt⟩
        have hx := pair_ok c
        have e64 : IntKind.wrap .i64 ((i : Int) + 1) = ((i + 1 : Nat) : Int) := by rw [wrap64 (by omega) (by omega)]; rfl
        have hsn : Lib.join ((t.s.take (i + 1)).map hexP) [46] = if (t.s.take i).map hexP = [] then hexP c else Lib.join ((t.s.take i).map hexP) [46] ++ ([46] ++ hexP c) := by
          rw [← join_snoc]
          simp [List.take_add_one, ec]
        have l2 : (hexP c).length = 2 := rfl
        by_cases hi0 : i = 0
        · subst hi0
          simp at hsn
          have s3' : σ 3 = .str [] := by rw [s3]; simp [Lib.join, List.intercalate]
          simp [-getElem?_pos, -Int.natCast_add, wL47_0, wJ47_0, wJ47_1, s1, s3', s4, hlt, ec, hx, l2, Nat.add_assoc]
          refine ⟨t.s.length - 1, by omega, 1, by omega, rfl, by simp [s1], ?_, by simp; decide, by rw [Tr.encL_eq]⟩
          simp [hsn]
        · have hne : ¬ ((t.s.take i).map hexP = []) := by simp; refine ⟨hi0, ?_⟩; intro h; rw [h] at hlt; simp at hlt
          rw [if_neg hne] at hsn
          have hi0' : 0 < i := by omega
          have b1 : (Lib.join ((t.s.take i).map hexP) [46]).length + 1 ≤ 140737488355328 := by omega
          have b2 : (Lib.join ((t.s.take i).map hexP) [46]).length ≤ 140737488355325 := by omega
          generalize Lib.join ((t.s.take i).map hexP) [46] = P at *
          simp [-getElem?_pos, -Int.natCast_add, wL47_0, wJ47_0, wJ47_1, s1, s3, s4, hlt, hi0', ec, hx, l2, b1, b2, e64, Nat.add_assoc]
          refine ⟨t.s.length - (i + 1), by omega, i + 1, by omega, rfl, by simp [s1], ?_, by simp, by rw [Tr.encL_eq]⟩
          rw [hsn]
          simp
      · have : i = t.s.length := by omega
        subst this
        rw [List.take_length] at s3 jli
        have b1 : 2 + (Lib.join (t.s.map hexP) [46]).length ≤ 140737488355328 := by omega
        simp [wL47_0, wK47_0, s1, s3, s4, b1]
        refine fin _ _ _ e.symm ?_ ?_ <;> simp
    · have e : textP t = 37 :: 120 :: (hexP t.lo ++ 45 :: hexP t.hi) := by rw [htx, k]; rfl
      have hx1 := pair_ok t.lo
      have hx2 := pair_ok t.hi
      have l1 : (hexP t.lo).length = 2 := rfl
      have l2 : (hexP t.hi).length = 2 := rfl
      rw [Tr.encL_eq]
      simp [wB47, k, hx1, hx2, l1, l2, Nat.add_assoc]
      refine fin _ _ _ e.symm ?_ ?_ <;> simp
    · have e : textP t = Lib.join (t.kids.map (brk 5)) [32] := by rw [htx, k]; rfl
      have jl : ∀ i, (Lib.join ((t.kids.take i).map (brk 5)) [32]).length ≤ 1000000000 := fun i => by
        have h1 := join_len [32] ((t.kids.take i).map (brk 5))
        have h2 := sum_le (t.kids.take i) (fun k => (brk 5 k).length + 1) (fun k hk => by
          have hk := List.mem_of_mem_take hk
          have := text_len (fits_kid hf hk)
          unfold brk
          split
          · simp; omega
          · omega)
        have h4 := wts_take t.kids i
        simp only [List.map_map, List.length_cons, List.length_nil] at h1
        have h3 : (((t.kids.take i).map ((fun x : List UInt8 => x.length + (0 + 1)) ∘ brk 5)).sum) = ((t.kids.take i).map (fun k => (brk 5 k).length + 1)).sum := rfl
        omega
      have hcs : [AV.int .u8 (5 : Nat), .str t.s, .int .u8 t.lo.toNat, .int .u8 t.hi.toNat, .int .i64 t.mn, .int .i64 t.mx, .list 7 (t.kids.map Tr.enc) (rtB t.full)] = t.encL := by rw [Tr.encL_eq, k]; rfl
      rw [Tr.encL_eq]
      simp [wB47, wK47_2, k]
      refine Wp.loop (InvRt1 5 [32] t h0) ?_ (n := t.kids.length) ⟨0, by omega, by omega, by simp, by simp [Lib.join, List.intercalate], by simp, by rw [List.take_of_length_le (by simp), ← hcs]; rfl⟩
      rintro j σ h ⟨i, hi, rfl, s1, s3, s5, hh⟩
      obtain ⟨hle, hh1, hat⟩ := hh0 hh
      have hat0 := hat []
      rw [List.append_nil] at hat0
      rw [Tr.encL_eq] at hat hat0
      have jli := jl i
      by_cases hlt : i < t.kids.length
      · obtain ⟨x, ex⟩ : ∃ x, t.kids[i]? = some x := ⟨_, List.getElem?_eq_getElem hlt⟩
        have hxm := List.mem_of_getElem? ex
        have hx := ih x hxm
        have hxl := text_len (fits_kid hf hxm)
        have hxw := kw x hxm
        have e64 : IntKind.wrap .i64 ((i : Int) + 1) = ((i + 1 : Nat) : Int) := by rw [wrap64 (by omega) (by omega)]; rfl
        have hsn : Lib.join ((t.kids.take (i + 1)).map (brk 5)) [32] = if (t.kids.take i).map (brk 5) = [] then brk 5 x else Lib.join ((t.kids.take i).map (brk 5)) [32] ++ ([32] ++ brk 5 x) := by
          rw [← join_snoc]
          simp [List.take_add_one, ex]
        have q5 := u8_eq x.k 5 (by omega)
        have q6 := u8_eq x.k 6 (by omega)
        simp at q5 q6
        have hn : brk 5 x = if x.k = 6 ∨ x.k = 5 then 40 :: (textP x ++ [41]) else textP x := by
          unfold brk
          have : needs 5 x.k = decide (x.k = 6 ∨ x.k = 5) := by
            rcases kk x hxm with e | e | e | e | e | e | e <;> rw [e] <;> decide
          rw [this]
          by_cases c : x.k = 6 ∨ x.k = 5 <;> simp [c]
        have go : ∀ (σ' : Slots) (q : Heap), σ' 1 = σ 1 → σ' 5 = .int .i64 ((i + 1 : Nat) : Int) → σ' 3 = .str (if i = 0 then brk 5 x else Lib.join ((t.kids.take i).map (brk 5)) [32] ++ ([32] ++ brk 5 x)) → ∃ m, m < t.kids.length - i ∧ InvRt1 5 [32] t h0 m σ' (h ++ q) := fun σ' q q1 q5 q3 =>
          ⟨t.kids.length - (i + 1), by omega, i + 1, by omega, rfl, by rw [q1, s1], by
            rw [q3, hsn]
            congr 1
            by_cases hi0 : i = 0
            · subst hi0; simp
            · have hne : ¬ ((t.kids.take i).map (brk 5) = []) := by simp; refine ⟨hi0, ?_⟩; intro h; rw [h] at hlt; simp at hlt
              rw [if_neg hi0, if_neg hne], q5, by rw [List.take_append_of_le_length (by omega), hh]⟩
        have b0 : 1 + ((textP x).length + 1) ≤ 140737488355328 := by omega
        have b0' : 1 + (textP x).length ≤ 140737488355328 := by omega
        have b0'' : (textP x).length ≤ 140737488355326 := by omega
        have hcx : x.encL = [.int .u8 x.k.toNat, .str x.s, .int .u8 x.lo.toNat, .int .u8 x.hi.toNat, .int .i64 x.mn, .int .i64 x.mx, .list 7 (x.kids.map Tr.enc) (rtB x.full)] := Tr.encL_eq x
        have hxA := hx
        unfold Tr.enc at hxA
        rw [hcx] at hxA
        by_cases hi0 : i = 0
        · have s3' : σ 3 = .str [] := by rw [s3, hi0]; simp [Lib.join, List.intercalate]
          have hi0' : ¬ 0 < i := by omega
          rw [if_pos hi0] at go
          by_cases c5 : x.k = 5
          · have q5' := eq_true (q5.2 c5)
            have q6' := eq_false (fun q => by rw [q6.1 q] at c5; exact absurd c5 (by decide) : ¬ ((x.k.toNat : Int) = 6))
            simp [-getElem?_pos, -Int.natCast_add, -List.map_map, -List.map_take, wL47_1, wJ47_4, wJ47_5, wJ47_6, s1, s3', s5, hat, hat0, hlt, ex, hcx, hxA, hi0', e64, q5', q6', k, b0, b0', b0'', Nat.add_assoc]
            repeat refine And.intro (by omega) ?_
            refine go _ _ ?_ ?_ ?_ <;> simp [hn, c5]
          · have q5' := eq_false (fun q => c5 (q5.1 q))
            by_cases c6 : x.k = 6
            · have q6' := eq_true (q6.2 c6)
              simp [-getElem?_pos, -Int.natCast_add, -List.map_map, -List.map_take, wL47_1, wJ47_4, wJ47_5, wJ47_6, s1, s3', s5, hat, hat0, hlt, ex, hcx, hxA, hi0', e64, q5', q6', k, b0, b0', b0'', Nat.add_assoc]
              repeat refine And.intro (by omega) ?_
              refine go _ _ ?_ ?_ ?_ <;> simp [hn, c6]
            · have q6' := eq_false (fun q => c6 (q6.1 q))
              simp [-getElem?_pos, -Int.natCast_add, -List.map_map, -List.map_take, wL47_1, wJ47_4, wJ47_5, wJ47_6, s1, s3', s5, hat, hat0, hlt, ex, hcx, hxA, hi0', e64, q5', q6', k, b0, b0', b0'', Nat.add_assoc]
              repeat refine And.intro (by omega) ?_
              refine go _ _ ?_ ?_ ?_ <;> simp [hn, c5, c6]
        · have hi0' : 0 < i := by omega
          rw [if_neg hi0] at go
          generalize Lib.join ((t.kids.take i).map (brk 5)) [32] = P at *
          have p1 : P.length + 1 ≤ 140737488355328 := by omega
          by_cases c5 : x.k = 5
          · have q5' := eq_true (q5.2 c5)
            have q6' := eq_false (fun q => by rw [q6.1 q] at c5; exact absurd c5 (by decide) : ¬ ((x.k.toNat : Int) = 6))
            simp [-getElem?_pos, -Int.natCast_add, -List.map_map, -List.map_take, wL47_1, wJ47_4, wJ47_5, wJ47_6, s1, s3, s5, hat, hat0, hlt, ex, hcx, hxA, hi0', e64, q5', q6', k, b0, b0', b0'', p1, Nat.add_assoc]
            repeat refine And.intro (by omega) ?_
            refine go _ _ ?_ ?_ ?_ <;> simp [hn, c5]
          · have q5' := eq_false (fun q => c5 (q5.1 q))
            by_cases c6 : x.k = 6
            · have q6' := eq_true (q6.2 c6)
              simp [-getElem?_pos, -Int.natCast_add, -List.map_map, -List.map_take, wL47_1, wJ47_4, wJ47_5, wJ47_6, s1, s3, s5, hat, hat0, hlt, ex, hcx, hxA, hi0', e64, q5', q6', k, b0, b0', b0'', p1, Nat.add_assoc]
              repeat refine And.intro (by omega) ?_
              refine go _ _ ?_ ?_ ?_ <;> simp [hn, c6]
            · have q6' := eq_false (fun q => c6 (q6.1 q))
              simp [-getElem?_pos, -Int.natCast_add, -List.map_map, -List.map_take, wL47_1, wJ47_4, wJ47_5, wJ47_6, s1, s3, s5, hat, hat0, hlt, ex, hcx, hxA, hi0', e64, q5', q6', k, b0, b0', b0'', p1, Nat.add_assoc]
              repeat refine And.intro (by omega) ?_
              refine go _ _ ?_ ?_ ?_ <;> simp [hn, c5, c6]
      · have : i = t.kids.length := by omega
        subst this
        rw [List.take_length] at s3
        simp [wL47_1, wK47_1, s1, s3, s5, hat, hat0]
        refine fin _ _ _ e.symm ?_ hh1
        simp
    · have e : textP t = Lib.join (t.kids.map (brk 6)) [32, 47, 32] := by rw [htx, k]; rfl
      have jl : ∀ i, (Lib.join ((t.kids.take i).map (brk 6)) [32, 47, 32]).length ≤ 1000000000 := fun i => by
        have h1 := join_len [32, 47, 32] ((t.kids.take i).map (brk 6))
        have h2 := sum_le (t.kids.take i) (fun k => (brk 6 k).length + 3) (fun k hk => by
          have hk := List.mem_of_mem_take hk
          have := text_len (fits_kid hf hk)
          unfold brk
          split
          · simp; omega
          · omega)
        have h4 := wts_take t.kids i
        simp only [List.map_map, List.length_cons, List.length_nil] at h1
        have h3 : (((t.kids.take i).map ((fun x : List UInt8 => x.length + (0 + 1 + 1 + 1)) ∘ brk 6)).sum) = ((t.kids.take i).map (fun k => (brk 6 k).length + 3)).sum := rfl
        omega
      have hcs : [AV.int .u8 (6 : Nat), .str t.s, .int .u8 t.lo.toNat, .int .u8 t.hi.toNat, .int .i64 t.mn, .int .i64 t.mx, .list 7 (t.kids.map Tr.enc) (rtB t.full)] = t.encL := by rw [Tr.encL_eq, k]; rfl
      rw [Tr.encL_eq]
      simp [wB47, wK47_2, k]
      refine Wp.loop (InvRt1 6 [32, 47, 32] t h0) ?_ (n := t.kids.length) ⟨0, by omega, by omega, by simp, by simp [Lib.join, List.intercalate], by simp, by rw [List.take_of_length_le (by simp), ← hcs]; rfl⟩
      rintro j σ h ⟨i, hi, rfl, s1, s3, s5, hh⟩
      obtain ⟨hle, hh1, hat⟩ := hh0 hh
      have hat0 := hat []
      rw [List.append_nil] at hat0
      rw [Tr.encL_eq] at hat hat0
      have jli := jl i
      by_cases hlt : i < t.kids.length
      · obtain ⟨x, ex⟩ : ∃ x, t.kids[i]? = some x := ⟨_, List.getElem?_eq_getElem hlt⟩
        have hxm := List.mem_of_getElem? ex
        have hx := ih x hxm
        have hxl := text_len (fits_kid hf hxm)
        have hxw := kw x hxm
        have e64 : IntKind.wrap .i64 ((i : Int) + 1) = ((i + 1 : Nat) : Int) := by rw [wrap64 (by omega) (by omega)]; rfl
        have hsn : Lib.join ((t.kids.take (i + 1)).map (brk 6)) [32, 47, 32] = if (t.kids.take i).map (brk 6) = [] then brk 6 x else Lib.join ((t.kids.take i).map (brk 6)) [32, 47, 32] ++ ([32, 47, 32] ++ brk 6 x) := by
          rw [← join_snoc]
          simp [List.take_add_one, ex]
        have q5 := u8_eq x.k 5 (by omega)
        have q6 := u8_eq x.k 6 (by omega)
        simp at q5 q6
        have hn : brk 6 x = if x.k = 6 then 40 :: (textP x ++ [41]) else textP x := by
          unfold brk
          have : needs 6 x.k = decide (x.k = 6) := by
            rcases kk x hxm with e | e | e | e | e | e | e <;> rw [e] <;> decide
          rw [this]
          by_cases c : x.k = 6 <;> simp [c]
        have go : ∀ (σ' : Slots) (q : Heap), σ' 1 = σ 1 → σ' 5 = .int .i64 ((i + 1 : Nat) : Int) → σ' 3 = .str (if i = 0 then brk 6 x else Lib.join ((t.kids.take i).map (brk 6)) [32, 47, 32] ++ ([32, 47, 32] ++ brk 6 x)) → ∃ m, m < t.kids.length - i ∧ InvRt1 6 [32, 47, 32] t h0 m σ' (h ++ q) := fun σ' q q1 q5 q3 =>
          ⟨t.kids.length - (i + 1), by omega, i + 1, by omega, rfl, by rw [q1, s1], by
            rw [q3, hsn]
            congr 1
            by_cases hi0 : i = 0
            · subst hi0; simp
            · have hne : ¬ ((t.kids.take i).map (brk 6) = []) := by simp; refine ⟨hi0, ?_⟩; intro h; rw [h] at hlt; simp at hlt
              rw [if_neg hi0, if_neg hne], q5, by rw [List.take_append_of_le_length (by omega), hh]⟩
        have b0 : 1 + ((textP x).length + 1) ≤ 140737488355328 := by omega
        have b0' : 1 + (textP x).length ≤ 140737488355328 := by omega
        have b0'' : (textP x).length ≤ 140737488355326 := by omega
        have hcx : x.encL = [.int .u8 x.k.toNat, .str x.s, .int .u8 x.lo.toNat, .int .u8 x.hi.toNat, .int .i64 x.mn, .int .i64 x.mx, .list 7 (x.kids.map Tr.enc) (rtB x.full)] := Tr.encL_eq x
        have hxA := hx
        unfold Tr.enc at hxA
        rw [hcx] at hxA
        by_cases hi0 : i = 0
        · have s3' : σ 3 = .str [] := by rw [s3, hi0]; simp [Lib.join, List.intercalate]
          have hi0' : ¬ 0 < i := by omega
          rw [if_pos hi0] at go
          by_cases c5 : x.k = 5
          · have q5' := eq_true (q5.2 c5)
            have q6' := eq_false (fun q => by rw [q6.1 q] at c5; exact absurd c5 (by decide) : ¬ ((x.k.toNat : Int) = 6))
            simp [-getElem?_pos, -Int.natCast_add, -List.map_map, -List.map_take, wL47_1, wJ47_4, wJ47_5, wJ47_6, s1, s3', s5, hat, hat0, hlt, ex, hcx, hxA, hi0', e64, q5', q6', k, b0, b0', b0'', Nat.add_assoc]
            repeat refine And.intro (by omega) ?_
            refine go _ _ ?_ ?_ ?_ <;> simp [hn, c5]
          · have q5' := eq_false (fun q => c5 (q5.1 q))
            by_cases c6 : x.k = 6
            · have q6' := eq_true (q6.2 c6)
              simp [-getElem?_pos, -Int.natCast_add, -List.map_map, -List.map_take, wL47_1, wJ47_4, wJ47_5, wJ47_6, s1, s3', s5, hat, hat0, hlt, ex, hcx, hxA, hi0', e64, q5', q6', k, b0, b0', b0'', Nat.add_assoc]
              repeat refine And.intro (by omega) ?_
              refine go _ _ ?_ ?_ ?_ <;> simp [hn, c6]
            · have q6' := eq_false (fun q => c6 (q6.1 q))
              simp [-getElem?_pos, -Int.natCast_add, -List.map_map, -List.map_take, wL47_1, wJ47_4, wJ47_5, wJ47_6, s1, s3', s5, hat, hat0, hlt, ex, hcx, hxA, hi0', e64, q5', q6', k, b0, b0', b0'', Nat.add_assoc]
              repeat refine And.intro (by omega) ?_
              refine go _ _ ?_ ?_ ?_ <;> simp [hn, c5, c6]
        · have hi0' : 0 < i := by omega
          rw [if_neg hi0] at go
          generalize Lib.join ((t.kids.take i).map (brk 6)) [32, 47, 32] = P at *
          have p1 : P.length + 3 ≤ 140737488355328 := by omega
          by_cases c5 : x.k = 5
          · have q5' := eq_true (q5.2 c5)
            have q6' := eq_false (fun q => by rw [q6.1 q] at c5; exact absurd c5 (by decide) : ¬ ((x.k.toNat : Int) = 6))
            simp [-getElem?_pos, -Int.natCast_add, -List.map_map, -List.map_take, wL47_1, wJ47_4, wJ47_5, wJ47_6, s1, s3, s5, hat, hat0, hlt, ex, hcx, hxA, hi0', e64, q5', q6', k, b0, b0', b0'', p1, Nat.add_assoc]
            repeat refine And.intro (by omega) ?_
            refine go _ _ ?_ ?_ ?_ <;> simp [hn, c5]
          · have q5' := eq_false (fun q => c5 (q5.1 q))
            by_cases c6 : x.k = 6
            · have q6' := eq_true (q6.2 c6)
              simp [-getElem?_pos, -Int.natCast_add, -List.map_map, -List.map_take, wL47_1, wJ47_4, wJ47_5, wJ47_6, s1, s3, s5, hat, hat0, hlt, ex, hcx, hxA, hi0', e64, q5', q6', k, b0, b0', b0'', p1, Nat.add_assoc]
              repeat refine And.intro (by omega) ?_
              refine go _ _ ?_ ?_ ?_ <;> simp [hn, c6]
            · have q6' := eq_false (fun q => c6 (q6.1 q))
              simp [-getElem?_pos, -Int.natCast_add, -List.map_map, -List.map_take, wL47_1, wJ47_4, wJ47_5, wJ47_6, s1, s3, s5, hat, hat0, hlt, ex, hcx, hxA, hi0', e64, q5', q6', k, b0, b0', b0'', p1, Nat.add_assoc]
              repeat refine And.intro (by omega) ?_
              refine go _ _ ?_ ?_ ?_ <;> simp [hn, c5, c6]
      · have : i = t.kids.length := by omega
        subst this
        rw [List.take_length] at s3
        simp [wL47_1, wK47_1, s1, s3, s5, hat, hat0]
        refine fin _ _ _ e.symm ?_ hh1
        simp
    · have e : textP t = manyP t.mn t.mx ++ (t.kids.map (brk 7)).headD [] := by rw [htx, k]; rfl
      obtain ⟨a1, a2, a3, a4, a5, a6⟩ := alone7 ha k
      obtain ⟨x, hx⟩ : ∃ x, t.kids = [x] := by
        match t.kids, a1 with
        | [x], _ => exact ⟨x, rfl⟩
      obtain ⟨mn, hmn⟩ : ∃ mn : Nat, t.mn = (mn : Int) := ⟨t.mn.toNat, by omega⟩
      have hxm : x ∈ t.kids := by rw [hx]; simp
      have tx := ih x hxm
      have hxl := text_len (fits_kid hf hxm)
      have hxw := kw x hxm
      have e2 : textP t = manyP t.mn t.mx ++ brk 7 x := by rw [e, hx]; rfl
      have hcx : x.encL = [.int .u8 x.k.toNat, .str x.s, .int .u8 x.lo.toNat, .int .u8 x.hi.toNat, .int .i64 x.mn, .int .i64 x.mx, .list 7 (x.kids.map Tr.enc) (rtB x.full)] := Tr.encL_eq x
      have txA := tx
      unfold Tr.enc at txA
      rw [hcx] at txA
      have q5 : ((5 : Int) ≤ x.k.toNat) = (5 ≤ x.k.toNat) := by apply propext; omega
      have nd : needs 7 x.k = decide (5 ≤ x.k.toNat) := by rcases kk x hxm with e | e | e | e | e | e | e <;> rw [e] <;> decide
      have dn := digits_ok mn (by omega)
      have dl := dec_len4 (n := mn) (by omega)
      have im : Lib.itoa t.mn = Lib.decDigits mn := by rw [hmn]; unfold Lib.itoa; rw [if_neg (by omega)]; simp
      -- behind the number: the kid
      have tail2 : ∀ (σ : Slots) (P : List UInt8), P = manyP t.mn t.mx → P.length ≤ 9 → σ 1 = .ptr h0.length 0 → σ 3 = .str P → ∀ Q' : Ex → Slots → Heap → Prop, Q' .ret = Q .ret → Wp M J47_2 Q' σ (h0 ++ [.cells t.encL]) := by
        intro σ P hP hl s1 s3 Q' hQ'
        rw [Tr.encL_eq]
        have b0 : P.length + 1 ≤ 140737488355328 := by omega
        by_cases c : 5 ≤ x.k.toNat
        · have hb : brk 7 x = 40 :: (textP x ++ [41]) := by unfold brk; rw [nd]; simp [c]
          have b1 : P.length + (1 + (textP x).length) ≤ 140737488355328 := by omega
          have b2 : P.length + ((textP x).length + 2) ≤ 140737488355328 := by omega
          simp [wJ47_2, s1, s3, hx, hcx, txA, lit_le, le_lit, c, b0, b1, b2, Nat.add_assoc]
          repeat refine And.intro (by omega) ?_
          rw [hQ']
          refine fin _ _ (P ++ 40 :: (textP x ++ [41])) (by rw [e2, hb, hP]) ?_ ?_ <;> simp
        · have hb : brk 7 x = textP x := by unfold brk; rw [nd]; simp [c]
          have b1 : P.length + (textP x).length ≤ 140737488355328 := by omega
          simp [wJ47_2, s1, s3, hx, hcx, txA, lit_le, le_lit, c, b0, b1, Nat.add_assoc]
          rw [hQ']
          refine fin _ _ (P ++ textP x) (by rw [e2, hb, hP]) ?_ ?_ <;> simp
      have T : ∀ (σ : Slots) (P : List UInt8), P = manyP t.mn t.mx → P.length ≤ 9 → σ 1 = .ptr h0.length 0 → σ 3 = .str P → ∀ Q' : Ex → Slots → Heap → Prop, Q' .ret = Q .ret → Wp M J47_2 Q' σ (h0 ++ [.cells [.int .u8 7, .str t.s, .int .u8 t.lo.toNat, .int .u8 t.hi.toNat, .int .i64 t.mn, .int .i64 t.mx, .list 7 (t.kids.map Tr.enc) (rtB t.full)]]) := by
        have hcs : [AV.int .u8 7, .str t.s, .int .u8 t.lo.toNat, .int .u8 t.hi.toNat, .int .i64 t.mn, .int .i64 t.mx, .list 7 (t.kids.map Tr.enc) (rtB t.full)] = t.encL := by rw [Tr.encL_eq, k]; rfl
        rw [hcs]
        exact tail2
      rw [Tr.encL_eq]
      have ml := many_len a2 a3 a5
      have dn' : ∀ h, M.call 91 [.int .i64 t.mn] h = some (.str (Lib.decDigits mn), h) := fun h => by rw [hmn]; exact dn h
      have b1 : (Lib.decDigits mn).length + 1 ≤ 140737488355328 := by omega
      by_cases c1 : 0 < t.mn
      · by_cases c2 : t.mn = t.mx
        · have hP : Lib.decDigits mn = manyP t.mn t.mx := by unfold manyP; rw [if_pos c2, im]
          simp [-Int.natCast_add, wB47, wJ47_3, k, dn', c1, eq_true c2, Nat.add_assoc]
          refine T _ (Lib.decDigits mn) hP (by rw [hP]; exact ml) ?_ ?_ _ rfl <;> simp
        · by_cases c3 : 0 ≤ t.mx
          · have ne : ¬ t.mx = 0 := by omega
            obtain ⟨mx, hmx⟩ : ∃ mx : Nat, t.mx = (mx : Int) := ⟨t.mx.toNat, by omega⟩
            have dx : ∀ h, M.call 91 [.int .i64 t.mx] h = some (.str (Lib.decDigits mx), h) := fun h => by rw [hmx]; exact digits_ok mx (by omega) h
            have dxl := dec_len4 (n := mx) (by omega)
            have ix : Lib.itoa t.mx = Lib.decDigits mx := by rw [hmx]; unfold Lib.itoa; rw [if_neg (by omega)]; simp
            have b2 : (Lib.decDigits mn).length + (1 + (Lib.decDigits mx).length) ≤ 140737488355328 := by omega
            have hP : Lib.decDigits mn ++ 42 :: Lib.decDigits mx = manyP t.mn t.mx := by unfold manyP; rw [if_neg c2, if_pos c1, if_pos c3, im, ix]
            simp [-Int.natCast_add, wB47, wJ47_3, k, dn', dx, c1, c2, c3, b1, b2, Nat.add_assoc]
            refine T _ (Lib.decDigits mn ++ 42 :: Lib.decDigits mx) hP (by rw [hP]; exact ml) ?_ ?_ _ rfl <;> simp
          · have hP : Lib.decDigits mn ++ [42] = manyP t.mn t.mx := by unfold manyP; rw [if_neg c2, if_pos c1, if_neg c3, im]
            simp [-Int.natCast_add, wB47, wJ47_3, k, dn', c1, c2, c3, b1, Nat.add_assoc]
            refine T _ (Lib.decDigits mn ++ [42]) hP (by rw [hP]; exact ml) ?_ ?_ _ rfl <;> simp
      · have c0 : t.mn = 0 := by omega
        by_cases c2 : t.mx = 0
        · have c4 : t.mn = t.mx := by omega
          have hP : Lib.decDigits mn = manyP t.mn t.mx := by unfold manyP; rw [if_pos c4, im]
          simp [-Int.natCast_add, wB47, wJ47_3, k, dn', c1, eq_true c2, eq_true c4, Nat.add_assoc]
          refine T _ (Lib.decDigits mn) hP (by rw [hP]; exact ml) ?_ ?_ _ rfl <;> simp
        · have c4 : ¬ t.mn = t.mx := by omega
          by_cases c3 : 0 ≤ t.mx
          · obtain ⟨mx, hmx⟩ : ∃ mx : Nat, t.mx = (mx : Int) := ⟨t.mx.toNat, by omega⟩
            have dx : ∀ h, M.call 91 [.int .i64 t.mx] h = some (.str (Lib.decDigits mx), h) := fun h => by rw [hmx]; exact digits_ok mx (by omega) h
            have dxl := dec_len4 (n := mx) (by omega)
            have ix : Lib.itoa t.mx = Lib.decDigits mx := by rw [hmx]; unfold Lib.itoa; rw [if_neg (by omega)]; simp
            have b2 : 1 + (Lib.decDigits mx).length ≤ 140737488355328 := by omega
            have hP : 42 :: Lib.decDigits mx = manyP t.mn t.mx := by unfold manyP; rw [if_neg c4, if_neg c1, if_pos c3, ix]; rfl
            simp [-Int.natCast_add, wB47, wJ47_3, k, dn', dx, c1, c2, c3, c4, b2, Nat.add_assoc]
            refine T _ (42 :: Lib.decDigits mx) hP (by rw [hP]; exact ml) ?_ ?_ _ rfl <;> simp
          · have hP : [42] = manyP t.mn t.mx := by unfold manyP; rw [if_neg c4, if_neg c1, if_neg c3]; rfl
            simp [-Int.natCast_add, wB47, wJ47_3, k, dn', c1, c2, c3, c4, Nat.add_assoc]
            refine T _ ([42]) hP (by rw [hP]; exact ml) ?_ ?_ _ rfl <;> simp
theorem rtext_ok (d : Nat) (t : Tr) (hf : fitsP d t = true) (hw : t.wt ≤ 1000000000) (hT : TOk t) (h0 : Heap) : M.call 47 [t.enc] h0 = some (.str (textP t), h0) := rtext_okN t.size d t (Nat.le_refl _) hf hw hT h0
theorem rprint_ok (x : Ru) (hn : x.name.length ≤ 1000000000) (hw : x.tree.wt ≤ 1000000000) (hT : TOk x.tree) (h0 : Heap) : M.call 17 [ruA x] h0 = some (.tup [.str (printP x).1, .int .i64 (printP x).2], h0) := by
  have nm := rnamed_ok x.name hn
  have rg := rright_ok x.tree hT
  refine call_of tab17 rfl (callF_wp ?_)
  unfold printP
  cases h1 : namedP x.name with
  | false =>
    rw [h1] at nm
    simp [-getElem?_pos, wB17, ruA_cells, ruL_take, ruL_drop, ruL_agg, ruL_name, ruL_tree, ruL_more, nm]
  | true =>
    cases h2 : fitsP 100 x.tree with
    | false =>
      rw [h1] at nm
      rw [h2] at rg
      simp [-getElem?_pos, wB17, ruA_cells, ruL_take, ruL_drop, ruL_agg, ruL_name, ruL_tree, ruL_more, nm, rg]
    | true =>
      have tx := rtext_ok 100 x.tree h2 hw hT
      have tl := text_len h2
      rw [h1] at nm
      rw [h2] at rg
      cases h3 : x.more with
      | false =>
        have b1 : x.name.length + 3 ≤ 140737488355328 := by omega
        have b2 : x.name.length + (3 + (textP x.tree).length) ≤ 140737488355328 := by omega
        simp [-getElem?_pos, wB17, ruA_cells, ruL_take, ruL_drop, ruL_agg, ruL_name, ruL_tree, ruL_more, nm, rg, tx, h3, b1, b2, Nat.add_assoc]
      | true =>
        have b1 : x.name.length + 4 ≤ 140737488355328 := by omega
        have b2 : x.name.length + (4 + (textP x.tree).length) ≤ 140737488355328 := by omega
        simp [-getElem?_pos, wB17, ruA_cells, ruL_take, ruL_drop, ruL_agg, ruL_name, ruL_tree, ruL_more, nm, rg, tx, h3, b1, b2, Nat.add_assoc]
end Go.Proofs.YtmmapbhhkmchcaaGreatDoor
