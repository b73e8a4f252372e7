/-
  Bytes, all of them.
-/
import Derived.Test.YtcflbdikkcpiaaaGreatDoorXH
set_option linter.unusedVariables false
set_option linter.unusedSimpArgs false
namespace Go.Proofs.YtcflbdikkcpiaaaGreatDoor
open Go Go.Am
theorem allU8 {p : UInt8 → Bool} (h : ((List.range 256).all fun n => p (UInt8.ofNat n)) = true) (c : UInt8) : p c = true := by
 have := List.all_eq_true.1 h c.toNat (by simp; exact c.toNat_lt)
 simpa using this
def ruL (x : Ru) : List AV := [.str x.name, .int .i64 x.pos, .bool x.more] ++ x.tree.encL
@[simp] theorem ruL_len (x : Ru) : (ruL x).length = 10 := by simp [ruL]
theorem ruA_cells (x : Ru) : (ruA x).cells = ruL x := rfl
theorem ruL_take (x : Ru) : (ruL x).take 10 = ruL x := List.take_of_length_le (by simp)
theorem ruL_drop (x : Ru) : (ruL x).drop 10 = [] := List.drop_eq_nil_of_le (by simp)
theorem ruL_agg (x : Ru) : AV.agg (ruL x) = ruA x := rfl
theorem ruL_tree (x : Ru) : (ruL x).drop 3 = x.tree.encL := rfl
theorem ruL_pos (x : Ru) : (ruL x)[1]? = some (.int .i64 x.pos) := rfl
mutual
def eqT : Tr → Tr → Bool
 | .mk k s lo hi mn mx _ ks, .mk k' s' lo' hi' mn' mx' _ ks' => (decide (k = k') && decide (s = s') && decide (lo = lo') && decide (hi = hi') && decide (mn = mn') && decide (mx = mx')) && eqTs ks ks'
def eqTs : List Tr → List Tr → Bool
 | [], [] => true
 | a :: xs, b :: ys => eqT a b && eqTs xs ys
 | _, _ => false
end
theorem eqT_eq (a b : Tr) : eqT a b = ((decide (a.k = b.k) && decide (a.s = b.s) && decide (a.lo = b.lo) && decide (a.hi = b.hi) && decide (a.mn = b.mn) && decide (a.mx = b.mx)) && eqTs a.kids b.kids) := by
 cases a; cases b
 simp only [eqT, Tr.k, Tr.s, Tr.lo, Tr.hi, Tr.mn, Tr.mx, Tr.kids]
 rfl
theorem eqTs_len : ∀ (xs ys : List Tr), xs.length ≠ ys.length → eqTs xs ys = false
 | [], [], h => absurd rfl h
 | [], _ :: _, _ => rfl
 | _ :: _, [], _ => rfl
 | a :: xs, b :: ys, h => by simp only [eqTs]; rw [eqTs_len xs ys (by simpa using h)]; simp
mutual
theorem eqT_refl : ∀ t : Tr, eqT t t = true
 | .mk k s lo hi mn mx r ks => by simp only [eqT, decide_true, Bool.and_self, Bool.true_and]; exact eqTs_refl ks
theorem eqTs_refl : ∀ l : List Tr, eqTs l l = true
 | [] => rfl
 | t :: l => by simp only [eqTs]; rw [eqT_refl t, eqTs_refl l]; rfl
end
def InvTs (a b : Tr) (h0 : Heap) (k : Nat) (σ : Slots) (h : Heap) : Prop := ∃ i, i ≤ a.kids.length ∧ k = a.kids.length - i ∧ eqTs a.kids b.kids = eqTs (a.kids.drop i) (b.kids.drop i) ∧ σ 2 = .ptr h0.length 0 ∧ σ 3 = .ptr (h0.length + 1) 0 ∧ σ 57 = .int .i64 (a.kids.length : Nat) ∧ σ 58 = .int .i64 i ∧ h = h0 ++ [.cells a.encL, .cells b.encL]
set_option maxRecDepth 20000 in
theorem trees_okN : ∀ (n : Nat) (a b : Tr), a.size ≤ n → TOk a → TOk b → ∀ h0 : Heap, M.call 22 [a.enc, b.enc] h0 = some (.bool (eqT a b), h0)
 | 0, a, _, hn, _, _, _ => by cases a; simp [Tr.size] at hn
 | n + 1, a, b, hn, ha, hb, h0 => by
  refine call_of tab22 rfl (callF_wp ?_)
  have ih : ∀ i x y, a.kids[i]? = some x → b.kids[i]? = some y → ∀ h, M.call 22 [x.enc, y.enc] h = some (.bool (eqT x y), h) := fun i x y ex ey h =>
   trees_okN n x y (by have := Tr.size_kid (List.mem_of_getElem? ex); omega) (ha.kid (List.mem_of_getElem? ex)) (hb.kid (List.mem_of_getElem? ey)) h
  have na := ha.n
  have nb := hb.n
  generalize hQ : (fun e σ h => isEnd e ∧ ∃ vs, resVals σ h [ARes.tmp 4] = some vs ∧ finish h0 h (oneOf vs) = some (.bool (eqT a b), h0)) = Q
  have fin : ∀ (σ : Slots) (l : List AE) (v : Bool), v = eqT a b → σ 4 = .bool v → Q .ret σ (h0 ++ l) := by
   intro σ l v hv s4
   subst hQ
   subst hv
   simp [s4]
  have ue : ∀ c d : UInt8, ((c.toNat : Int) = (d.toNat : Int)) = (c = d) := fun c d => propext ⟨fun h => UInt8.toNat_inj.1 (by omega), fun h => by rw [h]⟩
  have q1 := ue a.k b.k
  have q3 := ue a.lo b.lo
  have q4 := ue a.hi b.hi
  rw [eqT_eq] at fin
  unfold Tr.enc
  have hcs : h0 ++ [AE.cells a.encL, AE.cells b.encL] = h0 ++ [AE.cells a.encL, AE.cells b.encL] := rfl
  have loop : a.kids.length = b.kids.length → (eqT a b = eqTs a.kids b.kids) → ∀ σ : Slots, σ 2 = .ptr h0.length 0 → σ 3 = .ptr (h0.length + 1) 0 → σ 57 = .int .i64 (a.kids.length : Nat) → σ 58 = .int .i64 0 →
    Wp M (.loop L22_0) (blkQ 0 (thenQ (Wp M K22_0 Q) Q)) σ (h0 ++ [.cells a.encL, .cells b.encL]) := by
   intro hlen hall σ s2 s3 s57 s58
   refine Wp.loop (InvTs a b h0) ?_ (n := a.kids.length) ⟨0, by omega, by omega, by simp, s2, s3, s57, by rw [s58]; rfl, rfl⟩
   clear s2 s3 s57 s58 σ
   rintro k σ h ⟨i, hi, rfl, he, s2, s3, s57, s58, rfl⟩
   rw [← eqT_eq, hall] at fin
   rw [Tr.encL_eq a, Tr.encL_eq b]
   by_cases hlt : i < a.kids.length
   ·have hlt2 : i < b.kids.length := by omega
    obtain ⟨x, ex⟩ : ∃ x, a.kids[i]? = some x := ⟨_, List.getElem?_eq_getElem hlt⟩
    obtain ⟨y, ey⟩ : ∃ y, b.kids[i]? = some y := ⟨_, List.getElem?_eq_getElem hlt2⟩
    have hx := ih i x y ex ey
    have dx := drop_at ex
    have dy := drop_at ey
    have e64 : IntKind.wrap .i64 ((i : Int) + 1) = ((i + 1 : Nat) : Int) := by rw [wrap64 (by omega) (by omega)]; rfl
    rw [dx, dy] at he
    simp only [eqTs] at he
    cases hxy : eqT x y with
    | false =>
     rw [hxy] at hx he
     simp [-getElem?_pos, -Int.natCast_add, wL22_0, s2, s3, s57, s58, hlt, hlt2, ex, ey, hx, Nat.add_assoc]
     refine fin _ _ false ?_ ?_ <;> simp [he]
    | true =>
     rw [hxy] at hx he
     simp [-getElem?_pos, -Int.natCast_add, wL22_0, s2, s3, s57, s58, hlt, hlt2, ex, ey, hx, e64, Nat.add_assoc]
     refine ⟨a.kids.length - (i + 1), by omega, i + 1, by omega, rfl, by simpa using he, by simp [s2], by simp [s3], by simp [s57], by simp, by rw [Tr.encL_eq a, Tr.encL_eq b]⟩
   ·have : i = a.kids.length := by omega
    subst this
    rw [List.drop_length, List.drop_eq_nil_of_le (by omega)] at he
    simp [wL22_0, wK22_0, s2, s3, s57, s58]
    refine fin _ _ true ?_ ?_ <;> simp [he, eqTs]
  rw [Tr.encL_eq a, Tr.encL_eq b] at loop ⊢
  by_cases e1 : a.k = b.k
  ·have q1' := q1.trans (eq_true e1)
   by_cases e2 : a.s = b.s
   ·by_cases e3 : a.lo = b.lo
    ·have q3' := q3.trans (eq_true e3)
     by_cases e4 : a.hi = b.hi
     ·have q4' := q4.trans (eq_true e4)
      by_cases e5 : a.mn = b.mn
      ·by_cases e6 : a.mx = b.mx
       ·by_cases e7 : a.kids.length = b.kids.length
        ·have L := loop e7 (by rw [eqT_eq]; simp [e1, e2, e3, e4, e5, e6])
         simp only [e1, e2, e3, e4, e5, e6, e7] at L
         simp [wB22, e1, e2, e3, e4, e5, e6, e7]
         refine L _ ?_ ?_ ?_ ?_ <;> simp
        ·have hf := eqTs_len _ _ e7
         have e7' : ¬ ((a.kids.length : Int) = b.kids.length) := by omega
         simp [wB22, e1, e2, e3, e4, e5, e6, e7, e7']
         refine fin _ _ false ?_ ?_ <;> simp [hf]
       ·simp [wB22, e1, e2, e3, e4, e5, e6]
        refine fin _ _ false ?_ ?_ <;> simp [e6]
      ·simp [wB22, e1, e2, e3, e4, e5]
       refine fin _ _ false ?_ ?_ <;> simp [e5]
     ·have q4' := q4.trans (eq_false e4)
      simp [wB22, e1, e2, e3, q4']
      refine fin _ _ false ?_ ?_ <;> simp [e4]
    ·have q3' := q3.trans (eq_false e3)
     simp [wB22, e1, e2, q3']
     refine fin _ _ false ?_ ?_ <;> simp [e3]
   ·simp [wB22, e1, e2]
    refine fin _ _ false ?_ ?_ <;> simp [e2]
  ·have q1' := q1.trans (eq_false e1)
   simp [wB22, q1']
   refine fin _ _ false ?_ ?_ <;> simp [e1]
theorem trees_ok (a b : Tr) (ha : TOk a) (hb : TOk b) (h0 : Heap) : M.call 22 [a.enc, b.enc] h0 = some (.bool (eqT a b), h0) := trees_okN a.size a b (Nat.le_refl _) ha hb h0
def eqR (pl : Bool) (a b : Ru) : Bool := decide (a.name = b.name) && (decide (a.more = b.more) && ((!pl || decide (a.pos = b.pos)) && eqT a.tree b.tree))
def eqRs (pl : Bool) : List Ru → List Ru → Bool
 | [], [] => true
 | a :: xs, b :: ys => eqR pl a b && eqRs pl xs ys
 | _, _ => false
def InvRls (pl : Bool) (a b : List Ru) (ra rb : Rt) (h0 : Heap) (k : Nat) (σ : Slots) (h : Heap) : Prop := ∃ i, i ≤ a.length ∧ k = a.length - i ∧ eqRs pl a b = eqRs pl (a.drop i) (b.drop i) ∧ σ 0 = .list 10 (a.map ruA) ra ∧ σ 1 = .list 10 (b.map ruA) rb ∧ σ 2 = .bool pl ∧ σ 14 = .int .i64 (a.length : Nat) ∧ σ 15 = .int .i64 i ∧ h = h0
theorem ruL_name (x : Ru) : (ruL x)[0]? = some (.str x.name) := rfl
theorem ruL_more (x : Ru) : (ruL x)[2]? = some (.bool x.more) := rfl
mutual
def ndT : Tr → Int → Int → Int
 | .mk _ _ _ _ _ _ _ ks, most, deep => ndL ks most deep 1
def ndL : List Tr → Int → Int → Int → Int
 | [], _, _, n => n
 | k :: ks, most, deep, n => if n > most ∨ deep > 200 then most + 1 else ndL ks most deep (n + ndT k (most - n) (deep + 1))
end
mutual
theorem ndT_le : ∀ (t : Tr) (most deep : Int), 0 ≤ most → 1 ≤ ndT t most deep ∧ ndT t most deep ≤ most + 1
 | .mk _ _ _ _ _ _ _ ks, most, deep, h => by simp only [ndT]; exact ndL_le ks most deep 1 (by omega) (by omega)
theorem ndL_le : ∀ (l : List Tr) (most deep n : Int), 1 ≤ n → n ≤ most + 1 → 1 ≤ ndL l most deep n ∧ ndL l most deep n ≤ most + 1
 | [], most, deep, n, h1, h2 => by simp only [ndL]; omega
 | k :: ks, most, deep, n, h1, h2 => by
  simp only [ndL]
  by_cases c : n > most ∨ deep > 200
  ·rw [if_pos c]; omega
  ·rw [if_neg c]
   have := ndT_le k (most - n) (deep + 1) (by omega)
   exact ndL_le ks most deep _ (by omega) (by omega)
end
def InvNd (t : Tr) (most deep : Int) (h0 : Heap) (k : Nat) (σ : Slots) (h : Heap) : Prop := ∃ (i : Nat) (n : Int), i ≤ t.kids.length ∧ k = t.kids.length - i ∧ 1 ≤ n ∧ n ≤ most + 1 ∧ ndT t most deep = ndL (t.kids.drop i) most deep n ∧ σ 1 = .int .i64 most ∧ σ 2 = .int .i64 deep ∧ σ 3 = .ptr h0.length 0 ∧ σ 7 = .int .i64 n ∧ σ 11 = .int .i64 (t.kids.length : Nat) ∧ σ 12 = .int .i64 i ∧ h = h0 ++ [.cells t.encL]
theorem nodes_okN : ∀ (k : Nat) (t : Tr), t.size ≤ k → TOk t → ∀ (most deep : Int), 0 ≤ most → most ≤ 1000 → 0 ≤ deep → deep ≤ 201 → ∀ h0 : Heap, M.call 49 [t.enc, .int .i64 most, .int .i64 deep] h0 = some (.int .i64 (ndT t most deep), h0)
 | 0, t, hn, _, _, _, _, _, _, _, _ => by cases t; simp [Tr.size] at hn
 | k + 1, t, hn, ht, most, deep, m1, m2, d1, d2, h0 => by
  refine call_of tab49 rfl (callF_wp ?_)
  have ih : ∀ i x, t.kids[i]? = some x → ∀ (most deep : Int), 0 ≤ most → most ≤ 1000 → 0 ≤ deep → deep ≤ 201 → ∀ h0 : Heap, M.call 49 [x.enc, .int .i64 most, .int .i64 deep] h0 = some (.int .i64 (ndT x most deep), h0) := fun i x ex =>
   nodes_okN k x (by have := Tr.size_kid (List.mem_of_getElem? ex); omega) (ht.kid (List.mem_of_getElem? ex))
  have na := ht.n
  have hT : ndT t most deep = ndL t.kids most deep 1 := by cases t; simp only [ndT, Tr.kids]
  unfold Tr.enc
  rw [Tr.encL_eq]
  simp [wB49]
  refine Wp.loop (InvNd t most deep h0) ?_ (n := t.kids.length) ⟨0, 1, by omega, by omega, by omega, by omega, by simpa using hT, by simp, by simp, by simp, by simp, by simp, by simp, by rw [Tr.encL_eq]⟩
  rintro j σ h ⟨i, n, hi, rfl, n1, n2, he, s1, s2, s3, s7, s11, s12, rfl⟩
  rw [Tr.encL_eq]
  by_cases hlt : i < t.kids.length
  ·obtain ⟨x, ex⟩ : ∃ x, t.kids[i]? = some x := ⟨_, List.getElem?_eq_getElem hlt⟩
   have e64 : IntKind.wrap .i64 ((i : Int) + 1) = ((i + 1 : Nat) : Int) := by rw [wrap64 (by omega) (by omega)]; rfl
   rw [drop_at ex] at he
   simp only [ndL] at he
   have w1 : IntKind.wrap .i64 (most + 1) = most + 1 := wrap64 (by omega) (by omega)
   by_cases c1 : most < n
   ·rw [if_pos (.inl c1)] at he
    simp [-getElem?_pos, -Int.natCast_add, wL49_0, s1, s2, s3, s7, s11, s12, hlt, c1, w1, he]
   by_cases c2 : 200 < deep
   ·rw [if_pos (.inr c2)] at he
    simp [-getElem?_pos, -Int.natCast_add, wL49_0, s1, s2, s3, s7, s11, s12, hlt, c1, c2, w1, he]
   ·rw [if_neg (by omega)] at he
    have hx := ih i x ex (most - n) (deep + 1) (by omega) (by omega) (by omega) (by omega)
    have hb := ndT_le x (most - n) (deep + 1) (by omega)
    have w2 : IntKind.wrap .i64 (most - n) = most - n := wrap64 (by omega) (by omega)
    have w3 : IntKind.wrap .i64 (deep + 1) = deep + 1 := wrap64 (by omega) (by omega)
    have w4 : IntKind.wrap .i64 (n + ndT x (most - n) (deep + 1)) = n + ndT x (most - n) (deep + 1) := wrap64 (by omega) (by omega)
    simp [-getElem?_pos, -Int.natCast_add, wL49_0, s1, s2, s3, s7, s11, s12, hlt, c1, c2, ex, hx, w2, w3, w4, e64, Nat.add_assoc]
    refine ⟨t.kids.length - (i + 1), by omega, i + 1, _, by omega, rfl, ?_, ?_, he, by simp [s1], by simp [s2], by simp [s3], by simp, by simp [s11], by simp, by rw [Tr.encL_eq]⟩ <;> omega
  ·have : i = t.kids.length := by omega
   subst this
   rw [List.drop_length] at he
   simp only [ndL] at he
   simp [wL49_0, wK49_0, s1, s2, s3, s7, s11, s12, he]
end Go.Proofs.YtcflbdikkcpiaaaGreatDoor
