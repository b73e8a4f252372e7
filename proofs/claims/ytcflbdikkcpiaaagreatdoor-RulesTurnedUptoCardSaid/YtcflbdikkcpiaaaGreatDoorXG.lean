/-
  abnf: trees as plain data.
-/
import Derived.Test.YtcflbdikkcpiaaaGreatDoorXF
set_option linter.unusedVariables false
set_option linter.unusedSimpArgs false
namespace Go.Proofs.YtcflbdikkcpiaaaGreatDoor
open Go Go.Am
inductive Tr where
 | mk (k : UInt8) (s : List UInt8) (lo hi : UInt8) (mn mx : Int) (full : Bool) (kids : List Tr)
def rtB (b : Bool) : Rt := if b then .full else .no
@[simp] theorem rtB_t : rtB true = .full := rfl
@[simp] theorem rtB_f : rtB false = .no := rfl
mutual
def Tr.encL : Tr → List AV
 | .mk k s lo hi mn mx r ks => [.int .u8 k.toNat, .str s, .int .u8 lo.toNat, .int .u8 hi.toNat, .int .i64 mn, .int .i64 mx, .list 7 (encs ks) (rtB r)]
def encs : List Tr → List AV
 | [] => []
 | t :: ts => .agg t.encL :: encs ts
end
def Tr.enc (t : Tr) : AV := .agg t.encL
theorem encs_map : ∀ l : List Tr, encs l = l.map Tr.enc
 | [] => by simp [encs]
 | t :: l => by simp [encs, encs_map l, Tr.enc]
def Tr.k : Tr → UInt8 | .mk k _ _ _ _ _ _ _ => k
def Tr.s : Tr → List UInt8 | .mk _ s _ _ _ _ _ _ => s
def Tr.lo : Tr → UInt8 | .mk _ _ lo _ _ _ _ _ => lo
def Tr.hi : Tr → UInt8 | .mk _ _ _ hi _ _ _ _ => hi
def Tr.mn : Tr → Int | .mk _ _ _ _ mn _ _ _ => mn
def Tr.mx : Tr → Int | .mk _ _ _ _ _ mx _ _ => mx
def Tr.full : Tr → Bool | .mk _ _ _ _ _ _ r _ => r
def Tr.kids : Tr → List Tr | .mk _ _ _ _ _ _ _ ks => ks
theorem Tr.encL_eq (t : Tr) : t.encL = [.int .u8 t.k.toNat, .str t.s, .int .u8 t.lo.toNat, .int .u8 t.hi.toNat, .int .i64 t.mn, .int .i64 t.mx, .list 7 (t.kids.map Tr.enc) (rtB t.full)] := by
 cases t
 simp [Tr.encL, encs_map, Tr.k, Tr.s, Tr.lo, Tr.hi, Tr.mn, Tr.mx, Tr.full, Tr.kids]
theorem Tr.enc_mk (k : UInt8) (s : List UInt8) (lo hi : UInt8) (mn mx : Int) (r : Bool) (ks : List Tr) : (Tr.mk k s lo hi mn mx r ks).enc = .agg [.int .u8 k.toNat, .str s, .int .u8 lo.toNat, .int .u8 hi.toNat, .int .i64 mn, .int .i64 mx, .list 7 (ks.map Tr.enc) (rtB r)] := by
 unfold Tr.enc
 rw [Tr.encL_eq]
 rfl
@[simp] theorem Tr.encL_len (t : Tr) : t.encL.length = 7 := by rw [Tr.encL_eq]; rfl
theorem rtB_low (b : Bool) (n t : Nat) : rtB b = .tok t → t < n := by cases b <;> simp
mutual
theorem Tr.encL_low (n : Nat) : ∀ t : Tr, AV.lows n t.encL
 | .mk k s lo hi mn mx r ks => by simp only [Tr.encL, AV.lows, AV.low, true_and, and_true]; exact ⟨fun t => rtB_low r n t, encs_low n ks⟩
theorem encs_low (n : Nat) : ∀ l : List Tr, AV.lows n (encs l)
 | [] => trivial
 | t :: l => by simp only [encs, AV.lows, AV.low]; exact ⟨Tr.encL_low n t, encs_low n l⟩
end
@[simp] theorem Tr.enc_low (n : Nat) (t : Tr) : t.enc.low n := Tr.encL_low n t
@[simp] theorem trs_low (n : Nat) (l : List Tr) : AV.lows n (l.map Tr.enc) := by rw [← encs_map]; exact encs_low n l
mutual
def Tr.size : Tr → Nat
 | .mk _ _ _ _ _ _ _ ks => sizes ks + 1
def sizes : List Tr → Nat
 | [] => 0
 | t :: ts => t.size + sizes ts
end
theorem Tr.size_mem : ∀ {ks : List Tr} {t : Tr}, t ∈ ks → t.size ≤ sizes ks
 | x :: ks, t, h => by
  simp only [sizes]
  rcases List.mem_cons.1 h with rfl | h
  ·omega
  ·have := Tr.size_mem h; omega
theorem Tr.size_kid {t k : Tr} (h : k ∈ t.kids) : k.size < t.size := by
 cases t
 simp only [Tr.kids] at h
 have := Tr.size_mem h
 simp only [Tr.size]
 omega
def lowC (c : UInt8) : Bool := decide (97 ≤ c.toNat ∧ c.toNat ≤ 122)
def nmC (c : UInt8) : Bool := lowC c || digC c || c == 45
def prC (c : UInt8) : Bool := okC c && c != 34
def namedP : List UInt8 → Bool
 | [] => false
 | c :: l => lowC c && l.all nmC
def aloneP (t : Tr) : Bool :=
 if t.k = 1 then namedP t.s && (t.kids.isEmpty && (t.lo == 0 && t.hi == 0 && t.mn == 0 && t.mx == 0))
 else if t.k = 2 then t.s.all prC && (t.kids.isEmpty && (t.lo == 0 && t.hi == 0 && t.mn == 0 && t.mx == 0))
 else if t.k = 3 then !t.s.isEmpty && (t.kids.isEmpty && (t.lo == 0 && t.hi == 0 && t.mn == 0 && t.mx == 0))
 else if t.k = 4 then decide (t.lo.toNat ≤ t.hi.toNat) && (t.kids.isEmpty && (t.s.isEmpty && t.mn == 0 && t.mx == 0))
 else if t.k = 5 ∨ t.k = 6 then decide (2 ≤ t.kids.length) && (t.s.isEmpty && t.lo == 0 && t.hi == 0 && t.mn == 0 && t.mx == 0)
 else if t.k = 7 then decide (t.kids.length = 1 ∧ 0 ≤ t.mn ∧ t.mn ≤ 9999 ∧ (t.mx = -1 ∨ t.mn ≤ t.mx ∧ t.mx ≤ 9999)) && (t.s.isEmpty && t.lo == 0 && t.hi == 0)
 else false
def fitsP : Nat → Tr → Bool
 | 0, _ => false
 | d + 1, t => aloneP t && t.kids.all (fitsP d)
theorem lit_le (k n : Nat) : (no_index (OfNat.ofNat k : Int) ≤ (n : Int)) = ((OfNat.ofNat k : Nat) ≤ n) := propext ⟨fun h => Int.ofNat_le.1 h, fun h => Int.ofNat_le.2 h⟩
theorem le_lit (k n : Nat) : ((n : Int) ≤ no_index (OfNat.ofNat k : Int)) = (n ≤ (OfNat.ofNat k : Nat)) := propext ⟨fun h => Int.ofNat_le.1 h, fun h => Int.ofNat_le.2 h⟩
theorem lit_lt (k n : Nat) : (no_index (OfNat.ofNat k : Int) < (n : Int)) = ((OfNat.ofNat k : Nat) < n) := propext ⟨fun h => Int.ofNat_lt.1 h, fun h => Int.ofNat_lt.2 h⟩
theorem lt_lit (k n : Nat) : ((n : Int) < no_index (OfNat.ofNat k : Int)) = (n < (OfNat.ofNat k : Nat)) := propext ⟨fun h => Int.ofNat_lt.1 h, fun h => Int.ofNat_lt.2 h⟩
theorem drop_at {α : Type} {s : List α} {i : Nat} {c : α} (ec : s[i]? = some c) : s.drop i = c :: s.drop (i + 1) := by
 obtain ⟨_, he⟩ := List.getElem?_eq_some_iff.1 ec
 rw [← he]; exact List.drop_eq_getElem_cons _
def InvNm (s : List UInt8) (h0 : Heap) (k : Nat) (σ : Slots) (h : Heap) : Prop := ∃ i, i ≤ s.length ∧ k = s.length - i ∧ (0 < i → namedP s = (s.drop i).all nmC) ∧ σ 0 = .str s ∧ σ 6 = .int .i64 s.length ∧ σ 7 = .int .i64 i ∧ h = h0
theorem named_ok (s : List UInt8) (hs : s.length ≤ 1000000000) (h0 : Heap) : M.call 45 [.str s] h0 = some (.bool (namedP s), h0) := by
 refine call_of tab45 rfl (callF_wp ?_)
 simp [wB45]
 refine Wp.loop (InvNm s h0) ?_ (n := s.length) ⟨0, by omega, by omega, by omega, by simp, by simp, by simp, rfl⟩
 rintro k σ h ⟨i, hi, rfl, hn, s0, s6, s7, rfl⟩
 by_cases hlt : i < s.length
 ·obtain ⟨c, ec⟩ : ∃ c, s[i]? = some c := ⟨_, List.getElem?_eq_getElem hlt⟩
  have hd := drop_at ec
  have e64 : IntKind.wrap .i64 ((i : Int) + 1) = ((i + 1 : Nat) : Int) := by rw [wrap64 (by omega) (by omega)]; rfl
  have e45 : ((c.toNat : Int) = 45) = (c = 45) := u8_eq c 45 (by omega)
  have next : ∀ (σ' : Slots) (g : Heap), (i = 0 → lowC c = true) → nmC c = true → σ' 0 = σ 0 → σ' 6 = σ 6 → σ' 7 = .int .i64 ((i + 1 : Nat) : Int) → g = h → ∃ m, m < s.length - i ∧ InvNm s h m σ' g := by
   intro σ' g q0 q1 q2 q3 q4 q5
   refine ⟨s.length - (i + 1), by omega, i + 1, by omega, rfl, fun _ => ?_, by rw [q2, s0], by rw [q3, s6], q4, q5⟩
   rcases Nat.eq_zero_or_pos i with h0 | h0
   ·subst h0
    rw [List.drop_zero] at hd
    have := q0 rfl
    rw [hd]
    simp [namedP, this]
   ·rw [hn h0, hd]
    simp [q1]
  have bad : (i = 0 ∧ lowC c = false) ∨ nmC c = false → namedP s = false := by
   intro q
   rcases Nat.eq_zero_or_pos i with h0 | h0
   ·subst h0
    rw [List.drop_zero] at hd
    rcases q with ⟨_, q⟩ | q
    ·rw [hd]; simp [namedP, q]
    ·have : lowC c = false := by
      unfold nmC at q
      simp at q
      exact q.1.1
     rw [hd]; simp [namedP, this]
   ·rw [hn h0, hd]
    rcases q with ⟨q, _⟩ | q
    ·omega
    ·simp [q]
  by_cases a1 : 97 ≤ c.toNat
  ·by_cases a2 : c.toNat ≤ 122
   ·have hl : lowC c = true := by simp [lowC, a1, a2]
    simp [-getElem?_pos, -Int.natCast_add, wL45_0, s0, s6, s7, hlt, ec, lit_le, le_lit, a1, a2, e64]
    exact next _ _ (fun _ => hl) (by simp [nmC, hl]) (by simp) (by simp) (by simp) rfl
   ·have hl : lowC c = false := by simp [lowC]; omega
    have hg : digC c = false := by simp [digC]; omega
    have h57 : ¬ c.toNat ≤ 57 := by omega
    have h48 : ¬ c.toNat < 48 := by omega
    have h45 : ¬ c = 45 := by intro e; subst e; simp at a1
    have hb := bad (.inr (by simp [nmC, hl, hg, h45]))
    by_cases hi0 : i = 0
    ·subst hi0
     simp [-getElem?_pos, -Int.natCast_add, wL45_0, s0, s6, s7, hlt, ec, lit_le, le_lit, lt_lit, a1, a2, hb]
    ·have hi0' : ¬ (i : Int) = 0 := by omega
     simp [-getElem?_pos, -Int.natCast_add, wL45_0, s0, s6, s7, hlt, ec, lit_le, le_lit, lit_lt, lt_lit, a1, a2, e64, hi0, hi0', e45, h45, h48, h57, hb]
  ·have hl : lowC c = false := by simp [lowC]; omega
   by_cases hi0 : i = 0
   ·have hb := bad (.inl ⟨hi0, hl⟩)
    subst hi0
    simp [-getElem?_pos, -Int.natCast_add, wL45_0, s0, s6, s7, hlt, ec, lit_le, le_lit, a1, hb]
   ·have hi0' : ¬ (i : Int) = 0 := by omega
    by_cases h45 : c = 45
    ·simp [-getElem?_pos, -Int.natCast_add, wL45_0, s0, s6, s7, hlt, ec, lit_le, le_lit, a1, e64, hi0, hi0', e45, h45]
     exact next _ _ (fun q => absurd q hi0) (by simp [nmC, h45]) (by simp) (by simp) (by simp) rfl
    ·by_cases b1 : c.toNat < 48
     ·have hg : digC c = false := by simp [digC]; omega
      have hb := bad (.inr (by simp [nmC, hl, hg, h45]))
      simp [-getElem?_pos, -Int.natCast_add, wL45_0, s0, s6, s7, hlt, ec, lit_le, le_lit, lit_lt, lt_lit, a1, e64, hi0, hi0', e45, h45, b1, hb]
     ·by_cases b2 : c.toNat ≤ 57
      ·have hg : digC c = true := by simp [digC]; omega
       have b2' : ¬ 57 < c.toNat := by omega
       simp [-getElem?_pos, -Int.natCast_add, wL45_0, s0, s6, s7, hlt, ec, lit_le, le_lit, lit_lt, lt_lit, a1, e64, hi0, hi0', e45, h45, b1, b2, b2']
       exact next _ _ (fun q => absurd q hi0) (by simp [nmC, hg]) (by simp) (by simp) (by simp) rfl
      ·have hg : digC c = false := by simp [digC]; omega
       have hb := bad (.inr (by simp [nmC, hl, hg, h45]))
       have b2' : 57 < c.toNat := by omega
       simp [-getElem?_pos, -Int.natCast_add, wL45_0, s0, s6, s7, hlt, ec, lit_le, le_lit, lit_lt, lt_lit, a1, e64, hi0, hi0', e45, h45, b1, b2, b2', hb]
 ·have hil : i = s.length := by omega
  subst hil
  cases s with
  | nil => simp [wL45_0, wK45_0, s0, s6, s7, namedP]
  | cons c l =>
   have := hn (by simp)
   rw [List.drop_length] at this
   simp [wL45_0, wK45_0, s0, s6, s7, this]
def odd (r : Int) : Bool := decide (r < 32 ∨ 126 < r ∨ r = 34)
theorem odd_ok (r : Int) (h : Heap) : M.call 85 [.int .i32 r] h = some (.bool (odd r), h) := by
 refine call_of tab85 rfl (callF_wp ?_)
 unfold odd
 by_cases h1 : r < 32
 ·simp [wB85, h1]
 ·by_cases h2 : 126 < r
  ·simp [wB85, h1, h2]
  ·simp [wB85, h1, h2]
def InvIf (t : List UInt8) (h0 : Heap) (k : Nat) (σ : Slots) (h : Heap) : Prop := ∃ p, k = t.length - p ∧ (∀ j c, j < p → t[j]? = some c → prC c = true) ∧ σ 1 = .fn 85 [] ∧ σ 2 = .bool true ∧ σ 10 = .it h0.length ∧ h = h0 ++ [.siter t p]
theorem indexFunc_ok (t : List UInt8) (hs : t.length ≤ 1000000000) (h0 : Heap) : ∃ i : Int, M.call 84 [.str t, .fn 85 []] h0 = some (.int .i64 i, h0) ∧ decide (i < 0) = t.all prC := by
 have h129 : ∃ x, M.call 107 [.str t, .fn 85 [], .bool true] h0 = some x ∧ ∃ i : Int, x = (.int .i64 i, h0) ∧ decide (i < 0) = t.all prC := by
  refine call_post tab107 rfl ?_
  simp [wB107]
  refine Wp.loop (InvIf t h0) ?_ (n := t.length) ⟨0, by omega, by omega, by simp, by simp, by simp, by simp⟩
  rintro k σ h ⟨p, rfl, hp, s1, s2, s10, rfl⟩
  by_cases hlt : p < t.length
  ·obtain ⟨c, ec⟩ : ∃ c, t[p]? = some c := ⟨_, List.getElem?_eq_getElem hlt⟩
   have next : ∀ (σ' : Slots) (g : Heap), prC c = true → σ' 1 = σ 1 → σ' 2 = σ 2 → σ' 10 = σ 10 → g = h0 ++ [.siter t (p + 1)] → ∃ m, m < t.length - p ∧ InvIf t h0 m σ' g := by
    intro σ' g q0 q1 q2 q3 q4
    refine ⟨t.length - (p + 1), by omega, p + 1, rfl, fun j d hj hd => ?_, by rw [q1, s1], by rw [q2, s2], by rw [q3, s10], q4⟩
    by_cases e : j = p
    ·subst e; rw [ec] at hd; injection hd with hd; subst hd; exact q0
    ·exact hp j d (by omega) hd
   have bad : ¬ prC c = true → t.all prC = false := by
    intro q
    rw [List.all_eq_false]
    exact ⟨c, List.mem_of_getElem? ec, q⟩
   by_cases h128 : c.toNat < 128
   ·have hdec := decode_low t p c ec h128
    by_cases hpr : prC c = true
    ·have ho : odd (c.toNat : Int) = false := by
      unfold prC okC at hpr
      unfold odd
      simp at hpr ⊢
      have h34 : ¬ c.toNat = 34 := fun e => hpr.2 (UInt8.toNat_inj.1 e)
      omega
     simp [-getElem?_pos, wL107_0, s1, s2, s10, hlt, hdec, odd_ok, ho]
     exact next _ _ hpr (by simp) (by simp) (by simp) (by simp)
    ·have ho : odd (c.toNat : Int) = true := by
      unfold prC okC at hpr
      unfold odd
      simp at hpr ⊢
      by_cases h1 : 32 ≤ c.toNat
      ·by_cases h2 : c.toNat ≤ 126
       ·have := hpr h1 h2
        subst this
        simp
       ·omega
      ·omega
     have := bad hpr
     simp [-getElem?_pos, wL107_0, s1, s2, s10, hlt, hdec, odd_ok, ho, this]
     exact ⟨_, _, ⟨rfl, rfl⟩, _, ⟨rfl, rfl⟩, by omega⟩
   ·obtain ⟨g1, g2⟩ := decode_high t p c ec h128
    generalize hdec : Utf8.decode ⟨⟨t⟩⟩ p = d at *
    obtain ⟨r, w⟩ := d
    simp only at g1 g2
    have ho : odd (r : Int) = true := by unfold odd; simp; omega
    have := bad (by unfold prC okC; simp; omega)
    simp [-getElem?_pos, wL107_0, s1, s2, s10, hlt, hdec, odd_ok, ho, this]
    exact ⟨_, _, ⟨rfl, rfl⟩, _, ⟨rfl, rfl⟩, by omega⟩
  ·have : t.all prC = true := by
    rw [List.all_eq_true]
    intro c hc
    obtain ⟨j, hj⟩ := List.getElem?_of_mem hc
    exact hp j c (by have := (List.getElem?_eq_some_iff.1 hj).1; omega) hj
   simp [wL107_0, wK107_0, s1, s2, s10, hlt, this]
   exact ⟨_, _, ⟨rfl, rfl⟩, _, ⟨rfl, rfl⟩, by omega⟩
 obtain ⟨x, hx, i, rfl, hi⟩ := h129
 refine ⟨i, call_of tab84 rfl (callF_wp ?_), hi⟩
 simp [wB84, hx]
theorem tail_ok (h0 : Heap) (b c : Bool) (kk kk' kv kv' : AV) (s s' : List UInt8) (lo hi mn mx lo' hi' mn' mx' : Int)
  (σ : Slots) (s1 : σ 1 = .ptr h0.length 0) (s3 : σ 3 = .ptr (h0.length + 1) 0) (s4 : σ 4 = .bool c) (s5 : σ 5 = .bool b) (Q : Ex → Slots → Heap → Prop)
  (hQ : ∀ σ' l, σ' 2 = .bool (b && (c && (decide (s' = s) && decide (lo' = lo) && decide (hi' = hi) && decide (mn' = mn) && decide (mx' = mx)))) → Q .ret σ' (h0 ++ l)) :
  Wp M J67_1 Q σ (h0 ++ [.cells [kk, .str s, .int .u8 lo, .int .u8 hi, .int .i64 mn, .int .i64 mx, kv], .cells [kk', .str s', .int .u8 lo', .int .u8 hi', .int .i64 mn', .int .i64 mx', kv']]) := by
 cases b
 ·simp [wJ67_1, s1, s3, s4, s5]
  refine hQ _ _ ?_
  simp
 cases c
 ·simp [wJ67_1, s1, s3, s4, s5]
  refine hQ _ _ ?_
  simp
 by_cases h1 : s' = s
 ·subst h1
  by_cases h2 : lo' = lo
  ·subst h2
   by_cases h3 : hi' = hi
   ·subst h3
    by_cases h4 : mn' = mn
    ·subst h4
     simp [wJ67_1, s1, s3, s4, s5]
     refine hQ _ _ ?_
     simp
    ·simp [wJ67_1, s1, s3, s4, s5, h4]
     refine hQ _ _ ?_
     simp [h4]
   ·simp [wJ67_1, s1, s3, s4, s5, h3]
    refine hQ _ _ ?_
    simp [h3]
  ·simp [wJ67_1, s1, s3, s4, s5, h2]
   refine hQ _ _ ?_
   simp [h2]
 ·simp [wJ67_1, s1, s3, s4, s5, h1]
  refine hQ _ _ ?_
  simp [h1]
theorem alone_ok (t : Tr) (hs : t.s.length ≤ 1000000000) (h0 : Heap) : M.call 67 [t.enc] h0 = some (.bool (aloneP t), h0) := by
 refine call_of tab67 rfl (callF_wp ?_)
 generalize hQ : (fun e σ h => isEnd e ∧ ∃ vs, resVals σ h [ARes.tmp 2] = some vs ∧ finish h0 h (oneOf vs) = some (.bool (aloneP t), h0)) = Q
 have fin : ∀ (b : Bool), b = aloneP t → ∀ (σ : Slots) (l : List AE), σ 2 = .bool b → Q .ret σ (h0 ++ l) := by
  intro b hb σ l s2
  subst hQ
  subst hb
  simp [s2]
 have tl := fun b c kk kk' kv kv' s s' lo hi mn mx lo' hi' mn' mx' σ s1 s3 s4 s5 hq => tail_ok h0 b c kk kk' kv kv' s s' lo hi mn mx lo' hi' mn' mx' σ s1 s3 s4 s5 Q hq
 have n1 := named_ok t.s hs
 obtain ⟨ix, hix⟩ := Classical.axiomOfChoice fun h => indexFunc_ok t.s hs h
 have n2 := fun h => (hix h).1
 have n3 := fun h => (hix h).2
 clear hix
 have z1 : decide ((0 : Int) = t.lo.toNat) = (t.lo == 0) := by
  have := u8_eq t.lo 0 (by omega)
  rw [Bool.eq_iff_iff]; simp; rw [eq_comm]; simpa using this
 have z2 : decide ((0 : Int) = t.hi.toNat) = (t.hi == 0) := by
  have := u8_eq t.hi 0 (by omega)
  rw [Bool.eq_iff_iff]; simp; rw [eq_comm]; simpa using this
 have z3 : decide ((0 : Int) = t.mn) = (t.mn == 0) := by
  by_cases h : t.mn = 0
  ·simp [h]
  ·have h' : ¬ 0 = t.mn := fun e => h e.symm
   simp [h, h']
 have z4 : decide ((0 : Int) = t.mx) = (t.mx == 0) := by
  by_cases h : t.mx = 0
  ·simp [h]
  ·have h' : ¬ 0 = t.mx := fun e => h e.symm
   simp [h, h']
 have z5 : decide (t.s = []) = t.s.isEmpty := by cases t.s <;> simp
 have ke : ∀ k : Nat, k < 256 → ((t.k.toNat : Int) = (k : Int)) = (t.k = UInt8.ofNat k) := fun k hk => u8_eq t.k k hk
 have k1' := ke 1 (by omega)
 have k2' := ke 2 (by omega)
 have k3' := ke 3 (by omega)
 have k4' := ke 4 (by omega)
 have k5' := ke 5 (by omega)
 have k6' := ke 6 (by omega)
 have k7' := ke 7 (by omega)
 simp at k1' k2' k3' k4' k5' k6' k7'
 clear ke
 have hk : decide (t.kids = []) = t.kids.isEmpty := by cases t.kids <;> simp
 unfold Tr.enc
 rw [Tr.encL_eq]
 unfold aloneP at fin
 by_cases k1 : t.k = 1
 ·rw [if_pos k1] at fin
  simp [wB67, k1', k1, n1]
  refine tl _ _ _ _ _ _ _ _ _ _ _ _ _ _ _ _ _ (by simp) (by simp) (by simp; rfl) (by simp; rfl) fun σ l e => fin _ ?_ σ l e
  simp [hk, z1, z2, z3, z4]
 rw [if_neg k1] at fin
 by_cases k2 : t.k = 2
 ·rw [if_pos k2] at fin
  simp [wB67, k1', k2', k1, k2, n2]
  refine tl _ _ _ _ _ _ _ _ _ _ _ _ _ _ _ _ _ (by simp) (by simp) (by simp; rfl) (by simp; rfl) fun σ l e => fin _ ?_ σ l e
  rw [n3]
  simp [hk, z1, z2, z3, z4]
 rw [if_neg k2] at fin
 by_cases k3 : t.k = 3
 ·rw [if_pos k3] at fin
  simp [wB67, k1', k2', k3', k1, k2, k3]
  refine tl (!decide (t.s = [])) _ _ _ _ _ _ _ _ _ _ _ _ _ _ _ _ (by simp) (by simp) (by simp; rfl) (by simp) fun σ l e => fin _ ?_ σ l e
  simp [hk, z1, z2, z3, z4, z5]
 rw [if_neg k3] at fin
 by_cases k4 : t.k = 4
 ·rw [if_pos k4] at fin
  simp [wB67, k1', k2', k3', k4', k1, k2, k3, k4]
  refine tl _ _ _ _ _ _ _ _ _ _ _ _ _ _ _ _ _ (by simp) (by simp) (by simp; rfl) (by simp; rfl) fun σ l e => fin _ ?_ σ l e
  simp [hk, z1, z2, z3, z4, z5]
 rw [if_neg k4] at fin
 by_cases k5 : t.k = 5
 ·rw [if_pos (.inl k5)] at fin
  simp [wB67, wJ67_0, k1', k2', k3', k4', k5', k1, k2, k3, k4, k5]
  refine tl _ _ _ _ _ _ _ _ _ _ _ _ _ _ _ _ _ (by simp) (by simp) (by simp; rfl) (by simp; rfl) fun σ l e => fin _ ?_ σ l e
  simp [hk, z1, z2, z3, z4, z5, lit_le]
 by_cases k6 : t.k = 6
 ·rw [if_pos (.inr k6)] at fin
  simp [wB67, wJ67_0, k1', k2', k3', k4', k5', k6', k1, k2, k3, k4, k5, k6]
  refine tl _ _ _ _ _ _ _ _ _ _ _ _ _ _ _ _ _ (by simp) (by simp) (by simp; rfl) (by simp; rfl) fun σ l e => fin _ ?_ σ l e
  simp [hk, z1, z2, z3, z4, z5, lit_le]
 rw [if_neg (by simp [k5, k6])] at fin
 by_cases k7 : t.k = 7
 ·rw [if_pos k7] at fin
  by_cases p1 : 0 ≤ t.mn
  ·by_cases p2 : t.mn ≤ 9999
   ·by_cases p3 : t.mx = -1
    ·simp [wB67, wJ67_0, k1', k2', k3', k4', k5', k6', k7', k1, k2, k3, k4, k5, k6, k7, p1, p2, p3]
     refine tl true (decide (t.kids.length = 1)) _ _ _ _ _ _ _ _ _ _ _ _ _ _ _ (by simp) (by simp) (by simp; omega) (by simp) fun σ l e => fin _ ?_ σ l e
     simp [z1, z2, z5, p1, p2, p3]
    ·by_cases p4 : t.mn ≤ t.mx
     ·simp [wB67, wJ67_0, k1', k2', k3', k4', k5', k6', k7', k1, k2, k3, k4, k5, k6, k7, p1, p2, p3, p4]
      refine tl (decide (t.mx ≤ 9999)) (decide (t.kids.length = 1)) _ _ _ _ _ _ _ _ _ _ _ _ _ _ _ (by simp) (by simp) (by simp; omega) (by simp) fun σ l e => fin _ ?_ σ l e
      by_cases p5 : t.mx ≤ 9999 <;> simp [z1, z2, z5, p1, p2, p3, p4, p5]
     ·simp [wB67, wJ67_0, k1', k2', k3', k4', k5', k6', k7', k1, k2, k3, k4, k5, k6, k7, p1, p2, p3, p4]
      refine tl false (decide (t.kids.length = 1)) _ _ _ _ _ _ _ _ _ _ _ _ _ _ _ (by simp) (by simp) (by simp; omega) (by simp) fun σ l e => fin _ ?_ σ l e
      simp [z1, z2, z5, p1, p2, p3, p4]
   ·simp [wB67, wJ67_0, k1', k2', k3', k4', k5', k6', k7', k1, k2, k3, k4, k5, k6, k7, p1, p2]
    refine tl false (decide (t.kids.length = 1)) _ _ _ _ _ _ _ _ _ _ _ _ _ _ _ (by simp) (by simp) (by simp; omega) (by simp) fun σ l e => fin _ ?_ σ l e
    simp [z1, z2, z5, p1, p2]
  ·simp [wB67, wJ67_0, k1', k2', k3', k4', k5', k6', k7', k1, k2, k3, k4, k5, k6, k7, p1]
   refine tl false (decide (t.kids.length = 1)) _ _ _ _ _ _ _ _ _ _ _ _ _ _ _ (by simp) (by simp) (by simp; omega) (by simp) fun σ l e => fin _ ?_ σ l e
   simp [z1, z2, z5, p1]
 rw [if_neg k7] at fin
 simp [wB67, wJ67_0, k1', k2', k3', k4', k5', k6', k7', k1, k2, k3, k4, k5, k6, k7]
 refine tl _ _ _ _ _ _ _ _ _ _ _ _ _ _ _ _ _ (by simp) (by simp) (by simp; rfl) (by simp; rfl) fun σ l e => fin _ ?_ σ l e
 simp
def trOk : Nat → Tr → Prop
 | 0, t => t.s.length ≤ 1000000000 ∧ t.kids.length ≤ 1000000000
 | d + 1, t => (t.s.length ≤ 1000000000 ∧ t.kids.length ≤ 1000000000) ∧ ∀ k ∈ t.kids, trOk d k
def TOk (t : Tr) : Prop := ∀ d, trOk d t
theorem TOk.s {t : Tr} (h : TOk t) : t.s.length ≤ 1000000000 := (h 0).1
theorem TOk.n {t : Tr} (h : TOk t) : t.kids.length ≤ 1000000000 := (h 0).2
theorem TOk.kid {t k : Tr} (h : TOk t) (hk : k ∈ t.kids) : TOk k := fun d => (h (d + 1)).2 k hk
theorem TOk.mk {t : Tr} (h1 : t.s.length ≤ 1000000000) (h2 : t.kids.length ≤ 1000000000) (h3 : ∀ k ∈ t.kids, TOk k) : TOk t
 | 0 => ⟨h1, h2⟩
 | d + 1 => ⟨⟨h1, h2⟩, fun k hk => h3 k hk d⟩
def InvFt (t : Tr) (d : Nat) (h0 : Heap) (k : Nat) (σ : Slots) (h : Heap) : Prop := ∃ i, i ≤ t.kids.length ∧ k = t.kids.length - i ∧ (t.kids.take i).all (fitsP d) = true ∧ σ 1 = .int .i64 ((d + 1 : Nat) : Int) ∧ σ 15 = .list 7 (t.kids.map Tr.enc) (rtB t.full) ∧ σ 16 = .int .i64 t.kids.length ∧ σ 17 = .int .i64 i ∧ h.take h0.length = h0 ∧ h0.length ≤ h.length
theorem fits_ok : ∀ (d : Nat) (t : Tr), d ≤ 1000 → TOk t → ∀ h0 : Heap, M.call 58 [t.enc, .int .i64 d] h0 = some (.bool (fitsP d t), h0)
 | 0, t, _, ht, h0 => by
  refine call_of tab58 rfl (callF_wp ?_)
  unfold Tr.enc
  rw [Tr.encL_eq]
  simp [wB58, fitsP]
 | d + 1, t, hd, ht, h0 => by
  refine call_of tab58 rfl (callF_wp ?_)
  have ih := fun k hk h => fits_ok d k (by omega) (ht.kid hk) h
  have ha := alone_ok t ht.s
  have hn := ht.n
  unfold Tr.enc at ha
  rw [Tr.encL_eq] at ha
  unfold Tr.enc
  rw [Tr.encL_eq]
  have h1 : ¬ ((d : Int) + 1 < 1) := by omega
  unfold fitsP
  cases hal : aloneP t
  ·simp [wB58, h1, ha, hal]
  ·simp [wB58, h1, ha, hal]
   refine Wp.loop (InvFt t d h0) ?_ (n := t.kids.length) ⟨0, by omega, by omega, by simp, by simp, by simp, by simp, by simp, by simp, by simp⟩
   rintro k σ h ⟨i, hi, rfl, hal, s1, s15, s16, s17, hh, hl⟩
   by_cases hlt : i < t.kids.length
   ·obtain ⟨x, ex⟩ : ∃ x, t.kids[i]? = some x := ⟨_, List.getElem?_eq_getElem hlt⟩
    have hx := ih x (List.mem_of_getElem? ex)
    have e64 : IntKind.wrap .i64 ((i : Int) + 1) = ((i + 1 : Nat) : Int) := by rw [wrap64 (by omega) (by omega)]; rfl
    have e1 : IntKind.wrap .i64 (((d + 1 : Nat) : Int) - 1) = (d : Int) := by rw [wrap64 (by omega) (by omega)]; omega
    unfold Tr.enc at hx
    rw [Tr.encL_eq] at hx
    cases hf : fitsP d x
    ·simp [-getElem?_pos, -Int.natCast_add, wL58_0, s1, s15, s16, s17, hlt, ex, e1, hx, hf, Tr.enc, Tr.encL_eq, Nat.add_assoc]
     rw [finish_of_take (by rw [take_app hl, hh])]
     have : t.kids.all (fitsP d) = false := by rw [List.all_eq_false]; exact ⟨x, List.mem_of_getElem? ex, by simp [hf]⟩
     simp [this]
    ·simp [-getElem?_pos, -Int.natCast_add, wL58_0, s1, s15, s16, s17, hlt, ex, e1, hx, hf, e64, Tr.enc, Tr.encL_eq, Nat.add_assoc]
     refine ⟨t.kids.length - (i + 1), by omega, i + 1, by omega, rfl, ?_, by simp [s1], by simp [s15], by simp [s16], by simp, by rw [take_app hl, hh], by simp; omega⟩
     rw [List.take_add_one, ex]
     simp [hal, hf]
   ·have : i = t.kids.length := by omega
    subst this
    rw [List.take_length] at hal
    simp [wL58_0, wK58_0, s1, s15, s16, s17, finish_of_take hh, hal]
theorem right_ok (t : Tr) (ht : TOk t) (h0 : Heap) : M.call 46 [t.enc] h0 = some (.bool (fitsP 100 t), h0) := by
 refine call_of tab46 rfl (callF_wp ?_)
 have := fits_ok 100 t (by omega) ht
 unfold Tr.enc at this ⊢
 rw [Tr.encL_eq] at this ⊢
 simp at this
 simp [wB46, this]
inductive Pr where
 | ok (t : Tr) (n : Nat)
 | bad (p : Nat)
def kd (l : List Tok) (i : Nat) : UInt8 := match l[i]? with
 | some t => t.kind
 | none => 0
def smC (c : UInt8) : UInt8 := if 65 ≤ c.toNat ∧ c.toNat ≤ 90 then c ||| 32 else c
def smallP (s : List UInt8) : List UInt8 := s.map smC
def leafT (t : Tok) : Tr :=
 if t.kind = 1 then .mk 1 (smallP t.text) 0 0 0 0 true []
 else if t.kind = 10 then .mk 2 t.text 0 0 0 0 true []
 else if t.kind = 11 then .mk 3 t.text 0 0 0 0 true []
 else if t.kind = 12 then .mk 4 [] t.lo t.hi 0 0 true []
 else .mk 0 [] 0 0 0 0 true []
def zeroT : Tr := .mk 0 [] 0 0 0 0 true []
def rowT (k : UInt8) (l : List Tr) : Tr := .mk k [] 0 0 0 0 false l
def joinT (k : UInt8) : List Tr → Tr
 | [t] => t
 | l => rowT k l
def timesT (mn mx : Int) (t : Tr) : Tr := .mk 7 [] 0 0 mn mx false [t]
def mayT (t : Tr) : Tr := .mk 7 [] 0 0 0 1 true [t]
def begins (k : UInt8) : Bool := k == 1 || k == 5 || k == 7 || decide (9 ≤ k.toNat ∧ k.toNat ≤ 12)
mutual
def thingS (l : List Tok) : Nat → Nat → Option Pr
 | 0, _ => none
 | f + 1, a =>
  if kd l a = 5 ∨ kd l a = 7 then
   match choicesS l f (a + 1) [] with
   | some (.ok t n) => if kd l n = kd l a + 1 then some (.ok (if kd l a = 7 then mayT t else t) (n + 1)) else some (.bad n)
   | x => x
  else match l[a]? with
   | none => some (.bad a)
   | some t => if aloneP (leafT t) then some (.ok (leafT t) (a + 1)) else some (.bad a)
def partS (l : List Tok) : Nat → Nat → Option Pr
 | 0, _ => none
 | f + 1, a =>
  match l[a]? with
  | none => thingS l f a
  | some x =>
   if x.kind = 9 then
    if aloneP (timesT x.mn x.mx zeroT) then
     match thingS l f (a + 1) with
     | some (.ok t n) => some (.ok (timesT x.mn x.mx t) n)
     | y => y
    else some (.bad a)
   else thingS l f a
def rowS (l : List Tok) : Nat → Nat → List Tr → Option Pr
 | 0, _, _ => none
 | f + 1, a, ks =>
  if ks.isEmpty || begins (kd l a) then
   match partS l f a with
   | some (.ok t n) => rowS l f n (ks ++ [t])
   | x => x
  else some (.ok (joinT 5 ks) a)
def choicesS (l : List Tok) : Nat → Nat → List Tr → Option Pr
 | 0, _, _ => none
 | f + 1, a, ks =>
  match rowS l f a [] with
  | some (.ok t n) => if kd l n = 4 then choicesS l f (n + 1) (ks ++ [t]) else some (.ok (joinT 6 (ks ++ [t])) n)
  | x => x
end
/-! ### A heap with one place told apart -/
def HH (g : Heap) (r : Nat) (e : AE) : Heap := g.set r e
section
variable {g : Heap} {r : Nat} {e : AE} (hr : r < g.length)
theorem HH_of (hg : g[r]? = some e) : ∃ g', g = HH g' r e ∧ r < g'.length := by
 obtain ⟨h1, h2⟩ := List.getElem?_eq_some_iff.1 hg
 refine ⟨g, ?_, h1⟩
 unfold HH
 rw [← h2]
 simp
@[simp] theorem HH_len : (HH g r e).length = g.length := by simp [HH]
include hr in
theorem HH_get (l : List AE) : (HH g r e ++ l)[r]? = some e := by
 rw [List.getElem?_append_left (by simpa using hr)]
 simp [HH, hr]
include hr in
theorem HH_get0 : (HH g r e)[r]? = some e := by simp [HH, hr]
include hr in
theorem HH_set (e' : AE) (l : List AE) : (HH g r e ++ l).set r e' = HH g r e' ++ l := by
 rw [List.set_append_left _ _ (by simpa using hr)]
 simp [HH]
theorem HH_set0 (e' : AE) : (HH g r e).set r e' = HH g r e' := by simp [HH]
@[simp] theorem HH_at0 (l : List AE) : (HH g r e ++ l)[g.length]? = l[0]? := by
 have := get_app0 (HH g r e) l
 rwa [HH_len] at this
@[simp] theorem HH_at (l : List AE) (k : Nat) : (HH g r e ++ l)[g.length + k]? = l[k]? := by
 have := get_app (HH g r e) l k
 rwa [HH_len] at this
@[simp] theorem HH_put0 (l : List AE) (x : AE) : (HH g r e ++ l).set g.length x = HH g r e ++ l.set 0 x := by
 have := set_app0 (HH g r e) l x
 rwa [HH_len] at this
@[simp] theorem HH_put (l : List AE) (k : Nat) (x : AE) : (HH g r e ++ l).set (g.length + k) x = HH g r e ++ l.set k x := by
 have := set_app (HH g r e) l k x
 rwa [HH_len] at this
theorem HH_of_take {h : Heap} (h1 : h.take g.length = HH g r e) (h2 : r < g.length) : h[r]? = some e := by
 have := congrArg (fun l : Heap => l[r]?) h1
 simp only [List.getElem?_take, if_pos h2] at this
 rw [this]
 simp [HH, h2]
theorem finish_HH {e' : AE} {h : Heap} (h1 : h.take g.length = HH g r e') (hr : r < g.length) (hl : e'.low g.length) (v : AV) : finish (HH g r e) h v = (clean h g.length v).map fun v' => (v', HH g r e') := by
 unfold finish
 rw [HH_len]
 cases clean h g.length v with
 | none => rfl
 | some v' =>
  simp only
  rw [if_pos, h1]
  ·rfl
  ·intro i hi
   by_cases e0 : i = r
   ·subst e0
    right
    intro x hx
    rw [HH_of_take h1 hr] at hx
    injection hx with hx
    subst hx
    exact hl
   ·left
    have := congrArg (fun l : Heap => l[i]?) h1
    simp only [List.getElem?_take, if_pos hi] at this
    rw [this]
    simp only [HH]
    rw [List.getElem?_set_ne (Ne.symm e0), List.getElem?_set_ne (Ne.symm e0)]
end
def stC (l : List Tok) (rt : Rt) (a : Nat) (off : Bool) : AE := .cells [.list 7 (l.map tokA) rt, .int .i64 a, .bool off]
theorem stC_low {l : List Tok} {rt : Rt} {a : Nat} {off : Bool} {n : Nat} (h : ∀ t, rt = .tok t → t < n) : (stC l rt a off).low n := by
 simp only [stC, AE.low, AV.lows, AV.low, and_true]
 exact ⟨h, toks_low n l⟩
def nextB (l : List Tok) (a : Nat) (off : Bool) (ks : List UInt8) : Bool := !off && (match l[a]? with | some t => ks.contains t.kind | none => false)
section
variable {l : List Tok} {rt : Rt} {r : Nat}
def InvNx (l : List Tok) (rt : Rt) (r a : Nat) (ks : List UInt8) (rk : Rt) (h0 : Heap) (k : Nat) (σ : Slots) (h : Heap) : Prop := ∃ i, i ≤ ks.length ∧ k = ks.length - i ∧ nextB l a false ks = nextB l a false (ks.drop i) ∧ σ 0 = .ptr r 0 ∧ σ 23 = .list 1 (ofBytes ks) rk ∧ σ 24 = .int .i64 ks.length ∧ σ 25 = .int .i64 i ∧ h = h0
theorem next_ok (hl : l.length ≤ 1000000000) (a : Nat) (off : Bool) (ks : List UInt8) (hk : ks.length ≤ 1000) (rk : Rt) (h : Heap) (hr : h[r]? = some (stC l rt a off)) : M.call 104 [.ptr r 0, .list 1 (ofBytes ks) rk] h = some (.bool (nextB l a off ks), h) := by
 refine call_of tab104 rfl (callF_wp ?_)
 unfold stC at hr
 cases off
 ·by_cases hlt : a < l.length
  ·obtain ⟨t, et⟩ : ∃ t, l[a]? = some t := ⟨_, List.getElem?_eq_getElem hlt⟩
   have hlt' : ¬ (l.length : Int) ≤ a := by omega
   have hlt'' : ¬ l.length ≤ a := by omega
   simp [-getElem?_pos, wB104, hr, hlt', hlt'']
   refine Wp.loop (InvNx l rt r a ks rk h) ?_ (n := ks.length) ⟨0, by omega, by omega, by simp, by simp, by simp, by simp, by simp, rfl⟩
   rintro k σ h' ⟨i, hi, rfl, hn, s0, s23, s24, s25, rfl⟩
   by_cases hlk : i < ks.length
   ·obtain ⟨c, ec⟩ : ∃ c, ks[i]? = some c := ⟨_, List.getElem?_eq_getElem hlk⟩
    have hd := drop_at ec
    have e64 : IntKind.wrap .i64 ((i : Int) + 1) = ((i + 1 : Nat) : Int) := by rw [wrap64 (by omega) (by omega)]; rfl
    have ee : ((t.kind.toNat : Int) = c.toNat) = (t.kind = c) := propext ⟨fun h => UInt8.toNat_inj.1 (by omega), fun h => by rw [h]⟩
    by_cases he : t.kind = c
    ·have : nextB l a false ks = true := by rw [hn, hd]; simp [nextB, et, he]
     simp [-getElem?_pos, -Int.natCast_add, wL104_0, s0, s23, s24, s25, hr, hlk, ec, hlt, et, tokA, tokL, ee, he, this]
    ·simp [-getElem?_pos, -Int.natCast_add, wL104_0, s0, s23, s24, s25, hr, hlk, ec, hlt, et, tokA, tokL, ee, he, e64]
     refine ⟨ks.length - (i + 1), by omega, i + 1, by omega, rfl, ?_, by simp [s0], by simp [s23], by simp [s24], by simp, rfl⟩
     rw [hn, hd]
     simp [nextB, et, he]
   ·have : nextB l a false ks = false := by
     rw [hn, List.drop_eq_nil_of_le (by omega)]
     simp [nextB, et]
    simp [wL104_0, wK104_0, s0, s23, s24, s25, hlk, this]
  ·have hlt' : (l.length : Int) ≤ a := by omega
   have hlt'' : l.length ≤ a := by omega
   simp [-getElem?_pos, wB104, hr, hlt', hlt'', nextB]
 ·simp [-getElem?_pos, wB104, hr, nextB]
theorem tok_zero : tokA {} = .agg [.int .u8 0, .int .i64 0, .str [], .int .i64 0, .int .i64 0, .int .u8 0, .int .u8 0] := by simp [tokA, tokL]
theorem take_no (hl : l.length ≤ 1000000000) (a : Nat) (off : Bool) (ks : List UInt8) (hk : ks.length ≤ 1000) (rk : Rt) (h : Heap) (hr : h[r]? = some (stC l rt a off)) (hrt : ∀ t, rt = .tok t → t < h.length) (hn : nextB l a off ks = false) :
  M.call 79 [.ptr r 0, .list 1 (ofBytes ks) rk] h = some (tokA {}, h.set r (stC l rt a true)) := by
 obtain ⟨g, rfl, hlt⟩ := HH_of hr
 rw [HH_set0]
 have nx : ∀ q, M.call 104 [.ptr r 0, .list 1 (ofBytes ks) rk] (HH g r (stC l rt a off) ++ q) = some (.bool false, HH g r (stC l rt a off) ++ q) := fun q => by
  rw [next_ok hl a off ks hk rk _ (HH_get hlt q), hn]
 have hlow := stC_low (l := l) (a := a) (off := true) (by simpa using hrt)
 have e1 := fun (e : AE) q => HH_get (g := g) (r := r) (e := e) hlt q
 have e2 := fun (e e' : AE) q => HH_set (g := g) (r := r) (e := e) hlt e' q
 refine call_of tab79 rfl (callF_wp ?_)
 unfold stC at *
 simp [wB79, nx, e1, e2]
 rw [finish_HH (by rw [List.take_left' (by simp)]) hlt hlow]
 simp [tok_zero]
theorem take_yes (hl : l.length ≤ 1000000000) (a : Nat) (ks : List UInt8) (hk : ks.length ≤ 1000) (rk : Rt) (t : Tok) (et : l[a]? = some t) (h : Heap) (hr : h[r]? = some (stC l rt a false)) (hrt : ∀ t, rt = .tok t → t < h.length) (hn : ks.contains t.kind = true) :
  M.call 79 [.ptr r 0, .list 1 (ofBytes ks) rk] h = some (tokA t, h.set r (stC l rt (a + 1) false)) := by
 obtain ⟨g, rfl, hlt⟩ := HH_of hr
 rw [HH_set0]
 have nx : ∀ q, M.call 104 [.ptr r 0, .list 1 (ofBytes ks) rk] (HH g r (stC l rt a false) ++ q) = some (.bool true, HH g r (stC l rt a false) ++ q) := fun q => by
  rw [next_ok hl a false ks hk rk _ (HH_get hlt q)]
  simp [nextB, et, hn]
  simpa using hn
 have hlow := stC_low (l := l) (a := a + 1) (off := false) (by simpa using hrt)
 have e1 := fun (e : AE) q => HH_get (g := g) (r := r) (e := e) hlt q
 have e2 := fun (e e' : AE) q => HH_set (g := g) (r := r) (e := e) hlt e' q
 have hal := (List.getElem?_eq_some_iff.1 et).1
 have w1 : IntKind.wrap .i64 ((a : Int) + 1) = ((a + 1 : Nat) : Int) := by rw [wrap64 (by omega) (by omega)]; rfl
 have w2 : IntKind.wrap .i64 (((a + 1 : Nat) : Int) - 1) = (a : Int) := by rw [wrap64 (by omega) (by omega)]; omega
 refine call_of tab79 rfl (callF_wp ?_)
 unfold stC at *
 simp [-getElem?_pos, -Int.natCast_add, wB79, nx, e1, e2, w1, w2, hal, et, tokA, tokL]
 rw [finish_HH (by rw [List.take_left' (by simp)]) hlt hlow]
 simp [tokA, tokL]
end
theorem or32u (c : UInt8) : bitsOp .or .u8 (c.toNat : Int) 32 = ((c ||| 32).toNat : Int) := by
 have h : ∀ n : Fin 256, bitsOp .or .u8 ((UInt8.ofNat n).toNat : Int) 32 = ((UInt8.ofNat n ||| 32).toNat : Int) := by decide +kernel
 exact forall_u8 (p := fun c => bitsOp .or .u8 (c.toNat : Int) 32 = ((c ||| 32).toNat : Int)) h c
theorem set_same' {h : Heap} {r : Nat} {e : AE} (hr : h[r]? = some e) : h.set r e = h := by
 obtain ⟨h1, h2⟩ := List.getElem?_eq_some_iff.1 hr
 rw [← h2]; simp
theorem set_same {cur : List UInt8} {i : Nat} {c : UInt8} (h : cur[i]? = some c) : cur.set i c = cur := by
 obtain ⟨h1, h2⟩ := List.getElem?_eq_some_iff.1 h
 rw [← h2]; simp
theorem ofBytes_set {cur : List UInt8} {i : Nat} (h : i < cur.length) (x : UInt8) : ofBytes (cur.set i x) = ofBytes (cur.take i) ++ .int .u8 x.toNat :: ofBytes (cur.drop (i + 1)) := by
 rw [List.set_eq_take_append_cons_drop, if_pos h]
 simp [ofBytes]
def InvSm (s : List UInt8) (h0 : Heap) (k : Nat) (σ : Slots) (h : Heap) : Prop := ∃ i, i ≤ s.length ∧ k = s.length - i ∧ σ 3 = .gl 1 h0.length s.length ∧ σ 8 = .gl 1 h0.length s.length ∧ σ 9 = .int .i64 s.length ∧ σ 10 = .int .i64 i ∧ h = h0 ++ [.grow 1 (ofBytes (smallP (s.take i) ++ s.drop i))]
theorem small_ok (s : List UInt8) (hs : s.length ≤ 1000000000) (h0 : Heap) : M.call 81 [.str s] h0 = some (.str (smallP s), h0) := by
 refine call_of tab81 rfl (callF_wp ?_)
 simp [wB81]
 refine Wp.loop (InvSm s h0) ?_ (n := s.length) ⟨0, by omega, by omega, by simp, by simp, by simp, by simp, by simp [smallP]⟩
 rintro k σ h ⟨i, hi, rfl, s3, s8, s9, s10, rfl⟩
 by_cases hlt : i < s.length
 ·obtain ⟨c, ec⟩ : ∃ c, s[i]? = some c := ⟨_, List.getElem?_eq_getElem hlt⟩
  have hd := drop_at ec
  have e64 : IntKind.wrap .i64 ((i : Int) + 1) = ((i + 1 : Nat) : Int) := by rw [wrap64 (by omega) (by omega)]; rfl
  have hlen : (smallP (s.take i)).length = i := by simp [smallP]; omega
  generalize hcur : smallP (s.take i) ++ s.drop i = cur
  have hcl : cur.length = s.length := by rw [← hcur]; simp [hlen]; omega
  have hcg : cur[i]? = some c := by rw [← hcur, List.getElem?_append_right (by omega), hlen, hd]; simp
  have hnext : smallP (s.take (i + 1)) ++ s.drop (i + 1) = cur.set i (smC c) := by
   rw [← hcur, List.take_add_one, ec, hd]
   have : (smallP (s.take i) ++ c :: s.drop (i + 1)).set i (smC c) = smallP (s.take i) ++ smC c :: s.drop (i + 1) := by
    rw [List.set_append_right _ _ (by omega), hlen]
    simp
   rw [this]
   simp [smallP]
  have fin : ∀ (σ' : Slots) (g : Heap), σ' 3 = σ 3 → σ' 8 = σ 8 → σ' 9 = σ 9 → σ' 10 = .int .i64 ((i + 1 : Nat) : Int) → g = h0 ++ [.grow 1 (ofBytes (cur.set i (smC c)))] → ∃ m, m < s.length - i ∧ InvSm s h0 m σ' g := by
   intro σ' g q1 q2 q3 q4 q5
   exact ⟨s.length - (i + 1), by omega, i + 1, by omega, rfl, by rw [q1, s3], by rw [q2, s8], by rw [q3, s9], q4, by rw [q5, hnext]⟩
  by_cases a1 : 65 ≤ c.toNat
  ·by_cases a2 : c.toNat ≤ 90
   ·have hsm : smC c = c ||| 32 := by simp [smC, a1, a2]
    simp [-getElem?_pos, -Int.natCast_add, wL81_0, s3, s8, s9, s10, hlt, hcl, hcg, lit_le, le_lit, a1, a2, e64, or32u]
    exact ⟨by omega, fin _ _ (by simp) (by simp) (by simp) (by simp) (by rw [hsm, ofBytes_set (by omega)]; try simp)⟩
   ·have hsm : smC c = c := by simp [smC, a2]
    simp [-getElem?_pos, -Int.natCast_add, wL81_0, s3, s8, s9, s10, hlt, hcl, hcg, lit_le, le_lit, a1, a2, e64]
    exact fin _ _ (by simp) (by simp) (by simp) (by simp) (by rw [hsm, set_same hcg])
  ·have hsm : smC c = c := by simp [smC, a1]
   simp [-getElem?_pos, -Int.natCast_add, wL81_0, s3, s8, s9, s10, hlt, hcl, hcg, lit_le, le_lit, a1, e64]
   exact fin _ _ (by simp) (by simp) (by simp) (by simp) (by rw [hsm, set_same hcg])
 ·have : i = s.length := by omega
  subst this
  simp [wL81_0, wK81_0, s3, s8, s9, s10]
  have : (smallP s).length = s.length := by simp [smallP]
  exact ⟨by omega, List.take_of_length_le (by omega)⟩
theorem take_encL (t : Tr) : t.encL.take 7 = t.encL := List.take_of_length_le (by simp)
section
variable {l : List Tok} {rt : Rt} {r : Nat}
structure Cell7 (n : Nat) where
 k : Int
 s : List UInt8
 lo : Int
 hi : Int
 mn : Int
 mx : Int
 kids : AV
def Cell7.cs {n : Nat} (c : Cell7 n) : List AV := [.int .u8 c.k, .str c.s, .int .u8 c.lo, .int .u8 c.hi, .int .i64 c.mn, .int .i64 c.mx, c.kids]
theorem made_yes (c : Cell7 0) (a : Nat) (off : Bool) (h : Heap) (hr : h[r]? = some (stC l rt a off)) (hcl : ∀ q, clean1 q h.length c.kids = some c.kids) (hal : off = false → ∀ h' : Heap, h'.take h.length = h → M.call 67 [.agg c.cs] h' = some (.bool true, h')) :
  M.call 80 [.ptr r 0, .agg c.cs] h = some (.agg c.cs, h) := by
 refine call_of tab80 rfl (callF_wp ?_)
 have hrl := (List.getElem?_eq_some_iff.1 hr).1
 have e1 : ∀ q : Heap, (h ++ q)[r]? = some (stC l rt a off) := fun q => by rw [List.getElem?_append_left hrl]; exact hr
 have hal' : off = false → ∀ q : Heap, M.call 67 [.agg c.cs] (h ++ q) = some (.bool true, h ++ q) := fun ho q => hal ho _ (by simp)
 unfold stC at e1
 unfold Cell7.cs at *
 cases off
 ·simp [wB80, e1, hal' rfl, cleans_cons, hcl]
 ·simp [wB80, e1, cleans_cons, hcl]
theorem made_no (c : Cell7 0) (hl : l.length ≤ 1000000000) (a : Nat) (ha : a < l.length) (h : Heap) (hr : h[r]? = some (stC l rt (a + 1) false)) (hrt : ∀ t, rt = .tok t → t < h.length) (hcl : ∀ q, clean1 q h.length c.kids = some c.kids) (hal : ∀ h' : Heap, h'.take h.length = h → M.call 67 [.agg c.cs] h' = some (.bool false, h')) :
  M.call 80 [.ptr r 0, .agg c.cs] h = some (.agg c.cs, h.set r (stC l rt a true)) := by
 obtain ⟨g, rfl, hlt⟩ := HH_of hr
 rw [HH_set0]
 refine call_of tab80 rfl (callF_wp ?_)
 have hal' : ∀ q : Heap, M.call 67 [.agg c.cs] (HH g r (stC l rt (a + 1) false) ++ q) = some (.bool false, HH g r (stC l rt (a + 1) false) ++ q) := fun q => hal _ (by simp)
 have hlow := stC_low (l := l) (a := a) (off := true) (by simpa using hrt)
 have e1 := fun (e : AE) q => HH_get (g := g) (r := r) (e := e) hlt q
 have e2 := fun (e e' : AE) q => HH_set (g := g) (r := r) (e := e) hlt e' q
 have w2 : IntKind.wrap .i64 (((a + 1 : Nat) : Int) - 1) = (a : Int) := by rw [wrap64 (by omega) (by omega)]; omega
 rw [HH_len] at hcl
 unfold stC at *
 unfold Cell7.cs at *
 simp [-Int.natCast_add, wB80, e1, e2, hal', w2]
 rw [finish_HH (by rw [List.take_left' (by simp)]) hlt hlow]
 simp [cleans_cons, hcl]
end
theorem clean_trs (q : Heap) (n : Nat) (ts : List Tr) (r : Rt) (h : ∀ t, r = .tok t → t < n) : clean1 q n (.list 7 (ts.map Tr.enc) r) = some (.list 7 (ts.map Tr.enc) r) := by
 rcases r with _ | _ | t
 ·simp
 ·simp
 ·simp [h t rfl]
@[simp] theorem clean_kids (q : Heap) (n : Nat) (ts : List Tr) (b : Bool) : clean1 q n (.list 7 (ts.map Tr.enc) (rtB b)) = some (.list 7 (ts.map Tr.enc) (rtB b)) := clean_trs _ _ _ _ (rtB_low b n)
@[simp] theorem clean_encL (q : Heap) (n : Nat) (t : Tr) : cleans q n t.encL = some t.encL := by
 rw [Tr.encL_eq]
 simp [cleans_cons]
theorem joined_ok (k : UInt8) (ts : List Tr) (hne : ts ≠ []) (rt : Rt) (h : Heap) (hrt : ∀ t, rt = .tok t → t < h.length) : M.call 106 [.int .u8 k.toNat, .list 7 (ts.map Tr.enc) rt] h = some (match ts with | [t] => t.enc | _ => .agg [.int .u8 k.toNat, .str [], .int .u8 0, .int .u8 0, .int .i64 0, .int .i64 0, .list 7 (ts.map Tr.enc) rt], h) := by
 refine call_of tab106 rfl (callF_wp ?_)
 match ts, hne with
 | [t], _ =>
  simp [wB106, Tr.enc, Tr.encL_eq, cleans_cons]
 | x :: y :: q, _ =>
  have h1 : ¬ ((q.length : Int) + 1 + 1 = 1) := by omega
  have h2 := fun q' => clean_trs q' h.length (x :: y :: q) rt hrt
  simp only [List.map_cons] at h2
  simp [wB106, cleans_cons, h1, h2]
section
variable {l : List Tok} {rt : Rt} {r : Nat} (hl : l.length ≤ 1000000000)
theorem at_HH {f : FuncId} {xs : List AV} {v : AV} {e e' : AE} {g : Heap} (hlt : r < g.length) (k : ∀ h : Heap, g.length ≤ h.length → h[r]? = some e → M.call f xs h = some (v, h.set r e')) (q : Heap) : M.call f xs (HH g r e ++ q) = some (v, HH g r e' ++ q) := by
 rw [k _ (by simp) (HH_get hlt q), HH_set hlt]
theorem at_HH' {f : FuncId} {xs : List AV} {v : AV} {e e' : AE} {g : Heap} (hlt : r < g.length) (q : Heap) (k : ∀ h : Heap, g.length + q.length = h.length → h[r]? = some e → M.call f xs h = some (v, h.set r e')) : M.call f xs (HH g r e ++ q) = some (v, HH g r e' ++ q) := by
 rw [k _ (by simp) (HH_get hlt q), HH_set hlt]
@[simp] theorem enc_cells (t : Tr) : t.enc.cells = t.encL := rfl
@[simp] theorem encL_take (t : Tr) : t.encL.take 7 = t.encL := take_encL t
@[simp] theorem agg_encL (t : Tr) : AV.agg t.encL = t.enc := rfl
@[simp] theorem clean_enc (q : Heap) (n : Nat) (t : Tr) : clean q n t.enc = some t.enc := by
 show (cleans q n t.encL).map AV.agg = _
 rw [clean_encL]; rfl
theorem zero_enc : Tr.enc zeroT = .agg [.int .u8 0, .str [], .int .u8 0, .int .u8 0, .int .i64 0, .int .i64 0, .list 7 [] .full] := by simp [zeroT, Tr.enc_mk]
include hl in
theorem thing_no (a : Nat) (off : Bool) (hn : nextB l a off [1, 10, 11, 12, 5, 7] = false) (h : Heap) (hr : h[r]? = some (stC l rt a off)) (hrt : ∀ t, rt = .tok t → t < h.length) : M.call 131 [.ptr r 0] h = some (zeroT.enc, h.set r (stC l rt a true)) := by
 obtain ⟨g, rfl, hlt⟩ := HH_of hr
 rw [HH_set0]
 have tk := fun rk q => at_HH (r := r) (g := g) hlt (fun h hg hr => take_no (rt := rt) hl a off [1, 10, 11, 12, 5, 7] (by simp) rk h hr (fun t ht => by have := hrt t ht; simp at this; omega) hn) q
 have mk := fun q => at_HH (r := r) (g := g) (e' := stC l rt a true) hlt (fun h hg hr => by
  have := made_yes (l := l) (rt := rt) ⟨0, [], 0, 0, 0, 0, .list 7 [] .full⟩ a true h hr (by simp) (by simp)
  rw [this, set_same' hr]) q
 have hlow := stC_low (l := l) (a := a) (off := true) (by simpa using hrt)
 simp only [Cell7.cs] at mk
 refine call_of tab131 rfl (callF_wp ?_)
 simp [wB131, tk, mk, tok_zero, Nat.add_assoc]
 rw [finish_HH (by rw [List.take_left' (by simp)]) hlt hlow, zero_enc]
 simp [cleans_cons]
def CC (f : FuncId) (l : List Tok) (rt : Rt) (r a : Nat) : Pr → Prop
 | .ok t n => ∀ h : Heap, h[r]? = some (stC l rt a false) → (∀ t, rt = .tok t → t < h.length) → M.call f [.ptr r 0] h = some (t.enc, h.set r (stC l rt n false))
 | .bad q => ∃ tg : Heap → Tr, ∀ h : Heap, h[r]? = some (stC l rt a false) → (∀ t, rt = .tok t → t < h.length) → M.call f [.ptr r 0] h = some ((tg h).enc, h.set r (stC l rt q true))
theorem CC_bad {f : FuncId} {a q : Nat} (h : ∀ h : Heap, h[r]? = some (stC l rt a false) → (∀ t, rt = .tok t → t < h.length) → ∃ t : Tr, M.call f [.ptr r 0] h = some (t.enc, h.set r (stC l rt q true))) : CC f l rt r a (.bad q) := by
 have : ∀ h : Heap, ∃ t : Tr, h[r]? = some (stC l rt a false) → (∀ t, rt = .tok t → t < h.length) → M.call f [.ptr r 0] h = some (t.enc, h.set r (stC l rt q true)) := fun g => by
  by_cases c : g[r]? = some (stC l rt a false) ∧ (∀ t, rt = .tok t → t < g.length)
  ·obtain ⟨t, ht⟩ := h g c.1 c.2
   exact ⟨t, fun _ _ => ht⟩
  ·exact ⟨zeroT, fun h1 h2 => absurd ⟨h1, h2⟩ c⟩
 obtain ⟨tg, htg⟩ := Classical.axiomOfChoice this
 exact ⟨tg, htg⟩
def c7 (t : Tr) : Cell7 0 := ⟨t.k.toNat, t.s, t.lo.toNat, t.hi.toNat, t.mn, t.mx, .list 7 (t.kids.map Tr.enc) (rtB t.full)⟩
theorem c7_cs (t : Tr) : .agg (c7 t).cs = t.enc := by unfold Tr.enc; rw [Tr.encL_eq]; rfl
theorem madeT_yes (t : Tr) (hs : t.s.length ≤ 1000000000) (a : Nat) (h : Heap) (hr : h[r]? = some (stC l rt a false)) (hal : aloneP t = true) : M.call 80 [.ptr r 0, t.enc] h = some (t.enc, h) := by
 rw [← c7_cs]
 exact made_yes (c7 t) a false h hr (fun q => clean_kids q h.length t.kids t.full) fun _ h' _ => by rw [c7_cs, alone_ok t hs, hal]
include hl in
theorem madeT_no (t : Tr) (hs : t.s.length ≤ 1000000000) (a : Nat) (ha : a < l.length) (h : Heap) (hr : h[r]? = some (stC l rt (a + 1) false)) (hrt : ∀ t, rt = .tok t → t < h.length) (hal : aloneP t = false) : M.call 80 [.ptr r 0, t.enc] h = some (t.enc, h.set r (stC l rt a true)) := by
 rw [← c7_cs]
 exact made_no (c7 t) hl a ha h hr hrt (fun q => clean_kids q h.length t.kids t.full) fun h' _ => by rw [c7_cs, alone_ok t hs, hal]
theorem kd_of {a : Nat} {t : Tok} (et : l[a]? = some t) : kd l a = t.kind := by simp [kd, et]
include hl in
theorem thing_step (ht : ∀ t ∈ l, t.text.length ≤ 1000000000) (f : Nat) (ih : ∀ a p, choicesS l f a [] = some p → CC 82 l rt r a p) (a : Nat) (p : Pr) (hp : thingS l (f + 1) a = some p) : CC 131 l rt r a p := by
 unfold thingS at hp
 cases et : l[a]? with
 | none =>
  have hk : kd l a = 0 := by simp [kd, et]
  simp [hk, et] at hp
  subst hp
  exact CC_bad fun h hr hrt => ⟨zeroT, thing_no hl a false (by simp [nextB, et]) h hr hrt⟩
 | some t =>
  have hk := kd_of et
  have hal := (List.getElem?_eq_some_iff.1 et).1
  have htl := ht t (List.mem_of_getElem? et)
  rw [hk] at hp
  have tky := fun (hn : ([1, 10, 11, 12, 5, 7] : List UInt8).contains t.kind = true) (g : Heap) (hlt : r < g.length) (hrt : ∀ t, rt = .tok t → t < g.length) (rk : Rt) (q : Heap) => at_HH (r := r) (g := g) hlt (fun h hg hr => take_yes (rt := rt) hl a [1, 10, 11, 12, 5, 7] (by simp) rk t et h hr (fun t ht => by have := hrt t ht; omega) hn) q
  have leaf : ∀ k : UInt8, t.kind = k → (k = 1 ∨ k = 10 ∨ k = 11 ∨ k = 12) → CC 131 l rt r a p := by
   intro k hkk hk4
   have hc : ([1, 10, 11, 12, 5, 7] : List UInt8).contains t.kind = true := by rw [hkk]; rcases hk4 with rfl | rfl | rfl | rfl <;> decide
   have h57 : ¬ (t.kind = 5 ∨ t.kind = 7) := by rw [hkk]; rcases hk4 with rfl | rfl | rfl | rfl <;> decide
   rw [if_neg h57, et] at hp
   simp only at hp
   have hsl : (leafT t).s.length ≤ 1000000000 := by
    unfold leafT
    rw [hkk]
    rcases hk4 with rfl | rfl | rfl | rfl <;> simp [Tr.s, smallP] <;> exact htl
   have sm := small_ok t.text htl
   cases hall : aloneP (leafT t)
   ·rw [hall] at hp
    simp at hp
    subst hp
    refine CC_bad fun h hr hrt => ⟨leafT t, ?_⟩
    obtain ⟨g, rfl, hlt⟩ := HH_of hr
    rw [HH_set0]
    rw [HH_len] at hrt
    have tk := tky hc g hlt hrt
    have mk := fun q => at_HH (r := r) (g := g) hlt (fun h hg hr => madeT_no (rt := rt) hl (leafT t) hsl a hal h hr (fun t ht => by have := hrt t ht; omega) hall) q
    have hlow := stC_low (l := l) (a := a) (off := true) hrt
    refine call_of tab131 rfl (callF_wp ?_)
    rcases hk4 with rfl | rfl | rfl | rfl
    all_goals
     simp [leafT, hkk, Tr.enc_mk] at mk
     simp [wB131, tk, mk, tokA, tokL, hkk, sm, Nat.add_assoc]
     rw [finish_HH (by rw [List.take_left' (by simp)]) hlt hlow]
     simp [leafT, hkk, Tr.enc_mk, cleans_cons]
   ·rw [hall] at hp
    simp at hp
    subst hp
    intro h hr hrt
    obtain ⟨g, rfl, hlt⟩ := HH_of hr
    rw [HH_set0]
    rw [HH_len] at hrt
    have tk := tky hc g hlt hrt
    have mk := fun q => at_HH (r := r) (g := g) (e := stC l rt (a + 1) false) (e' := stC l rt (a + 1) false) hlt (fun h hg hr => by rw [madeT_yes (leafT t) hsl (a + 1) h hr hall, set_same' hr]) q
    have hlow := stC_low (l := l) (a := a + 1) (off := false) hrt
    refine call_of tab131 rfl (callF_wp ?_)
    rcases hk4 with rfl | rfl | rfl | rfl
    all_goals
     simp [leafT, hkk, Tr.enc_mk] at mk
     simp [wB131, tk, mk, tokA, tokL, hkk, sm, Nat.add_assoc]
     rw [finish_HH (by rw [List.take_left' (by simp)]) hlt hlow]
     simp [leafT, hkk, Tr.enc_mk, cleans_cons]
  have hopen : ∀ k : UInt8, t.kind = k → (k = 5 ∨ k = 7) → CC 131 l rt r a p := by
   intro k hkk hk2
   have hc : ([1, 10, 11, 12, 5, 7] : List UInt8).contains t.kind = true := by rw [hkk]; rcases hk2 with rfl | rfl <;> decide
   have h57 : t.kind = 5 ∨ t.kind = 7 := by rw [hkk]; exact hk2
   rw [if_pos h57] at hp
   cases hch : choicesS l f (a + 1) [] with
   | none => rw [hch] at hp; cases hp
   | some p1 =>
    rw [hch] at hp
    have ch := ih _ _ hch
    cases p1 with
    | bad q =>
     simp only [Option.some.injEq] at hp
     subst hp
     obtain ⟨tg, htg⟩ := ch
     refine CC_bad fun h hr hrt => ?_
     obtain ⟨g, rfl, hlt⟩ := HH_of hr
     rw [HH_set0]
     rw [HH_len] at hrt
     have tk := tky hc g hlt hrt
     have cc := fun q' => htg (HH g r (stC l rt (a + 1) false) ++ q') (HH_get hlt q') (fun t ht => by have := hrt t ht; simp; omega)
     simp only [HH_set hlt] at cc
     have tk2 := fun ks (hks : ks.length ≤ 1000) rk q' => at_HH (r := r) (g := g) hlt (fun h hg hr => take_no (rt := rt) hl q true ks hks rk h hr (fun t ht => by have := hrt t ht; omega) (by simp [nextB])) q'
     have hlow := stC_low (l := l) (a := q) (off := true) hrt
     generalize hTG : (fun q' => tg (HH g r (stC l rt (a + 1) false) ++ q')) = TG at *
     have cc' : ∀ q', M.call 82 [.ptr r 0] (HH g r (stC l rt (a + 1) false) ++ q') = some ((TG q').enc, HH g r (stC l rt q true) ++ q') := fun q' => by rw [cc, ← hTG]
     rcases hk2 with rfl | rfl
     ·have tk2 := tk2 [6] (by simp)
      refine ⟨?_, call_of tab131 rfl (callF_wp ?_)⟩
      rotate_left
      ·simp [wB131, tk, cc', tk2, tokA, tokL, hkk, Nat.add_assoc]
       rw [finish_HH (by rw [List.take_left' (by simp)]) hlt hlow, clean_enc]
       rfl
     ·have tk2 := tk2 [8] (by simp)
      refine ⟨mayT ?_, call_of tab131 rfl (callF_wp ?_)⟩
      rotate_left
      ·simp [wB131, tk, cc', tk2, tokA, tokL, hkk, Nat.add_assoc]
       rw [finish_HH (by rw [List.take_left' (by simp)]) hlt hlow]
       simp [cleans_cons, mayT, Tr.enc_mk, AV.lows]
       rfl
    | ok t1 n =>
     have cc : ∀ (g : Heap), r < g.length → (∀ t, rt = .tok t → t < g.length) → ∀ q, M.call 82 [.ptr r 0] (HH g r (stC l rt (a + 1) false) ++ q) = some (t1.enc, HH g r (stC l rt n false) ++ q) := fun g hlt hrt q => at_HH (r := r) (g := g) hlt (fun h hg hr => ch h hr (fun t ht => by have := hrt t ht; omega)) q
     simp only at hp
     rw [hkk] at hp
     by_cases hs : kd l n = k + 1
     ·rw [if_pos hs] at hp
      simp only [Option.some.injEq] at hp
      subst hp
      obtain ⟨tn, etn, hkn⟩ : ∃ tn, l[n]? = some tn ∧ tn.kind = k + 1 := by
       cases e : l[n]? with
       | none => simp [kd, e] at hs; rcases hk2 with rfl | rfl <;> simp at hs
       | some tn => exact ⟨tn, rfl, by rw [← kd_of e]; exact hs⟩
      intro h hr hrt
      obtain ⟨g, rfl, hlt⟩ := HH_of hr
      rw [HH_set0]
      rw [HH_len] at hrt
      have tk := tky hc g hlt hrt
      have cc := cc g hlt hrt
      have tk2 := fun ks (hks : ks.length ≤ 1000) (hc2 : ks.contains tn.kind = true) rk q' => at_HH (r := r) (g := g) hlt (fun h hg hr => take_yes (rt := rt) hl n ks hks rk tn etn h hr (fun t ht => by have := hrt t ht; omega) hc2) q'
      have hlow := stC_low (l := l) (a := n + 1) (off := false) hrt
      rcases hk2 with rfl | rfl
      ·have tk2 := tk2 [6] (by simp) (by rw [hkn]; decide)
       refine call_of tab131 rfl (callF_wp ?_)
       simp [wB131, tk, cc, tk2, tokA, tokL, hkk, Nat.add_assoc]
       rw [finish_HH (by rw [List.take_left' (by simp)]) hlt hlow, clean_enc]
       simp
      ·have tk2 := tk2 [8] (by simp) (by rw [hkn]; decide)
       refine call_of tab131 rfl (callF_wp ?_)
       simp [wB131, tk, cc, tk2, tokA, tokL, hkk, Nat.add_assoc]
       rw [finish_HH (by rw [List.take_left' (by simp)]) hlt hlow]
       simp [cleans_cons, mayT, Tr.enc_mk, AV.lows]
     ·rw [if_neg hs] at hp
      simp only [Option.some.injEq] at hp
      subst hp
      have hno : ∀ k2 : UInt8, k2 = k + 1 → nextB l n false [k2] = false := by
       intro k2 hk2'
       subst hk2'
       unfold nextB
       cases e : l[n]? with
       | none => rfl
       | some tn =>
        have := kd_of e
        simp
        rw [← this]; exact hs
      refine CC_bad fun h hr hrt => ?_
      obtain ⟨g, rfl, hlt⟩ := HH_of hr
      rw [HH_set0]
      rw [HH_len] at hrt
      have tk := tky hc g hlt hrt
      have cc := cc g hlt hrt
      have tk2 := fun ks (hks : ks.length ≤ 1000) (hn : nextB l n false ks = false) rk q' => at_HH (r := r) (g := g) hlt (fun h hg hr => take_no (rt := rt) hl n false ks hks rk h hr (fun t ht => by have := hrt t ht; omega) hn) q'
      have hlow := stC_low (l := l) (a := n) (off := true) hrt
      rcases hk2 with rfl | rfl
      ·have tk2 := tk2 [6] (by simp) (hno 6 rfl)
       refine ⟨t1, call_of tab131 rfl (callF_wp ?_)⟩
       simp [wB131, tk, cc, tk2, tokA, tokL, hkk, Nat.add_assoc]
       rw [finish_HH (by rw [List.take_left' (by simp)]) hlt hlow, clean_enc]
       simp
      ·have tk2 := tk2 [8] (by simp) (hno 8 rfl)
       refine ⟨mayT t1, call_of tab131 rfl (callF_wp ?_)⟩
       simp [wB131, tk, cc, tk2, tokA, tokL, hkk, Nat.add_assoc]
       rw [finish_HH (by rw [List.take_left' (by simp)]) hlt hlow]
       simp [cleans_cons, mayT, Tr.enc_mk, AV.lows]
  by_cases k5 : t.kind = 5
  ·exact hopen 5 k5 (.inl rfl)
  by_cases k7 : t.kind = 7
  ·exact hopen 7 k7 (.inr rfl)
  by_cases k1 : t.kind = 1
  ·exact leaf 1 k1 (by simp)
  by_cases k10 : t.kind = 10
  ·exact leaf 10 k10 (by simp)
  by_cases k11 : t.kind = 11
  ·exact leaf 11 k11 (by simp)
  by_cases k12 : t.kind = 12
  ·exact leaf 12 k12 (by simp)
  rw [if_neg (by simp [k5, k7]), et] at hp
  have : aloneP (leafT t) = false := by simp [leafT, k1, k10, k11, k12, aloneP, Tr.k]
  simp only [this] at hp
  simp at hp
  subst hp
  exact CC_bad fun h hr hrt => ⟨zeroT, thing_no hl a false (by simp [nextB, et, k5, k7, k1, k10, k11, k12]) h hr hrt⟩
end
def times7 (mn mx : Int) : Bool := decide (0 ≤ mn ∧ mn ≤ 9999 ∧ (mx = -1 ∨ mn ≤ mx ∧ mx ≤ 9999))
theorem times7_eq (mn mx : Int) (t : Tr) : aloneP (timesT mn mx t) = times7 mn mx := by
 simp [aloneP, timesT, times7, Tr.k, Tr.kids, Tr.mn, Tr.mx, Tr.s, Tr.lo, Tr.hi]
theorem alone7_ok (mn mx : Int) (b : Nat) (h0 : Heap) : M.call 67 [.agg [.int .u8 7, .str [], .int .u8 0, .int .u8 0, .int .i64 mn, .int .i64 mx, .sl 7 b 0 1 1]] h0 = some (.bool (times7 mn mx), h0) := by
 refine call_of tab67 rfl (callF_wp ?_)
 generalize hQ : (fun e σ h => isEnd e ∧ ∃ vs, resVals σ h [ARes.tmp 2] = some vs ∧ finish h0 h (oneOf vs) = some (.bool (times7 mn mx), h0)) = Q
 have fin : ∀ (b : Bool), b = times7 mn mx → ∀ (σ : Slots) (l : List AE), σ 2 = .bool b → Q .ret σ (h0 ++ l) := by
  intro b hb σ l s2
  subst hQ
  subst hb
  simp [s2]
 have tl := fun b c kk kk' kv kv' s s' lo hi mn mx lo' hi' mn' mx' σ s1 s3 s4 s5 hq => tail_ok h0 b c kk kk' kv kv' s s' lo hi mn mx lo' hi' mn' mx' σ s1 s3 s4 s5 Q hq
 unfold times7 at fin
 by_cases p1 : 0 ≤ mn
 ·by_cases p2 : mn ≤ 9999
  ·by_cases p3 : mx = -1
   ·simp [wB67, wJ67_0, p1, p2, p3]
    refine tl true true _ _ _ _ _ _ _ _ _ _ _ _ _ _ _ (by simp) (by simp) (by simp) (by simp) fun σ l e => fin _ ?_ σ l e
    simp [p1, p2, p3]
   ·by_cases p4 : mn ≤ mx
    ·simp [wB67, wJ67_0, p1, p2, p3, p4]
     refine tl (decide (mx ≤ 9999)) true _ _ _ _ _ _ _ _ _ _ _ _ _ _ _ (by simp) (by simp) (by simp) (by simp) fun σ l e => fin _ ?_ σ l e
     simp [p1, p2, p3, p4]
    ·simp [wB67, wJ67_0, p1, p2, p3, p4]
     refine tl false true _ _ _ _ _ _ _ _ _ _ _ _ _ _ _ (by simp) (by simp) (by simp) (by simp) fun σ l e => fin _ ?_ σ l e
     simp [p1, p2, p3, p4]
  ·simp [wB67, wJ67_0, p1, p2]
   refine tl false true _ _ _ _ _ _ _ _ _ _ _ _ _ _ _ (by simp) (by simp) (by simp) (by simp) fun σ l e => fin _ ?_ σ l e
   simp [p1, p2]
 ·simp [wB67, wJ67_0, p1]
  refine tl false true _ _ _ _ _ _ _ _ _ _ _ _ _ _ _ (by simp) (by simp) (by simp) (by simp) fun σ l e => fin _ ?_ σ l e
  simp [p1]
theorem clean_sl1 {q : Heap} {n b : Nat} {t : Tr} (h1 : n ≤ b) (h2 : q[b]? = some (.cells t.encL)) : clean1 q n (.sl 7 b 0 1 1) = some (.list 7 [t.enc] .no) := by
 simp only [clean1]
 rw [if_neg (by omega), h2]
 simp only
 rw [if_neg (by simp), if_pos (by simp; exact Tr.encL_low n t)]
 simp [elems]
theorem clean_sl0 {q : Heap} {n b : Nat} (h1 : b < n) : clean1 q n (.sl 7 b 0 1 1) = some (.sl 7 b 0 1 1) := by
 simp only [clean1]
 rw [if_pos h1]
theorem times_enc (mn mx : Int) (t : Tr) : (timesT mn mx t).enc = .agg [.int .u8 7, .str [], .int .u8 0, .int .u8 0, .int .i64 mn, .int .i64 mx, .list 7 [t.enc] .no] := by simp [timesT, Tr.enc_mk]
section
variable {l : List Tok} {rt : Rt} {r : Nat} (hl : l.length ≤ 1000000000)
include hl in
theorem part_thing (a a' : Nat) (off off' : Bool) (hn : nextB l a off [9] = false) (tg : Heap → Tr) (h : Heap) (hr : h[r]? = some (stC l rt a off)) (hrt : ∀ t, rt = .tok t → t < h.length)
  (hth : ∀ h : Heap, h[r]? = some (stC l rt a off) → (∀ t, rt = .tok t → t < h.length) → M.call 131 [.ptr r 0] h = some ((tg h).enc, h.set r (stC l rt a' off'))) :
  ∃ q, M.call 121 [.ptr r 0] h = some ((tg (h ++ q)).enc, h.set r (stC l rt a' off')) := by
 obtain ⟨g, rfl, hlt⟩ := HH_of hr
 rw [HH_set0]
 rw [HH_len] at hrt
 have nx : ∀ rk q, M.call 104 [.ptr r 0, .list 1 (ofBytes [9]) rk] (HH g r (stC l rt a off) ++ q) = some (.bool false, HH g r (stC l rt a off) ++ q) := fun rk q => by
  rw [next_ok hl a off [9] (by simp) rk _ (HH_get hlt q), hn]
 have th := fun q => hth (HH g r (stC l rt a off) ++ q) (HH_get hlt q) (fun t ht => by have := hrt t ht; simp; omega)
 simp only [HH_set hlt] at th
 have hlow := stC_low (l := l) (a := a') (off := off') hrt
 refine ⟨?_, call_of tab121 rfl (callF_wp ?_)⟩
 rotate_left
 ·simp [wB121, nx, th, Nat.add_assoc]
  rw [finish_HH (by rw [List.take_left' (by simp)]) hlt hlow, clean_enc]
  rfl
include hl in
theorem part_step (ht : ∀ t ∈ l, t.text.length ≤ 1000000000) (f : Nat) (ih : ∀ a p, thingS l f a = some p → CC 131 l rt r a p) (a : Nat) (p : Pr) (hp : partS l (f + 1) a = some p) : CC 121 l rt r a p := by
 unfold partS at hp
 have other : nextB l a false [9] = false → thingS l f a = some p → CC 121 l rt r a p := by
  intro hn hp
  have th := ih _ _ hp
  cases p with
  | ok t n =>
   intro h hr hrt
   obtain ⟨q, hq⟩ := part_thing hl a n false false hn (fun _ => t) h hr hrt (fun h hr hrt => th h hr hrt)
   exact hq
  | bad n =>
   obtain ⟨tg, th⟩ := th
   refine CC_bad fun h hr hrt => ?_
   obtain ⟨q, hq⟩ := part_thing hl a n false true hn tg h hr hrt (fun h hr hrt => th h hr hrt)
   exact ⟨_, hq⟩
 cases et : l[a]? with
 | none =>
  rw [et] at hp
  exact other (by simp [nextB, et]) hp
 | some x =>
  rw [et] at hp
  simp only at hp
  by_cases k9 : x.kind = 9
  ·rw [if_pos k9, times7_eq] at hp
   have hal := (List.getElem?_eq_some_iff.1 et).1
   have nx := fun (g : Heap) (hlt : r < g.length) rk q => show M.call 104 [.ptr r 0, .list 1 (ofBytes [9]) rk] (HH g r (stC l rt a false) ++ q) = some (.bool true, HH g r (stC l rt a false) ++ q) by
    rw [next_ok hl a false [9] (by simp) rk _ (HH_get hlt q)]
    simp [nextB, et, k9]
   have tky := fun (g : Heap) (hlt : r < g.length) (hrt : ∀ t, rt = .tok t → t < g.length) (rk : Rt) (q : Heap) => at_HH (r := r) (g := g) hlt (fun h hg hr => take_yes (rt := rt) hl a [9] (by simp) rk x et h hr (fun t ht => by have := hrt t ht; omega) (by rw [k9]; decide)) q
   cases h7 : times7 x.mn x.mx with
   | false =>
    rw [h7] at hp
    simp at hp
    subst hp
    refine CC_bad fun h hr hrt => ?_
    obtain ⟨g, rfl, hlt⟩ := HH_of hr
    rw [HH_set0]
    rw [HH_len] at hrt
    have nx := nx g hlt
    have tk := tky g hlt hrt
    have al := alone7_ok x.mn x.mx
    have mk := fun b q (hb : b < g.length + q.length) => at_HH' (r := r) (g := g) hlt q (fun h hg hr => made_no (rt := rt) ⟨7, [], 0, 0, x.mn, x.mx, .sl 7 b 0 1 1⟩ hl a hal h hr (fun t ht => by have := hrt t ht; omega) (fun q' => clean_sl0 (by omega)) (fun h' _ => by rw [Cell7.cs]; simp only; rw [al, h7]))
    have th := fun q => at_HH (r := r) (g := g) (e' := stC l rt a true) hlt (fun h hg hr => thing_no hl a true (by simp [nextB]) h hr (fun t ht => by have := hrt t ht; omega)) q
    have hlow := stC_low (l := l) (a := a) (off := true) hrt
    simp only [Cell7.cs] at mk
    refine ⟨timesT x.mn x.mx zeroT, call_of tab121 rfl (callF_wp ?_)⟩
    simp [wB121, nx, tk, mk, th, tokA, tokL, k9, Nat.add_assoc]
    rw [finish_HH (by rw [List.take_left' (by simp)]) hlt hlow, times_enc]
    simp [cleans_cons]
    rw [clean_sl1 (n := g.length) (b := g.length + 4) (by omega) (by simp; rfl)]
    simp
   | true =>
    rw [h7] at hp
    simp only [if_true] at hp
    have al := alone7_ok x.mn x.mx
    cases hth : thingS l f (a + 1) with
    | none => rw [hth] at hp; cases hp
    | some p1 =>
     rw [hth] at hp
     have th := ih _ _ hth
     have all : ∀ (a' : Nat) (off : Bool) (tg : Heap → Tr) (h : Heap) (hr : h[r]? = some (stC l rt a false)) (hrt : ∀ t, rt = .tok t → t < h.length) (k : ∀ h : Heap, h[r]? = some (stC l rt (a + 1) false) → (∀ t, rt = .tok t → t < h.length) → M.call 131 [.ptr r 0] h = some ((tg h).enc, h.set r (stC l rt a' off))),
       ∃ q, M.call 121 [.ptr r 0] h = some ((timesT x.mn x.mx (tg q)).enc, h.set r (stC l rt a' off)) := by
      intro a' off tg h hr hrt k
      obtain ⟨g, rfl, hlt⟩ := HH_of hr
      rw [HH_set0]
      rw [HH_len] at hrt
      have nx := nx g hlt
      have tk := tky g hlt hrt
      have mk := fun b q (hb : b < g.length + q.length) => at_HH' (r := r) (g := g) (e := stC l rt (a + 1) false) (e' := stC l rt (a + 1) false) hlt q (fun h hg hr => by
       have := made_yes (l := l) (rt := rt) ⟨7, [], 0, 0, x.mn, x.mx, .sl 7 b 0 1 1⟩ (a + 1) false h hr (fun q' => clean_sl0 (by omega)) (fun _ h' _ => by rw [Cell7.cs]; simp only; rw [al, h7])
       rw [this, set_same' hr])
      simp only [Cell7.cs] at mk
      have th := fun q => k (HH g r (stC l rt (a + 1) false) ++ q) (HH_get hlt q) (fun t ht => by have := hrt t ht; simp; omega)
      simp only [HH_set hlt] at th
      have hlow := stC_low (l := l) (a := a') (off := off) hrt
      refine ⟨?_, call_of tab121 rfl (callF_wp ?_)⟩
      rotate_left
      ·simp [wB121, nx, tk, mk, th, tokA, tokL, k9, Nat.add_assoc]
       rw [finish_HH (by rw [List.take_left' (by simp)]) hlt hlow, times_enc]
       simp [cleans_cons]
       rw [clean_sl1 (n := g.length) (b := g.length + 4) (by omega) (by simp; rfl)]
       rfl
     cases p1 with
     | ok t n =>
      simp only [Option.some.injEq] at hp
      subst hp
      intro h hr hrt
      obtain ⟨q, hq⟩ := all n false (fun _ => t) h hr hrt th
      exact hq
     | bad n =>
      simp only [Option.some.injEq] at hp
      subst hp
      obtain ⟨tg, th⟩ := th
      refine CC_bad fun h hr hrt => ?_
      obtain ⟨q, hq⟩ := all n true tg h hr hrt th
      exact ⟨_, hq⟩
  ·rw [if_neg k9] at hp
   exact other (by simp [nextB, et, k9]) hp
end
end Go.Proofs.YtcflbdikkcpiaaaGreatDoor
