/-
  rules: the names of a tree, and each of them handed to a function.
-/
import Derived.Test.YtcflbdikkcpiaaaGreatDoorXD
import Derived.Test.YtcflbdikkcpiaaaGreatDoorXM
import Derived.Test.YtcflbdikkcpiaaaGreatDoorXK
set_option linter.unusedVariables false
set_option linter.unusedSimpArgs false
namespace Go.Proofs.YtcflbdikkcpiaaaGreatDoor
open Go Go.Am
theorem call_postK {f : FuncId} {B : AC} {res : List ARes} {args : List AV} {h0 : Heap} (hF : T f = some ⟨B, res, true⟩) (hX : XS f args h0 = none) {R : AV → Heap → Prop}
  (k : Wp M B (fun e σ h => isEnd e ∧ ∃ vs, resVals σ h res = some vs ∧ R (oneOf vs) h) (fun i => args.getD i .junk) h0) : ∃ v h', M.call f args h0 = some (v, h') ∧ R v h' := by
 obtain ⟨e, s, g, h1, h2, vs, h3, h4⟩ := k
 exact ⟨_, _, lim_call_of hF hX (callF_wpK ⟨e, s, g, h1, h2, vs, h3, rfl⟩), h4⟩
mutual
def namT : Tr → List (List UInt8)
 | .mk k s _ _ _ _ _ ks => if k = 1 then [s] else namL ks
def namL : List Tr → List (List UInt8)
 | [] => []
 | t :: ts => namT t ++ namL ts
end
theorem namT_eq (t : Tr) : namT t = if t.k = 1 then [t.s] else namL t.kids := by
 cases t
 rw [namT]
 rfl
theorem encL0 (t : Tr) : t.encL[0]? = some (.int .u8 t.k.toNat) := by rw [Tr.encL_eq]; rfl
theorem encL1 (t : Tr) : t.encL[1]? = some (.str t.s) := by rw [Tr.encL_eq]; rfl
theorem encL6 (t : Tr) : t.encL[6]? = some (.list 7 (t.kids.map Tr.enc) (rtB t.full)) := by rw [Tr.encL_eq]; rfl
theorem enc_agg (t : Tr) : AV.agg t.encL = t.enc := rfl
def eachS {St : Type} (step : St → List UInt8 → Bool × St) : List (List UInt8) → St → Bool × St
 | [], st => (true, st)
 | n :: ns, st => if (step st n).1 then eachS step ns (step st n).2 else (false, (step st n).2)
theorem eachS_app {St : Type} (step : St → List UInt8 → Bool × St) : ∀ (a b : List (List UInt8)) (st : St), eachS step (a ++ b) st = if (eachS step a st).1 then eachS step b (eachS step a st).2 else eachS step a st
 | [], b, st => by simp [eachS]
 | n :: a, b, st => by
  cases h : (step st n).1 <;> simp [eachS, h, eachS_app step a b]
theorem eachS_mu {St : Type} {step : St → List UInt8 → Bool × St} {μ : St → Nat} (hμ : ∀ st s, μ (step st s).2 ≤ μ st + 1) : ∀ (l : List (List UInt8)) (st : St), μ (eachS step l st).2 ≤ μ st + l.length
 | [], st => by simp [eachS]
 | n :: l, st => by
  have h1 := hμ st n
  have h2 := eachS_mu hμ l (step st n).2
  cases h : (step st n).1 with
  | true => simp only [eachS, h, if_true, List.length_cons]; omega
  | false => simp only [eachS, h, Bool.false_eq_true, if_false, List.length_cons]; omega
def InvEa {St : Type} (I : St → Heap → Prop) (step : St → List UInt8 → Bool × St) (fv : AV) (μ : St → Nat) (K : Nat) (t : Tr) (R : Bool × St) (k : Nat) (σ : Slots) (h : Heap) : Prop := ∃ i st, i ≤ t.kids.length ∧ k = t.kids.length - i ∧ eachS step (namL (t.kids.drop i)) st = R ∧ μ st + (namL (t.kids.drop i)).length ≤ K ∧ I st h ∧ σ 1 = fv ∧ σ 15 = .list 7 (t.kids.map Tr.enc) (rtB t.full) ∧ σ 16 = .int .i64 (t.kids.length : Nat) ∧ σ 17 = .int .i64 (i : Nat)
theorem each_okN {St : Type} {I : St → Heap → Prop} {step : St → List UInt8 → Bool × St} {f : FuncId} {caps : List AV} {μ : St → Nat} {K : Nat} (hμ : ∀ st s, μ (step st s).2 ≤ μ st + 1) (hI : ∀ st h l, I st h → I st (h ++ l))
  (hc : ∀ st s h, μ st < K → I st h → ∃ h', M.call f (.str s :: caps) h = some (.bool (step st s).1, h') ∧ I (step st s).2 h') :
  ∀ (n : Nat) (t : Tr), t.size ≤ n → TOk t → ∀ st h, μ st + (namT t).length ≤ K → I st h → ∃ h', M.call 43 [t.enc, .fn f caps] h = some (.bool (eachS step (namT t) st).1, h') ∧ I (eachS step (namT t) st).2 h'
 | 0, t, hn, _, _, _, _, _ => by cases t; simp [Tr.size] at hn
 | n + 1, t, hn, hT, st, h, hK, hS => by
  have ih := fun k (hk : k ∈ t.kids) => each_okN hμ hI hc n k (by have := Tr.size_kid hk; omega) (hT.kid hk)
  obtain ⟨v, h', q1, q2⟩ : ∃ v h', M.call 43 [t.enc, .fn f caps] h = some (v, h') ∧ (v = .bool (eachS step (namT t) st).1 ∧ I (eachS step (namT t) st).2 h') := by
   refine call_postK tab43 rfl ?_
   rw [namT_eq] at hK
   rw [namT_eq]
   by_cases hk : t.k = 1
   ·rw [if_pos hk] at hK
    rw [if_pos hk]
    have hkn : t.k.toNat = 1 := by rw [hk]; rfl
    obtain ⟨g, e1, e2⟩ := hc st t.s (h ++ [.cells t.encL]) (by simp at hK; omega) (hI _ _ _ hS)
    simp [-getElem?_pos, wB43, enc_cells, encL_take, encL0, encL1, encL6, hkn, e1, eachS]
    cases hb : (step st t.s).1 <;> simp [e2]
   ·rw [if_neg hk] at hK
    rw [if_neg hk]
    have hkn : ¬ t.k.toNat = 1 := fun e => hk (UInt8.toNat_inj.1 (by simpa using e))
    have hkI : ¬ (t.k.toNat : Int) = 1 := by omega
    obtain ⟨R, hR⟩ : ∃ R, eachS step (namL t.kids) st = R := ⟨_, rfl⟩
    rw [hR]
    have hTn := hT.n
    have L : ∀ (σ : Slots) (g : Heap), I st g → σ 1 = .fn f caps → σ 15 = .list 7 (t.kids.map Tr.enc) (rtB t.full) → σ 16 = .int .i64 (t.kids.length : Nat) → σ 17 = .int .i64 0 →
      Wp M (.loop L43_0) (blkQ 0 (thenQ (Wp M K43_0 (fun e σ h => isEnd e ∧ ∃ vs, resVals σ h [ARes.tmp 4] = some vs ∧ oneOf vs = .bool R.1 ∧ I R.2 h)) (fun e σ h => isEnd e ∧ ∃ vs, resVals σ h [ARes.tmp 4] = some vs ∧ oneOf vs = .bool R.1 ∧ I R.2 h))) σ g := by
     intro σ g hg s1 s15 s16 s17
     refine Wp.loop (InvEa I step (.fn f caps) μ K t R) ?_ (n := t.kids.length) ⟨0, st, Nat.zero_le _, rfl, by simpa using hR, by simpa using hK, hg, s1, s15, s16, s17⟩
     clear s1 s15 s16 s17 hg σ g
     rintro k σ g ⟨i, st1, hi, rfl, hr, hk1, hg, s1, s15, s16, s17⟩
     by_cases hlt : i < t.kids.length
     ·obtain ⟨x, hx⟩ : ∃ x, t.kids[i]? = some x := ⟨_, List.getElem?_eq_getElem hlt⟩
      have hltI : (i : Int) < t.kids.length := by omega
      have hadd : IntKind.wrap .i64 ((i : Int) + 1) = ((i + 1 : Nat) : Int) := by rw [wrap64 (by omega) (by omega)]; rfl
      obtain ⟨g', e1, e2⟩ := ih x (List.mem_of_getElem? hx) st1 (g ++ [.cells x.encL]) (by
       have hd : t.kids.drop i = x :: t.kids.drop (i + 1) := by
        rw [List.drop_eq_getElem_cons hlt]
        congr 1
        rw [List.getElem?_eq_getElem hlt] at hx
        exact Option.some.inj hx
       rw [hd, namL] at hk1
       simp at hk1
       omega) (hI _ _ _ hg)
      have hd : t.kids.drop i = x :: t.kids.drop (i + 1) := by
       rw [List.drop_eq_getElem_cons hlt]
       congr 1
       rw [List.getElem?_eq_getElem hlt] at hx
       exact Option.some.inj hx
      rw [hd, namL, eachS_app] at hr
      have hm := eachS_mu hμ (namT x) st1
      rw [hd, namL, List.length_append] at hk1
      cases hb : (eachS step (namT x) st1).1 with
      | true =>
       rw [hb] at e1 hr
       simp only [if_true] at hr
       simp [-getElem?_pos, -Int.natCast_add, wL43_0, s1, s15, s16, s17, hltI, hlt, hx, enc_cells, encL_take, enc_agg, e1, hadd]
       exact ⟨t.kids.length - (i + 1), by omega, i + 1, _, by omega, rfl, hr, by omega, e2, by simp [s1], by simp [s15], by simp [s16], by simp⟩
      | false =>
       rw [hb] at e1 hr
       simp only [Bool.false_eq_true, if_false] at hr
       rw [hr] at e2 hb
       simp [-getElem?_pos, -Int.natCast_add, wL43_0, s1, s15, s16, s17, hltI, hlt, hx, enc_cells, encL_take, enc_agg, e1, hadd, hb]
       exact e2
     ·obtain rfl : i = t.kids.length := by omega
      simp only [List.drop_length, namL, eachS] at hr
      subst hr
      simp [-getElem?_pos, wL43_0, wK43_0, s1, s15, s16, s17]
      exact hg
    simp [-getElem?_pos, wB43, enc_cells, encL_take, encL0, encL1, encL6, hkn, hkI]
    simp [-Int.natCast_add] at L
    refine L _ _ (hI _ _ _ hS) ?_ ?_ ?_ ?_ <;> simp
  obtain ⟨rfl, q3⟩ := q2
  exact ⟨h', q1, q3⟩
theorem each_okB {St : Type} {I : St → Heap → Prop} {step : St → List UInt8 → Bool × St} {f : FuncId} {caps : List AV} (μ : St → Nat) (K : Nat) (hμ : ∀ st s, μ (step st s).2 ≤ μ st + 1) (hI : ∀ st h l, I st h → I st (h ++ l))
  (hc : ∀ st s h, μ st < K → I st h → ∃ h', M.call f (.str s :: caps) h = some (.bool (step st s).1, h') ∧ I (step st s).2 h') (t : Tr) (hT : TOk t) (st : St) (h : Heap) (hK : μ st + (namT t).length ≤ K) (hS : I st h) : ∃ h', M.call 43 [t.enc, .fn f caps] h = some (.bool (eachS step (namT t) st).1, h') ∧ I (eachS step (namT t) st).2 h' :=
 each_okN hμ hI hc t.size t (Nat.le_refl _) hT st h hK hS
theorem each_ok {St : Type} {I : St → Heap → Prop} {step : St → List UInt8 → Bool × St} {f : FuncId} {caps : List AV} (hI : ∀ st h l, I st h → I st (h ++ l))
  (hc : ∀ st s h, I st h → ∃ h', M.call f (.str s :: caps) h = some (.bool (step st s).1, h') ∧ I (step st s).2 h') (t : Tr) (hT : TOk t) (st : St) (h : Heap) (hS : I st h) : ∃ h', M.call 43 [t.enc, .fn f caps] h = some (.bool (eachS step (namT t) st).1, h') ∧ I (eachS step (namT t) st).2 h' :=
 each_okN (μ := fun _ => 0) (K := (namT t).length) (fun _ _ => by omega) hI (fun st s h _ k => hc st s h k) t.size t (Nat.le_refl _) hT st h (by omega) hS
def gvP (x : Ru) : Bool := decide ((printP x).2 = 0)
def ROk (x : Ru) : Prop := x.name.length ≤ 1000000000 ∧ x.tree.wt ≤ 1000000000
theorem ROk.T {x : Ru} (h : ROk x) : TOk x.tree := TOk_wt h.2
theorem given_ok (x : Ru) (hx : ROk x) (h0 : Heap) : M.call 31 [ruA x] h0 = some (.bool (gvP x), h0) := by
 have pr := print_ok x hx.1 hx.2 hx.T
 refine call_of tab31 rfl (callF_wp ?_)
 unfold gvP
 generalize printP x = q at *
 obtain ⟨t, e⟩ := q
 simp only at pr ⊢
 simp [-getElem?_pos, wB31, ruA_cells, ruL_take, ruL_agg, pr]
def posK (s : List UInt8) : List (List UInt8) → Option Nat
 | [] => none
 | x :: l => if x = s then some 0 else (posK s l).map (· + 1)
theorem posK_none {s : List UInt8} : ∀ {l : List (List UInt8)}, posK s l = none ↔ s ∉ l
 | [] => by simp [posK]
 | x :: l => by
  simp only [posK, List.mem_cons, not_or]
  by_cases h : x = s
  ·simp [h]
  ·rw [if_neg h]
   simp only [Option.map_eq_none_iff, posK_none (l := l)]
   exact ⟨fun k => ⟨fun e => h e.symm, k⟩, fun k => k.2⟩
theorem posK_some {s : List UInt8} : ∀ {l : List (List UInt8)} {j : Nat}, posK s l = some j → j < l.length ∧ l[j]? = some s
 | [], j, h => by simp [posK] at h
 | x :: l, j, h => by
  simp only [posK] at h
  by_cases e : x = s
  ·rw [if_pos e] at h
   injection h with h
   subst h
   exact ⟨by simp, by simp [e]⟩
  ·rw [if_neg e] at h
   obtain ⟨k, hk, rfl⟩ := Option.map_eq_some_iff.1 h
   have := posK_some hk
   exact ⟨by simp; omega, by simpa using this.2⟩
def keysE : List (List UInt8) → Nat → List (AV × AV)
 | [], _ => []
 | s :: l, o => (.str s, .int .i64 (o : Nat)) :: keysE l (o + 1)
theorem keysE_snoc (s : List UInt8) : ∀ (l : List (List UInt8)) (o : Nat), keysE (l ++ [s]) o = keysE l o ++ [(.str s, .int .i64 ((o + l.length : Nat) : Int))]
 | [], o => by simp [keysE]
 | x :: l, o => by
  simp only [List.cons_append, keysE, keysE_snoc s l (o + 1), List.length_cons]
  rw [show o + 1 + l.length = o + (l.length + 1) by omega]
theorem find_keys (s : List UInt8) : ∀ (l : List (List UInt8)) (o i : Nat), mapFind (.str s) (keysE l o) i = some ((posK s l).map fun j => (i + j, .int .i64 ((o + j : Nat) : Int)))
 | [], o, i => rfl
 | x :: l, o, i => by
  simp only [keysE, mapFind, keyEq, posK]
  by_cases h : x = s
  ·subst h
   simp
  ·have hb : (s == x) = false := by simpa using fun e : s = x => h e.symm
   rw [hb, if_neg h]
   simp only
   rw [find_keys s l (o + 1) (i + 1)]
   cases posK s l with
   | none => rfl
   | some j =>
    simp only [Option.map_some, Option.some.injEq, Prod.mk.injEq, AV.int.injEq, true_and]
    constructor
    ·omega
    ·omega
def gmA (l : List Ru) (r : Rt) : AV := .agg [.list 10 (l.map ruA) r]
def findG (l : List Ru) (s : List UInt8) : Nat × Bool := match posK s (l.map Ru.name) with | some j => (j, true) | none => (0, false)
def InvFd (l : List Ru) (r : Rt) (s : List UInt8) (h0 : Heap) (k : Nat) (σ : Slots) (h : Heap) : Prop := ∃ i, i ≤ l.length ∧ k = l.length - i ∧ (∀ x ∈ l.take i, x.name ≠ s) ∧ σ 1 = .str s ∧ σ 9 = .list 10 (l.map ruA) r ∧ σ 10 = .int .i64 (l.length : Nat) ∧ σ 11 = .int .i64 (i : Nat) ∧ h.take h0.length = h0 ∧ h0.length ≤ h.length
theorem posK_first {s : List UInt8} : ∀ {l : List (List UInt8)} {j : Nat}, l[j]? = some s → (∀ x ∈ l.take j, x ≠ s) → posK s l = some j
 | [], j, h, _ => by simp at h
 | x :: l, 0, h, _ => by simp at h; simp [posK, h]
 | x :: l, j + 1, h, hn => by
  have := hn x (by simp)
  simp only [posK]
  rw [if_neg this, posK_first (l := l) (j := j) (by simpa using h) (fun y hy => hn y (by simp [hy]))]
  rfl
theorem find_ok (l : List Ru) (r : Rt) (s : List UInt8) (hl : l.length ≤ 1000000000) (h0 : Heap) : M.call 14 [gmA l r, .str s] h0 = some (.tup [.int .i64 ((findG l s).1 : Nat), .bool (findG l s).2], h0) := by
 refine call_of tab14 rfl (callF_wp ?_)
 have L : ∀ (σ : Slots) (g : Heap), g.take h0.length = h0 → h0.length ≤ g.length → σ 1 = .str s → σ 9 = .list 10 (l.map ruA) r → σ 10 = .int .i64 (l.length : Nat) → σ 11 = .int .i64 0 →
   Wp M (.loop L14_0) (blkQ 0 (thenQ (Wp M K14_0 (fun e σ h => isEnd e ∧ ∃ vs, resVals σ h [ARes.tmp 4, ARes.tmp 5] = some vs ∧ finish h0 h (oneOf vs) = some (.tup [.int .i64 ((findG l s).1 : Nat), .bool (findG l s).2], h0))) (fun e σ h => isEnd e ∧ ∃ vs, resVals σ h [ARes.tmp 4, ARes.tmp 5] = some vs ∧ finish h0 h (oneOf vs) = some (.tup [.int .i64 ((findG l s).1 : Nat), .bool (findG l s).2], h0)))) σ g := by
  intro σ g hg hgl s1 s9 s10 s11
  refine Wp.loop (InvFd l r s h0) ?_ (n := l.length) ⟨0, Nat.zero_le _, rfl, by simp, s1, s9, s10, s11, hg, hgl⟩
  clear s1 s9 s10 s11 hg hgl σ g
  rintro k σ g ⟨i, hi, rfl, hne, s1, s9, s10, s11, hg, hgl⟩
  have take' : ∀ q, (g ++ q).take h0.length = h0 := fun q => by rw [List.take_append_of_le_length hgl]; exact hg
  by_cases hlt : i < l.length
  ·obtain ⟨x, hx⟩ : ∃ x, l[i]? = some x := ⟨_, List.getElem?_eq_getElem hlt⟩
   have hltI : (i : Int) < l.length := by omega
   have hadd : IntKind.wrap .i64 ((i : Int) + 1) = ((i + 1 : Nat) : Int) := by rw [wrap64 (by omega) (by omega)]; rfl
   by_cases hxs : x.name = s
   ·have hf : findG l s = (i, true) := by
     unfold findG
     rw [posK_first (j := i) (by simp [hx, hxs]) (fun y hy => by
      rw [← List.map_take] at hy
      obtain ⟨z, hz, rfl⟩ := List.mem_map.1 hy
      exact hne z hz)]
    simp [-getElem?_pos, -Int.natCast_add, wL14_0, s1, s9, s10, s11, hltI, hlt, hx, ruA_cells, ruL_take, ruL_agg, ruL_name, hxs, hf]
    rw [finish_of_take (take' _)]
    simp
   ·simp [-getElem?_pos, -Int.natCast_add, wL14_0, s1, s9, s10, s11, hltI, hlt, hx, ruA_cells, ruL_take, ruL_agg, ruL_name, hxs, hadd]
    refine ⟨l.length - (i + 1), by omega, i + 1, by omega, rfl, fun y hy => ?_, by simp [s1], by simp [s9], by simp [s10], by simp, take' _, by simp; omega⟩
    rw [List.take_add_one, List.mem_append, hx] at hy
    rcases hy with hy | hy
    ·exact hne y hy
    ·simp at hy; subst hy; exact hxs
  ·obtain rfl : i = l.length := by omega
   have hf : findG l s = (0, false) := by
    unfold findG
    rw [posK_none.2 (fun hm => by
     obtain ⟨x, hx, e⟩ := List.mem_map.1 hm
     exact hne x (by simpa using hx) e)]
   simp [-getElem?_pos, wL14_0, wK14_0, s1, s9, s10, s11, hf]
   rw [finish_of_take hg]
   simp
 simp [-getElem?_pos, wB14, gmA]
 simp [-Int.natCast_add] at L
 refine L _ _ ?_ ?_ ?_ ?_ ?_ ?_ <;> simp
theorem eachS_all (p : List UInt8 → Bool) : ∀ l : List (List UInt8), (eachS (fun (_ : Unit) s => (p s, ())) l ()).1 = l.all p
 | [] => rfl
 | s :: l => by
  simp only [eachS, List.all_cons]
  cases p s <;> simp [eachS_all p l]
def rightG : List Ru → List (List UInt8) → Bool
 | [], _ => true
 | r :: l, ahead => if r.more || (!gvP r || (decide (r.name ∈ ahead) || !(namT r.tree).all fun s => decide (s ∈ ahead))) then false else rightG l (ahead ++ [r.name])
def InvRg (l : List Ru) (r : Rt) (h0 : Heap) (R : Bool) (k : Nat) (σ : Slots) (h : Heap) : Prop := ∃ i, i ≤ l.length ∧ k = l.length - i ∧ rightG (l.drop i) ((l.take i).map Ru.name) = R ∧ σ 3 = .ptr (h0.length + 2) 0 ∧ σ 9 = .list 10 (l.map ruA) r ∧ σ 10 = .int .i64 (l.length : Nat) ∧ σ 11 = .int .i64 (i : Nat) ∧ h.take h0.length = h0 ∧ h0.length + 3 ≤ h.length ∧ h[h0.length + 1]? = some (.amap (keysE ((l.take i).map Ru.name) 1)) ∧ h[h0.length + 2]? = some (.cells [.map (h0.length + 1)])
theorem right1_ok (ahead : List (List UInt8)) (s : List UInt8) (m p : Nat) (h : Heap) (h1 : h[m]? = some (.amap (keysE ahead 1))) (h2 : h[p]? = some (.cells [.map m])) : M.call 42 [.str s, .ptr p 0] h = some (.bool (decide (s ∈ ahead)), h) := by
 refine call_of tab42 rfl (callF_wp ?_)
 cases hp : posK s ahead with
 | none =>
  have := posK_none.1 hp
  simp [-getElem?_pos, wB42, h1, h2, find_keys, hp, this]
 | some j =>
  have : s ∈ ahead := List.mem_of_getElem? (posK_some hp).2
  have hpos : 0 < 1 + j := by omega
  simp [-getElem?_pos, -Int.natCast_add, wB42, h1, h2, find_keys, hp, this, hpos]
theorem gright_ok (l : List Ru) (r : Rt) (hl : l.length ≤ 1000000000) (hx : ∀ x ∈ l, ROk x) (h0 : Heap) : M.call 18 [gmA l r] h0 = some (.bool (rightG l []), h0) := by
 refine call_of tab18 rfl (callF_wp ?_)
 obtain ⟨R, hR⟩ : ∃ R, rightG l [] = R := ⟨_, rfl⟩
 rw [hR]
 have L : ∀ (σ : Slots) (g : Heap), g.take h0.length = h0 → h0.length + 3 ≤ g.length → g[h0.length + 1]? = some (.amap []) → g[h0.length + 2]? = some (.cells [.map (h0.length + 1)]) → σ 3 = .ptr (h0.length + 2) 0 → σ 9 = .list 10 (l.map ruA) r → σ 10 = .int .i64 (l.length : Nat) → σ 11 = .int .i64 0 →
   Wp M (.loop L18_0) (blkQ 0 (thenQ (Wp M K18_0 (fun e σ h => isEnd e ∧ ∃ vs, resVals σ h [ARes.tmp 2] = some vs ∧ finish h0 h (oneOf vs) = some (.bool R, h0))) (fun e σ h => isEnd e ∧ ∃ vs, resVals σ h [ARes.tmp 2] = some vs ∧ finish h0 h (oneOf vs) = some (.bool R, h0)))) σ g := by
  intro σ g hg hgl hm hb s3 s9 s10 s11
  refine Wp.loop (InvRg l r h0 R) ?_ (n := l.length) ⟨0, Nat.zero_le _, rfl, by simpa using hR, s3, s9, s10, s11, hg, hgl, by simpa [keysE] using hm, hb⟩
  clear s3 s9 s10 s11 hg hgl hm hb σ g
  rintro k σ g ⟨i, hi, rfl, hr, s3, s9, s10, s11, hg, hgl, hm, hb⟩
  by_cases hlt : i < l.length
  ·obtain ⟨x, hxi⟩ : ∃ x, l[i]? = some x := ⟨_, List.getElem?_eq_getElem hlt⟩
   have hd : l.drop i = x :: l.drop (i + 1) := by
    rw [List.drop_eq_getElem_cons hlt]
    congr 1
    rw [List.getElem?_eq_getElem hlt] at hxi
    exact Option.some.inj hxi
   have hrk := hx x (List.mem_of_getElem? hxi)
   have hltI : (i : Int) < l.length := by omega
   have hadd : IntKind.wrap .i64 ((i : Int) + 1) = ((i + 1 : Nat) : Int) := by rw [wrap64 (by omega) (by omega)]; rfl
   rw [hd, rightG] at hr
   have hsnoc : (l.take (i + 1)).map Ru.name = (l.take i).map Ru.name ++ [x.name] := by
    rw [List.take_add_one, hxi]
    simp
   have hlen : ((l.take i).map Ru.name).length = i := by simp; omega
   generalize hah : (l.take i).map Ru.name = ahead at *
   have gv := given_ok x hrk
   have hm1 : ∀ q, (g ++ q)[h0.length + 1]? = some (.amap (keysE ahead 1)) := fun q => get_left hm q
   have hb1 : ∀ q, (g ++ q)[h0.length + 2]? = some (.cells [.map (h0.length + 1)]) := fun q => get_left hb q
   have take' : ∀ q, (g ++ q).take h0.length = h0 := fun q => by rw [List.take_append_of_le_length (by omega)]; exact hg
   obtain ⟨g', e1, e2⟩ := each_ok (St := Unit) (I := fun _ h => h.take h0.length = h0 ∧ h0.length + 3 ≤ h.length ∧ h[h0.length + 1]? = some (.amap (keysE ahead 1)) ∧ h[h0.length + 2]? = some (.cells [.map (h0.length + 1)]) ∧ h[g.length]? = some (.cells (ruL x))) (step := fun _ s => (decide (s ∈ ahead), ())) (f := 42) (caps := [.ptr (h0.length + 2) 0])
    (fun _ h q k => ⟨by rw [List.take_append_of_le_length (by omega)]; exact k.1, by simp; omega, get_left k.2.2.1 q, get_left k.2.2.2.1 q, get_left k.2.2.2.2 q⟩)
    (fun _ s h k => ⟨h, right1_ok ahead s _ _ h k.2.2.1 k.2.2.2.1, k⟩) x.tree hrk.T () (g ++ [.cells (ruL x)]) ⟨take' _, by simp; omega, hm1 _, hb1 _, by simp⟩
   rw [eachS_all] at e1
   have hend : ∀ q, finish h0 (g ++ q) (.bool false) = some (.bool false, h0) := fun q => by rw [finish_of_take (take' q)]; simp
   have hend' : finish h0 g' (.bool false) = some (.bool false, h0) := by rw [finish_of_take e2.1]; simp
   cases b1 : x.more with
   | true =>
    rw [b1] at hr
    simp only [Bool.true_or, if_true] at hr
    subst hr
    simp [-getElem?_pos, -Int.natCast_add, wL18_0, s3, s9, s10, s11, hltI, hlt, hxi, ruA_cells, ruL_take, ruL_agg, ruL_more, b1, hend]
   | false =>
    cases b2 : gvP x with
    | false =>
     rw [b1, b2] at hr
     simp only [Bool.not_false, Bool.true_or, Bool.or_true, if_true] at hr
     rw [b2] at gv
     subst hr
     simp [-getElem?_pos, -Int.natCast_add, wL18_0, s3, s9, s10, s11, hltI, hlt, hxi, ruA_cells, ruL_take, ruL_agg, ruL_more, b1, gv, hend]
    | true =>
     rw [b2] at gv
     cases hp : posK x.name ahead with
     | some j =>
      have hin : x.name ∈ ahead := List.mem_of_getElem? (posK_some hp).2
      have hpos : 0 < 1 + j := by omega
      rw [b1, b2] at hr
      simp only [hin, decide_true, Bool.true_or, Bool.or_true, if_true] at hr
      subst hr
      simp [-getElem?_pos, -Int.natCast_add, wL18_0, s3, s9, s10, s11, hltI, hlt, hxi, ruA_cells, ruL_take, ruL_agg, ruL_more, ruL_name, b1, gv, hm1, hb1, find_keys, hp, hpos, hend]
     | none =>
      have hin := posK_none.1 hp
      cases b3 : ((namT x.tree).all fun s => decide (s ∈ ahead)) with
      | false =>
       rw [b1, b2, b3] at hr
       simp only [Bool.not_false, Bool.or_true, if_true] at hr
       rw [b3] at e1
       subst hr
       simp [-getElem?_pos, -Int.natCast_add, wL18_0, s3, s9, s10, s11, hltI, hlt, hxi, ruA_cells, ruL_take, ruL_agg, ruL_more, ruL_name, ruL_tree, b1, gv, hm1, hb1, find_keys, hp, e1, hend']
      | true =>
       rw [b1, b2, b3] at hr
       simp only [hin, decide_false, Bool.not_true, Bool.or_false, Bool.false_eq_true, if_false] at hr
       rw [b3] at e1
       have e3 := e2.2.2.1
       have e4 := e2.2.2.2.1
       have e5 := e2.2.2.2.2
       have eg : g'.length = g'.length := rfl
       simp [-getElem?_pos, -Int.natCast_add, wL18_0, s3, s9, s10, s11, hltI, hlt, hxi, ruA_cells, ruL_take, ruL_agg, ruL_more, ruL_name, ruL_tree, b1, gv, hm1, hb1, find_keys, hp, e1, e3, e4, e5, hadd]
       have hl1 : h0.length + 1 < g'.length := by have := e2.2.1; omega
       refine ⟨l.length - (i + 1), by omega, i + 1, by omega, rfl, by rw [hsnoc]; exact hr, by simp [s3], by simp [s9], by simp [s10], by simp, ?_, ?_, ?_, ?_⟩
       ·rw [take_set (by omega)]
        exact e2.1
       ·simp; exact e2.2.1
       ·rw [get_set_eq hl1, hsnoc, keysE_snoc, hlen, Nat.add_comm i 1]
       ·rw [get_set_ne (by omega)]
        exact e4
  ·obtain rfl : i = l.length := by omega
   simp only [List.drop_length, rightG] at hr
   subst hr
   simp [-getElem?_pos, wL18_0, wK18_0, s3, s9, s10, s11]
   rw [finish_of_take hg]
   simp
 simp [-getElem?_pos, wB18, gmA, Nat.add_assoc]
 simp [-Int.natCast_add] at L
 refine L _ _ ?_ ?_ ?_ ?_ ?_ ?_ ?_ ?_ <;> simp
abbrev Gs := List (Ru × List Tr)
def nmG (gs : Gs) : List (List UInt8) := gs.map fun p => p.1.name
inductive GRes where
 | bad (name : List UInt8) (err : Int)
 | ok (gs : Gs)
def addG (gs : Gs) (j : Nat) (t : Tr) : Gs := match gs[j]? with | some p => gs.set j (p.1, p.2 ++ [t]) | none => gs
def gstep (gs : Gs) (x : Ru) : GRes := match posK x.name (nmG gs) with
 | none => if x.more then .bad x.name 31 else .ok (gs ++ [(x, [x.tree])])
 | some j => if x.more then .ok (addG gs j x.tree) else .bad x.name 30
def gathS : List Ru → Gs → GRes
 | [], gs => .ok gs
 | x :: l, gs => match gstep gs x with | .bad n e => .bad n e | .ok gs' => gathS l gs'
def orT (ts : List Tr) : Tr := .mk 6 [] 0 0 0 0 false ts
def treeG (p : Ru × List Tr) : Tr := if 1 < p.2.length then orT p.2 else p.1.tree
def rowG (p : Ru × List Tr) : Ru := { p.1 with tree := treeG p }
def deepG : Gs → Option (List UInt8)
 | [] => none
 | p :: l => if fitsP 100 (treeG p) then deepG l else some p.1.name
def moreE : Gs → List Nat → List (AV × AV)
 | p :: gs, t :: ts => (.str p.1.name, .list 7 (p.2.map Tr.enc) (.tok t)) :: moreE gs ts
 | _, _ => []
theorem moreE_len : ∀ (gs : Gs) (ts : List Nat), ts.length = gs.length → (moreE gs ts).length = gs.length
 | [], [], _ => rfl
 | p :: gs, t :: ts, h => by simp [moreE, moreE_len gs ts (by simpa using h)]
 | [], t :: ts, h => by simp at h
 | p :: gs, [], h => by simp at h
theorem moreE_snoc (p : Ru × List Tr) (t : Nat) : ∀ (gs : Gs) (ts : List Nat), ts.length = gs.length → moreE (gs ++ [p]) (ts ++ [t]) = moreE gs ts ++ [(.str p.1.name, .list 7 (p.2.map Tr.enc) (.tok t))]
 | [], [], _ => rfl
 | q :: gs, u :: ts, h => by simp [moreE, moreE_snoc p t gs ts (by simpa using h)]
 | [], t :: ts, h => by simp at h
 | p :: gs, [], h => by simp at h
theorem moreE_set (p : Ru × List Tr) (t : Nat) : ∀ (gs : Gs) (ts : List Nat) (j : Nat), ts.length = gs.length → moreE (gs.set j p) (ts.set j t) = (moreE gs ts).set j (.str p.1.name, .list 7 (p.2.map Tr.enc) (.tok t))
 | [], [], j, _ => rfl
 | q :: gs, u :: ts, 0, h => by simp [moreE]
 | q :: gs, u :: ts, j + 1, h => by simp [moreE, moreE_set p t gs ts j (by simpa using h)]
 | [], t :: ts, j, h => by simp at h
 | p :: gs, [], j, h => by simp at h
theorem find_more (s : List UInt8) : ∀ (gs : Gs) (ts : List Nat) (i : Nat), ts.length = gs.length →
  match posK s (nmG gs) with
  | none => mapFind (.str s) (moreE gs ts) i = some none
  | some j => ∃ p t, gs[j]? = some p ∧ ts[j]? = some t ∧ p.1.name = s ∧ mapFind (.str s) (moreE gs ts) i = some (some (i + j, .list 7 (p.2.map Tr.enc) (.tok t)))
 | [], [], i, _ => rfl
 | p :: gs, t :: ts, i, h => by
  simp only [moreE, mapFind, keyEq, nmG, List.map_cons, posK]
  by_cases e : p.1.name = s
  ·subst e
   simp
  ·have hb : (s == p.1.name) = false := by simpa using fun q : s = p.1.name => e q.symm
   rw [hb, if_neg e]
   simp only
   have ih := find_more s gs ts (i + 1) (by simpa using h)
   unfold nmG at ih
   cases hp : posK s (gs.map fun p => p.1.name) with
   | none => rw [hp] at ih; exact ih
   | some j =>
    rw [hp] at ih
    obtain ⟨q, u, h1, h2, h3, h4⟩ := ih
    exact ⟨q, u, by simpa using h1, by simpa using h2, h3, by rw [h4]; simp; omega⟩
 | [], t :: ts, i, h => by simp at h
 | p :: gs, [], i, h => by simp at h
theorem nmG_add (gs : Gs) (j : Nat) (t : Tr) : nmG (addG gs j t) = nmG gs := by
 unfold addG
 cases h : gs[j]? with
 | none => rfl
 | some p =>
  simp only [nmG, List.map_set]
  apply List.ext_getElem?
  intro k
  rw [List.getElem?_set]
  split
  ·rename_i e
   subst e
   have hlt := (List.getElem?_eq_some_iff.1 h).1
   have h' : gs[j] = p := by
    have := List.getElem?_eq_getElem hlt
    rw [h] at this
    exact (Option.some.inj this).symm
   simp [hlt, h']
  ·rfl
theorem addG_rows (gs : Gs) (j : Nat) (t : Tr) : (addG gs j t).map (·.1) = gs.map (·.1) := by
 unfold addG
 cases h : gs[j]? with
 | none => rfl
 | some p =>
  simp only [List.map_set]
  apply List.ext_getElem?
  intro k
  rw [List.getElem?_set]
  split
  ·rename_i e
   subst e
   have hlt := (List.getElem?_eq_some_iff.1 h).1
   have h' : gs[j] = p := by
    have := List.getElem?_eq_getElem hlt
    rw [h] at this
    exact (Option.some.inj this).symm
   simp [hlt, h']
  ·rfl
def BLg (h : Heap) (n : Nat) (bl : AV) (rows : List Ru) : Prop := (rows = [] ∧ bl = .list 10 [] .full) ∨ ∃ gb, n ≤ gb ∧ bl = .gl 10 gb rows.length ∧ h[gb]? = some (.grow 10 (rows.flatMap ruL))
theorem flat_ru : ∀ l : List Ru, (l.flatMap ruL).length = l.length * 10
 | [] => rfl
 | x :: l => by simp [flat_ru l]; omega
theorem onO_appM {H : Heap} {n key : Nat} {e : TypeId} {bl : AV} {rows : List Ru} {x : Ru} {f : AV → Heap → Prop} (hb : BLg H n bl rows) (hn : n ≤ key) (hk : H[key]? = some .dead) (hl : rows.length ≤ 1000000000)
  (hf : ∀ H' : Heap, BLg H' n (.gl 10 key (rows.length + 1)) (rows ++ [x]) → H'.length = H.length → (∀ i e', i ≠ key → H[i]? = some e' → (∀ s cs, e' ≠ .grow s cs) → H'[i]? = some e') → H'.take n = H.take n → f (.gl 10 key (rows.length + 1)) H') :
  onO (appM H key 10 104 e bl (.list 10 [ruA x] .full)) f := by
 have hlt := lt_of_get hk
 have hq : srcOf 10 (.list 10 [ruA x] .full) = some [ruA x] := by simp [srcOf, ruA_cells]
 rcases hb with ⟨rfl, rfl⟩ | ⟨gb, hgb, rfl, hg⟩
 ·rw [appM_nil (hs := .inl rfl) (h0 := by simp) (h1 := by simp) (h2 := by simp) (hq := hq), onO_some]
  refine hf _ (.inr ⟨key, hn, rfl, ?_⟩) (by simp) (fun i e' hi he _ => ?_) ?_
  ·rw [get_set_eq hlt]
   simp [ruA_cells]
  ·rw [get_set_ne (fun h => hi h.symm)]; exact he
  ·exact take_set hn
 ·have hne : gb ≠ key := fun h => by rw [h, hk] at hg; cases hg
  have hfl := flat_ru rows
  have : appM H key 10 104 e (.gl 10 gb rows.length) (.list 10 [ruA x] .full) = some (.gl 10 key (rows.length + 1), (H.set gb .dead).set key (.grow 10 ((rows ++ [x]).flatMap ruL))) := by
   rw [appM_gl]
   simp only [appA, hq, hg]
   rw [if_pos ⟨trivial, trivial, by omega, by simp; omega, by simp; omega⟩]
   simp [ruA_cells, List.take_of_length_le (show (rows.flatMap ruL).length ≤ rows.length * 10 by omega)]
  rw [this, onO_some]
  refine hf _ (.inr ⟨key, hn, by simp, ?_⟩) (by simp) (fun i e' hi he hng => ?_) ?_
  ·rw [get_set_eq (by simpa using hlt)]
  ·have : i ≠ gb := fun h => by rw [h, hg] at he; injection he with he; exact hng _ _ he.symm
   rw [get_set_ne (fun h => hi h.symm), get_set_ne (fun h => this h.symm)]; exact he
  ·rw [take_set hn, take_set hgb]
structure GI (gs : Gs) (ts : List Nat) (bl : AV) (h0 h : Heap) : Prop where
 take : h.take h0.length = h0
 len : h0.length + 4 ≤ h.length
 res : h[h0.length]? = some (.cells [.list 10 [] .full, .nilm])
 at_ : h[h0.length + 1]? = some (.amap (keysE (nmG gs) 0))
 bk : h[h0.length + 2]? = some (.cells [bl, .map (h0.length + 1)])
 mo : h[h0.length + 3]? = some (.amap (moreE gs ts))
 bl : BLg h (h0.length + 4) bl (gs.map (·.1))
 tl : ts.length = gs.length
 nd : ∀ (a b t : Nat), ts[a]? = some t → ts[b]? = some t → a = b
 tk : ∀ (j t : Nat) (p : Ru × List Tr), ts[j]? = some t → gs[j]? = some p → h0.length + 4 ≤ t ∧ h[t]? = some (.tok 7 p.2.length 36)
theorem onO_appK {H : Heap} {key sz bytes : Nat} {e : TypeId} {xs ys : List AV} {r r2 : Rt} {f : AV → Heap → Prop} (ho : own H r sz xs.length e) (h0 : ys ≠ []) (h1 : (xs.length + ys.length) * bytes ≤ 70368744177664) (h2 : xs.length + ys.length ≤ 70368744177664)
  (hf : f (.list sz (xs ++ ys) (.tok key)) ((kill H r).set key (.tok sz (xs.length + ys.length) e))) : onO (appA H key sz bytes e (.list sz xs r) (.list sz ys r2)) f := by
 have : appA H key sz bytes e (.list sz xs r) (.list sz ys r2) = some (.list sz (xs ++ ys) (.tok key), (kill H r).set key (.tok sz (xs.length + ys.length) e)) := by
  simp only [appA, srcOf]
  rw [if_pos (.inl trivial)]
  simp only
  rw [if_neg h0, if_pos ⟨.inl trivial, ho, h1, h2⟩]
 rw [this, onO_some]
 exact hf
structure GJ (gs gs' : Gs) (ts : List Nat) (bl : AV) (h0 h : Heap) : Prop where
 take : h.take h0.length = h0
 len : h0.length + 4 ≤ h.length
 res : h[h0.length]? = some (.cells [.list 10 [] .full, .nilm])
 at_ : h[h0.length + 1]? = some (.amap (keysE (nmG gs') 0))
 bk : h[h0.length + 2]? = some (.cells [bl, .map (h0.length + 1)])
 mo : h[h0.length + 3]? = some (.amap (moreE gs ts))
 bl : BLg h (h0.length + 4) bl (gs'.map (·.1))
 tl : ts.length = gs.length
 nd : ∀ (a b t : Nat), ts[a]? = some t → ts[b]? = some t → a = b
 tk : ∀ (j t : Nat) (p : Ru × List Tr), ts[j]? = some t → gs[j]? = some p → h0.length + 4 ≤ t ∧ h[t]? = some (.tok 7 p.2.length 36)
theorem gath_more {gs gs' : Gs} {ts : List Nat} {bl : AV} {h0 H : Heap} {x : Ru} {p8 : Nat} {σ : Slots} {Q : Ex → Slots → Heap → Prop} (hG : GJ gs gs' ts bl h0 H) (h8 : H[p8]? = some (.cells (ruL x))) (hp8 : h0.length + 4 ≤ p8) (hn : ∀ p ∈ gs, p.2.length ≤ 1000000)
  (hgs : (posK x.name (nmG gs) = none ∧ gs' = gs ++ [(x, [x.tree])]) ∨ ∃ j, posK x.name (nmG gs) = some j ∧ gs' = addG gs j x.tree) (s6 : σ 6 = .map (h0.length + 3)) (s8 : σ 8 = .ptr p8 0)
  (hQ : ∀ σ' H' ts', GI gs' ts' bl h0 H' → (∀ i, i ≤ 8 ∨ 17 ≤ i ∧ i ≤ 19 → σ' i = σ i) → Q .normal σ' H') : Wp M J32_0 Q σ H := by
 have fm := find_more x.name gs ts 0 hG.tl
 have h8' : ∀ q, (H ++ q)[p8]? = some (.cells (ruL x)) := fun q => get_left h8 q
 have hmo : ∀ q, (H ++ q)[h0.length + 3]? = some (.amap (moreE gs ts)) := fun q => get_left hG.mo q
 rcases hgs with ⟨hp, rfl⟩ | ⟨j, hp, rfl⟩
 ·rw [hp] at fm
  simp only at fm
  simp [-getElem?_pos, -Int.natCast_add, wJ32_0, s6, s8, h8', hmo, ruL_name, ruL_tree, enc_cells, enc_agg, fm]
  refine onO_appK (xs := []) trivial (by simp) (by simp) (by simp) ?_
  simp [-getElem?_pos, -Int.natCast_add, kill, hmo, fm]
  have hl := hG.len
  have hlt8 := lt_of_get h8
  refine ⟨by omega, hQ _ _ (ts ++ [H.length]) ⟨?_, ?_, ?_, ?_, ?_, ?_, ?_, ?_, ?_, ?_⟩ ?_⟩
  ·rw [take_set (by omega), List.take_append_of_le_length (by omega)]; exact hG.take
  ·simp; omega
  ·rw [get_set_ne (by omega)]; exact get_left hG.res _
  ·rw [get_set_ne (by omega)]; exact get_left hG.at_ _
  ·rw [get_set_ne (by omega)]; exact get_left hG.bk _
  ·rw [get_set_eq (by simp; omega), moreE_snoc _ _ _ _ hG.tl]; rfl
  ·rcases hG.bl with ⟨a, b⟩ | ⟨gb, a, b, c⟩
   ·exact .inl ⟨a, b⟩
   ·exact .inr ⟨gb, a, b, by rw [get_set_ne (by omega)]; exact get_left c _⟩
  ·simp [hG.tl]
  ·intro a b u ha hb
   have hold : ∀ c v, ts[c]? = some v → v < H.length := fun c v hc => by
    obtain ⟨p, hpj⟩ : ∃ p, gs[c]? = some p := ⟨_, List.getElem?_eq_getElem (by have := (List.getElem?_eq_some_iff.1 hc).1; have := hG.tl; omega)⟩
    exact lt_of_get (hG.tk c v p hc hpj).2
   have hla := (List.getElem?_eq_some_iff.1 ha).1
   have hlb := (List.getElem?_eq_some_iff.1 hb).1
   simp at hla hlb
   rw [List.getElem?_append] at ha hb
   split at ha
   ·split at hb
    ·exact hG.nd a b u ha hb
    ·rename_i hnb
     have := hold a u ha
     rw [show b - ts.length = 0 by omega] at hb
     simp at hb
     omega
   ·rename_i hna
    split at hb
    ·have := hold b u hb
     rw [show a - ts.length = 0 by omega] at ha
     simp at ha
     omega
    ·omega
  ·intro j t p h1 h2
   by_cases hj : j < gs.length
   ·rw [List.getElem?_append_left (by have := hG.tl; omega)] at h1
    rw [List.getElem?_append_left hj] at h2
    obtain ⟨k1, k2⟩ := hG.tk j t p h1 h2
    exact ⟨k1, by rw [get_set_ne (by omega)]; exact get_left k2 _⟩
   ·have hj2 : j = gs.length := by
     have := (List.getElem?_eq_some_iff.1 h2).1
     simp at this
     omega
    subst hj2
    rw [List.getElem?_append_right (Nat.le_refl _)] at h2
    rw [List.getElem?_append_right (by rw [hG.tl]; exact Nat.le_refl _), hG.tl] at h1
    simp at h1 h2
    subst h1
    subst h2
    refine ⟨by omega, ?_⟩
    rw [get_set_ne (by omega)]
    simp
  ·intro i hi
   rcases hi with hi | hi <;> simp [put] <;> (repeat rw [if_neg (by omega)])
 ·rw [hp] at fm
  simp only at fm
  obtain ⟨p, t, e1, e2, e3, e4⟩ := fm
  simp only [Nat.zero_add] at e4
  simp [-getElem?_pos, -Int.natCast_add, wJ32_0, s6, s8, h8', hmo, ruL_name, ruL_tree, enc_cells, enc_agg, e4]
  obtain ⟨k1, k2⟩ := hG.tk j t p e2 e1
  have ht := lt_of_get k2
  have hpn := hn p (List.mem_of_getElem? e1)
  refine onO_appK (by show (H ++ [.dead])[t]? = _; rw [List.length_map]; exact get_left k2 _) (by simp) (by simp; omega) (by simp; omega) ?_
  have hk1 : ∀ q, (H ++ q).set t .dead = H.set t .dead ++ q := fun q => by rw [List.set_append_left _ _ ht]
  have hk2 : ∀ x q, (H.set t .dead ++ .dead :: q).set H.length x = H.set t .dead ++ x :: q := fun x q => by rw [List.set_append_right _ _ (by simp)]; simp
  have hk3 : ∀ q, (H.set t .dead ++ q)[h0.length + 3]? = some (.amap (moreE gs ts)) := fun q => get_left (by rw [get_set_ne (by omega)]; exact hG.mo) q
  simp [-getElem?_pos, -Int.natCast_add, kill, hk1, hk2, hk3, e4]
  have hl := hG.len
  have hlt8 := lt_of_get h8
  have h8t : ¬ p8 = t := fun e => by rw [e, k2] at h8; cases h8
  have hadd : addG gs j x.tree = gs.set j (p.1, p.2 ++ [x.tree]) := by unfold addG; rw [e1]
  have hjl := (List.getElem?_eq_some_iff.1 e1).1
  have hrows := addG_rows gs j x.tree
  have hn' := nmG_add gs j x.tree
  have hG2 := hG.bl
  have hG3 := hG.at_
  rw [hrows] at hG2
  refine ⟨⟨by omega, h8t⟩, hQ _ _ (ts.set j H.length) ⟨?_, ?_, ?_, ?_, ?_, ?_, ?_, ?_, ?_, ?_⟩ ?_⟩
  ·rw [take_set (by omega), List.take_append_of_le_length (by simp; omega), take_set (by omega)]; exact hG.take
  ·simp; omega
  ·rw [get_set_ne (by omega)]; exact get_left (by rw [get_set_ne (by omega)]; exact hG.res) _
  ·rw [get_set_ne (by omega)]; exact get_left (by rw [get_set_ne (by omega)]; exact hG.at_) _
  ·rw [get_set_ne (by omega)]; exact get_left (by rw [get_set_ne (by omega)]; exact hG.bk) _
  ·rw [get_set_eq (by simp; omega), hadd, moreE_set _ _ _ _ _ hG.tl, e3]; simp
  ·rw [hrows]
   rcases hG2 with ⟨a, b⟩ | ⟨gb, a, b, c⟩
   ·exact .inl ⟨a, b⟩
   ·have : t ≠ gb := fun e => by rw [← e, k2] at c; cases c
    exact .inr ⟨gb, a, b, by rw [get_set_ne (by omega)]; exact get_left (by rw [get_set_ne this]; exact c) _⟩
  ·rw [hadd]; simp [hG.tl]
  ·intro a b u ha hb
   have hmem : ∀ c : Nat, ts[c]? ≠ some H.length := fun c hc => by
    obtain ⟨pc, hpc⟩ : ∃ pc, gs[c]? = some pc := ⟨_, List.getElem?_eq_getElem (by have := (List.getElem?_eq_some_iff.1 hc).1; have := hG.tl; omega)⟩
    have := lt_of_get (hG.tk c _ pc hc hpc).2
    omega
   have hjt := (List.getElem?_eq_some_iff.1 e2).1
   rw [List.getElem?_set] at ha hb
   by_cases h1 : j = a
   ·rw [if_pos h1, if_pos hjt] at ha
    injection ha with ha
    by_cases h2 : j = b
    ·omega
    ·rw [if_neg h2, ← ha] at hb
     exact absurd hb (hmem b)
   ·rw [if_neg h1] at ha
    by_cases h2 : j = b
    ·rw [if_pos h2, if_pos hjt] at hb
     injection hb with hb
     rw [← hb] at ha
     exact absurd ha (hmem a)
    ·rw [if_neg h2] at hb
     exact hG.nd a b u ha hb
  ·intro c u q h1 h2
   rw [hadd] at h2
   rw [List.getElem?_set] at h1 h2
   by_cases hc : j = c
   ·subst hc
    rw [if_pos rfl, if_pos (by have := hG.tl; omega)] at h1
    rw [if_pos rfl, if_pos hjl] at h2
    simp only [Option.some.injEq] at h1 h2
    subst h1
    subst h2
    refine ⟨by omega, ?_⟩
    rw [get_set_ne (by omega)]
    rw [List.getElem?_append_right (by simp)]
    simp
   ·rw [if_neg hc] at h1 h2
    obtain ⟨m1, m2⟩ := hG.tk c u q h1 h2
    have hut : t ≠ u := fun e => by
     subst e
     exact hc (hG.nd j c t e2 h1)
    exact ⟨m1, by rw [get_set_ne (by omega)]; exact get_left (by rw [get_set_ne hut]; exact m2) _⟩
  ·intro i hi
   rcases hi with hi | hi <;> simp [put] <;> (repeat rw [if_neg (by omega)])
def InvG1 (l : List Ru) (r : Rt) (R : GRes) (h0 : Heap) (k : Nat) (σ : Slots) (h : Heap) : Prop := ∃ i gs ts bl, i ≤ l.length ∧ k = l.length - i ∧ gathS (l.drop i) gs = R ∧ gs.length ≤ i ∧ (∀ p ∈ gs, p.2.length ≤ i) ∧ GI gs ts bl h0 h ∧ σ 2 = .ptr h0.length 0 ∧ σ 5 = .ptr (h0.length + 2) 0 ∧ σ 6 = .map (h0.length + 3) ∧ σ 17 = .list 10 (l.map ruA) r ∧ σ 18 = .int .i64 (l.length : Nat) ∧ σ 19 = .int .i64 (i : Nat)
def GPost (R : GRes) (h0 : Heap) (v : AV) (h : Heap) : Prop :=
 h.take h0.length = h0 ∧ h0.length ≤ h.length ∧ match R with
 | .bad n e => v = .tup [.agg [.list 10 [] .full, .nilm], .str n, .int .i64 e]
 | .ok gs => match deepG gs with
  | some n => v = .tup [.agg [.list 10 [] .full, .nilm], .str n, .int .i64 21]
  | none => ∃ bl m, v = .tup [.agg [bl, .map m], .str [], .int .i64 0] ∧ h0.length ≤ m ∧ h[m]? = some (.amap (keysE (nmG gs) 0)) ∧ BLg h h0.length bl (gs.map rowG)
theorem gather1 (l : List Ru) (r : Rt) (hl : l.length ≤ 1000000) (h0 : Heap) (Q : Ex → Slots → Heap → Prop) (hQ : ∀ σ h a b, h[h0.length]? = some (.cells [a, b]) → GPost (gathS l []) h0 (.tup [.agg [a, b], σ 3, σ 4]) h → σ 2 = .ptr h0.length 0 → Q .ret σ h)
  (hK : ∀ σ h gs ts bl, gathS l [] = .ok gs → gs.length ≤ l.length → (∀ p ∈ gs, p.2.length ≤ l.length) → GI gs ts bl h0 h → σ 2 = .ptr h0.length 0 → σ 5 = .ptr (h0.length + 2) 0 → σ 6 = .map (h0.length + 3) → Wp M K32_1 Q σ h) :
  ∀ (σ : Slots) (g : Heap), GI [] [] (.list 10 [] .full) h0 g → σ 2 = .ptr h0.length 0 → σ 5 = .ptr (h0.length + 2) 0 → σ 6 = .map (h0.length + 3) → σ 17 = .list 10 (l.map ruA) r → σ 18 = .int .i64 (l.length : Nat) → σ 19 = .int .i64 0 →
   Wp M (.loop L32_0) (blkQ 0 (thenQ (Wp M K32_1 Q) Q)) σ g := by
 intro σ g hg s2 s5 s6 s17 s18 s19
 refine Wp.loop (InvG1 l r (gathS l []) h0) ?_ (n := l.length) ⟨0, [], [], _, Nat.zero_le _, rfl, rfl, Nat.le_refl _, by simp, hg, s2, s5, s6, s17, s18, s19⟩
 clear s2 s5 s6 s17 s18 s19 hg σ g
 rintro k σ g ⟨i, gs, ts, bl, hi, rfl, hr, hgi, hgp, hG, s2, s5, s6, s17, s18, s19⟩
 by_cases hlt : i < l.length
 ·obtain ⟨x, hxi⟩ : ∃ x, l[i]? = some x := ⟨_, List.getElem?_eq_getElem hlt⟩
  have hd : l.drop i = x :: l.drop (i + 1) := by
   rw [List.drop_eq_getElem_cons hlt]
   congr 1
   rw [List.getElem?_eq_getElem hlt] at hxi
   exact Option.some.inj hxi
  have hltI : (i : Int) < l.length := by omega
  have hadd : IntKind.wrap .i64 ((i : Int) + 1) = ((i + 1 : Nat) : Int) := by rw [wrap64 (by omega) (by omega)]; rfl
  rw [hd, gathS] at hr
  have hat : ∀ q, (g ++ q)[h0.length + 1]? = some (.amap (keysE (nmG gs) 0)) := fun q => get_left hG.at_ q
  have hbk : ∀ q, (g ++ q)[h0.length + 2]? = some (.cells [bl, .map (h0.length + 1)]) := fun q => get_left hG.bk q
  have hmo : ∀ q, (g ++ q)[h0.length + 3]? = some (.amap (moreE gs ts)) := fun q => get_left hG.mo q
  have hres : ∀ q, (g ++ q)[h0.length]? = some (.cells [.list 10 [] .full, .nilm]) := fun q => get_left hG.res q
  have take' : ∀ q, (g ++ q).take h0.length = h0 := fun q => by rw [List.take_append_of_le_length (by have := hG.len; omega)]; exact hG.take
  have hgl := hG.len
  have fm := find_more x.name gs ts 0 hG.tl
  unfold gstep at hr
  cases hp : posK x.name (nmG gs) with
  | none =>
   rw [hp] at fm hr
   simp only at fm hr
   cases b1 : x.more with
   | true =>
    rw [b1] at hr
    simp only [if_true] at hr
    simp [-getElem?_pos, -Int.natCast_add, wL32_0, s2, s5, s6, s17, s18, s19, hltI, hlt, hxi, ruA_cells, ruL_take, ruL_agg, ruL_more, ruL_name, hat, hbk, hmo, hres, find_keys, hp, b1, hadd]
    refine ⟨by omega, hQ _ _ (.list 10 [] .full) .nilm ?_ ?_ (by simp [s2])⟩
    ·rw [List.set_append_left _ _ (by omega)]
     exact get_left (get_set_eq (by omega)) _
    ·rw [← hr]
     refine ⟨?_, ?_, ?_⟩
     ·rw [take_set (by omega)]
      exact take' _
     ·simp; omega
     ·simp
   | false =>
    rw [b1] at hr
    simp only [Bool.false_eq_true, if_false] at hr
    have hsetn : ∀ q v, (g ++ q).set (h0.length + 1) v = g.set (h0.length + 1) v ++ q := fun q v => by rw [List.set_append_left _ _ (by omega)]
    have hset2 : ∀ q v, (g.set (h0.length + 1) v ++ q)[h0.length + 2]? = some (.cells [bl, .map (h0.length + 1)]) := fun q v => get_left (by rw [get_set_ne (by omega)]; exact hG.bk) q
    have hx8 : ∀ q v, (g.set (h0.length + 1) v ++ .cells (ruL x) :: q)[g.length]? = some (.cells (ruL x)) := fun q v => by rw [List.getElem?_append_right (by simp)]; simp
    have hlen : lenV bl = some (.int .i64 (gs.length : Nat)) := by
     rcases hG.bl with ⟨e1, rfl⟩ | ⟨gb, _, rfl, _⟩
     ·simp at e1
      subst e1
      rfl
     ·simp
    simp [-getElem?_pos, -Int.natCast_add, wL32_0, s2, s5, s6, s17, s18, s19, hltI, hlt, hxi, ruA_cells, ruL_take, ruL_agg, ruL_more, ruL_name, hat, hbk, hmo, hres, find_keys, hp, b1, hadd, hlen, hsetn, hset2, hx8]
    refine onO_appM (n := h0.length + 4) (rows := gs.map (·.1)) (x := x) ?_ (by omega) ?_ (by simp; omega) fun H' b1 b2 b3 b4 => ?_
    ·rcases hG.bl with ⟨a, b⟩ | ⟨gb, a, b, c⟩
     ·exact .inl ⟨a, b⟩
     ·exact .inr ⟨gb, a, b, get_left (by rw [get_set_ne (by omega)]; exact c) _⟩
    ·rw [List.getElem?_append_right (by simp)]
     simp
    have kp : ∀ i e', i < g.length → (g.set (h0.length + 1) (.amap (keysE (nmG gs) 0 ++ [(.str x.name, .int .i64 (gs.length : Nat))])))[i]? = some e' → (∀ s cs, e' ≠ .grow s cs) → H'[i]? = some e' := fun i e' hi he hng => b3 i e' (by omega) (get_left he _) hng
    have h2 : H'[h0.length + 2]? = some (.cells [bl, .map (h0.length + 1)]) := kp _ _ (by omega) (by rw [get_set_ne (by omega)]; exact hG.bk) (by simp)
    have h8 : H'[g.length]? = some (.cells (ruL x)) := b3 _ _ (by omega) (by rw [List.getElem?_append_right (by simp)]; simp) (by simp)
    have b2' : H'.length = g.length + 2 := by rw [b2]; simp
    simp [-getElem?_pos, -Int.natCast_add, s5, h2]
    refine gath_more (gs := gs) (gs' := gs ++ [(x, [x.tree])]) (ts := ts) (bl := .gl 10 (g.length + 1) (gs.length + 1)) (x := x) (p8 := g.length) ⟨?_, ?_, ?_, ?_, ?_, ?_, ?_, hG.tl, hG.nd, fun c t p h1 h2 => ?_⟩ ?_ (by omega) (fun p hpg => by have := hgp p hpg; omega) (.inl ⟨hp, rfl⟩) ?_ ?_ fun σ' H2 ts2 hG2 hs2 => ?_
    ·rw [take_set (by omega)]
     have := congrArg (List.take h0.length) b4
     rw [List.take_take, List.take_take, Nat.min_eq_left (by omega), List.take_append_of_le_length (by simp; omega), take_set (by omega)] at this
     rw [this]; exact hG.take
    ·simp; omega
    ·rw [get_set_ne (by omega)]; exact kp _ _ (by omega) (by rw [get_set_ne (by omega)]; exact hG.res) (by simp)
    ·rw [get_set_ne (by omega)]
     refine kp _ _ (by omega) ?_ (by simp)
     rw [get_set_eq (by omega)]
     have : nmG (gs ++ [(x, [x.tree])]) = nmG gs ++ [x.name] := by simp [nmG]
     rw [this, keysE_snoc]
     simp [nmG]
    ·rw [get_set_eq (by omega)]
    ·rw [get_set_ne (by omega)]; exact kp _ _ (by omega) (by rw [get_set_ne (by omega)]; exact hG.mo) (by simp)
    ·rcases b1 with ⟨a, b⟩ | ⟨gb, a, b, c⟩
     ·simp at a
     ·simp at b
      obtain ⟨rfl, _⟩ := b
      refine .inr ⟨g.length + 1, a, by simp, ?_⟩
      rw [get_set_ne (by omega), c]
      simp
    ·obtain ⟨k1, k2⟩ := hG.tk c t p h1 h2
     have := lt_of_get k2
     exact ⟨k1, by rw [get_set_ne (by omega)]; exact kp _ _ this (by rw [get_set_ne (by omega)]; exact k2) (by simp)⟩
    ·rw [get_set_ne (by omega)]; exact h8
    ·simp [s6]
    ·simp
    ·have t19 : σ' 19 = .int .i64 (i : Nat) := by rw [hs2 19 (by omega)]; simp [s19]
     simp [-getElem?_pos, -Int.natCast_add, wJ32_1, t19, hadd]
     refine ⟨l.length - (i + 1), by omega, i + 1, _, ts2, _, by omega, rfl, hr, by simp; omega, fun p hpg => ?_, hG2, ?_, ?_, ?_, ?_, ?_, by simp⟩
     ·rcases List.mem_append.1 hpg with h | h
      ·have := hgp p h; omega
      ·simp at h; subst h; simp
     ·simp [hs2, s2]
     ·simp [hs2, s5]
     ·simp [hs2, s6]
     ·simp [hs2, s17]
     ·simp [hs2, s18]
  | some j =>
   rw [hp] at fm hr
   simp only at fm hr
   cases b1 : x.more with
   | true =>
    rw [b1] at hr
    simp only [if_true] at hr
    simp [-getElem?_pos, -Int.natCast_add, wL32_0, s2, s5, s6, s17, s18, s19, hltI, hlt, hxi, ruA_cells, ruL_take, ruL_agg, ruL_more, ruL_name, hat, hbk, hmo, hres, find_keys, hp, b1, hadd]
    have hn' := nmG_add gs j x.tree
    have hrows := addG_rows gs j x.tree
    refine gath_more (gs := gs) (gs' := addG gs j x.tree) (ts := ts) (bl := bl) (x := x) (p8 := g.length) ⟨take' _, by simp; omega, hres _, by rw [hn']; exact hat _, hbk _, hmo _, ?_, hG.tl, hG.nd, fun c t p h1 h2 => ?_⟩ (by simp) (by omega) (fun p hpg => by have := hgp p hpg; omega) (.inr ⟨j, hp, rfl⟩) ?_ ?_ fun σ' H2 ts2 hG2 hs2 => ?_
    ·rw [hrows]
     rcases hG.bl with ⟨a, b⟩ | ⟨gb, a, b, c⟩
     ·exact .inl ⟨a, b⟩
     ·exact .inr ⟨gb, a, b, get_left c _⟩
    ·obtain ⟨k1, k2⟩ := hG.tk c t p h1 h2
     exact ⟨k1, get_left k2 _⟩
    ·simp [s6]
    ·simp
    ·have t19 : σ' 19 = .int .i64 (i : Nat) := by rw [hs2 19 (by omega)]; simp [s19]
     simp [-getElem?_pos, -Int.natCast_add, wJ32_1, t19, hadd]
     refine ⟨l.length - (i + 1), by omega, i + 1, _, ts2, _, by omega, rfl, hr, ?_, fun p hpg => ?_, hG2, ?_, ?_, ?_, ?_, ?_, by simp⟩
     ·have := congrArg List.length hrows
      simp at this
      omega
     ·unfold addG at hpg
      split at hpg
      ·rename_i q hq
       rcases List.mem_or_eq_of_mem_set hpg with h | h
       ·have := hgp p h; omega
       ·subst h
        have := hgp q (List.mem_of_getElem? hq)
        simp
        omega
      ·have := hgp p hpg; omega
     ·simp [hs2, s2]
     ·simp [hs2, s5]
     ·simp [hs2, s6]
     ·simp [hs2, s17]
     ·simp [hs2, s18]
   | false =>
    rw [b1] at hr
    simp only [Bool.false_eq_true, if_false] at hr
    simp [-getElem?_pos, -Int.natCast_add, wL32_0, s2, s5, s6, s17, s18, s19, hltI, hlt, hxi, ruA_cells, ruL_take, ruL_agg, ruL_more, ruL_name, hat, hbk, hmo, hres, find_keys, hp, b1, hadd]
    refine ⟨by omega, hQ _ _ (.list 10 [] .full) .nilm ?_ ?_ (by simp [s2])⟩
    ·rw [List.set_append_left _ _ (by omega)]
     exact get_left (get_set_eq (by omega)) _
    ·rw [← hr]
     refine ⟨?_, ?_, ?_⟩
     ·rw [take_set (by omega)]
      exact take' _
     ·simp; omega
     ·simp
 ·obtain rfl : i = l.length := by omega
  simp only [List.drop_length, gathS] at hr
  simp [-getElem?_pos, wL32_0, s2, s5, s6, s17, s18, s19]
  exact hK _ _ gs ts bl hr.symm hgi hgp hG (by simp [s2]) (by simp [s5]) (by simp [s6])
theorem rows_split {rows : List Ru} {i : Nat} {x : Ru} (h : rows[i]? = some x) : ∃ a b, rows = a ++ x :: b ∧ a.length = i := by
 have hlt := (List.getElem?_eq_some_iff.1 h).1
 refine ⟨rows.take i, rows.drop (i + 1), ?_, by simp; omega⟩
 rw [List.getElem?_eq_getElem hlt] at h
 rw [← Option.some.inj h, ← List.drop_eq_getElem_cons hlt, List.take_append_drop]
theorem row_load {rows : List Ru} {i : Nat} {x : Ru} (h : rows[i]? = some x) : loadA (some 10) (rows.flatMap ruL) (i * 10) = some (ruA x) := by
 obtain ⟨a, b, rfl, rfl⟩ := rows_split h
 have hf := flat_ru a
 simp only [loadA, List.flatMap_append, List.flatMap_cons]
 rw [if_pos (by rw [List.length_append, List.length_append, hf, ruL_len]; omega), List.drop_left' hf, List.take_left' (by simp)]
 rfl
theorem tree_load {rows : List Ru} {i : Nat} {x : Ru} (h : rows[i]? = some x) : loadA (some 7) (rows.flatMap ruL) (i * 10 + 3) = some x.tree.enc := by
 obtain ⟨a, b, rfl, rfl⟩ := rows_split h
 have hf := flat_ru a
 simp only [loadA, List.flatMap_append, List.flatMap_cons]
 rw [if_pos (by rw [List.length_append, List.length_append, hf, ruL_len]; omega), ← List.drop_drop, List.drop_left' hf, List.drop_append_of_le_length (by simp), ruL_tree, List.take_left' (by simp)]
 rfl
theorem tree_store {rows : List Ru} {i : Nat} {x : Ru} (t : Tr) (h : rows[i]? = some x) : (rows.flatMap ruL).take (i * 10 + 3) ++ (t.encL ++ (rows.flatMap ruL).drop (i * 10 + 3 + 7)) = (rows.set i { x with tree := t }).flatMap ruL := by
 obtain ⟨a, b, rfl, rfl⟩ := rows_split h
 have hf := flat_ru a
 have hx : ruL x = [.str x.name, .int .i64 x.pos, .bool x.more] ++ x.tree.encL := rfl
 have hx' : ruL { x with tree := t } = [.str x.name, .int .i64 x.pos, .bool x.more] ++ t.encL := rfl
 rw [List.set_append_right _ _ (Nat.le_refl _), Nat.sub_self, List.set_cons_zero]
 simp only [List.flatMap_append, List.flatMap_cons, hx']
 rw [List.take_append, hf]
 rw [List.take_of_length_le (by omega), show a.length * 10 + 3 - a.length * 10 = 3 by omega, hx, List.append_assoc, List.take_append_of_le_length (by simp)]
 rw [show a.length * 10 + 3 + 7 = (a.flatMap ruL).length + 10 by omega, ← List.drop_drop, List.drop_left]
 rw [← List.append_assoc, List.drop_left' (by simp)]
 simp
theorem row_facts {rows : List Ru} {cs : List AV} {i : Nat} {x : Ru} (h : rows[i]? = some x) (hc : rows.flatMap ruL = cs) : i * 10 + 10 ≤ cs.length ∧ (cs.drop (i * 10)).take 10 = ruL x ∧ cs[i * 10]? = some (.str x.name) ∧ i * 10 + 3 + 7 ≤ cs.length ∧ (cs.drop (i * 10 + 3)).take 7 = x.tree.encL := by
 obtain ⟨a, b, rfl, rfl⟩ := rows_split h
 have hf := flat_ru a
 rw [List.flatMap_append, List.flatMap_cons] at hc
 subst hc
 refine ⟨by rw [List.length_append, List.length_append, hf, ruL_len]; omega, ?_, ?_, by rw [List.length_append, List.length_append, hf, ruL_len]; omega, ?_⟩
 ·rw [List.drop_left' hf, List.take_left' (by simp)]
 ·rw [← hf, List.getElem?_append_right (Nat.le_refl _), Nat.sub_self]
  rfl
 ·rw [← List.drop_drop, List.drop_left' hf, List.drop_append_of_le_length (by simp), ruL_tree, List.take_left' (by simp)]
def distG (gs : Gs) : Prop := ∀ (j : Nat) (p : Ru × List Tr), gs[j]? = some p → posK p.1.name (nmG gs) = some j
theorem posK_app {s : List UInt8} {b : List (List UInt8)} : ∀ {a : List (List UInt8)}, posK s (a ++ b) = match posK s a with | some j => some j | none => (posK s b).map (· + a.length)
 | [] => by simp [posK]
 | x :: a => by
  simp only [List.cons_append, posK]
  by_cases h : x = s
  ·simp [h]
  ·rw [if_neg h, if_neg h, posK_app (a := a)]
   cases posK s a with
   | some j => rfl
   | none =>
    cases posK s b with
    | none => rfl
    | some j => simp; omega
theorem gstep_dist {gs gs' : Gs} {x : Ru} (h : gstep gs x = .ok gs') (hd : distG gs) : distG gs' := by
 unfold gstep at h
 cases hp : posK x.name (nmG gs) with
 | none =>
  rw [hp] at h
  simp only at h
  split at h
  ·cases h
  ·injection h with h
   subst h
   intro j p hj
   have e : nmG (gs ++ [(x, [x.tree])]) = nmG gs ++ [x.name] := by simp [nmG]
   rw [e, posK_app]
   by_cases hlt : j < gs.length
   ·rw [List.getElem?_append_left hlt] at hj
    rw [hd j p hj]
   ·have hlj : j = gs.length := by
     have := (List.getElem?_eq_some_iff.1 hj).1
     simp at this
     omega
    subst hlj
    rw [List.getElem?_append_right (Nat.le_refl _)] at hj
    simp at hj
    subst hj
    simp only
    rw [hp]
    simp [posK, nmG]
 | some j0 =>
  rw [hp] at h
  simp only at h
  split at h
  ·injection h with h
   subst h
   intro j p hj
   rw [nmG_add]
   have hr := congrArg (fun l : List Ru => l[j]?) (addG_rows gs j0 x.tree)
   simp only [List.getElem?_map, hj, Option.map_some] at hr
   cases hg : gs[j]? with
   | none => rw [hg] at hr; cases hr
   | some q =>
    rw [hg] at hr
    simp only [Option.map_some, Option.some.injEq] at hr
    have := hd j q hg
    rw [← hr] at this
    exact this
  ·cases h
theorem gathS_dist : ∀ {l : List Ru} {gs gs' : Gs}, gathS l gs = .ok gs' → distG gs → distG gs'
 | [], gs, gs', h, hd => by injection h with h; subst h; exact hd
 | x :: l, gs, gs', h, hd => by
  simp only [gathS] at h
  cases hs : gstep gs x with
  | bad n e => rw [hs] at h; cases h
  | ok g1 => rw [hs] at h; exact gathS_dist h (gstep_dist hs hd)
structure G2I (gs : Gs) (i gb : Nat) (ts : List Nat) (h0 h : Heap) : Prop where
 take : h.take h0.length = h0
 len : h0.length + 4 ≤ h.length
 res : h[h0.length]? = some (.cells [.list 10 [] .full, .nilm])
 at_ : h[h0.length + 1]? = some (.amap (keysE (nmG gs) 0))
 bk : h[h0.length + 2]? = some (.cells [.gl 10 gb gs.length, .map (h0.length + 1)])
 mo : h[h0.length + 3]? = some (.amap (moreE gs ts))
 gbn : h0.length + 4 ≤ gb
 rows : h[gb]? = some (.grow 10 (((gs.take i).map rowG ++ (gs.drop i).map (·.1)).flatMap ruL))
def InvG2 (gs : Gs) (gb : Nat) (ts : List Nat) (h0 : Heap) (k : Nat) (σ : Slots) (h : Heap) : Prop := ∃ i, i ≤ gs.length ∧ k = gs.length - i ∧ deepG (gs.drop i) = deepG gs ∧ G2I gs i gb ts h0 h ∧ σ 2 = .ptr h0.length 0 ∧ σ 5 = .ptr (h0.length + 2) 0 ∧ σ 6 = .map (h0.length + 3) ∧ σ 80 = .gl 10 gb gs.length ∧ σ 81 = .int .i64 (gs.length : Nat) ∧ σ 82 = .int .i64 (i : Nat)
theorem gath_deep {t : Tr} {x : Ru} {gs : Gs} {cs : List AV} {i gb n p12 : Nat} {H : Heap} {σ : Slots} {Q : Ex → Slots → Heap → Prop} (hT : TOk t) (hi : i < gs.length) (hres : H[n]? = some (.cells [.list 10 [] .full, .nilm])) (hbk : H[n + 2]? = some (.cells [.gl 10 gb gs.length, .map (n + 1)])) (hg : H[gb]? = some (.grow 10 cs)) (h12 : H[p12]? = some (.cells (ruL x))) (hn12 : n ≠ p12)
  (c1 : i * 10 + 3 + 7 ≤ cs.length) (c2 : (cs.drop (i * 10 + 3)).take 7 = t.encL) (s2 : σ 2 = .ptr n 0) (s5 : σ 5 = .ptr (n + 2) 0) (s11 : σ 11 = .int .i64 (i : Nat)) (s12 : σ 12 = .ptr p12 0)
  (hbad : fitsP 100 t = false → ∀ σ' : Slots, σ' 2 = .ptr n 0 → σ' 3 = .str x.name → σ' 4 = .int .i64 21 → Q .ret σ' (H.set n (.cells [.list 10 [] .full, .nilm])))
  (hok : fitsP 100 t = true → ∀ σ' : Slots, (∀ k, k ≤ 12 ∨ 80 ≤ k ∧ k ≤ 82 → σ' k = σ k) → Q .normal σ' H) : Wp M J32_2 Q σ H := by
 have rg := right_ok t hT
 have c3 : min 7 (cs.length - (i * 10 + 3)) = 7 := by omega
 have hiI : (i : Int) < gs.length := by omega
 cases hf : fitsP 100 t with
 | true =>
  rw [hf] at rg
  simp [-getElem?_pos, -Int.natCast_add, wJ32_2, s2, s5, s11, s12, hbk, hg, hiI, hi, c1, c2, c3, enc_agg, rg]
  refine hok hf _ fun k hk => ?_
  simp [put]
  rcases hk with hk | hk <;> (repeat rw [if_neg (by omega)])
 | false =>
  rw [hf] at rg
  simp [-getElem?_pos, -Int.natCast_add, wJ32_2, s2, s5, s11, s12, hbk, hg, hiI, hi, c1, c2, c3, enc_agg, rg, h12, hres, ruL_name, hn12, Ne.symm hn12]
  refine hbad hf _ ?_ ?_ ?_ <;> simp [s2]
theorem gather2 (gs : Gs) (gb : Nat) (ts : List Nat) (h0 : Heap) (hl : gs.length ≤ 1000000) (htl : ts.length = gs.length) (hd : distG gs) (hp : ∀ p ∈ gs, TOk (treeG p) ∧ p.2.length ≤ 1000000) (Q : Ex → Slots → Heap → Prop)
  (hQ : ∀ σ h a b, h[h0.length]? = some (.cells [a, b]) → GPost (.ok gs) h0 (.tup [.agg [a, b], σ 3, σ 4]) h → σ 2 = .ptr h0.length 0 → Q .ret σ h) :
  ∀ (σ : Slots) (g : Heap), G2I gs 0 gb ts h0 g → σ 2 = .ptr h0.length 0 → σ 5 = .ptr (h0.length + 2) 0 → σ 6 = .map (h0.length + 3) → σ 80 = .gl 10 gb gs.length → σ 81 = .int .i64 (gs.length : Nat) → σ 82 = .int .i64 0 →
   Wp M (.loop L32_1) (blkQ 3 (thenQ (Wp M K32_0 Q) Q)) σ g := by
 intro σ g hg s2 s5 s6 s80 s81 s82
 refine Wp.loop (InvG2 gs gb ts h0) ?_ (n := gs.length) ⟨0, Nat.zero_le _, rfl, rfl, hg, s2, s5, s6, s80, s81, s82⟩
 clear s2 s5 s6 s80 s81 s82 hg σ g
 rintro k σ g ⟨i, hi, rfl, hr, hG, s2, s5, s6, s80, s81, s82⟩
 have hgl := hG.len
 have hgbn := hG.gbn
 by_cases hlt : i < gs.length
 ·obtain ⟨p, hpi⟩ : ∃ p, gs[i]? = some p := ⟨_, List.getElem?_eq_getElem hlt⟩
  have hdr : gs.drop i = p :: gs.drop (i + 1) := by
   rw [List.drop_eq_getElem_cons hlt]
   congr 1
   rw [List.getElem?_eq_getElem hlt] at hpi
   exact Option.some.inj hpi
  obtain ⟨hT, hpl⟩ := hp p (List.mem_of_getElem? hpi)
  have hltI : (i : Int) < gs.length := by omega
  have hadd : IntKind.wrap .i64 ((i : Int) + 1) = ((i + 1 : Nat) : Int) := by rw [wrap64 (by omega) (by omega)]; rfl
  obtain ⟨rows, hrows⟩ : ∃ rows, (gs.take i).map rowG ++ (gs.drop i).map (·.1) = rows := ⟨_, rfl⟩
  have hrow : rows[i]? = some p.1 := by
   rw [← hrows, List.getElem?_append_right (by simp; omega)]
   simp [hpi, Nat.min_eq_left (Nat.le_of_lt hlt)]
  have hnext : rows.set i (rowG p) = (gs.take (i + 1)).map rowG ++ (gs.drop (i + 1)).map (·.1) := by
   rw [← hrows, hdr, List.take_add_one, hpi, List.set_append_right _ _ (by simp; omega)]
   simp [Nat.min_eq_left (Nat.le_of_lt hlt)]
  have hgrow : ∀ q, (g ++ q)[gb]? = some (.grow 10 (rows.flatMap ruL)) := fun q => by rw [← hrows]; exact get_left hG.rows q
  have hbk : ∀ q, (g ++ q)[h0.length + 2]? = some (.cells [.gl 10 gb gs.length, .map (h0.length + 1)]) := fun q => get_left hG.bk q
  have hmo : ∀ q, (g ++ q)[h0.length + 3]? = some (.amap (moreE gs ts)) := fun q => get_left hG.mo q
  have take' : ∀ q, (g ++ q).take h0.length = h0 := fun q => by rw [List.take_append_of_le_length (by omega)]; exact hG.take
  obtain ⟨cs, hcs⟩ : ∃ cs, rows.flatMap ruL = cs := ⟨_, rfl⟩
  rw [hcs] at hgrow
  obtain ⟨c1, c2, c4, c5, c6⟩ := row_facts hrow hcs
  have c3 : min 10 (cs.length - i * 10) = 10 := by omega
  have c7 : min 7 (cs.length - (i * 10 + 3)) = 7 := by omega
  have fm := find_more p.1.name gs ts 0 htl
  rw [hd i p hpi] at fm
  obtain ⟨p', t, f1, f2, f3, f4⟩ := fm
  rw [hpi] at f1
  injection f1 with f1
  subst f1
  simp only [Nat.zero_add] at f4
  have hgbl := lt_of_get hG.rows
  rw [hdr, deepG] at hr
  have hwk : ∀ k n, weakV (.int k n) = .int k n := fun _ _ => rfl
  by_cases hlen : 1 < p.2.length
  ·have hlenI : (1 : Int) < p.2.length := by omega
   simp [-getElem?_pos, -Int.natCast_add, wL32_1, s2, s5, s6, s80, s81, s82, hltI, hlt, hgrow, c1, c2, c3, c4, c5, c6, c7, ruA_cells, ruL_take, ruL_agg, ruL_name, hbk, hmo, f4, hlenI, hlen, hwk]
   have htree : treeG p = orT p.2 := by unfold treeG; rw [if_pos hlen]
   have hst : cs.take (i * 10 + 3) ++ (.int .u8 6 :: .str [] :: .int .u8 0 :: .int .u8 0 :: .int .i64 0 :: .int .i64 0 :: .list 7 (p.2.map Tr.enc) .no :: cs.drop (i * 10 + 3 + 7)) = (rows.set i (rowG p)).flatMap ruL := by
    have := tree_store (orT p.2) hrow
    rw [hcs] at this
    unfold rowG
    rw [htree, ← this, Tr.encL_eq]
    rfl
   rw [hst]
   obtain ⟨r1, r2, r3, r4, r5⟩ := row_facts (rows := rows.set i (rowG p)) (i := i) (x := rowG p) (by rw [List.getElem?_set, if_pos rfl, if_pos (List.getElem?_eq_some_iff.1 hrow).1]) rfl
   refine gath_deep (t := treeG p) (x := p.1) (gs := gs) (i := i) (gb := gb) (n := h0.length) (p12 := g.length) (cs := (rows.set i (rowG p)).flatMap ruL) hT hlt ?_ ?_ ?_ ?_ (by omega) r4 r5 ?_ ?_ ?_ ?_ (fun hf σ' t2 t3 t4 => ?_) (fun hf σ' hs => ?_)
   ·rw [get_set_ne (by omega)]; exact get_left hG.res _
   ·rw [get_set_ne (by omega)]; exact hbk _
   ·exact get_set_eq (by simp; omega)
   ·rw [get_set_ne (by omega)]; simp
   ·simp [s2]
   ·simp [s5]
   ·simp
   ·simp
   ·rw [hf] at hr
    simp only [Bool.false_eq_true, if_false] at hr
    simp [-getElem?_pos, -Int.natCast_add]
    refine hQ _ _ (.list 10 [] .full) .nilm ?_ ⟨?_, ?_, ?_⟩ t2
    ·exact get_set_eq (by simp; omega)
    ·rw [take_set (Nat.le_refl _)]
     rw [take_set (by omega)]; exact take' _
    ·simp; omega
    ·simp only [← hr, t3, t4]
   ·rw [hf] at hr
    simp only [if_true] at hr
    have t82 : σ' 82 = .int .i64 (i : Nat) := by rw [hs 82 (by omega)]; simp [s82]
    simp [-getElem?_pos, -Int.natCast_add, wJ32_3, t82, hadd]
    refine ⟨gs.length - (i + 1), by omega, i + 1, by omega, rfl, hr, ⟨?_, ?_, ?_, ?_, ?_, ?_, hgbn, ?_⟩, ?_, ?_, ?_, ?_, ?_, by simp⟩
    ·rw [take_set (by omega)]; exact take' _
    ·simp; omega
    ·rw [get_set_ne (by omega)]; exact get_left hG.res _
    ·rw [get_set_ne (by omega)]; exact get_left hG.at_ _
    ·rw [get_set_ne (by omega)]; exact hbk _
    ·rw [get_set_ne (by omega)]; exact hmo _
    ·rw [← hnext]
     exact get_set_eq (by simp; omega)
    ·simp [hs, s2]
    ·simp [hs, s5]
    ·simp [hs, s6]
    ·simp [hs, s80]
    ·simp [hs, s81]
  ·have hlenI : ¬ (1 : Int) < p.2.length := by omega
   simp [-getElem?_pos, -Int.natCast_add, wL32_1, s2, s5, s6, s80, s81, s82, hltI, hlt, hgrow, c1, c2, c3, c4, c5, c6, c7, ruA_cells, ruL_take, ruL_agg, ruL_name, hbk, hmo, f4, hlenI, hlen]
   have htree : treeG p = p.1.tree := by unfold treeG; rw [if_neg hlen]
   have hrg : rowG p = p.1 := by unfold rowG; rw [htree]
   have hset : rows.set i (rowG p) = rows := by
    rw [hrg]
    apply List.ext_getElem?
    intro k
    rw [List.getElem?_set]
    split
    ·rename_i e
     subst e
     rw [if_pos (List.getElem?_eq_some_iff.1 hrow).1, hrow]
    ·rfl
   have hgr2 : ∀ q, (g ++ q)[gb]? = some (.grow 10 ((rows.set i (rowG p)).flatMap ruL)) := fun q => by rw [hset, hcs]; exact hgrow q
   obtain ⟨r1, r2, r3, r4, r5⟩ := row_facts (rows := rows.set i (rowG p)) (i := i) (x := rowG p) (by rw [hset, hrg]; exact hrow) rfl
   refine gath_deep (t := treeG p) (x := p.1) (gs := gs) (i := i) (gb := gb) (n := h0.length) (p12 := g.length) (cs := (rows.set i (rowG p)).flatMap ruL) hT hlt ?_ ?_ ?_ ?_ (by omega) r4 r5 ?_ ?_ ?_ ?_ (fun hf σ' t2 t3 t4 => ?_) (fun hf σ' hs => ?_)
   ·exact get_left hG.res _
   ·exact hbk _
   ·exact hgr2 _
   ·simp
   ·simp [s2]
   ·simp [s5]
   ·simp
   ·simp
   ·rw [hf] at hr
    simp only [Bool.false_eq_true, if_false] at hr
    simp [-getElem?_pos, -Int.natCast_add]
    refine hQ _ _ (.list 10 [] .full) .nilm ?_ ⟨?_, ?_, ?_⟩ t2
    ·exact get_set_eq (by simp; omega)
    ·rw [take_set (Nat.le_refl _)]
     exact take' _
    ·simp; omega
    ·simp only [← hr, t3, t4]
   ·rw [hf] at hr
    simp only [if_true] at hr
    have t82 : σ' 82 = .int .i64 (i : Nat) := by rw [hs 82 (by omega)]; simp [s82]
    simp [-getElem?_pos, -Int.natCast_add, wJ32_3, t82, hadd]
    refine ⟨gs.length - (i + 1), by omega, i + 1, by omega, rfl, hr, ⟨?_, ?_, ?_, ?_, ?_, ?_, hgbn, ?_⟩, ?_, ?_, ?_, ?_, ?_, by simp⟩
    ·exact take' _
    ·simp; omega
    ·exact get_left hG.res _
    ·exact get_left hG.at_ _
    ·exact hbk _
    ·exact hmo _
    ·rw [← hnext]
     exact hgr2 _
    ·simp [hs, s2]
    ·simp [hs, s5]
    ·simp [hs, s6]
    ·simp [hs, s80]
    ·simp [hs, s81]
 ·obtain rfl : i = gs.length := by omega
  simp [-getElem?_pos, -Int.natCast_add, wL32_1, wK32_0, s2, s5, s6, s80, s81, s82, hG.bk, hG.res]
  simp only [List.drop_length, deepG] at hr
  refine hQ _ _ (.gl 10 gb gs.length) (.map (h0.length + 1)) ?_ ⟨?_, ?_, ?_⟩ (by simp [s2])
  ·exact get_set_eq (by omega)
  ·rw [take_set (Nat.le_refl _)]; exact hG.take
  ·simp; omega
  ·simp only [← hr]
   refine ⟨_, _, rfl, by omega, ?_, .inr ⟨gb, by omega, by simp, ?_⟩⟩
   ·rw [get_set_ne (by omega)]; exact hG.at_
   ·rw [get_set_ne (by omega)]
    have := hG.rows
    simpa using this
theorem gather_ok (l : List Ru) (r : Rt) (hl : l.length ≤ 1000000) (hT : ∀ gs, gathS l [] = .ok gs → ∀ p ∈ gs, TOk (treeG p)) (h0 : Heap) : ∃ v h', M.call 32 [.list 10 (l.map ruA) r] h0 = some (v, h') ∧ GPost (gathS l []) h0 v h' := by
 refine call_postK tab32 rfl ?_
 generalize hQ : (fun e σ h => isEnd e ∧ ∃ vs, resVals σ h [ARes.cell 2 (some 2), ARes.tmp 3, ARes.tmp 4] = some vs ∧ GPost (gathS l []) h0 (oneOf vs) h) = Q
 have hQ1 : ∀ σ h a b, h[h0.length]? = some (.cells [a, b]) → GPost (gathS l []) h0 (.tup [.agg [a, b], σ 3, σ 4]) h → σ 2 = .ptr h0.length 0 → Q .ret σ h := by
  intro σ h a b e1 e2 e3
  subst hQ
  simp [e1, e3]
  exact e2
 have L := gather1 l r hl h0 Q hQ1 (fun σ h gs ts bl hok hgl hgp hG s2 s5 s6 => by
  have hd : distG gs := gathS_dist hok (fun j p h => by simp at h)
  rcases hG.bl with ⟨e, rfl⟩ | ⟨gb, hgb, hbl, hg⟩
  ·have e : gs = [] := by simpa using e
   subst e
   simp [-getElem?_pos, -Int.natCast_add, wK32_1, s5, hG.bk]
   refine Wp.loop (fun k σ' h' => k = 0 ∧ h' = h ∧ σ' 2 = .ptr h0.length 0 ∧ σ' 5 = .ptr (h0.length + 2) 0 ∧ σ' 81 = .int .i64 0 ∧ σ' 82 = .int .i64 0) ?_ (n := 0) ⟨rfl, rfl, by simp [s2], by simp [s5], by simp, by simp⟩
   rintro k σ' h' ⟨rfl, rfl, t2, t5, t81, t82⟩
   simp [-getElem?_pos, -Int.natCast_add, wL32_1, wK32_0, t2, t5, t81, t82, hG.bk, hG.res]
   have hgl := hG.len
   refine hQ1 _ _ (.list 10 [] .full) (.map (h0.length + 1)) (get_set_eq (by omega)) ⟨?_, ?_, ?_⟩ (by simp [t2])
   ·rw [take_set (Nat.le_refl _)]; exact hG.take
   ·simp; omega
   ·rw [hok]
    simp only [deepG]
    refine ⟨.list 10 [] .full, h0.length + 1, by simp, by omega, ?_, .inl ⟨rfl, rfl⟩⟩
    rw [get_set_ne (by omega)]; exact hG.at_
  ·have hbl' : bl = .gl 10 gb gs.length := by simpa using hbl
   subst hbl'
   simp [-getElem?_pos, -Int.natCast_add, wK32_1, s5, hG.bk]
   have L2 := gather2 gs gb ts h0 (by omega) hG.tl hd (fun p hp => ⟨hT gs hok p hp, by have := hgp p hp; omega⟩) Q (fun σ h a b e1 e2 e3 => hQ1 σ h a b e1 (by rw [hok]; exact e2) e3)
   refine L2 _ _ ⟨hG.take, hG.len, hG.res, hG.at_, hG.bk, hG.mo, hgb, by simpa using hg⟩ ?_ ?_ ?_ ?_ ?_ ?_ <;> simp [s2, s5, s6])
 simp [-getElem?_pos, -Int.natCast_add, wB32, Nat.add_assoc]
 refine L _ _ ⟨by simp, by simp, by simp, ?_, ?_, ?_, .inl ⟨rfl, rfl⟩, rfl, by simp, by simp⟩ ?_ ?_ ?_ ?_ ?_ ?_ <;> simp [keysE, nmG, moreE]
end Go.Proofs.YtcflbdikkcpiaaaGreatDoor
