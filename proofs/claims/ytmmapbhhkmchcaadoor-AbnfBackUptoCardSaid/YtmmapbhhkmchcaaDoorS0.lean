/-
  The machine of this seat; functions of the library on strings.
-/
import Derived.Test.YtmmapbhhkmchcaaDoorAc
import Derived.Test.YtmmapbhhkmchcaaDoorSh
import Derived.Lib.Case
set_option linter.unusedVariables false
set_option linter.unusedSimpArgs false
set_option maxRecDepth 20000
namespace Go.Proofs.YtmmapbhhkmchcaaDoor
open Go Go.Am Go.RowKit

def itPat (a : List AV) : Option AV := match a with
  | [.int .i64 n] => if -9223372036854775808 ≤ n ∧ n ≤ 9223372036854775807 then some (.str (Lib.itoa n)) else none
  | _ => none
def strsOf : List AV → Option (List (List UInt8))
  | [] => some []
  | .str s :: l => (strsOf l).map (s :: ·)
  | _ :: _ => none
def jnPat (a : List AV) : Option AV := match a with
  | [.list 1 xs r, .str t] => match strsOf xs with
    | some l => if l.length ≤ 140737488355328 ∧ (Lib.join l t).length ≤ 140737488355328 then some (.str (Lib.join l t)) else none
    | none => none
  | _ => none
def XS : CallO := orX (ibsX 88) (orX (fX 63 itPat) (fX 37 jnPat))
noncomputable abbrev M : Orc := lim XS T
theorem call_of {f : FuncId} {F : AF} {args : List AV} {h : Heap} {r : AV × Heap} (hF : T f = some F) (hX : XS f args h = none) (hc : callF M F args h = some r) : M.call f args h = some r := lim_call_of hF hX hc

theorem strsOf_eq : ∀ {xs : List AV} {l : List (List UInt8)}, strsOf xs = some l → xs = l.map AV.str
  | [], l, h => by injection h with h; subst h; rfl
  | x :: xs, l, h => by
    cases x with
    | str s =>
      cases hs : strsOf xs with
      | none => simp [strsOf, hs] at h
      | some l' =>
        simp only [strsOf, hs, Option.map_some, Option.some.injEq] at h
        subst h
        rw [strsOf_eq hs]
        rfl
    | _ => cases h
theorem strsOf_map : ∀ (l : List (List UInt8)), strsOf (l.map AV.str) = some l
  | [] => rfl
  | s :: l => by simp [strsOf, strsOf_map l]
theorem grow_below (w : World) (k : Nat) (os : Array Obj) : Below w.heap.size w (Sort.grow (w.drewN k) os) := by
  refine ⟨rfl, rfl, rfl, by simp [Sort.grow, World.drewN], fun i hi => ?_⟩
  show (w.heap ++ os)[i]? = w.heap[i]?
  rw [Array.getElem?_append_left hi]
theorem itOk : CallOk Tryd.prog (fX 63 itPat) := by
  refine fX_ok fun args r hp B w0 E h w vs hr hsz hrd => ?_
  unfold itPat at hp
  split at hp
  · rename_i n
    split at hp
    · rename_i hc
      injection hp with hp
      subst hp
      obtain ⟨u, rfl, h1⟩ := args1 (by simpa using hsz) hrd
      rw [h1.inv_int]
      have htab : Lib.TabIs Tryd.prog w "internal/strconv.uint64pow10" .u64 Lib.pow10Tab := by
        obtain ⟨⟨hB, t, fr, hz⟩, _⟩ := hr.z
        have := (hr.below.block 1 hB).trans hz
        have hg : Tryd.prog.globalNamed "internal/strconv.uint64pow10" = some 1 := by kernel_rfl
        unfold Lib.TabIs World.var?
        rw [hg]
        simp only [Option.bind_some, this]
        rfl
      refine fires_of_calls Tryd.func63 rfl (by kernel_rfl) (Tryd.strconv_Itoa n hc.1 hc.2 w htab) ?_
      rintro e w' ⟨rfl, k, os, rfl⟩
      exact ⟨_, rfl, grow_below w k os, .str _⟩
    · cases hp
  · cases hp
theorem jnOk : CallOk Tryd.prog (fX 37 jnPat) := by
  refine fX_ok fun args r hp B w0 E h w vs hr hsz hrd => ?_
  unfold jnPat at hp
  split at hp
  · rename_i xs rt t
    split at hp
    · rename_i l hl
      split at hp
      · rename_i hc
        injection hp with hp
        subst hp
        obtain rfl := strsOf_eq hl
        obtain ⟨u, v, rfl, h1, h2⟩ := args2 (by simpa using hsz) hrd
        rw [h2.inv_str]
        cases h1 with
        | list A n c sz xs r g o vs k1 k2 k3 k4 k5 k6 k7 =>
          cases l with
          | nil =>
            simp at k1
            subst k1
            refine fires_of_calls Tryd.func37 rfl (by kernel_rfl) (Tryd.strings_Join_none A c ⟨⟨t⟩⟩ w) ?_
            rintro e w' ⟨rfl, rfl⟩
            exact ⟨_, rfl, Below.refl _ _, .str _⟩
          | cons x l =>
            have hn : 0 < n := by rw [← k1]; simp
            rw [k3 hn]
            have hcell : ∀ (j : Nat) y, ((x :: l).map fun s : List UInt8 => (⟨⟨s⟩⟩ : ByteArray))[j]? = some y → w.cell? ⟨g, o + j, none⟩ = some (.string y) := by
              intro j y hy
              rw [List.getElem?_map, Option.map_eq_some_iff] at hy
              obtain ⟨s, hs, rfl⟩ := hy
              have hj : j < n := by
                have := (List.getElem?_eq_some_iff.1 hs).1
                rw [← k1]
                simpa using this
              have p := hr.prot g (o + (j * 1 + 0)) _ (k5 j 0 hj (by omega))
              have q := (k6 j (.str s) 0 (.str s) (by rw [List.getElem?_map, hs]; rfl) rfl).inv_str
              rw [q] at p
              simpa using p
            have hbk : g < w.heap.size := by
              have p := hcell 0 _ rfl
              unfold World.cell? at p
              cases hg : w.heap[g]? with
              | none => simp [hg] at p
              | some b => exact (Array.getElem?_eq_some_iff.1 hg).1
            have hlen : ((x :: l).map fun s : List UInt8 => (⟨⟨s⟩⟩ : ByteArray)).length = n := by rw [← k1]; simp
            have e : (((x :: l).map fun s : List UInt8 => (⟨⟨s⟩⟩ : ByteArray)).map (·.data.toList)) = x :: l := by
              rw [List.map_map]
              exact List.map_id _
            have k := Tryd.strings_Join g o c ((x :: l).map fun s : List UInt8 => (⟨⟨s⟩⟩ : ByteArray)) ⟨⟨t⟩⟩ w hcell hbk (by simpa using hc.1) (by rw [hlen]; exact k2) (by rw [e]; exact hc.2)
            rw [hlen, e] at k
            refine fires_of_calls Tryd.func37 rfl (by kernel_rfl) k ?_
            rintro e w' ⟨rfl, hb⟩
            exact ⟨_, rfl, hb, .str _⟩
      · cases hp
    · cases hp
  · cases hp
theorem ibOk : CallOk Tryd.prog (ibsX 88) := ibsX_ok Tryd.func88 rfl (by kernel_rfl) (by kernel_rfl) (by kernel_rfl)
theorem extOk : CallOk Tryd.prog XS := orX_ok ibOk (orX_ok itOk jnOk)
theorem extFr : FrX XS := orX_fr (ibsX_fr _) (orX_fr (fX_fr _ _) (fX_fr _ _))

theorem itoa_ok (n : Int) (h1 : -9223372036854775808 ≤ n) (h2 : n ≤ 9223372036854775807) (h : Heap) : M.call 63 [.int .i64 n] h = some (.str (Lib.itoa n), h) := by
  refine lim_ext ?_
  have : XS 63 [.int .i64 n] h = (itPat [.int .i64 n]).map fun r => (r, h) := by
    cases e : itPat [.int .i64 n] <;> simp [XS, orX, fX, ibsX, e]
  rw [this]
  unfold itPat
  simp only [if_pos (show -9223372036854775808 ≤ n ∧ n ≤ 9223372036854775807 from ⟨h1, h2⟩)]
  rfl
theorem join_ok (l : List (List UInt8)) (t : List UInt8) (r : Rt) (h1 : l.length ≤ 140737488355328) (h2 : (Lib.join l t).length ≤ 140737488355328) (h : Heap) : M.call 37 [.list 1 (l.map AV.str) r, .str t] h = some (.str (Lib.join l t), h) := by
  refine lim_ext ?_
  have : XS 37 [.list 1 (l.map AV.str) r, .str t] h = (jnPat [.list 1 (l.map AV.str) r, .str t]).map fun r => (r, h) := by
    cases e : jnPat [.list 1 (l.map AV.str) r, .str t] <;> simp [XS, orX, fX, ibsX, e]
  rw [this]
  unfold jnPat
  simp only [strsOf_map, if_pos (show l.length ≤ 140737488355328 ∧ (Lib.join l t).length ≤ 140737488355328 from ⟨h1, h2⟩)]
  rfl
theorem forall_u8 {p : UInt8 → Prop} (h : ∀ n : Fin 256, p (UInt8.ofNat n)) (c : UInt8) : p c := by
  have := h ⟨c.toNat, c.toNat_lt⟩
  simpa using this
theorem u8_eq (c : UInt8) (n : Nat) (hn : n < 256) : ((c.toNat : Int) = (n : Int)) = (c = UInt8.ofNat n) := by
  apply propext
  constructor
  · intro e
    apply UInt8.toNat_inj.1
    rw [UInt8.toNat_ofNat', Nat.mod_eq_of_lt hn]
    omega
  · intro e
    rw [e, UInt8.toNat_ofNat', Nat.mod_eq_of_lt hn]

theorem hasPrefix2_ok (s p : List UInt8) (h : Heap) : M.call 79 [.str s, .str p] h = some (.bool (decide (s.take p.length = p)), h) := by
  refine call_of tab79 rfl (callF_wp ?_)
  by_cases hl : p.length ≤ s.length
  · have : (p.length : Int) ≤ s.length := by omega
    simp [wB79, hl, this]
  · have : ¬ (p.length : Int) ≤ s.length := by omega
    have h2 : ¬ s.take p.length = p := fun e => by
      have := congrArg List.length e
      simp at this
      omega
    simp [wB79, hl, h2]
theorem hasPrefix_ok (s p : List UInt8) (h : Heap) : M.call 66 [.str s, .str p] h = some (.bool (decide (s.take p.length = p)), h) := by
  refine call_of tab66 rfl (callF_wp ?_)
  simp [wB66, hasPrefix2_ok]
theorem hasSuffix_ok (s p : List UInt8) (hs : s.length ≤ 1000000000) (h : Heap) : M.call 74 [.str s, .str p] h = some (.bool (decide (p.length ≤ s.length ∧ s.drop (s.length - p.length) = p)), h) := by
  refine call_of tab74 rfl (callF_wp ?_)
  by_cases hl : p.length ≤ s.length
  · have w : IntKind.wrap .i64 ((s.length : Int) - p.length) = ((s.length - p.length : Nat) : Int) := by rw [wrap64 (by omega) (by omega)]; omega
    have : ((s.length - p.length : Nat) : Int) ≤ s.length := by omega
    simp [wB74, hl, w, this]
  · simp [wB74, hl]

def trimSuf (s p : List UInt8) : List UInt8 := if p.length ≤ s.length ∧ s.drop (s.length - p.length) = p then s.take (s.length - p.length) else s
theorem trimSuffix_ok (s p : List UInt8) (hs : s.length ≤ 1000000000) (h : Heap) : M.call 27 [.str s, .str p] h = some (.str (trimSuf s p), h) := by
  have h18 : M.call 56 [.str s, .str p] h = some (.str (trimSuf s p), h) := by
    refine call_of tab56 rfl (callF_wp ?_)
    unfold trimSuf
    by_cases hc : p.length ≤ s.length ∧ s.drop (s.length - p.length) = p
    · have w : IntKind.wrap .i64 ((s.length : Int) - p.length) = ((s.length - p.length : Nat) : Int) := by rw [wrap64 (by omega) (by omega)]; omega
      simp [wB56, hasSuffix_ok s p hs, hc.1, hc.2, w]
    · rw [if_neg hc]
      simp only [Classical.not_and_iff_not_or_not] at hc
      by_cases h1 : p.length ≤ s.length
      · have h2 : ¬ s.drop (s.length - p.length) = p := by rcases hc with hc | hc; exact absurd h1 hc; exact hc
        simp [wB56, hasSuffix_ok s p hs, h1, h2]
      · simp [wB56, hasSuffix_ok s p hs, h1]
  refine call_of tab27 rfl (callF_wp ?_)
  simp [wB27, h18]

theorem ibs_ok (s : List UInt8) (c : UInt8) (h : Heap) : M.call 88 [.str s, .int .u8 c.toNat] h = some (.int .i64 (Lib.indexByte s c), h) := by
  have : XS 88 [.str s, .int .u8 c.toNat] h = some (.int .i64 (Lib.indexByte s c), h) := by
    simp [XS, orX, ibsX]
  exact lim_ext this
theorem indexByte_eq (s : List UInt8) (c : UInt8) : Lib.indexByte s c = if c ∈ s then ((s.takeWhile (· != c)).length : Int) else -1 := by
  induction s with
  | nil => rfl
  | cons x s ih =>
    unfold Lib.indexByte
    rw [ih]
    by_cases hx : x = c
    · subst hx; simp
    · have hx' : ¬ c = x := fun e => hx e.symm
      simp [hx, hx']
      by_cases hm : c ∈ s
      · simp [hm]
        try omega
      · simp [hm]
theorem slIndexByte_ok (s : List UInt8) (c : UInt8) (h : Heap) : M.call 80 [.str s, .int .u8 c.toNat] h = some (.int .i64 (Lib.indexByte s c), h) := by
  refine call_of tab80 rfl (callF_wp ?_)
  simp [wB80, ibs_ok]
/-- strings.Index at one byte. -/
theorem slIndex1_ok (s : List UInt8) (c : UInt8) (h : Heap) : M.call 73 [.str s, .str [c]] h = some (.int .i64 (Lib.indexByte s c), h) := by
  refine call_of tab73 rfl (callF_wp ?_)
  simp [wB73, slIndexByte_ok]
  intro e
  subst e
  simp [Lib.indexByte]
def cutB (s : List UInt8) (c : UInt8) : List UInt8 := s.takeWhile (· != c)
theorem cut_len {s : List UInt8} {c : UInt8} (hm : c ∈ s) : (cutB s c).length + 1 ≤ s.length := by
  induction s with
  | nil => cases hm
  | cons x s ih =>
    unfold cutB at *
    by_cases hx : x = c
    · subst hx; simp
    · have : c ∈ s := by simpa [Ne.symm hx] using hm
      simp [hx]
      exact ih this
theorem cut_all {s : List UInt8} {c : UInt8} (hm : ¬ c ∈ s) : cutB s c = s := by
  induction s with
  | nil => rfl
  | cons x s ih =>
    unfold cutB at *
    simp only [List.mem_cons, not_or] at hm
    have hx : x ≠ c := fun e => hm.1 e.symm
    simp [hx, ih hm.2]
theorem cut_take (s : List UInt8) (c : UInt8) : s.take (cutB s c).length = cutB s c := by
  exact (List.prefix_iff_eq_take.1 (List.takeWhile_prefix _)).symm
/-- strings.Cut at one byte. -/
theorem cut_ok (s : List UInt8) (c : UInt8) (hs : s.length ≤ 1000000000) (h : Heap) : M.call 26 [.str s, .str [c]] h = some (.tup [.str (cutB s c), .str (if c ∈ s then s.drop ((cutB s c).length + 1) else []), .bool (decide (c ∈ s))], h) := by
  have h51 : M.call 55 [.str s, .str [c]] h = some (.tup [.str (cutB s c), .str (if c ∈ s then s.drop ((cutB s c).length + 1) else []), .bool (decide (c ∈ s))], h) := by
    refine call_of tab55 rfl (callF_wp ?_)
    by_cases hm : c ∈ s
    · have hl := cut_len hm
      have e : Lib.indexByte s c = ((cutB s c).length : Int) := by rw [indexByte_eq, if_pos hm]; rfl
      have w : IntKind.wrap .i64 (((cutB s c).length : Int) + 1) = (((cutB s c).length + 1 : Nat) : Int) := by rw [wrap64 (by omega) (by omega)]; rfl
      have l1 : (cutB s c).length ≤ s.length := by omega
      have l2 : ((cutB s c).length : Int) + 1 ≤ s.length := by omega
      have t1 : ((((cutB s c).length : Nat) : Int) + 1).toNat = (cutB s c).length + 1 := by omega
      have l3 : 0 ≤ ((cutB s c).length : Int) + 1 := by omega
      simp [wB55, slIndex1_ok, e, w, hm, l1, l2, l3, t1, cut_take]
    · have e : Lib.indexByte s c = -1 := by rw [indexByte_eq, if_neg hm]
      have hc : cutB s c = s := by
        exact cut_all hm
      simp [wB55, slIndex1_ok, e, hm, hc]
  refine call_of tab26 rfl (callF_wp ?_)
  simp [wB26, h51]
end Go.Proofs.YtmmapbhhkmchcaaDoor
