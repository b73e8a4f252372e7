/-
  The machine of this seat; functions of the library on strings.
-/
import Derived.Test.YtcflbdikkcpiaaaGreatDoorXD
import Derived.Test.YtcflbdikkcpiaaaGreatDoorXE
import Derived.Lib.Case
set_option linter.unusedVariables false
set_option linter.unusedSimpArgs false
set_option maxRecDepth 20000
namespace Go.Proofs.YtcflbdikkcpiaaaGreatDoor
open Go Go.Am Go.RowKit
def itPat (a : List AV) : Option AV := match a with
 | [.int .i64 n] => if -9223372036854775808 ≤ n ∧ n ≤ 9223372036854775807 then some (.str (Lib.itoa n)) else none
 | _ => none
def strsOf : List AV → Option (List (List UInt8))
 | [] => some []
 | .str s :: l => (strsOf l).map (s :: ·)
 | _ :: _ => none
def jnPat (a : List AV) : Option AV := match a with
 | [.list 1 xs r, .str t] => match strsOf xs with
  | some l => if l.length ≤ 140737488355328 ∧ (Lib.join l t).length ≤ 140737488355328 then some (.str (Lib.join l t)) else none
  | none => none
 | _ => none
def XS : CallO := orX (ibsX 137) (orX (fX 71 itPat) (fX 60 jnPat))
noncomputable abbrev M : Orc := lim XS T
theorem call_of {f : FuncId} {F : AF} {args : List AV} {h : Heap} {r : AV × Heap} (hF : T f = some F) (hX : XS f args h = none) (hc : callF M F args h = some r) : M.call f args h = some r := lim_call_of hF hX hc
theorem strsOf_eq : ∀ {xs : List AV} {l : List (List UInt8)}, strsOf xs = some l → xs = l.map AV.str
 | [], l, h => by injection h with h; subst h; rfl
 | x :: xs, l, h => by
  cases x with
  | str s =>
   cases hs : strsOf xs with
   | none => simp [strsOf, hs] at h
   | some l' =>
    simp only [strsOf, hs, Option.map_some, Option.some.injEq] at h
    subst h
    rw [strsOf_eq hs]
    rfl
  | _ => cases h
theorem strsOf_map : ∀ (l : List (List UInt8)), strsOf (l.map AV.str) = some l
 | [] => rfl
 | s :: l => by simp [strsOf, strsOf_map l]
theorem grow_below (w : World) (k : Nat) (os : Array Obj) : Below w.heap.size w (Sort.grow (w.drewN k) os) := by
 refine ⟨rfl, rfl, rfl, by simp [Sort.grow, World.drewN], fun i hi => ?_⟩
 show (w.heap ++ os)[i]? = w.heap[i]?
 rw [Array.getElem?_append_left hi]
theorem itOk : CallOk Tryz.prog (fX 71 itPat) := by
 refine fX_ok fun args r hp B w0 E h w vs hr hsz hrd => ?_
 unfold itPat at hp
 split at hp
 ·rename_i n
  split at hp
  ·rename_i hc
   injection hp with hp
   subst hp
   obtain ⟨u, rfl, h1⟩ := args1 (by simpa using hsz) hrd
   rw [h1.inv_int]
   have htab : Lib.TabIs Tryz.prog w "internal/strconv.uint64pow10" .u64 Lib.pow10Tab := by
    obtain ⟨⟨hB, t, fr, hz⟩, _⟩ := hr.z
    have := (hr.below.block 1 hB).trans hz
    have hg : Tryz.prog.globalNamed "internal/strconv.uint64pow10" = some 1 := by kernel_rfl
    unfold Lib.TabIs World.var?
    rw [hg]
    simp only [Option.bind_some, this]
    rfl
   refine fires_of_calls Tryz.func71 rfl (by kernel_rfl) (Tryz.strconv_Itoa n hc.1 hc.2 w htab) ?_
   rintro e w' ⟨rfl, k, os, rfl⟩
   exact ⟨_, rfl, grow_below w k os, .str _⟩
  ·cases hp
 ·cases hp
theorem jnOk : CallOk Tryz.prog (fX 60 jnPat) := by
 refine fX_ok fun args r hp B w0 E h w vs hr hsz hrd => ?_
 unfold jnPat at hp
 split at hp
 ·rename_i xs rt t
  split at hp
  ·rename_i l hl
   split at hp
   ·rename_i hc
    injection hp with hp
    subst hp
    obtain rfl := strsOf_eq hl
    obtain ⟨u, v, rfl, h1, h2⟩ := args2 (by simpa using hsz) hrd
    rw [h2.inv_str]
    cases h1 with
    | list A n c sz xs r g o vs k1 k2 k3 k4 k5 k6 k7 =>
     cases l with
     | nil =>
      simp at k1
      subst k1
      refine fires_of_calls Tryz.func60 rfl (by kernel_rfl) (Tryz.strings_Join_none A c ⟨⟨t⟩⟩ w) ?_
      rintro e w' ⟨rfl, rfl⟩
      exact ⟨_, rfl, Below.refl _ _, .str _⟩
     | cons x l =>
      have hn : 0 < n := by rw [← k1]; simp
      rw [k3 hn]
      have hcell : ∀ (j : Nat) y, ((x :: l).map fun s : List UInt8 => (⟨⟨s⟩⟩ : ByteArray))[j]? = some y → w.cell? ⟨g, o + j, none⟩ = some (.string y) := by
       intro j y hy
       rw [List.getElem?_map, Option.map_eq_some_iff] at hy
       obtain ⟨s, hs, rfl⟩ := hy
       have hj : j < n := by
        have := (List.getElem?_eq_some_iff.1 hs).1
        rw [← k1]
        simpa using this
       have p := hr.prot g (o + (j * 1 + 0)) _ (k5 j 0 hj (by omega))
       have q := (k6 j (.str s) 0 (.str s) (by rw [List.getElem?_map, hs]; rfl) rfl).inv_str
       rw [q] at p
       simpa using p
      have hbk : g < w.heap.size := by
       have p := hcell 0 _ rfl
       unfold World.cell? at p
       cases hg : w.heap[g]? with
       | none => simp [hg] at p
       | some b => exact (Array.getElem?_eq_some_iff.1 hg).1
      have hlen : ((x :: l).map fun s : List UInt8 => (⟨⟨s⟩⟩ : ByteArray)).length = n := by rw [← k1]; simp
      have e : (((x :: l).map fun s : List UInt8 => (⟨⟨s⟩⟩ : ByteArray)).map (·.data.toList)) = x :: l := by
       rw [List.map_map]
       exact List.map_id _
      have k := Tryz.strings_Join g o c ((x :: l).map fun s : List UInt8 => (⟨⟨s⟩⟩ : ByteArray)) ⟨⟨t⟩⟩ w hcell hbk (by simpa using hc.1) (by rw [hlen]; exact k2) (by rw [e]; exact hc.2)
      rw [hlen, e] at k
      refine fires_of_calls Tryz.func60 rfl (by kernel_rfl) k ?_
      rintro e w' ⟨rfl, hb⟩
      exact ⟨_, rfl, hb, .str _⟩
   ·cases hp
  ·cases hp
 ·cases hp
theorem ibOk : CallOk Tryz.prog (ibsX 137) := ibsX_ok Tryz.func137 rfl (by kernel_rfl) (by kernel_rfl) (by kernel_rfl)
theorem extOk : CallOk Tryz.prog XS := orX_ok ibOk (orX_ok itOk jnOk)
theorem extFr : FrX XS := orX_fr (ibsX_fr _) (orX_fr (fX_fr _ _) (fX_fr _ _))
theorem itoa_ok (n : Int) (h1 : -9223372036854775808 ≤ n) (h2 : n ≤ 9223372036854775807) (h : Heap) : M.call 71 [.int .i64 n] h = some (.str (Lib.itoa n), h) := by
 refine lim_ext ?_
 have : XS 71 [.int .i64 n] h = (itPat [.int .i64 n]).map fun r => (r, h) := by
  cases e : itPat [.int .i64 n] <;> simp [XS, orX, fX, ibsX, e]
 rw [this]
 unfold itPat
 simp only [if_pos (show -9223372036854775808 ≤ n ∧ n ≤ 9223372036854775807 from ⟨h1, h2⟩)]
 rfl
theorem join_ok (l : List (List UInt8)) (t : List UInt8) (r : Rt) (h1 : l.length ≤ 140737488355328) (h2 : (Lib.join l t).length ≤ 140737488355328) (h : Heap) : M.call 60 [.list 1 (l.map AV.str) r, .str t] h = some (.str (Lib.join l t), h) := by
 refine lim_ext ?_
 have : XS 60 [.list 1 (l.map AV.str) r, .str t] h = (jnPat [.list 1 (l.map AV.str) r, .str t]).map fun r => (r, h) := by
  cases e : jnPat [.list 1 (l.map AV.str) r, .str t] <;> simp [XS, orX, fX, ibsX, e]
 rw [this]
 unfold jnPat
 simp only [strsOf_map, if_pos (show l.length ≤ 140737488355328 ∧ (Lib.join l t).length ≤ 140737488355328 from ⟨h1, h2⟩)]
 rfl
theorem forall_u8 {p : UInt8 → Prop} (h : ∀ n : Fin 256, p (UInt8.ofNat n)) (c : UInt8) : p c := by
 have := h ⟨c.toNat, c.toNat_lt⟩
 simpa using this
theorem u8_eq (c : UInt8) (n : Nat) (hn : n < 256) : ((c.toNat : Int) = (n : Int)) = (c = UInt8.ofNat n) := by
 apply propext
 constructor
 ·intro e
  apply UInt8.toNat_inj.1
  rw [UInt8.toNat_ofNat', Nat.mod_eq_of_lt hn]
  omega
 ·intro e
  rw [e, UInt8.toNat_ofNat', Nat.mod_eq_of_lt hn]
theorem hasPrefix2_ok (s p : List UInt8) (h : Heap) : M.call 126 [.str s, .str p] h = some (.bool (decide (s.take p.length = p)), h) := by
 refine call_of tab126 rfl (callF_wp ?_)
 by_cases hl : p.length ≤ s.length
 ·have : (p.length : Int) ≤ s.length := by omega
  simp [wB126, hl, this]
 ·have : ¬ (p.length : Int) ≤ s.length := by omega
  have h2 : ¬ s.take p.length = p := fun e => by
   have := congrArg List.length e
   simp at this
   omega
  simp [wB126, hl, h2]
theorem hasPrefix_ok (s p : List UInt8) (h : Heap) : M.call 112 [.str s, .str p] h = some (.bool (decide (s.take p.length = p)), h) := by
 refine call_of tab112 rfl (callF_wp ?_)
 simp [wB112, hasPrefix2_ok]
theorem hasSuffix_ok (s p : List UInt8) (hs : s.length ≤ 1000000000) (h : Heap) : M.call 120 [.str s, .str p] h = some (.bool (decide (p.length ≤ s.length ∧ s.drop (s.length - p.length) = p)), h) := by
 refine call_of tab120 rfl (callF_wp ?_)
 by_cases hl : p.length ≤ s.length
 ·have w : IntKind.wrap .i64 ((s.length : Int) - p.length) = ((s.length - p.length : Nat) : Int) := by rw [wrap64 (by omega) (by omega)]; omega
  have : ((s.length - p.length : Nat) : Int) ≤ s.length := by omega
  simp [wB120, hl, w, this]
 ·simp [wB120, hl]
def trimSuf (s p : List UInt8) : List UInt8 := if p.length ≤ s.length ∧ s.drop (s.length - p.length) = p then s.take (s.length - p.length) else s
theorem trimSuffix_ok (s p : List UInt8) (hs : s.length ≤ 1000000000) (h : Heap) : M.call 74 [.str s, .str p] h = some (.str (trimSuf s p), h) := by
 have h18 : M.call 103 [.str s, .str p] h = some (.str (trimSuf s p), h) := by
  refine call_of tab103 rfl (callF_wp ?_)
  unfold trimSuf
  by_cases hc : p.length ≤ s.length ∧ s.drop (s.length - p.length) = p
  ·have w : IntKind.wrap .i64 ((s.length : Int) - p.length) = ((s.length - p.length : Nat) : Int) := by rw [wrap64 (by omega) (by omega)]; omega
   simp [wB103, hasSuffix_ok s p hs, hc.1, hc.2, w]
  ·rw [if_neg hc]
   simp only [Classical.not_and_iff_not_or_not] at hc
   by_cases h1 : p.length ≤ s.length
   ·have h2 : ¬ s.drop (s.length - p.length) = p := by rcases hc with hc | hc; exact absurd h1 hc; exact hc
    simp [wB103, hasSuffix_ok s p hs, h1, h2]
   ·simp [wB103, hasSuffix_ok s p hs, h1]
 refine call_of tab74 rfl (callF_wp ?_)
 simp [wB74, h18]
theorem ibs_ok (s : List UInt8) (c : UInt8) (h : Heap) : M.call 137 [.str s, .int .u8 c.toNat] h = some (.int .i64 (Lib.indexByte s c), h) := by
 have : XS 137 [.str s, .int .u8 c.toNat] h = some (.int .i64 (Lib.indexByte s c), h) := by
  simp [XS, orX, ibsX]
 exact lim_ext this
theorem indexByte_eq (s : List UInt8) (c : UInt8) : Lib.indexByte s c = if c ∈ s then ((s.takeWhile (· != c)).length : Int) else -1 := by
 induction s with
 | nil => rfl
 | cons x s ih =>
  unfold Lib.indexByte
  rw [ih]
  by_cases hx : x = c
  ·subst hx; simp
  ·have hx' : ¬ c = x := fun e => hx e.symm
   simp [hx, hx']
   by_cases hm : c ∈ s
   ·simp [hm]
    try omega
   ·simp [hm]
theorem slIndexByte_ok (s : List UInt8) (c : UInt8) (h : Heap) : M.call 127 [.str s, .int .u8 c.toNat] h = some (.int .i64 (Lib.indexByte s c), h) := by
 refine call_of tab127 rfl (callF_wp ?_)
 simp [wB127, ibs_ok]
theorem slIndex1_ok (s : List UInt8) (c : UInt8) (h : Heap) : M.call 119 [.str s, .str [c]] h = some (.int .i64 (Lib.indexByte s c), h) := by
 refine call_of tab119 rfl (callF_wp ?_)
 simp [wB119, slIndexByte_ok]
 intro e
 subst e
 simp [Lib.indexByte]
def cutB (s : List UInt8) (c : UInt8) : List UInt8 := s.takeWhile (· != c)
theorem cut_len {s : List UInt8} {c : UInt8} (hm : c ∈ s) : (cutB s c).length + 1 ≤ s.length := by
 induction s with
 | nil => cases hm
 | cons x s ih =>
  unfold cutB at *
  by_cases hx : x = c
  ·subst hx; simp
  ·have : c ∈ s := by simpa [Ne.symm hx] using hm
   simp [hx]
   exact ih this
theorem cut_all {s : List UInt8} {c : UInt8} (hm : ¬ c ∈ s) : cutB s c = s := by
 induction s with
 | nil => rfl
 | cons x s ih =>
  unfold cutB at *
  simp only [List.mem_cons, not_or] at hm
  have hx : x ≠ c := fun e => hm.1 e.symm
  simp [hx, ih hm.2]
theorem cut_take (s : List UInt8) (c : UInt8) : s.take (cutB s c).length = cutB s c := by
 exact (List.prefix_iff_eq_take.1 (List.takeWhile_prefix _)).symm
theorem cut_ok (s : List UInt8) (c : UInt8) (hs : s.length ≤ 1000000000) (h : Heap) : M.call 73 [.str s, .str [c]] h = some (.tup [.str (cutB s c), .str (if c ∈ s then s.drop ((cutB s c).length + 1) else []), .bool (decide (c ∈ s))], h) := by
 have h51 : M.call 102 [.str s, .str [c]] h = some (.tup [.str (cutB s c), .str (if c ∈ s then s.drop ((cutB s c).length + 1) else []), .bool (decide (c ∈ s))], h) := by
  refine call_of tab102 rfl (callF_wp ?_)
  by_cases hm : c ∈ s
  ·have hl := cut_len hm
   have e : Lib.indexByte s c = ((cutB s c).length : Int) := by rw [indexByte_eq, if_pos hm]; rfl
   have w : IntKind.wrap .i64 (((cutB s c).length : Int) + 1) = (((cutB s c).length + 1 : Nat) : Int) := by rw [wrap64 (by omega) (by omega)]; rfl
   have l1 : (cutB s c).length ≤ s.length := by omega
   have l2 : ((cutB s c).length : Int) + 1 ≤ s.length := by omega
   have t1 : ((((cutB s c).length : Nat) : Int) + 1).toNat = (cutB s c).length + 1 := by omega
   have l3 : 0 ≤ ((cutB s c).length : Int) + 1 := by omega
   simp [wB102, slIndex1_ok, e, w, hm, l1, l2, l3, t1, cut_take]
  ·have e : Lib.indexByte s c = -1 := by rw [indexByte_eq, if_neg hm]
   have hc : cutB s c = s := by
    exact cut_all hm
   simp [wB102, slIndex1_ok, e, hm, hc]
 refine call_of tab73 rfl (callF_wp ?_)
 simp [wB73, h51]
def letC (c : UInt8) : Bool := decide (97 ≤ c.toNat ∧ c.toNat ≤ 122 ∨ 65 ≤ c.toNat ∧ c.toNat ≤ 90)
def digC (c : UInt8) : Bool := decide (48 ≤ c.toNat ∧ c.toNat ≤ 57)
def blkC (c : UInt8) : Bool := c == 32 || c == 9
def namC (c : UInt8) : Bool := letC c || digC c || c == 45
def nib (c : UInt8) : Nat := if digC c then c.toNat - 48 else if 97 ≤ c.toNat ∧ c.toNat ≤ 102 then c.toNat - 87 else if 65 ≤ c.toNat ∧ c.toNat ≤ 70 then c.toNat - 55 else 16
def low (c : UInt8) : Nat := (c ||| 32).toNat
theorem or32 (c : UInt8) : bitsOp .or .u8 (c.toNat : Int) 32 = (low c : Int) := by
 revert c
 apply forall_u8
 decide +kernel
theorem low_let (c : UInt8) : (97 ≤ low c ∧ low c ≤ 122) = (letC c = true) := by
 apply propext
 revert c
 apply forall_u8
 decide +kernel
theorem low_hex (c : UInt8) : (97 ≤ low c ∧ low c ≤ 102) = (97 ≤ c.toNat ∧ c.toNat ≤ 102 ∨ 65 ≤ c.toNat ∧ c.toNat ≤ 70) := by
 apply propext
 revert c
 apply forall_u8
 decide +kernel
theorem low_val (c : UInt8) (h : 97 ≤ low c ∧ low c ≤ 102) : digC c = false ∧ low c - 87 = nib c := by
 revert c
 apply forall_u8
 decide +kernel
theorem nib_le (c : UInt8) : nib c ≤ 16 := by
 revert c
 apply forall_u8
 decide +kernel
theorem blank_ok (c : UInt8) (h : Heap) : M.call 76 [.int .u8 c.toNat] h = some (.bool (blkC c), h) := by
 refine call_of tab76 rfl (callF_wp ?_)
 have e1 := u8_eq c 32 (by omega)
 have e2 := u8_eq c 9 (by omega)
 simp at e1 e2
 by_cases h1 : c = 32 <;> by_cases h2 : c = 9 <;> simp [wB76, e1, e2, h1, h2, blkC]
theorem letter_ok (c : UInt8) (h : Heap) : M.call 77 [.int .u8 c.toNat] h = some (.bool (letC c), h) := by
 refine call_of tab77 rfl (callF_wp ?_)
 have e := low_let c
 by_cases h1 : 97 ≤ low c
 ·have h1' : 97 ≤ (low c : Int) := by omega
  by_cases h2 : low c ≤ 122
  ·have h2' : (low c : Int) ≤ 122 := by omega
   have e' : letC c = true := e ▸ ⟨h1, h2⟩
   simp [wB77, or32, h1', h2', e']
  ·have h2' : ¬ (low c : Int) ≤ 122 := by omega
   have e' : letC c = false := by
    cases hl : letC c with
    | false => rfl
    | true => rw [hl] at e; exact absurd (e ▸ rfl : 97 ≤ low c ∧ low c ≤ 122).2 h2
   simp [wB77, or32, h1', h2', e']
 ·have h1' : ¬ 97 ≤ (low c : Int) := by omega
  have e' : letC c = false := by
   cases hl : letC c with
   | false => rfl
   | true => rw [hl] at e; exact absurd (e ▸ rfl : 97 ≤ low c ∧ low c ≤ 122).1 h1
  simp [wB77, or32, h1', e']
theorem digit_ok (c : UInt8) (h : Heap) : M.call 95 [.int .u8 c.toNat] h = some (.bool (digC c), h) := by
 refine call_of tab95 rfl (callF_wp ?_)
 unfold digC
 by_cases h1 : 48 ≤ c.toNat
 ·have h1' : 48 ≤ (c.toNat : Int) := by omega
  by_cases h2 : c.toNat ≤ 57
  ·have h2' : (c.toNat : Int) ≤ 57 := by omega
   simp [wB95, h1, h2, h1', h2']
  ·have h2' : ¬ (c.toNat : Int) ≤ 57 := by omega
   simp [wB95, h1, h2, h1', h2']
 ·have h1' : ¬ 48 ≤ (c.toNat : Int) := by omega
  simp [wB95, h1, h1']
theorem nibble_ok (c : UInt8) (h : Heap) : M.call 118 [.int .u8 c.toNat] h = some (.int .i64 (nib c), h) := by
 refine call_of tab118 rfl (callF_wp ?_)
 have hc := c.toNat_lt
 cases hd : digC c with
 | true =>
  have h1 : 48 ≤ c.toNat ∧ c.toNat ≤ 57 := by simpa [digC] using hd
  have w1 : IntKind.wrap .u8 ((c.toNat : Int) - 48) = ((c.toNat - 48 : Nat) : Int) := by rw [wrap8 (by omega) (by omega)]; omega
  have w2 : IntKind.wrap .i64 ((c.toNat - 48 : Nat) : Int) = ((c.toNat - 48 : Nat) : Int) := wrap64 (by omega) (by omega)
  simp [wB118, digit_ok, hd, w1, w2, nib]
 | false =>
  have hl := low_val c
  have hh := low_hex c
  by_cases h1 : 97 ≤ low c
  ·have h1' : 97 ≤ (low c : Int) := by omega
   by_cases h2 : low c ≤ 102
   ·have h2' : (low c : Int) ≤ 102 := by omega
    have w1 : IntKind.wrap .u8 ((low c : Int) - 97) = ((low c - 97 : Nat) : Int) := by rw [wrap8 (by omega) (by omega)]; omega
    have w2 : IntKind.wrap .i64 ((low c - 97 : Nat) : Int) = ((low c - 97 : Nat) : Int) := wrap64 (by omega) (by omega)
    have w3 : IntKind.wrap .i64 (((low c - 97 : Nat) : Int) + 10) = (nib c : Int) := by
     have := (hl ⟨h1, h2⟩).2
     rw [wrap64 (by omega) (by omega)]; omega
    simp [wB118, digit_ok, hd, or32, h1', h2', w1, w2, w3]
   ·have h2' : ¬ (low c : Int) ≤ 102 := by omega
    have hn : nib c = 16 := by
     have : ¬ (97 ≤ c.toNat ∧ c.toNat ≤ 102 ∨ 65 ≤ c.toNat ∧ c.toNat ≤ 70) := by rw [← hh]; omega
     unfold nib; rw [hd]
     rw [if_neg (by simp), if_neg (by omega), if_neg (by omega)]
    simp [wB118, digit_ok, hd, or32, h1', h2', hn]
  ·have h1' : ¬ 97 ≤ (low c : Int) := by omega
   have hn : nib c = 16 := by
    have : ¬ (97 ≤ c.toNat ∧ c.toNat ≤ 102 ∨ 65 ≤ c.toNat ∧ c.toNat ≤ 70) := by rw [← hh]; omega
    unfold nib; rw [hd]
    rw [if_neg (by simp), if_neg (by omega), if_neg (by omega)]
   simp [wB118, digit_ok, hd, or32, h1', hn]
def runN (p : UInt8 → Bool) (s : List UInt8) : Nat := (s.takeWhile p).length
theorem runN_le (p : UInt8 → Bool) (s : List UInt8) : runN p s ≤ s.length := by unfold runN; exact (List.takeWhile_prefix p).length_le
theorem runN_get {p : UInt8 → Bool} : ∀ {s : List UInt8} {i : Nat} {c : UInt8}, i < runN p s → s[i]? = some c → p c = true
 | [], i, c, h, hc => by simp at hc
 | x :: s, i, c, h, hc => by
  unfold runN at h
  by_cases hx : p x = true
  ·match i with
   | 0 => simp at hc; subst hc; exact hx
   | i + 1 =>
    simp [hx] at h
    exact runN_get (s := s) (i := i) h (by simpa using hc)
  ·simp [hx] at h
theorem runN_end {p : UInt8 → Bool} : ∀ {s : List UInt8} {c : UInt8}, s[runN p s]? = some c → p c = false
 | [], c, hc => by simp at hc
 | x :: s, c, hc => by
  unfold runN at hc
  by_cases hx : p x = true
  ·simp [hx] at hc
   exact runN_end (s := s) hc
  ·simp [hx] at hc
   subst hc
   simpa using hx
def InvR (s : List UInt8) (g : FuncId) (caps : List AV) (p : UInt8 → Bool) (h0 : Heap) (k : Nat) (σ : Slots) (h : Heap) : Prop := ∃ i, i ≤ runN p s ∧ k = runN p s - i ∧ σ 0 = .str s ∧ σ 1 = .fn g caps ∧ σ 5 = .int .i64 i ∧ h = h0
theorem run_ok (s : List UInt8) (g : FuncId) (caps : List AV) (p : UInt8 → Bool) (h0 : Heap) (hs : s.length ≤ 1000000000) (hp : ∀ c ∈ s, M.call g (.int .u8 c.toNat :: caps) h0 = some (.bool (p c), h0)) :
  M.call 75 [.str s, .fn g caps] h0 = some (.int .i64 (runN p s), h0) := by
 refine call_of tab75 rfl (callF_wp ?_)
 simp [wB75]
 refine Wp.loop (InvR s g caps p h0) ?_ (n := runN p s) ⟨0, by omega, by omega, by simp, by simp, by simp, rfl⟩
 rintro k σ h ⟨i, hi, rfl, s0, s1, s5, rfl⟩
 have hle := runN_le p s
 by_cases hlt : i < s.length
 ·obtain ⟨c, ec⟩ : ∃ c, s[i]? = some c := ⟨_, List.getElem?_eq_getElem hlt⟩
  have hcall := hp c (List.mem_of_getElem? ec)
  have e64 : IntKind.wrap .i64 ((i : Int) + 1) = ((i + 1 : Nat) : Int) := by rw [wrap64 (by omega) (by omega)]; rfl
  by_cases hr : i < runN p s
  ·rw [runN_get hr ec] at hcall
   simp [-getElem?_pos, wL75_0, s0, s1, s5, hlt, ec, hcall, e64]
   exact ⟨runN p s - (i + 1), by omega, i + 1, by omega, rfl, by simp [s0], by simp [s1], by simp, rfl⟩
  ·have hir : i = runN p s := by omega
   subst hir
   rw [runN_end ec] at hcall
   simp [-getElem?_pos, wL75_0, wK75_0, s0, s1, s5, hlt, ec, hcall]
 ·have hir : i = runN p s := by omega
  simp [wL75_0, wK75_0, s0, s1, s5, hlt, hir]
  have : ¬ runN p s < s.length := by omega
  simp [this, hir, wK75_0, s5]
def numN (base : Nat) (s : List UInt8) : Nat := s.foldl (fun n c => n * base + nib c) 0
theorem numN_le (base : Nat) (hb : base ≤ 16) (s : List UInt8) : numN base s + 2 ≤ 18 ^ (s.length + 1) := by
 have : ∀ (s : List UInt8) (n k : Nat), n + 2 ≤ 18 ^ (k + 1) → s.foldl (fun n c => n * base + nib c) n + 2 ≤ 18 ^ (k + s.length + 1) := by
  intro s
  induction s with
  | nil => intro n k h; simpa using h
  | cons c s ih =>
   intro n k h
   have hn := nib_le c
   have h1 : n * base ≤ n * 16 := Nat.mul_le_mul_left n hb
   have h2 : n * base + nib c + 2 ≤ 18 ^ (k + 1 + 1) := by rw [Nat.pow_succ 18 (k + 1)]; have : 18 ≤ 18 ^ (k + 1) := by rw [Nat.pow_succ]; exact Nat.le_mul_of_pos_left 18 (Nat.pow_pos (by omega))
                                                           omega
   have := ih _ (k + 1) h2
   simp only [List.foldl_cons, List.length_cons]
   rw [show k + (s.length + 1) + 1 = k + 1 + s.length + 1 by omega]
   exact this
 simpa [numN] using this s 0 0 (by omega)
def InvN (s : List UInt8) (base : Nat) (h0 : Heap) (k : Nat) (σ : Slots) (h : Heap) : Prop := ∃ i, i ≤ s.length ∧ k = s.length - i ∧ σ 0 = .str s ∧ σ 1 = .int .i64 base ∧ σ 8 = .int .i64 s.length ∧ σ 5 = .int .i64 (numN base (s.take i)) ∧ σ 9 = .int .i64 i ∧ h = h0
theorem number_ok (s : List UInt8) (base : Nat) (h0 : Heap) (hs : s.length ≤ 8) (hb : base ≤ 16) : M.call 114 [.str s, .int .i64 base] h0 = some (.int .i64 (numN base s), h0) := by
 refine call_of tab114 rfl (callF_wp ?_)
 simp [wB114]
 refine Wp.loop (InvN s base h0) ?_ (n := s.length) ⟨0, by omega, by omega, by simp, by simp, by simp, by simp [numN], by simp, rfl⟩
 rintro k σ h ⟨i, hi, rfl, s0, s1, s8, s5, s9, rfl⟩
 by_cases hlt : i < s.length
 ·obtain ⟨c, ec⟩ : ∃ c, s[i]? = some c := ⟨_, List.getElem?_eq_getElem hlt⟩
  have e64 : IntKind.wrap .i64 ((i : Int) + 1) = ((i + 1 : Nat) : Int) := by rw [wrap64 (by omega) (by omega)]; rfl
  have hn := numN_le base hb (s.take i)
  have hp : 18 ^ ((s.take i).length + 1) ≤ 18 ^ 9 := Nat.pow_le_pow_right (by omega) (by simp; omega)
  have hm : numN base (s.take i) * base ≤ numN base (s.take i) * 16 := Nat.mul_le_mul_left _ hb
  have hnb := nib_le c
  have hst : numN base (s.take (i + 1)) = numN base (s.take i) * base + nib c := by simp [numN, List.take_add_one, ec]
  generalize numN base (s.take i) = n at *
  have w1 : IntKind.wrap .i64 ((n : Int) * base) = ((n * base : Nat) : Int) := by rw [wrap64 (by omega) (by omega)]; simp
  have w2 : IntKind.wrap .i64 (((n * base : Nat) : Int) + (nib c : Int)) = ((n * base + nib c : Nat) : Int) := by rw [wrap64 (by omega) (by omega)]; simp
  simp [-getElem?_pos, -Int.natCast_mul, wL114_0, s0, s1, s8, s5, s9, hlt, ec, nibble_ok, e64, w1, w2]
  exact ⟨s.length - (i + 1), by omega, i + 1, by omega, rfl, by simp [s0], by simp [s1], by simp [s8], by rw [hst]; simp, by simp, rfl⟩
 ·have : s.take i = s := List.take_of_length_le (by omega)
  rw [this] at s5
  simp [wL114_0, wK114_0, s8, s5, s9, hlt]
structure Tok where
 kind : UInt8 := 0
 pos : Int := 0
 text : List UInt8 := []
 mn : Int := 0
 mx : Int := 0
 lo : UInt8 := 0
 hi : UInt8 := 0
 deriving DecidableEq, Inhabited
def tokL (t : Tok) : List AV := [.int .u8 t.kind.toNat, .int .i64 t.pos, .str t.text, .int .i64 t.mn, .int .i64 t.mx, .int .u8 t.lo.toNat, .int .u8 t.hi.toNat]
def tokA (t : Tok) : AV := .agg (tokL t)
structure Fd where
 tok : Tok := {}
 n : Nat := 0
 err : Int := 0
 deriving DecidableEq, Inhabited
def fdA (f : Fd) : AV := .agg (tokL f.tok ++ [.int .i64 f.n, .int .i64 f.err])
def nameP (s : List UInt8) : Fd := { tok := { kind := 1, text := s.take (runN namC s) }, n := runN namC s }
def isP (s : List UInt8) : Fd := if s.take 2 = [61, 47] then { tok := { kind := 3 }, n := 2 } else { tok := { kind := 2 }, n := 1 }
def signP (k : UInt8) : Fd := { tok := { kind := k }, n := 1 }
def timesP (s : List UInt8) : Fd :=
 let a := runN digC s
 let star : Bool := s[a]? == some 42
 let b := if star then runN digC (s.drop (a + 1)) else 0
 if a > 4 then { err := 12 }
 else if b > 4 then { n := a + 1, err := 12 }
 else
  let mn : Int := numN 10 (s.take a)
  if !star then { tok := { kind := 9, mn := mn, mx := mn }, n := a }
  else
   let mx : Int := if b > 0 then (numN 10 ((s.drop (a + 1)).take b) : Int) else -1
   if mx ≥ 0 ∧ mx < mn then { err := 13 } else { tok := { kind := 9, mn := mn, mx := mx }, n := a + 1 + b }
def okC (c : UInt8) : Bool := decide (32 ≤ c.toNat ∧ c.toNat ≤ 126)
def charsP (s : List UInt8) : Fd :=
 let t := cutB s.tail 34
 if 34 ∈ s.tail ∧ t.all okC = true then { tok := { kind := 10, text := t }, n := t.length + 2 } else { err := 14 }
theorem name1_ok (c : UInt8) (h : Heap) : M.call 111 [.int .u8 c.toNat] h = some (.bool (namC c), h) := by
 refine call_of tab111 rfl (callF_wp ?_)
 have e1 := u8_eq c 45 (by omega)
 have e2 : ((c.toNat : Int) = 45) = ((c == 45) = true) := by
  rw [show ((c == 45) = true) = (c = 45) by simp]
  exact e1
 unfold namC
 cases h3 : c == 45 <;> rw [h3] at e2
 ·simp at e2
  have e3 := eq_false e2
  cases h1 : letC c <;> cases h2 : digC c <;> simp [wB111, letter_ok, digit_ok, h1, h2, e3]
 ·have e3 : ((c.toNat : Int) = 45) = True := by rw [e2]; simp
  cases h1 : letC c <;> cases h2 : digC c <;> simp [wB111, letter_ok, digit_ok, h1, h2, e3]
theorem name_ok (s : List UInt8) (hs : s.length ≤ 1000000000) (h : Heap) : M.call 91 [.str s] h = some (fdA (nameP s), h) := by
 refine call_of tab91 rfl (callF_wp ?_)
 have hr := fun h => run_ok s 111 [] namC h hs (fun c _ => name1_ok c h)
 have hl := runN_le namC s
 have hl' : ((runN namC s : Nat) : Int) ≤ s.length := by omega
 simp [wB91, hr, hl, fdA, nameP, tokL, Nat.add_assoc]
theorem is_ok (s : List UInt8) (h : Heap) : M.call 92 [.str s] h = some (fdA (isP s), h) := by
 refine call_of tab92 rfl (callF_wp ?_)
 unfold isP
 by_cases hc : s.take 2 = [61, 47]
 ·simp [wB92, hasPrefix_ok, hc, fdA, tokL]
 ·simp [wB92, hasPrefix_ok, hc, fdA, tokL]
theorem sign1_ok (k : UInt8) (s : List UInt8) (b : Nat) (h : Heap) (hb : h[b]? = some (.cells [.int .u8 k.toNat])) : M.call 113 [.str s, .ptr b 0] h = some (fdA (signP k), h) := by
 refine call_of tab113 rfl (callF_wp ?_)
 simp [wB113, get_left hb, fdA, signP, tokL]
theorem prose_ok (s : List UInt8) (h : Heap) : M.call 99 [.str s] h = some (fdA { err := 16 }, h) := by
 refine call_of tab99 rfl (callF_wp ?_)
 simp [wB99, fdA, tokL]
theorem byte_ok (s : List UInt8) (h : Heap) : M.call 101 [.str s] h = some (fdA { err := 11 }, h) := by
 refine call_of tab101 rfl (callF_wp ?_)
 simp [wB101, fdA, tokL]
theorem times_ok (s : List UInt8) (hs : s.length ≤ 1000000000) (h : Heap) : M.call 96 [.str s] h = some (fdA (timesP s), h) := by
 refine call_of tab96 rfl (callF_wp ?_)
 have hr := fun h => run_ok s 95 [] digC h hs (fun c _ => digit_ok c h)
 have hr2 := fun h => run_ok (s.drop (runN digC s + 1)) 95 [] digC h (by simp; omega) (fun c _ => digit_ok c h)
 have hl := runN_le digC s
 have hl2 := runN_le digC (s.drop (runN digC s + 1))
 simp at hl2
 have hn1 := fun (h : Heap) (hl : runN digC s ≤ 8) => number_ok (s.take (runN digC s)) 10 h (by simp; omega) (by omega)
 have hn2 := fun (h : Heap) (hl : runN digC (s.drop (runN digC s + 1)) ≤ 8) => number_ok ((s.drop (runN digC s + 1)).take (runN digC (s.drop (runN digC s + 1)))) 10 h (by simp; omega) (by omega)
 unfold timesP
 simp only
 generalize ha : runN digC s = a at *
 generalize hb : runN digC (s.drop (a + 1)) = b at *
 have w1 : a ≤ s.length → IntKind.wrap .i64 ((a : Int) + 1) = ((a + 1 : Nat) : Int) := fun _ => by rw [wrap64 (by omega) (by omega)]; rfl
 have w1' := w1 hl
 have w2 : IntKind.wrap .i64 (((a + 1 : Nat) : Int) + b) = ((a + 1 + b : Nat) : Int) := by rw [wrap64 (by omega) (by omega)]; simp
 -- the reading behind the numbers of digits
 cases hstar : (s[a]? == some 42) with
 | false =>
  simp only [Bool.false_eq_true, if_false]
  have hne : ∀ c, s[a]? = some c → ((c.toNat : Int) = 42) = False := fun c hc => by
   show ((c.toNat : Int) = ((42 : Nat) : Int)) = False
   rw [u8_eq c 42 (by omega)]
   apply eq_false
   intro e
   rw [hc, e] at hstar
   simp at hstar
  by_cases h4 : a > 4
  ·have h4' : 4 < (a : Int) := by omega
   rcases Nat.lt_or_ge a s.length with hlt | hge
   ·obtain ⟨c, ec⟩ : ∃ c, s[a]? = some c := ⟨_, List.getElem?_eq_getElem hlt⟩
    simp [-getElem?_pos, wB96, wJ96_0, wJ96_1, hr, hlt, ec, hne c ec, h4, h4', fdA, tokL]
   ·have hge' : ¬ a < s.length := by omega
    simp [-getElem?_pos, wB96, wJ96_0, wJ96_1, hr, hge', h4, h4', fdA, tokL]
  ·have h4' : ¬ 4 < (a : Int) := by omega
   have hn1' := fun h => hn1 h (by omega)
   simp at hn1'
   rcases Nat.lt_or_ge a s.length with hlt | hge
   ·obtain ⟨c, ec⟩ : ∃ c, s[a]? = some c := ⟨_, List.getElem?_eq_getElem hlt⟩
    simp [-getElem?_pos, wB96, wJ96_0, wJ96_1, hr, hlt, ec, hne c ec, h4, h4', hl, hn1', fdA, tokL, Nat.add_assoc]
   ·have hge' : ¬ a < s.length := by omega
    simp [-getElem?_pos, wB96, wJ96_0, wJ96_1, hr, hge', h4, h4', hl, hn1', fdA, tokL, Nat.add_assoc]
 | true =>
  have hsa : s[a]? = some 42 := by simpa using hstar
  have hlt : a < s.length := (List.getElem?_eq_some_iff.1 hsa).1
  have hl1 : a + 1 ≤ s.length := hlt
  have hl1' : (a : Int) + 1 ≤ s.length := by omega
  have t1 : ((a : Int) + 1).toNat = a + 1 := by omega
  have z1 : 0 ≤ (a : Int) + 1 := by omega
  simp only [if_true, Bool.not_true, Bool.false_eq_true, if_false]
  by_cases h4 : a > 4
  ·have h4' : 4 < (a : Int) := by omega
   simp [-getElem?_pos, wB96, wJ96_0, wJ96_1, hr, hr2, w1', hlt, hsa, hl1', t1, z1, h4, h4', fdA, tokL]
  ·have h4' : ¬ 4 < (a : Int) := by omega
   have hn1' := fun h => hn1 h (by omega)
   simp at hn1'
   by_cases h5 : b > 4
   ·have h5' : 4 < (b : Int) := by omega
    simp [-getElem?_pos, wB96, wJ96_0, wJ96_1, hr, hr2, w1', hlt, hsa, hl1', t1, z1, h4, h4', h5, h5', fdA, tokL]
   ·have h5' : ¬ 4 < (b : Int) := by omega
    have hn2' := fun h => hn2 h (by omega)
    simp at hn2'
    by_cases h0 : b > 0
    ·have h0' : 0 < (b : Int) := by omega
     have l2 : a + 1 + b ≤ s.length := by omega
     have l2' : (a : Int) + 1 + b ≤ s.length := by omega
     have t2 : ((a : Int) + 1 + b).toNat = a + 1 + b := by omega
     have z2 : 0 ≤ (a : Int) + 1 + b := by omega
     have l3 : (a : Int) + 1 ≤ a + 1 + b := by omega
     have dt : (s.take (a + 1 + b)).drop (a + 1) = (s.drop (a + 1)).take b := by rw [List.drop_take]; congr 1; omega
     generalize numN 10 (s.take a) = x at *
     generalize numN 10 ((s.drop (a + 1)).take b) = y at *
     have l4 : 1 ≤ 1 + (b : Int) := by omega
     have dt' : (s.take (a + (1 + b))).drop (a + 1) = (s.drop (a + 1)).take b := by rw [← Nat.add_assoc]; exact dt
     have w3 : IntKind.wrap .i64 ((a : Int) + 1 + b) = (a : Int) + 1 + b := by rw [wrap64 (by omega) (by omega)]
     by_cases hxy : y < x
     ·simp [-getElem?_pos, wB96, wJ96_0, wJ96_1, hr, hr2, w1', w2, hlt, hsa, hl1', t1, z1, h4, h4', h5, h5', h0, h0', hn1', hn2', hl, w3, l4, dt', l2', t2, z2, l3, dt, hxy, fdA, tokL, Nat.add_assoc]
     ·simp [-getElem?_pos, wB96, wJ96_0, wJ96_1, hr, hr2, w1', w2, hlt, hsa, hl1', t1, z1, h4, h4', h5, h5', h0, h0', hn1', hn2', hl, w3, l4, dt', l2', t2, z2, l3, dt, hxy, fdA, tokL, Nat.add_assoc]
      omega
    ·have hb0 : b = 0 := by omega
     subst hb0
     have w2' : IntKind.wrap .i64 (((a + 1 : Nat) : Int) + ((0 : Nat) : Int)) = ((a + 1 : Nat) : Int) := by rw [wrap64 (by omega) (by omega)]; simp
     simp [-getElem?_pos, wB96, wJ96_0, wJ96_1, hr, hr2, w1', w2', hlt, hsa, hl1', t1, z1, h4, h4', hn1', hl, fdA, tokL, Nat.add_assoc]
theorem get_bang (l : List UInt8) (i : Nat) (c : UInt8) (h : l[i]? = some c) : (⟨⟨l⟩⟩ : ByteArray).get! i = c := by
 have h1 : (⟨⟨l⟩⟩ : ByteArray).get! i = (⟨l⟩ : Array UInt8)[i]! := rfl
 rw [h1]
 obtain ⟨hi, he⟩ := List.getElem?_eq_some_iff.1 h
 rw [getElem!_pos (⟨l⟩ : Array UInt8) i (by simpa using hi)]
 simpa using he
theorem decode_low (l : List UInt8) (i : Nat) (c : UInt8) (h : l[i]? = some c) (hc : c.toNat < 128) : Utf8.decode ⟨⟨l⟩⟩ i = (c.toNat, 1) := by
 unfold Utf8.decode
 simp only [Nat.add_zero, get_bang l i c h]
 rw [if_pos hc]
theorem decode_high (l : List UInt8) (i : Nat) (c : UInt8) (h : l[i]? = some c) (hc : ¬ c.toNat < 128) : 128 ≤ (Utf8.decode ⟨⟨l⟩⟩ i).1 ∧ 1 ≤ (Utf8.decode ⟨⟨l⟩⟩ i).2 := by
 unfold Utf8.decode
 simp only [Nat.add_zero, get_bang l i c h]
 rw [if_neg hc]
 have hr : Utf8.runeError = 65533 := rfl
 split
 ·split
  ·rename_i h1; simp only at h1 ⊢; omega
  ·rw [hr]; simp
 ·split
  ·split
   ·rename_i h1; simp only [Bool.and_eq_true, decide_eq_true_eq] at h1 ⊢; omega
   ·rw [hr]; simp
  ·split
   ·split
    ·rename_i h1; simp only [Bool.and_eq_true, decide_eq_true_eq] at h1 ⊢; omega
    ·rw [hr]; simp
   ·rw [hr]; simp
def InvC (t : List UInt8) (b0 : Bool) (h0 : Heap) (k : Nat) (σ : Slots) (h : Heap) : Prop := ∃ p v, k = t.length - p ∧ (v && (t.drop p).all okC) = (b0 && t.all okC) ∧ σ 2 = .ptr h0.length 0 ∧ σ 3 = .str t ∧ σ 16 = .it (h0.length + 1) ∧ σ 5 = .bool v ∧
 h = h0 ++ [.cells [.int .u8 0, .int .i64 0, .str [], .int .i64 0, .int .i64 0, .int .u8 0, .int .u8 0, .int .i64 0, .int .i64 0], .siter t p]
theorem chars_ok (s : List UInt8) (h1 : 1 ≤ s.length) (hs : s.length ≤ 1000000000) (h0 : Heap) : M.call 97 [.str s] h0 = some (fdA (charsP s), h0) := by
 refine call_of tab97 rfl (callF_wp ?_)
 have hc := fun h => cut_ok s.tail 34 (by simp; omega) h
 have hcl : (cutB s.tail 34).length ≤ s.length := by
  have := (List.takeWhile_prefix (l := s.tail) (· != 34)).length_le
  unfold cutB
  simp at this ⊢
  omega
 unfold charsP
 simp only
 generalize cutB s.tail 34 = t at *
 generalize (if 34 ∈ s.tail then s.tail.drop (t.length + 1) else []) = tl at *
 generalize hres : fdA (if 34 ∈ s.tail ∧ t.all okC = true then ({ tok := { kind := 10, text := t }, n := t.length + 2 } : Fd) else { err := 14 }) = res
 have h1' : (1 : Int) ≤ s.length := by omega
 simp [wB97, hc, h1', h1, Nat.add_assoc]
 refine Wp.loop (InvC t (decide (34 ∈ s.tail)) h0) ?_ (n := t.length) ⟨0, decide (34 ∈ s.tail), by omega, by simp, by simp, by simp, by simp, by simp, rfl⟩
 rintro k σ h ⟨p, v, rfl, hv, s2, s3, s16, s5, rfl⟩
 by_cases hlt : p < t.length
 ·obtain ⟨c, ec⟩ : ∃ c, t[p]? = some c := ⟨_, List.getElem?_eq_getElem hlt⟩
  have hd : t.drop p = c :: t.drop (p + 1) := by
   obtain ⟨_, he⟩ := List.getElem?_eq_some_iff.1 ec
   rw [← he]; exact List.drop_eq_getElem_cons hlt
  have next : ∀ (σ' : Slots) (g : Heap) (w : Nat) (v' : Bool), 1 ≤ w → (v' && (t.drop (p + w)).all okC) = (v && (t.drop p).all okC) → σ' 2 = σ 2 → σ' 3 = σ 3 → σ' 16 = σ 16 → σ' 5 = .bool v' →
    g = h0 ++ [.cells [.int .u8 0, .int .i64 0, .str [], .int .i64 0, .int .i64 0, .int .u8 0, .int .u8 0, .int .i64 0, .int .i64 0], .siter t (p + w)] → ∃ m, m < t.length - p ∧ InvC t (decide (34 ∈ s.tail)) h0 m σ' g :=
   fun σ' g w v' a0 a1 a2 a3 a4 a5 a6 => ⟨t.length - (p + w), by omega, p + w, v', rfl, by rw [a1, hv], by rw [a2, s2], by rw [a3, s3], by rw [a4, s16], a5, a6⟩
  by_cases h128 : c.toNat < 128
  ·have hdec := decode_low t p c ec h128
   cases v with
   | false =>
    simp [wL97_0, s2, s3, s16, s5, hlt, hdec]
    exact next _ _ 1 false (by omega) (by simp) (by simp) (by simp) (by simp) (by simp) rfl
   | true =>
    by_cases k1 : 32 ≤ c.toNat
    ·have k1' : 32 ≤ (c.toNat : Int) := by omega
     by_cases k2 : c.toNat ≤ 126
     ·have k2' : (c.toNat : Int) ≤ 126 := by omega
      simp [wL97_0, s2, s3, s16, s5, hlt, hdec, k1', k2']
      exact next _ _ 1 true (by omega) (by simp [hd, okC, k1, k2]) (by simp) (by simp) (by simp) (by simp) rfl
     ·have k2' : ¬ (c.toNat : Int) ≤ 126 := by omega
      simp [wL97_0, s2, s3, s16, s5, hlt, hdec, k1', k2']
      exact next _ _ 1 false (by omega) (by simp [hd, okC, k1, k2]) (by simp) (by simp) (by simp) (by simp) rfl
    ·have k1' : ¬ 32 ≤ (c.toNat : Int) := by omega
     simp [wL97_0, s2, s3, s16, s5, hlt, hdec, k1']
     exact next _ _ 1 false (by omega) (by simp [hd, okC, k1]) (by simp) (by simp) (by simp) (by simp) rfl
  ·have hdec := decode_high t p c ec h128
   generalize hde : Utf8.decode ⟨⟨t⟩⟩ p = de at *
   obtain ⟨r, w⟩ := de
   simp only at hdec
   have k1' : 32 ≤ (r : Int) := by omega
   have k2' : ¬ (r : Int) ≤ 126 := by omega
   have hno : okC c = false := by unfold okC; apply decide_eq_false; omega
   cases v with
   | false =>
    simp [wL97_0, s2, s3, s16, s5, hlt, hde]
    exact next _ _ w false hdec.2 (by simp) (by simp) (by simp) (by simp) (by simp) rfl
   | true =>
    simp [wL97_0, s2, s3, s16, s5, hlt, hde, k1', k2']
    exact next _ _ w false hdec.2 (by simp [hd, hno]) (by simp) (by simp) (by simp) (by simp) rfl
 ·have hdr : t.drop p = [] := List.drop_of_length_le (by omega)
  rw [hdr] at hv
  simp at hv
  have w1 : IntKind.wrap .i64 ((t.length : Int) + 2) = (t.length : Int) + 2 := wrap64 (by omega) (by omega)
  cases v with
  | false =>
   have hf : ¬ (34 ∈ s.tail ∧ t.all okC = true) := by
    rintro ⟨a, b⟩
    simp [a] at hv
    rw [List.all_eq_true] at b
    obtain ⟨x, hx, hx2⟩ := hv
    rw [b x hx] at hx2
    cases hx2
   rw [if_neg hf] at hres
   subst hres
   simp [wL97_0, wK97_0, s2, s3, s16, s5, hlt, fdA, tokL]
  | true =>
   rw [if_pos (by simpa using hv)] at hres
   subst hres
   simp [wL97_0, wK97_0, s2, s3, s16, s5, hlt, fdA, tokL, w1]
def hexC (base : Nat) (c : UInt8) : Bool := decide (nib c < base)
def oneC (base : Nat) (r : List UInt8) : Option (Nat × Nat) :=
 let n := runN (hexC base) r
 if n = 0 ∨ 8 < n then none else some (numN base (r.take n), n)
def baseC (c : UInt8) : Nat := if c = 120 ∨ c = 88 then 16 else if c = 100 ∨ c = 68 then 10 else if c = 98 ∨ c = 66 then 2 else 0
def baseL (s : List UInt8) : Nat := match s with | [] => 0 | c :: _ => baseC c
def dotsP (base : Nat) (s : List UInt8) : Nat → Nat → List UInt8 → Fd
 | 0, _, _ => { err := 15 }
 | f + 1, at_, t =>
  if s[at_]? = some 46 then
   match oneC base (s.drop (at_ + 1)) with
   | none => { err := 15 }
   | some (x, n) => if x ≤ 255 then dotsP base s f (at_ + 1 + n) (t ++ [UInt8.ofNat x]) else { err := 15 }
  else { tok := { kind := 11, text := t }, n := at_ }
def valueP (s : List UInt8) : Fd :=
 match oneC (baseL s.tail) (s.drop 2) with
 | none => { err := 15 }
 | some (lo, n) =>
  if lo ≤ 255 then
   if s[2 + n]? = some 45 then
    match oneC (baseL s.tail) (s.drop (2 + n + 1)) with
    | none => { err := 15 }
    | some (hi, m) => if hi ≤ 255 ∧ lo ≤ hi then { tok := { kind := 12, lo := UInt8.ofNat lo, hi := UInt8.ofNat hi }, n := 2 + n + 1 + m } else { err := 15 }
   else dotsP (baseL s.tail) s (s.length + 1) (2 + n) [UInt8.ofNat lo]
  else { err := 15 }
theorem low_base (c : UInt8) : baseC c = if low c = 120 then 16 else if low c = 100 then 10 else if low c = 98 then 2 else 0 := by
 revert c
 apply forall_u8
 decide +kernel
theorem base_ok (s : List UInt8) (h : Heap) : M.call 115 [.str s] h = some (.int .i64 (baseL s), h) := by
 refine call_of tab115 rfl (callF_wp ?_)
 cases s with
 | nil => simp [wB115, baseL]
 | cons c s =>
  have e := low_base c
  by_cases h1 : low c = 120
  ·have h1' : (low c : Int) = 120 := by omega
   simp [wB115, baseL, or32, e, h1, h1']
  ·have h1' : ¬ (low c : Int) = 120 := by omega
   by_cases h2 : low c = 100
   ·have h2' : (low c : Int) = 100 := by omega
    simp [wB115, baseL, or32, e, h2, h2']
   ·have h2' : ¬ (low c : Int) = 100 := by omega
    by_cases h3 : low c = 98
    ·have h3' : (low c : Int) = 98 := by omega
     simp [wB115, baseL, or32, e, h3, h3']
    ·have h3' : ¬ (low c : Int) = 98 := by omega
     simp [wB115, baseL, or32, e, h1, h2, h3, h1', h2', h3']
theorem baseL_le (s : List UInt8) : baseL s ≤ 16 := by
 unfold baseL baseC
 split
 ·omega
 ·split
  ·omega
  ·split
   ·omega
   ·split <;> omega
theorem value11_ok (c : UInt8) (po base : Nat) (h : Heap) (ho : h[po]? = some (.cells [.int .i64 base])) : M.call 117 [.int .u8 c.toNat, .ptr po 0] h = some (.bool (hexC base c), h) := by
 refine call_of tab117 rfl (callF_wp ?_)
 unfold hexC
 by_cases hlt : nib c < base
 ·simp [wB117, nibble_ok, ho, hlt]
 ·simp [wB117, nibble_ok, ho, hlt]
theorem wrap_u8 (x : Nat) : IntKind.wrap .u8 (x : Int) = ((x % 256 : Nat) : Int) := by
 simp [IntKind.wrap, IntKind.bits, IntKind.signed]
theorem value1_ok (s : List UInt8) (hs : s.length ≤ 1000000000) (at_ base ps pa po : Nat) (hat : at_ ≤ 1000000002) (hb : base ≤ 16) (h : Heap) (h1 : h[ps]? = some (.cells [.str s])) (h2 : h[pa]? = some (.cells [.int .i64 at_])) (h3 : h[po]? = some (.cells [.int .i64 base])) :
  M.call 116 [.ptr ps 0, .ptr pa 0, .ptr po 0] h = some (match oneC base (s.drop at_) with
   | none => (.tup [.int .u8 0, .bool false], h)
   | some (x, n) => (.tup [.int .u8 ((x % 256 : Nat) : Int), .bool (decide (x ≤ 255))], h.set pa (.cells [.int .i64 ((at_ + n : Nat) : Int)]))) := by
 refine call_of tab116 rfl (callF_wpK ?_)
 have hmin : (if (s.length : Int) < at_ then (s.length : Int) else at_) = ((min at_ s.length : Nat) : Int) := by split <;> omega
 have hmin' : (if s.length < at_ then (s.length : Int) else (at_ : Int)) = ((min at_ s.length : Nat) : Int) := by split <;> omega
 have hml : min at_ s.length ≤ s.length := Nat.min_le_right _ _
 have hdr : s.drop (min at_ s.length) = s.drop at_ := by
  by_cases hl : at_ ≤ s.length
  ·rw [Nat.min_eq_left hl]
  ·rw [Nat.min_eq_right (by omega), List.drop_of_length_le (by omega), List.drop_of_length_le (by omega)]
 have hr := run_ok (s.drop at_) 117 [.ptr po 0] (hexC base) h (by simp; omega) (fun c _ => value11_ok c po base h h3)
 have hrl := runN_le (hexC base) (s.drop at_)
 simp at hrl
 have hnum := fun (hl : runN (hexC base) (s.drop at_) ≤ 8) => number_ok ((s.drop at_).take (runN (hexC base) (s.drop at_))) base h (by simp; omega) hb
 unfold oneC
 simp only
 generalize hn : runN (hexC base) (s.drop at_) = n at *
 by_cases h0 : n = 0
 ·subst h0
  simp [wB116, h1, h2, hmin', hml, hdr, hr]
 ·by_cases h8 : 8 < n
  ·have h8' : (8 : Int) < n := by omega
   have h0' : ¬ (n : Int) = 0 := by omega
   simp [wB116, h1, h2, hmin', hml, hdr, hr, h0, h8, h0', h8']
  ·have h8' : ¬ (8 : Int) < n := by omega
   have h0' : ¬ (n : Int) = 0 := by omega
   have hnum' := hnum (by omega)
   have hle : at_ + n ≤ s.length := by omega
   have w1 : IntKind.wrap .i64 ((at_ : Int) + n) = ((at_ + n : Nat) : Int) := by rw [wrap64 (by omega) (by omega)]; simp
   have dt : (s.take (at_ + n)).drop at_ = (s.drop at_).take n := by rw [List.drop_take]; congr 1; omega
   have z1 : 0 ≤ (at_ : Int) + n := by omega
   have z2 : (at_ : Int) + n ≤ s.length := by omega
   have z3 : ((at_ : Int) + n).toNat = at_ + n := by omega
   simp [wB116, h1, h2, h3, z1, z2, z3, hmin', hml, hdr, hr, h0, h8, h0', h8', w1, hle, dt, hnum', wrap_u8]
   omega
def zF : List AV := [.int .u8 0, .int .i64 0, .str [], .int .i64 0, .int .i64 0, .int .u8 0, .int .u8 0, .int .i64 0, .int .i64 0]
def InvV (s : List UInt8) (base : Nat) (res : Fd) (h0 : Heap) (k : Nat) (σ : Slots) (h : Heap) : Prop := ∃ at_ f t r, at_ ≤ s.length ∧ k = s.length - at_ ∧ s.length + 1 ≤ at_ + f ∧ t.length ≤ at_ ∧ dotsP base s f at_ t = res ∧
 σ 1 = .ptr h0.length 0 ∧ σ 2 = .ptr (h0.length + 1) 0 ∧ σ 4 = .ptr (h0.length + 3) 0 ∧ σ 6 = .ptr (h0.length + 4) 0 ∧ σ 5 = .fn 116 [.ptr h0.length 0, .ptr (h0.length + 3) 0, .ptr (h0.length + 2) 0] ∧ σ 11 = .list 1 (ofBytes t) r ∧ Ow (h0.length + 5) h 1 5 r t.length ∧
 h.take h0.length = h0 ∧ h[h0.length]? = some (.cells [.str s]) ∧ h[h0.length + 1]? = some (.cells zF) ∧ h[h0.length + 2]? = some (.cells [.int .i64 base]) ∧ h[h0.length + 3]? = some (.cells [.int .i64 at_]) ∧ h[h0.length + 4]? = some (.cells (tokL {} ++ [.int .i64 0, .int .i64 15]))
theorem oneC_len {base : Nat} {r : List UInt8} {x n : Nat} (h : oneC base r = some (x, n)) : 1 ≤ n ∧ n ≤ r.length := by
 unfold oneC at h
 simp only at h
 split at h
 ·cases h
 ·simp only [Option.some.injEq, Prod.mk.injEq] at h
  have := runN_le (hexC base) r
  omega
theorem value_loop (s : List UInt8) (hs : s.length ≤ 1000000000) (base : Nat) (hb : base ≤ 16) (res : Fd) (h0 : Heap) (Q : Ex → Slots → Heap → Prop)
  (hQ : Q = fun e σ h => isEnd e ∧ ∃ vs, resVals σ h [ARes.cell 2 (some 9)] = some vs ∧ finish h0 h (oneOf vs) = some (fdA res, h0)) (n : Nat) (σ : Slots) (h : Heap) (hI : InvV s base res h0 n σ h) :
  Wp M (.loop L98_0) (blkQ 0 (thenQ (Wp M K98_0 Q) Q)) σ h := by
 refine Wp.loop (InvV s base res h0) ?_ hI
 clear hI
 rintro k σ h ⟨a, f, t, r, ha, rfl, hf, htl, hd, s1, s2, s4, s6, s5, s11, ow, ht, g0, g1, g2, g3, g4⟩
 have l4 := lt_of_get g4
 have ft : ∀ e, (h.set (h0.length + 1) e).take h0.length = h0 := fun e => by rw [take_set (by omega), ht]
 have gs : ∀ e, (h.set (h0.length + 1) e)[h0.length + 1]? = some e := fun e => get_set_eq (by omega)
 have ft2 : ∀ e e', ((h.set (h0.length + 3) e').set (h0.length + 1) e).take h0.length = h0 := fun e e' => by rw [take_set (by omega), take_set (by omega), ht]
 have gs2 : ∀ e e', ((h.set (h0.length + 3) e').set (h0.length + 1) e)[h0.length + 1]? = some e := fun e e' => get_set_eq (by simp; omega)
 have q0 : ∀ e, (h.set (h0.length + 3) e)[h0.length]? = some (.cells [.str s]) := fun e => by rw [get_set_ne (by omega)]; exact g0
 have q1 : ∀ e, (h.set (h0.length + 3) e)[h0.length + 1]? = some (.cells zF) := fun e => by rw [get_set_ne (by omega)]; exact g1
 have q2 : ∀ e, (h.set (h0.length + 3) e)[h0.length + 2]? = some (.cells [.int .i64 base]) := fun e => by rw [get_set_ne (by omega)]; exact g2
 have q3 : ∀ e, (h.set (h0.length + 3) e)[h0.length + 3]? = some e := fun e => get_set_eq (by omega)
 have q4 : ∀ e, (h.set (h0.length + 3) e)[h0.length + 4]? = some (.cells (tokL {} ++ [.int .i64 0, .int .i64 15])) := fun e => by rw [get_set_ne (by omega)]; exact g4
 cases f with
 | zero => omega
 | succ f =>
  unfold dotsP at hd
  by_cases h46 : s[a]? = some 46
  ·rw [if_pos h46] at hd
   have hlt : a < s.length := (List.getElem?_eq_some_iff.1 h46).1
   have w1 : IntKind.wrap .i64 ((a : Int) + 1) = ((a + 1 : Nat) : Int) := by rw [wrap64 (by omega) (by omega)]; rfl
   have hv := value1_ok s hs (a + 1) base h0.length (h0.length + 3) (h0.length + 2) (by omega) hb (h.set (h0.length + 3) (.cells [.int .i64 ((a + 1 : Nat) : Int)])) (q0 _) (q3 _) (q2 _)
   cases ho : oneC base (s.drop (a + 1)) with
   | none =>
    rw [ho] at hd hv
    simp only at hd hv
    subst hd
    simp [-getElem?_pos, -Int.natCast_add, wL98_0, s1, s2, s4, s6, s5, s11, g0, g1, g2, g3, g4, hlt, h46, w1, hv, q0, q1, q3, q4]
    subst hQ
    simp [zF, tokL, ft2, gs2, finish_of_take (ft2 _ _), fdA, s2]
   | some q =>
    obtain ⟨x, m⟩ := q
    have hm := oneC_len ho
    simp at hm
    rw [ho] at hd hv
    simp only [List.set_set] at hd hv
    have e1 : (a + 1 + m : Nat) ≤ s.length := by omega
    by_cases hx : x ≤ 255
    ·rw [if_pos hx] at hd
     have hx' : (x : Int) % 256 = x := by omega
     have hxu : (UInt8.ofNat x).toNat = x := by rw [UInt8.toNat_ofNat', Nat.mod_eq_of_lt (by omega)]
     have ow1 : Ow (h0.length + 5) (h.set (h0.length + 3) (.cells [.int .i64 ((a + 1 + m : Nat) : Int)]) ++ [AE.dead]) 1 5 r t.length := (ow.set (fun _ _ _ e => by rw [g3] at e; cases e)).app _
     obtain ⟨r', g, p1, p2, p3⟩ := app_list (n0 := h0.length + 5) (key := h.length) (sz := 1) (bytes := 1) (e := 5) (h := h.set (h0.length + 3) (.cells [.int .i64 ((a + 1 + m : Nat) : Int)]) ++ [AE.dead]) (xs := ofBytes t) (ys := [AV.int .u8 (x : Int)]) (r := r) (r2 := .full) (by simpa using ow1) (by omega) (by simp) (by simp; omega) (by simp; omega)
     have keep : ∀ (i : Nat) (x : AE), (h.set (h0.length + 3) (.cells [.int .i64 ((a + 1 + m : Nat) : Int)]))[i]? = some x → (∀ s m f, x ≠ .tok s m f) → i < h.length → g[i]? = some x := fun i x hi hx hl => p3.keep ow1 (get_left hi _) hx (by omega)
     have htg : g.take h0.length = h0 := by rw [p3.takeLe (by omega), take_app (by simp; omega), take_set (by omega), ht]
     simp [-getElem?_pos, -Int.natCast_add, wL98_0, s1, s2, s4, s6, s5, s11, g0, g1, g2, g3, g4, hlt, h46, w1, hv, q0, q1, q3, q4, hx, hx']
     rw [p1]
     simp
     refine ⟨s.length - (a + 1 + m), by omega, a + 1 + m, f, t ++ [UInt8.ofNat x], r', e1, rfl, by omega, by simp; omega, hd, by simp [s1], by simp [s2], by simp [s4], by simp [s6], by simp [s5], by simp [ofBytes, -UInt8.toNat_ofNat', hxu], by simpa using p2, htg,
      keep _ _ (q0 _) (by simp) (by omega), keep _ _ (q1 _) (by simp) (by omega), keep _ _ (q2 _) (by simp) (by omega), keep _ _ (q3 _) (by simp) (by omega), keep _ _ (q4 _) (by simp) (by omega)⟩
    ·rw [if_neg hx] at hd
     subst hd
     simp [-getElem?_pos, -Int.natCast_add, wL98_0, s1, s2, s4, s6, s5, s11, g0, g1, g2, g3, g4, hlt, h46, w1, hv, q0, q1, q3, q4, hx]
     subst hQ
     simp [zF, tokL, ft2, gs2, finish_of_take (ft2 _ _), fdA, s2]
  ·rw [if_neg h46] at hd
   subst hd
   cases hsa : s[a]? with
   | none =>
    have hge : ¬ a < s.length := fun h => by rw [List.getElem?_eq_getElem h] at hsa; cases hsa
    simp [-getElem?_pos, wL98_0, wK98_0, s1, s2, s4, s6, s5, s11, g0, g1, g2, g3, g4, hge]
    subst hQ
    simp [zF, tokL, ft, gs, finish_of_take (ft _), fdA, s2]
   | some c =>
    have hlt : a < s.length := (List.getElem?_eq_some_iff.1 hsa).1
    have e46 : ((c.toNat : Int) = 46) = False := by
     show ((c.toNat : Int) = ((46 : Nat) : Int)) = False
     rw [u8_eq c 46 (by omega)]
     apply eq_false
     intro e
     rw [hsa, e] at h46
     exact h46 rfl
    simp [-getElem?_pos, wL98_0, wK98_0, s1, s2, s4, s6, s5, s11, g0, g1, g2, g3, g4, hlt, hsa, e46]
    subst hQ
    simp [zF, tokL, ft, gs, finish_of_take (ft _), fdA, s2]
theorem value_ok (s : List UInt8) (hl1 : 1 ≤ s.length) (hs : s.length ≤ 1000000000) (h0 : Heap) : M.call 98 [.str s] h0 = some (fdA (valueP s), h0) := by
 refine call_of tab98 rfl (callF_wp ?_)
 generalize hres : valueP s = res
 unfold valueP at hres
 have hb := baseL_le s.tail
 have hbase := fun h => base_ok s.tail h
 generalize baseL s.tail = base at *
 have hv := fun (at_ : Nat) (hat : at_ ≤ 1000000002) (h : Heap) h1 h2 h3 => value1_ok s hs at_ base h0.length (h0.length + 3) (h0.length + 2) hat hb h h1 h2 h3
 have hv1 := hv 2 (by omega) (h0 ++ [.cells [.str s], .cells zF, .cells [.int .i64 base], .cells [.int .i64 2], .cells (tokL {} ++ [.int .i64 0, .int .i64 15])]) (by simp) (by simp) (by simp)
 have hl1' : (1 : Int) ≤ s.length := by omega
 cases ho : oneC base (s.drop 2) with
 | none =>
  rw [ho] at hres hv1
  simp only at hres hv1
  subst hres
  simp [zF, tokL] at hv1
  simp [wB98, hbase, hl1, hl1', hv1, Nat.add_assoc, fdA, tokL]
 | some q =>
  obtain ⟨lo, n⟩ := q
  have hn := oneC_len ho
  simp at hn
  rw [ho] at hres hv1
  simp only at hres hv1
  have ha : 2 + n ≤ s.length := by omega
  have ha2 : 2 ≤ 2 + n := by omega
  generalize 2 + n = a at *
  simp [zF, tokL] at hv1
  by_cases hlo : lo ≤ 255
  ·rw [if_pos hlo] at hres
   have hlo' : (lo : Int) % 256 = lo := by omega
   have hlou : (UInt8.ofNat lo).toNat = lo := by rw [UInt8.toNat_ofNat', Nat.mod_eq_of_lt (by omega)]
   by_cases h45 : s[a]? = some 45
   ·rw [if_pos h45] at hres
    have hlt : a < s.length := (List.getElem?_eq_some_iff.1 h45).1
    have w1 : IntKind.wrap .i64 ((a : Int) + 1) = (a : Int) + 1 := wrap64 (by omega) (by omega)
    have hv2 := hv (a + 1) (by omega) (h0 ++ [.cells [.str s], .cells zF, .cells [.int .i64 base], .cells [.int .i64 ((a + 1 : Nat) : Int)], .cells (tokL {} ++ [.int .i64 0, .int .i64 15])]) (by simp) (by simp) (by simp)
    cases ho2 : oneC base (s.drop (a + 1)) with
    | none =>
     rw [ho2] at hres hv2
     simp only at hres hv2
     subst hres
     simp [zF, tokL] at hv2
     simp [-getElem?_pos, wB98, hbase, hl1, hl1', hv1, hv2, hlo, hlt, h45, w1, Nat.add_assoc, fdA, tokL]
    | some q =>
     obtain ⟨hi, m⟩ := q
     have hm := oneC_len ho2
     simp at hm
     rw [ho2] at hres hv2
     simp only at hres hv2
     simp [zF, tokL] at hv2
     by_cases hhi : hi ≤ 255
     ·have hhi' : (hi : Int) % 256 = hi := by omega
      have hhiu : (UInt8.ofNat hi).toNat = hi := by rw [UInt8.toNat_ofNat', Nat.mod_eq_of_lt (by omega)]
      by_cases hle : lo ≤ hi
      ·rw [if_pos ⟨hhi, hle⟩] at hres
       subst hres
       have hle' : ¬ (hi : Int) < lo := by omega
       have hle2 : ¬ hi < lo := by omega
       simp [-getElem?_pos, wB98, hbase, hl1, hl1', hv1, hv2, hlo, hlo', hhi, hhi', hle', hle2, hlt, h45, w1, Nat.add_assoc, fdA, tokL]
       omega
      ·rw [if_neg (fun h => hle h.2)] at hres
       subst hres
       have hle' : (hi : Int) < lo := by omega
       have hle2 : hi < lo := by omega
       simp [-getElem?_pos, wB98, hbase, hl1, hl1', hv1, hv2, hlo, hlo', hhi, hhi', hle', hle2, hlt, h45, w1, Nat.add_assoc, fdA, tokL]
     ·rw [if_neg (fun h => hhi h.1)] at hres
      subst hres
      simp [-getElem?_pos, wB98, hbase, hl1, hl1', hv1, hv2, hlo, hlo', hhi, hlt, h45, w1, Nat.add_assoc, fdA, tokL]
   ·rw [if_neg h45] at hres
    generalize hQ : (fun (e : Ex) σ h => isEnd e ∧ ∃ vs, resVals σ h [ARes.cell 2 (some 9)] = some vs ∧ finish h0 h (oneOf vs) = some (fdA res, h0)) = Q
    have fin : ∀ (n : Nat) (σ : Slots) (h : Heap), InvV s base res h0 n σ h → Wp M (.loop L98_0) (blkQ 0 (thenQ (Wp M K98_0 Q) Q)) σ h := fun n σ h hI => value_loop s hs base hb res h0 Q hQ.symm n σ h hI
    have hI : ∀ (σ : Slots), σ 1 = .ptr h0.length 0 → σ 2 = .ptr (h0.length + 1) 0 → σ 4 = .ptr (h0.length + 3) 0 → σ 6 = .ptr (h0.length + 4) 0 → σ 5 = .fn 116 [.ptr h0.length 0, .ptr (h0.length + 3) 0, .ptr (h0.length + 2) 0] → σ 11 = .list 1 [.int .u8 (lo : Int)] .full →
      InvV s base res h0 (s.length - a) σ (h0 ++ [.cells [.str s], .cells zF, .cells [.int .i64 base], .cells [.int .i64 a], .cells (tokL {} ++ [.int .i64 0, .int .i64 15])]) := fun σ t1 t2 t4 t6 t5 t11 =>
     ⟨a, s.length + 1, [UInt8.ofNat lo], .full, by omega, rfl, by omega, by simp; omega, hres, t1, t2, t4, t6, t5, by rw [t11]; simp [ofBytes, -UInt8.toNat_ofNat', hlou], .full, by simp, by simp, by simp, by simp, by simp, by simp⟩
    simp only [zF, tokL] at hI
    cases hsa : s[a]? with
    | none =>
     have hge : ¬ a < s.length := fun h => by rw [List.getElem?_eq_getElem h] at hsa; cases hsa
     simp [-getElem?_pos, wB98, hbase, hl1, hl1', hv1, hlo, hlo', hge, Nat.add_assoc]
     refine fin _ _ _ (hI _ ?_ ?_ ?_ ?_ ?_ ?_) <;> simp
    | some c =>
     have hlt : a < s.length := (List.getElem?_eq_some_iff.1 hsa).1
     have e45 : ((c.toNat : Int) = 45) = False := by
      show ((c.toNat : Int) = ((45 : Nat) : Int)) = False
      rw [u8_eq c 45 (by omega)]
      apply eq_false
      intro e
      rw [hsa, e] at h45
      exact h45 rfl
     simp [-getElem?_pos, wB98, hbase, hl1, hl1', hv1, hlo, hlo', hlt, hsa, e45, Nat.add_assoc]
     refine fin _ _ _ (hI _ ?_ ?_ ?_ ?_ ?_ ?_) <;> simp
  ·rw [if_neg hlo] at hres
   subst hres
   simp [wB98, hbase, hl1, hl1', hv1, hlo, Nat.add_assoc, fdA, tokL]
abbrev RowP := (UInt8 → Bool) × (List UInt8 → Fd)
def rowsP : List RowP := [(letC, nameP), (fun c => c == 61, isP), (fun c => c == 47, fun _ => signP 4), (fun c => c == 40, fun _ => signP 5), (fun c => c == 41, fun _ => signP 6), (fun c => c == 91, fun _ => signP 7), (fun c => c == 93, fun _ => signP 8),
 (fun c => digC c || c == 42, timesP), (fun c => c == 34, charsP), (fun c => c == 37, valueP), (fun c => c == 60, fun _ => { err := 16 }), (fun _ => true, fun _ => { err := 11 })]
def boxC (c : UInt8) : AE := .cells [.int .u8 c.toNat]
def rowsH : List AE := [boxC 61, boxC 47, boxC 4, boxC 40, boxC 5, boxC 41, boxC 6, boxC 91, boxC 7, boxC 93, boxC 8, boxC 34, boxC 37, boxC 60]
def rowA (f : FuncId) (fc : List AV) (g : FuncId) (gc : List AV) : AV := .agg [.fn f fc, .fn g gc]
def rowsA (n : Nat) : List AV := [rowA 77 [] 91 [], rowA 90 [.ptr n 0] 92 [], rowA 90 [.ptr (n + 1) 0] 113 [.ptr (n + 2) 0], rowA 90 [.ptr (n + 3) 0] 113 [.ptr (n + 4) 0],
 rowA 90 [.ptr (n + 5) 0] 113 [.ptr (n + 6) 0], rowA 90 [.ptr (n + 7) 0] 113 [.ptr (n + 8) 0], rowA 90 [.ptr (n + 9) 0] 113 [.ptr (n + 10) 0],
 rowA 94 [] 96 [], rowA 90 [.ptr (n + 11) 0] 97 [], rowA 90 [.ptr (n + 12) 0] 98 [], rowA 90 [.ptr (n + 13) 0] 99 [], rowA 100 [] 101 []]
theorem one_ok (c : UInt8) (h : Heap) : M.call 89 [.int .u8 c.toNat] h = some (.fn 90 [.ptr h.length 0], h ++ [boxC c]) := by
 refine call_of tab89 rfl (callF_wpK ?_)
 simp [wB89, boxC]
theorem sign_ok (c : UInt8) (h : Heap) : M.call 93 [.int .u8 c.toNat] h = some (.fn 113 [.ptr h.length 0], h ++ [boxC c]) := by
 refine call_of tab93 rfl (callF_wpK ?_)
 simp [wB93, boxC]
theorem eq_ok (c d : UInt8) (b : Nat) (h : Heap) (hb : h[b]? = some (boxC d)) : M.call 90 [.int .u8 c.toNat, .ptr b 0] h = some (.bool (c == d), h) := by
 refine call_of tab90 rfl (callF_wp ?_)
 have e : ((d.toNat : Int) = (c.toNat : Int)) = (c = d) := by
  apply propext
  exact ⟨fun e => UInt8.toNat_inj.1 (by omega), fun e => by rw [e]⟩
 unfold boxC at hb
 by_cases hcd : c = d
 ·subst hcd
  simp [wB90, hb]
 ·have e' : ((d.toNat : Int) = (c.toNat : Int)) = False := by rw [e]; exact eq_false hcd
  simp [wB90, hb, e', hcd]
  try omega
theorem dig2_ok (c : UInt8) (h : Heap) : M.call 94 [.int .u8 c.toNat] h = some (.bool (digC c || c == 42), h) := by
 refine call_of tab94 rfl (callF_wp ?_)
 have e2 : ((c.toNat : Int) = 42) = ((c == 42) = true) := by
  rw [show ((c == 42) = true) = (c = 42) by simp]
  exact u8_eq c 42 (by omega)
 cases h3 : c == 42 <;> rw [h3] at e2
 ·simp at e2
  have e3 := eq_false e2
  cases h2 : digC c <;> simp [wB94, digit_ok, h2, e3]
 ·have e3 : ((c.toNat : Int) = 42) = True := by rw [e2]; simp
  cases h2 : digC c <;> simp [wB94, digit_ok, h2, e3]
theorem any_ok (c : UInt8) (h : Heap) : M.call 100 [.int .u8 c.toNat] h = some (.bool true, h) := by
 refine call_of tab100 rfl (callF_wp ?_)
 simp [wB100]
theorem rows_ok (h : Heap) : M.call 72 [] h = some (.list 2 (rowsA h.length) .full, h ++ rowsH) := by
 refine call_of tab72 rfl (callF_wpK ?_)
 have o1 := one_ok 61
 have o2 := one_ok 47
 have o3 := one_ok 40
 have o4 := one_ok 41
 have o5 := one_ok 91
 have o6 := one_ok 93
 have o7 := one_ok 34
 have o8 := one_ok 37
 have o9 := one_ok 60
 have p1 := sign_ok 4
 have p2 := sign_ok 5
 have p3 := sign_ok 6
 have p4 := sign_ok 7
 have p5 := sign_ok 8
 simp at o1 o2 o3 o4 o5 o6 o7 o8 o9 p1 p2 p3 p4 p5
 simp [wB72, o1, o2, o3, o4, o5, o6, o7, o8, o9, p1, p2, p3, p4, p5, rowsA, rowA, rowsH, Nat.add_assoc]
def HR (n : Nat) (h : Heap) : Prop := ∀ k e, rowsH[k]? = some e → h[n + k]? = some e
def RowOk (h : Heap) (row : AV) (p : RowP) : Prop := ∃ f fc g gc, row = rowA f fc g gc ∧ (∀ c : UInt8, M.call f (.int .u8 c.toNat :: fc) h = some (.bool (p.1 c), h)) ∧ (∀ s : List UInt8, 1 ≤ s.length → s.length ≤ 1000000000 → M.call g (.str s :: gc) h = some (fdA (p.2 s), h))
theorem rows_row {n : Nat} {h : Heap} (k : HR n h) : ∀ (j : Nat) (row : AV) (p : RowP), (rowsA n)[j]? = some row → rowsP[j]? = some p → RowOk h row p := by
 intro j row p h1 h2
 have k0 := k 0 _ rfl
 have k1 := k 1 _ rfl
 have k2 := k 2 _ rfl
 have k3 := k 3 _ rfl
 have k4 := k 4 _ rfl
 have k5 := k 5 _ rfl
 have k6 := k 6 _ rfl
 have k7 := k 7 _ rfl
 have k8 := k 8 _ rfl
 have k9 := k 9 _ rfl
 have k10 := k 10 _ rfl
 have k11 := k 11 _ rfl
 have k12 := k 12 _ rfl
 have k13 := k 13 _ rfl
 match j with
 | 0 => cases h1; cases h2; exact ⟨_, _, _, _, rfl, fun c => letter_ok c h, fun s _ hs => name_ok s hs h⟩
 | 1 => cases h1; cases h2; exact ⟨_, _, _, _, rfl, fun c => eq_ok c _ _ h k0, fun s _ hs => is_ok s h⟩
 | 2 => cases h1; cases h2; exact ⟨_, _, _, _, rfl, fun c => eq_ok c _ _ h k1, fun s _ hs => sign1_ok _ s _ h k2⟩
 | 3 => cases h1; cases h2; exact ⟨_, _, _, _, rfl, fun c => eq_ok c _ _ h k3, fun s _ hs => sign1_ok _ s _ h k4⟩
 | 4 => cases h1; cases h2; exact ⟨_, _, _, _, rfl, fun c => eq_ok c _ _ h k5, fun s _ hs => sign1_ok _ s _ h k6⟩
 | 5 => cases h1; cases h2; exact ⟨_, _, _, _, rfl, fun c => eq_ok c _ _ h k7, fun s _ hs => sign1_ok _ s _ h k8⟩
 | 6 => cases h1; cases h2; exact ⟨_, _, _, _, rfl, fun c => eq_ok c _ _ h k9, fun s _ hs => sign1_ok _ s _ h k10⟩
 | 7 => cases h1; cases h2; exact ⟨_, _, _, _, rfl, fun c => dig2_ok c h, fun s _ hs => times_ok s hs h⟩
 | 8 => cases h1; cases h2; exact ⟨_, _, _, _, rfl, fun c => eq_ok c _ _ h k11, fun s h1 hs => chars_ok s h1 hs h⟩
 | 9 => cases h1; cases h2; exact ⟨_, _, _, _, rfl, fun c => eq_ok c _ _ h k12, fun s h1 hs => value_ok s h1 hs h⟩
 | 10 => cases h1; cases h2; exact ⟨_, _, _, _, rfl, fun c => eq_ok c _ _ h k13, fun s h1 hs => prose_ok s h⟩
 | 11 => cases h1; cases h2; exact ⟨_, _, _, _, rfl, fun c => any_ok c h, fun s h1 hs => byte_ok s h⟩
 | j + 12 => simp [rowsP] at h2
def readL : List RowP → UInt8 → List UInt8 → Fd
 | [], _, _ => { err := 11 }
 | p :: ps, c, s => if p.1 c then p.2 s else readL ps c s
def readP (c : UInt8) (s : List UInt8) : Fd := readL rowsP c s
theorem dotsP_n (base : Nat) (s : List UInt8) : ∀ (f a : Nat) (t : List UInt8), a ≤ s.length → (dotsP base s f a t).n ≤ s.length ∧ ((dotsP base s f a t).err = 0 → a ≤ (dotsP base s f a t).n)
 | 0, a, t, h => by simp [dotsP]
 | f + 1, a, t, h => by
  unfold dotsP
  split
  ·split
   ·simp
   ·rename_i x n ho
    have hn := oneC_len ho
    simp at hn
    split
    ·have := dotsP_n base s f (a + 1 + n) (t ++ [UInt8.ofNat x]) (by omega)
     refine ⟨this.1, fun e => ?_⟩
     have := this.2 e
     omega
    ·simp
  ·simp [h]
def goodF (l : Nat) (f : Fd) : Prop := f.n ≤ l + 2 ∧ (f.err = 0 → 1 ≤ f.n)
theorem readL_good (c : UInt8) (s : List UInt8) (l : Nat) : ∀ (ps : List RowP), (∀ p ∈ ps, p.1 c = true → goodF l (p.2 s)) → goodF l (readL ps c s)
 | [], _ => by simp [readL, goodF]
 | p :: ps, h => by
  unfold readL
  split
  ·rename_i hp; exact h p List.mem_cons_self hp
  ·exact readL_good c s l ps fun q hq => h q (List.mem_cons_of_mem _ hq)
theorem good_name (c : UInt8) (s : List UInt8) (hc : letC c = true) : goodF s.length (nameP (c :: s)) := by
 have h1 := runN_le namC (c :: s)
 have h2 : 1 ≤ runN namC (c :: s) := by
  unfold runN
  simp [namC, hc]
 simp [nameP, goodF]
 simp at h1
 omega
theorem good_is (c : UInt8) (s : List UInt8) : goodF s.length (isP (c :: s)) := by
 unfold isP goodF; split <;> simp
theorem good_times (c : UInt8) (s : List UInt8) (h : (digC c || c == 42) = true) : goodF s.length (timesP (c :: s)) := by
 have hrun : ∀ (p : UInt8 → Bool) (l : List UInt8), runN p l ≤ l.length := runN_le
 have ha := hrun digC (c :: s)
 simp at ha
 have hb : runN digC ((c :: s).drop (runN digC (c :: s) + 1)) ≤ s.length - runN digC (c :: s) := by
  have := hrun digC ((c :: s).drop (runN digC (c :: s) + 1))
  simpa using this
 have h1 : digC c = true → 1 ≤ runN digC (c :: s) := fun hd => by unfold runN; simp [hd]
 have h0 : runN digC (c :: s) = 0 → digC c = false := fun e => by
  cases hd : digC c with
  | false => rfl
  | true => have := h1 hd; omega
 unfold timesP goodF
 simp only
 generalize hA : runN digC (c :: s) = A at *
 generalize hB : runN digC ((c :: s).drop (A + 1)) = B at *
 cases hs : ((c :: s)[A]? == some 42) with
 | false =>
  simp only [Bool.false_eq_true, if_false, Bool.not_false, if_true]
  split
  ·simp
  ·rw [if_neg (by omega)]
   refine ⟨by simp only; omega, fun _ => ?_⟩
   show 1 ≤ A
   rcases Nat.eq_zero_or_pos A with e | e
   ·exfalso
    have hd := h0 e
    rw [hd] at h
    simp at h
    rw [e, h] at hs
    simp at hs
   ·exact e
 | true =>
  have hs' : (c :: s)[A]? = some 42 := by simpa using hs
  have hlt : A < (c :: s).length := (List.getElem?_eq_some_iff.1 hs').1
  simp at hlt
  simp only [if_true, Bool.not_true, Bool.false_eq_true, if_false]
  by_cases h4 : A > 4
  ·rw [if_pos h4]; simp
  rw [if_neg h4]
  by_cases h5 : B > 4
  ·rw [if_pos h5]
   refine ⟨by simp only; omega, fun e => by simp at e⟩
  rw [if_neg h5]
  generalize (if B > 0 then (numN 10 (((c :: s).drop (A + 1)).take B) : Int) else -1) = mx
  by_cases h6 : mx ≥ 0 ∧ mx < (numN 10 ((c :: s).take A) : Int)
  ·rw [if_pos h6]; simp
  ·rw [if_neg h6]
   refine ⟨by simp only; omega, fun _ => by simp only; omega⟩
theorem good_chars (c : UInt8) (s : List UInt8) : goodF s.length (charsP (c :: s)) := by
 unfold charsP goodF
 simp only
 split
 ·have := (List.takeWhile_prefix (l := (c :: s).tail) (· != 34)).length_le
  simp [cutB] at this ⊢
  omega
 ·simp
theorem good_value (c : UInt8) (s : List UInt8) : goodF s.length (valueP (c :: s)) := by
 unfold valueP goodF
 split
 ·simp
 ·rename_i lo n ho
  have hn := oneC_len ho
  simp at hn
  split
  ·split
   ·split
    ·simp
    ·rename_i hi m ho2
     have hm := oneC_len ho2
     simp at hm
     split
     ·simp; omega
     ·simp
   ·have := dotsP_n (baseL (c :: s).tail) (c :: s) ((c :: s).length + 1) (2 + n) [UInt8.ofNat lo] (by simp; omega)
    refine ⟨by have := this.1; simp at this ⊢; omega, fun e => ?_⟩
    have := this.2 e
    omega
  ·simp
theorem readP_n (c : UInt8) (s : List UInt8) : goodF s.length (readP c (c :: s)) := by
 refine readL_good c (c :: s) s.length rowsP fun p hp hc => ?_
 simp only [rowsP, List.mem_cons, List.not_mem_nil, or_false] at hp
 rcases hp with rfl | rfl | rfl | rfl | rfl | rfl | rfl | rfl | rfl | rfl | rfl | rfl
 ·exact good_name c s hc
 ·exact good_is c s
 ·simp [signP, goodF]
 ·simp [signP, goodF]
 ·simp [signP, goodF]
 ·simp [signP, goodF]
 ·simp [signP, goodF]
 ·exact good_times c s hc
 ·exact good_chars c s
 ·exact good_value c s
 ·simp [goodF]
 ·simp [goodF]
def lineP (s : List UInt8) (off : Nat) : Nat → Nat → List Tok → List Tok × Int × Int
 | 0, _, out => (out, 0, 0)
 | f + 1, i, out =>
  match s[i]? with
  | none => (out, 0, 0)
  | some c =>
   if c = 59 then (out, 0, 0)
   else if blkC c then lineP s off f (i + 1) out
   else
    let fd := readP c (s.drop i)
    if fd.err ≠ 0 then ([], ((off + i + fd.n : Nat) : Int), fd.err)
    else lineP s off f (i + fd.n) (out ++ [{ fd.tok with pos := ((off + i : Nat) : Int) }])
theorem rowsA_len (n : Nat) : (rowsA n).length = 12 := rfl
theorem HR_of {n : Nat} {h0 h : Heap} (k : HR n h0) (ht : h.take h0.length = h0) : HR n h := by
 intro j e he
 have := k j e he
 rw [← ht] at this
 rw [List.getElem?_take] at this
 split at this
 ·exact this
 ·cases this
def InvI (s : List UInt8) (off n0 : Nat) (i : Nat) (c : UInt8) (out : List Tok) (rr : Rt) (h0 : Heap) (k : Nat) (σ : Slots) (h : Heap) : Prop := ∃ j r, j < 12 ∧ k = 12 - j ∧ readL (rowsP.drop j) c (s.drop i) = readP c (s.drop i) ∧
 σ 0 = .str s ∧ σ 1 = .int .i64 off ∧ σ 2 = .list 2 (rowsA n0) rr ∧ σ 30 = .list 2 (rowsA n0) rr ∧ σ 31 = .int .i64 12 ∧ σ 32 = .int .i64 j ∧ σ 10 = .int .i64 i ∧ σ 9 = .list 7 (out.map tokA) r ∧ Ow h0.length h 7 125 r out.length ∧ h.take h0.length = h0
theorem line_inner (s : List UInt8) (hs : s.length ≤ 100000) (off : Nat) (hoff : off ≤ 100000) (n0 i : Nat) (c : UInt8) (hc : s[i]? = some c) (out : List Tok) (hout : out.length ≤ 1000000) (rr : Rt) (h0 : Heap) (hR : HR n0 h0) (Q : Ex → Slots → Heap → Prop)
  (hret : (readP c (s.drop i)).err ≠ 0 → ∀ σ h, σ 6 = .list 7 [] .full → σ 7 = .int .i64 ((off + i + (readP c (s.drop i)).n : Nat) : Int) → σ 8 = .int .i64 (readP c (s.drop i)).err → h.take h0.length = h0 → Q .ret σ h)
  (hexit : (readP c (s.drop i)).err = 0 → ∀ σ h r, σ 0 = .str s → σ 1 = .int .i64 off → σ 2 = .list 2 (rowsA n0) rr → σ 10 = .int .i64 ((i + (readP c (s.drop i)).n : Nat) : Int) → σ 9 = .list 7 ((out ++ [{ (readP c (s.drop i)).tok with pos := ((off + i : Nat) : Int) }]).map tokA) r →
   Ow h0.length h 7 125 r (out.length + 1) → h.take h0.length = h0 → Q (.exit 2) σ h) (n : Nat) (σ : Slots) (h : Heap) (hI : InvI s off n0 i c out rr h0 n σ h) : Wp M (.loop L78_0) Q σ h := by
 refine Wp.loop (InvI s off n0 i c out rr h0) ?_ hI
 clear hI
 rintro k σ h ⟨j, r, hj, rfl, hrd, s0, s1, s2, s30, s31, s32, s10, s9, ow, ht⟩
 have hlt : i < s.length := (List.getElem?_eq_some_iff.1 hc).1
 obtain ⟨row, erow⟩ : ∃ row, (rowsA n0)[j]? = some row := ⟨_, List.getElem?_eq_getElem (by rw [rowsA_len]; exact hj)⟩
 obtain ⟨p, ep⟩ : ∃ p, rowsP[j]? = some p := ⟨_, List.getElem?_eq_getElem (by exact hj)⟩
 have hle : h0.length ≤ h.length := by have := congrArg List.length ht; simp at this; omega
 have hrow : ∀ e : AE, RowOk (h ++ [e]) row p := fun e => rows_row (HR_of (h := h ++ [e]) hR (by rw [take_app hle, ht])) j row p erow ep
 have hrow2 : ∀ e e' : AE, RowOk (h ++ [e, e']) row p := fun e e' => rows_row (HR_of (h := h ++ [e, e']) hR (by rw [take_app hle, ht])) j row p erow ep
 have hdrop : s.drop i = c :: s.drop (i + 1) := by
  obtain ⟨_, he⟩ := List.getElem?_eq_some_iff.1 hc
  rw [← he]; exact List.drop_eq_getElem_cons hlt
 have hpd : rowsP.drop j = p :: rowsP.drop (j + 1) := by
  obtain ⟨hj', he⟩ := List.getElem?_eq_some_iff.1 ep
  rw [← he]; exact List.drop_eq_getElem_cons hj'
 obtain ⟨f, fc, g, gc, rfl, _, _⟩ := hrow .dead
 have hb : ∀ e, M.call f (.int .u8 c.toNat :: fc) (h ++ [e]) = some (.bool (p.1 c), h ++ [e]) := fun e => by
  obtain ⟨f', fc', g', gc', e1, e2, e3⟩ := hrow e
  simp only [rowA, AV.agg.injEq, List.cons.injEq, AV.fn.injEq, and_true] at e1
  obtain ⟨⟨rfl, rfl⟩, ⟨rfl, rfl⟩⟩ := e1
  exact e2 c
 have hg : ∀ e e', M.call g (.str (s.drop i) :: gc) (h ++ [e, e']) = some (fdA (p.2 (s.drop i)), h ++ [e, e']) := fun e e' => by
  obtain ⟨f', fc', g', gc', e1, e2, e3⟩ := hrow2 e e'
  simp only [rowA, AV.agg.injEq, List.cons.injEq, AV.fn.injEq, and_true] at e1
  obtain ⟨⟨rfl, rfl⟩, ⟨rfl, rfl⟩⟩ := e1
  exact e3 _ (by simp; omega) (by simp; omega)
 have hjI : (j : Int) < 12 := by omega
 have e64 : IntKind.wrap .i64 ((j : Int) + 1) = ((j + 1 : Nat) : Int) := by rw [wrap64 (by omega) (by omega)]; rfl
 cases hp : p.1 c with
 | false =>
  rw [hp] at hb
  have hj11 : j + 1 < 12 := by
   rcases Nat.lt_or_ge (j + 1) 12 with h | h
   ·exact h
   ·have : j = 11 := by omega
    subst this
    simp [rowsP] at ep
    subst ep
    simp at hp
  simp [-getElem?_pos, wL78_0, s0, s1, s2, s30, s31, s32, s10, s9, hjI, hj, erow, rowA, hc, hlt, hb, e64]
  refine ⟨12 - (j + 1), by omega, j + 1, r, hj11, rfl, ?_, by simp [s0], by simp [s1], by simp [s2], by simp [s30], by simp [s31], by simp, by simp [s10], by simp [s9], ow.app _, by rw [take_app hle, ht]⟩
  rw [← hrd, hpd]
  simp [readL, hp]
 | true =>
  rw [hp] at hb
  have hrp : p.2 (s.drop i) = readP c (s.drop i) := by
   rw [← hrd, hpd]
   simp [readL, hp]
  rw [hrp] at hg
  have hgn := readP_n c (s.drop (i + 1))
  rw [← hdrop] at hgn
  generalize readP c (s.drop i) = fd at *
  obtain ⟨hgn1, hgn2⟩ := hgn
  simp at hgn1
  have w1 : IntKind.wrap .i64 ((off : Int) + i) = (off : Int) + i := wrap64 (by omega) (by omega)
  have w2 : IntKind.wrap .i64 ((off : Int) + i + fd.n) = (off : Int) + i + fd.n := wrap64 (by omega) (by omega)
  have w3 : IntKind.wrap .i64 ((i : Int) + fd.n) = (i : Int) + fd.n := wrap64 (by omega) (by omega)
  have hi' : (i : Int) ≤ s.length := by omega
  have hi2 : i ≤ s.length := by omega
  obtain ⟨tok, n, err⟩ := fd
  simp only at w1 w2 w3 hgn1 hgn2 hret hexit
  by_cases he : err = 0
  ·subst he
   have hexit' := hexit rfl
   clear hret hexit
   simp [-getElem?_pos, wL78_0, s0, s1, s2, s30, s31, s32, s10, s9, hjI, hj, erow, rowA, hc, hlt, hb, hg, hi2, e64, w1, w2, w3, fdA, tokL, Nat.add_assoc]
   obtain ⟨r', g', p1, p2, p3⟩ := app_list (n0 := h0.length) (key := h.length + 2) (sz := 7) (bytes := 56) (e := 125) (h := h ++ [AE.cells [AV.fn f fc, AV.fn g gc], AE.cells [AV.int IntKind.u8 tok.kind.toNat, AV.int IntKind.i64 ((off : Int) + i), AV.str tok.text, AV.int IntKind.i64 tok.mn, AV.int IntKind.i64 tok.mx, AV.int IntKind.u8 tok.lo.toNat, AV.int IntKind.u8 tok.hi.toNat, AV.int IntKind.i64 n, AV.int IntKind.i64 0], AE.dead])
    (xs := out.map tokA) (ys := [AV.agg [AV.int IntKind.u8 tok.kind.toNat, AV.int IntKind.i64 ((off : Int) + i), AV.str tok.text, AV.int IntKind.i64 tok.mn, AV.int IntKind.i64 tok.mx, AV.int IntKind.u8 tok.lo.toNat, AV.int IntKind.u8 tok.hi.toNat]]) (r := r) (r2 := .full)
    (by simpa using ow.app _) (by omega) (by simp) (by simp; omega) (by simp; omega)
   have q1 : g'[h.length + 1]? = some (AE.cells [AV.int IntKind.u8 tok.kind.toNat, AV.int IntKind.i64 ((off : Int) + i), AV.str tok.text, AV.int IntKind.i64 tok.mn, AV.int IntKind.i64 tok.mx, AV.int IntKind.u8 tok.lo.toNat, AV.int IntKind.u8 tok.hi.toNat, AV.int IntKind.i64 n, AV.int IntKind.i64 0]) :=
    p3.keep (ow.app _) (by simp) (by simp) (by omega)
   rw [p1]
   simp [q1, s10, w3, Nat.add_assoc]
   refine hexit' _ _ r' (by simp [s0]) (by simp [s1]) (by simp [s2]) (by simp) (by simp [tokA, tokL]) (by simpa using p2) ?_
   rw [p3.takeLe (Nat.le_refl _), take_app hle, ht]
  ·have hret' := hret he
   clear hret hexit
   simp [-getElem?_pos, wL78_0, s0, s1, s2, s30, s31, s32, s10, s9, hjI, hj, erow, rowA, hc, hlt, hb, hg, hi2, e64, he, w1, w2, w3, fdA, tokL, Nat.add_assoc]
   refine hret' _ _ (by simp) (by simp) (by simp) ?_
   rw [take_app hle, ht]
theorem tokA_low (n : Nat) (t : Tok) : (tokA t).low n := by simp [tokA, tokL]
theorem toks_low (n : Nat) (l : List Tok) : AV.lows n (l.map tokA) := lows_map _ _ fun t _ => tokA_low n t
def lexR (res : List Tok × Int × Int) (h0 : Heap) (x : AV × Heap) : Prop := ∃ r, x = (.tup [.list 7 (res.1.map tokA) r, .int .i64 res.2.1, .int .i64 res.2.2], h0)
def InvO (s : List UInt8) (off n0 : Nat) (rr : Rt) (res : List Tok × Int × Int) (h0 : Heap) (k : Nat) (σ : Slots) (h : Heap) : Prop := ∃ i f out r, i ≤ s.length + 1 ∧ k = s.length + 1 - i ∧ s.length + 1 - i < f ∧ out.length ≤ i ∧ lineP s off f i out = res ∧
 σ 0 = .str s ∧ σ 1 = .int .i64 off ∧ σ 2 = .list 2 (rowsA n0) rr ∧ σ 10 = .int .i64 i ∧ σ 9 = .list 7 (out.map tokA) r ∧ Ow h0.length h 7 125 r out.length ∧ h.take h0.length = h0
theorem line_ok (s : List UInt8) (hs : s.length ≤ 100000) (off : Nat) (hoff : off ≤ 100000) (n0 : Nat) (rr : Rt) (h0 : Heap) (hR : HR n0 h0) :
  ∃ x, M.call 78 [.str s, .int .i64 off, .list 2 (rowsA n0) rr] h0 = some x ∧ lexR (lineP s off (s.length + 2) 0 []) h0 x := by
 refine call_post tab78 rfl ?_
 generalize hres : lineP s off (s.length + 2) 0 [] = res
 generalize hQ : (fun e σ h => isEnd e ∧ ∃ vs, resVals σ h [ARes.tmp 6, ARes.tmp 7, ARes.tmp 8] = some vs ∧ ∃ r, finish h0 h (oneOf vs) = some r ∧ lexR res h0 r) = Q
 simp [wB78]
 refine Wp.loop (InvO s off n0 rr res h0) ?_ (n := s.length + 1) ⟨0, s.length + 2, [], .full, by omega, by omega, by omega, by simp, hres, by simp, by simp, by simp, by simp, by simp, .full, by simp⟩
 rintro k σ h ⟨i, f, out, r, hi, rfl, hf, hout, hd, s0, s1, s2, s10, s9, ow, ht⟩
 have fin : ∀ (σ : Slots) (h : Heap) (xs : List Tok) (r : Rt) (a b : Int), σ 6 = .list 7 (xs.map tokA) r → σ 7 = .int .i64 a → σ 8 = .int .i64 b → h.take h0.length = h0 → res = (xs, a, b) → Q .ret σ h := by
  intro σ h xs r a b s6 s7 s8 ht e
  subst hQ
  have k := toks_low h0.length xs
  subst e
  simp [s6, s7, s8, finish_of_take ht, lexR]
  rcases r with _ | _ | t <;> simp [k]
 obtain ⟨f, rfl⟩ : ∃ g, f = g + 1 := ⟨f - 1, by omega⟩
 unfold lineP at hd
 cases hc : s[i]? with
 | none =>
  have hlt : ¬ i < s.length := fun h => by rw [List.getElem?_eq_getElem h] at hc; cases hc
  rw [hc] at hd
  simp only at hd
  simp [-getElem?_pos, wL78_1, wK78_0, s0, s1, s2, s10, s9, hlt]
  exact fin _ _ out r 0 0 (by simp) (by simp) (by simp) ht hd.symm
 | some c =>
  have hlt : i < s.length := (List.getElem?_eq_some_iff.1 hc).1
  rw [hc] at hd
  simp only at hd
  have e59 : ((c.toNat : Int) = 59) = (c = 59) := u8_eq c 59 (by omega)
  by_cases h59 : c = 59
  ·rw [if_pos h59] at hd
   subst h59
   simp [-getElem?_pos, wL78_1, wK78_0, s0, s1, s2, s10, s9, hlt, hc]
   exact fin _ _ out r 0 0 (by simp) (by simp) (by simp) ht hd.symm
  ·rw [if_neg h59] at hd
   have e59' := eq_false h59
   rw [← e59] at e59'
   have e64 : IntKind.wrap .i64 ((i : Int) + 1) = ((i + 1 : Nat) : Int) := by rw [wrap64 (by omega) (by omega)]; rfl
   cases hb : blkC c with
   | true =>
    rw [hb] at hd
    simp only [if_true] at hd
    simp [-getElem?_pos, wL78_1, s0, s1, s2, s10, s9, hlt, hc, e59', blank_ok, hb, e64]
    refine ⟨s.length + 1 - (i + 1), by omega, i + 1, f, out, r, by omega, rfl, by omega, by omega, hd, by simp [s0], by simp [s1], by simp [s2], by simp, by simp [s9], ow, ht⟩
   | false =>
    rw [hb] at hd
    simp only [Bool.false_eq_true, if_false] at hd
    have hg := readP_n c (s.drop (i + 1))
    have hdrop : s.drop i = c :: s.drop (i + 1) := by
     obtain ⟨_, he⟩ := List.getElem?_eq_some_iff.1 hc
     rw [← he]; exact List.drop_eq_getElem_cons hlt
    rw [← hdrop] at hg
    obtain ⟨hg1, hg2⟩ := hg
    simp at hg1
    simp [-getElem?_pos, wL78_1, s0, s1, s2, s10, s9, hlt, hc, e59', blank_ok, hb, e64, rowsA_len]
    refine line_inner s hs off hoff n0 i c hc out (by omega) rr h0 hR _ ?_ ?_ 12 _ _ ⟨0, r, by omega, by omega, rfl, by simp [s0], by simp [s1], by simp [s2], by simp, by simp, by simp, by simp [s10], by simp [s9], ow, ht⟩
    ·intro he σ h t6 t7 t8 ht
     rw [if_pos he] at hd
     simp
     exact fin σ h [] .full _ _ (by simpa using t6) t7 t8 ht hd.symm
    ·intro he σ h r' t0 t1 t2 t10 t9 ow' ht
     rw [if_neg (fun h => h he)] at hd
     have h1 := hg2 he
     simp
     refine ⟨s.length + 1 - (i + (readP c (s.drop i)).n), by omega, i + (readP c (s.drop i)).n, f, _, r', by omega, rfl, by omega, by simp; omega, hd, t0, t1, t2, t10, t9, by simpa using ow', ht⟩
def cutL (s : List UInt8) : List UInt8 := if 10 ∈ s then trimSuf (cutB s 10) [13] else cutB s 10
def lexF (src : List UInt8) : Nat → Nat → Bool → List Tok → List Tok × Int × Int
 | 0, _, _, out => (out, 0, 0)
 | f + 1, a, any, out =>
  if a < src.length then
   let text := cutL (src.drop a)
   let nx := a + (cutB (src.drop a) 10).length + 1
   let n := runN blkC text
   match text[n]? with
   | none => lexF src f nx any out
   | some c =>
    if c = 59 then lexF src f nx any out
    else if (n = 0 ∧ letC c = false) ∨ (0 < n ∧ any = false) then ([], (a : Int), 10)
    else
     let out1 := if n = 0 ∧ any = true then out ++ [{ kind := 13, pos := (a : Int) }] else out
     let r := lineP text a (text.length + 2) 0 []
     if r.2.2 ≠ 0 then ([], r.2.1, r.2.2) else lexF src f nx true (out1 ++ r.1)
  else (if any then out ++ [{ kind := 13, pos := (src.length : Int) }] else out, 0, 0)
def lexP (src : List UInt8) : List Tok × Int × Int := if src.length > 65536 then ([], 65536, 3) else lexF src (src.length + 1) 0 false []
theorem lineP_len (s : List UInt8) (off : Nat) : ∀ (f i : Nat) (out : List Tok), (lineP s off f i out).1.length ≤ out.length + f
 | 0, i, out => by simp [lineP]
 | f + 1, i, out => by
  unfold lineP
  split
  ·simp
  ·split
   ·simp
   ·split
    ·have := lineP_len s off f (i + 1) out; omega
    ·rename_i c _ _ _
     simp only
     split
     ·simp
     ·have := lineP_len s off f (i + (readP c (s.drop i)).n) (out ++ [{ (readP c (s.drop i)).tok with pos := ((off + i : Nat) : Int) }])
      simp at this ⊢
      omega
theorem trimSuf_len (s p : List UInt8) : (trimSuf s p).length ≤ s.length := by
 unfold trimSuf
 split
 ·simp
 ·simp
theorem cutL_len (s : List UInt8) : (cutL s).length ≤ (cutB s 10).length := by
 unfold cutL
 split
 ·exact trimSuf_len _ _
 ·exact Nat.le_refl _
theorem cutB_len (s : List UInt8) (c : UInt8) : (cutB s c).length ≤ s.length := (List.takeWhile_prefix _).length_le
def InvX (src : List UInt8) (res : List Tok × Int × Int) (h0 : Heap) (k : Nat) (σ : Slots) (h : Heap) : Prop := ∃ a f any out r, a ≤ src.length + 1 ∧ k = src.length + 1 - a ∧ src.length - a < f ∧ out.length ≤ 3 * a ∧ lexF src f a any out = res ∧
 σ 0 = .str src ∧ σ 6 = .list 2 (rowsA h0.length) .full ∧ σ 5 = .list 7 (out.map tokA) r ∧ σ 7 = .bool any ∧ σ 8 = .int .i64 a ∧ Ow (h0.length + 14) h 7 125 r out.length ∧ h.take (h0.length + 14) = h0 ++ rowsH
theorem HR_rows (h0 : Heap) : HR h0.length (h0 ++ rowsH) := by
 intro k e hk
 rw [List.getElem?_append_right (by omega)]
 simpa using hk
theorem HR_take {h0 h : Heap} (ht : h.take (h0.length + 14) = h0 ++ rowsH) : HR h0.length h := by
 have hl : (h0 ++ rowsH).length = h0.length + 14 := by simp [rowsH]
 exact HR_of (HR_rows h0) (by rw [hl]; exact ht)
theorem lex_ok (src : List UInt8) (hs : src.length ≤ 1000000000) (h0 : Heap) : ∃ x, M.call 63 [.str src] h0 = some x ∧ lexR (lexP src) h0 x := by
 refine call_post tab63 rfl ?_
 generalize hres : lexP src = res
 generalize hQ : (fun e σ h => isEnd e ∧ ∃ vs, resVals σ h [ARes.tmp 2, ARes.tmp 3, ARes.tmp 4] = some vs ∧ ∃ r, finish h0 h (oneOf vs) = some r ∧ lexR res h0 r) = Q
 have fin : ∀ (σ : Slots) (h : Heap) (xs : List Tok) (r : Rt) (a b : Int), σ 2 = .list 7 (xs.map tokA) r → σ 3 = .int .i64 a → σ 4 = .int .i64 b → h.take h0.length = h0 → res = (xs, a, b) → Q .ret σ h := by
  intro σ h xs r a b s6 s7 s8 ht e
  subst hQ
  have k := toks_low h0.length xs
  subst e
  simp [s6, s7, s8, finish_of_take ht, lexR]
  rcases r with _ | _ | t <;> simp [k]
 unfold lexP at hres
 by_cases hbig : src.length > 65536
 ·rw [if_pos hbig] at hres
  have hbig' : (65536 : Int) < src.length := by omega
  simp [wB63, hbig']
  exact fin _ _ [] .full _ _ (by simp) (by simp) (by simp) (by simp) hres.symm
 rw [if_neg hbig] at hres
 have hbig' : ¬ (65536 : Int) < src.length := by omega
 simp [wB63, hbig', rows_ok]
 refine Wp.loop (InvX src res h0) ?_ (n := src.length + 1) ⟨0, src.length + 1, false, [], .full, by omega, by omega, by omega, by simp, hres, by simp, by simp, by simp, by simp, by simp, .full, by rw [List.take_of_length_le (by simp [rowsH])]⟩
 rintro k σ h ⟨a, f, any, out, r, ha, rfl, hf, hout, hd, s0, s6, s5, s7, s8, ow, ht⟩
 have ht0 : h.take h0.length = h0 := by
  have := congrArg (List.take h0.length) ht
  simpa [List.take_take] using this
 have hle : h0.length + 14 ≤ h.length := by
  have := congrArg List.length ht
  simp [rowsH] at this
  omega
 obtain ⟨f, rfl⟩ : ∃ g, f = g + 1 := ⟨f - 1, by omega⟩
 unfold lexF at hd
 by_cases hlt : a < src.length
 ·rw [if_pos hlt] at hd
  simp only at hd
  have hla : a ≤ src.length := by omega
  have hcut := fun h => cut_ok (src.drop a) 10 (by simp; omega) h
  have htrim := fun h => trimSuffix_ok (cutB (src.drop a) 10) [13] (by have := cutB_len (src.drop a) 10; simp at this; omega) h
  have hcl := cutB_len (src.drop a) 10
  simp at hcl
  have hcl2 := cutL_len (src.drop a)
  have hx : 10 ∈ src.drop a → (cutB (src.drop a) 10).length + 1 ≤ src.length - a := fun hm => by simpa using cut_len hm
  simp at hcut htrim
  have w1 : IntKind.wrap .i64 ((a : Int) + (cutB (src.drop a) 10).length) = (a : Int) + (cutB (src.drop a) 10).length := wrap64 (by omega) (by omega)
  have w2 : IntKind.wrap .i64 ((a : Int) + (cutB (src.drop a) 10).length + 1) = (a : Int) + (cutB (src.drop a) 10).length + 1 := wrap64 (by omega) (by omega)
  have hrun := fun h => run_ok (cutL (src.drop a)) 76 [] blkC h (by omega) (fun c _ => blank_ok c h)
  have hrl := runN_le blkC (cutL (src.drop a))
  have mid : ∀ (σ : Slots), σ 0 = .str src → σ 6 = .list 2 (rowsA h0.length) .full → σ 5 = .list 7 (out.map tokA) r → σ 7 = .bool any → σ 8 = .int .i64 a → σ 9 = .str (cutL (src.drop a)) → σ 12 = .int .i64 ((a : Int) + (cutB (src.drop a) 10).length + 1) →
    Wp M J63_2 (blkQ 1 (thenQ (fun σ' h' => ∃ m, m < src.length + 1 - a ∧ InvX src res h0 m σ' h') (blkQ 0 (thenQ (Wp M K63_0 Q) Q)))) σ h := by
   clear s0 s6 s5 s7 s8
   intro σ s0 s6 s5 s7 s8 s9 s12
   have htl : (cutL (src.drop a)).length ≤ 100000 := by omega
   generalize cutL (src.drop a) = text at *
   generalize (cutB (src.drop a) 10).length = tl at *
   cases hc : text[runN blkC text]? with
   | none =>
    rw [hc] at hd
    simp only at hd
    have hn : runN blkC text = text.length := by
     rcases Nat.lt_or_ge (runN blkC text) text.length with h | h
     ·rw [List.getElem?_eq_getElem h] at hc; cases hc
     ·omega
    simp [-getElem?_pos, wJ63_2, s0, s6, s5, s7, s8, s9, s12, hrun, hn]
    exact ⟨src.length + 1 - (a + tl + 1), by omega, a + tl + 1, f, any, out, r, by omega, rfl, by omega, by omega, hd, by simp [s0], by simp [s6], by simp [s5], by simp [s7], by simp, ow, ht⟩
   | some c =>
    rw [hc] at hd
    simp only at hd
    have hnl : runN blkC text < text.length := (List.getElem?_eq_some_iff.1 hc).1
    generalize runN blkC text = n at *
    have hn1 : ¬ n = text.length := by omega
    have e59 : ((c.toNat : Int) = 59) = (c = 59) := u8_eq c 59 (by omega)
    by_cases h59 : c = 59
    ·rw [if_pos h59] at hd
     subst h59
     have hn1i : ¬ (n : Int) = text.length := by omega
     simp [-getElem?_pos, wJ63_2, s0, s6, s5, s7, s8, s9, s12, hrun, hn1, hn1i, hnl, hc]
     exact ⟨src.length + 1 - (a + tl + 1), by omega, a + tl + 1, f, any, out, r, by omega, rfl, by omega, by omega, hd, by simp [s0], by simp [s6], by simp [s5], by simp [s7], by simp, ow, ht⟩
    rw [if_neg h59] at hd
    have e59' := eq_false h59
    rw [← e59] at e59'
    have tail : ∀ (Q1 : Ex → Slots → Heap → Prop) (σ : Slots) (h : Heap) (out1 : List Tok) (r1 : Rt), (∀ σ h xs r a b, σ 2 = .list 7 (xs.map tokA) r → σ 3 = .int .i64 a → σ 4 = .int .i64 b → h.take h0.length = h0 → res = (xs, a, b) → Q1 .ret σ h) →
      (∀ σ h, InvX src res h0 (src.length + 1 - (a + tl + 1)) σ h → Q1 .normal σ h) → σ 0 = .str src → σ 6 = .list 2 (rowsA h0.length) .full → σ 5 = .list 7 (out1.map tokA) r1 → σ 8 = .int .i64 a → σ 9 = .str text → σ 12 = .int .i64 ((a : Int) + tl + 1) →
      Ow (h0.length + 14) h 7 125 r1 out1.length → h.take (h0.length + 14) = h0 ++ rowsH → out1.length ≤ 3 * a + 1 →
      (if (lineP text a (text.length + 2) 0 []).2.2 ≠ 0 then ([], (lineP text a (text.length + 2) 0 []).2.1, (lineP text a (text.length + 2) 0 []).2.2) else lexF src f (a + tl + 1) true (out1 ++ (lineP text a (text.length + 2) 0 []).1)) = res → Wp M J63_1 Q1 σ h := by
     clear s0 s6 s5 s7 s8 s9 s12 ht0 ow ht hle hd hout
     intro Q1 σ h out1 r1 q1 q2 s0 s6 s5 s8 s9 s12 ow ht hout hd
     have ht0 : h.take h0.length = h0 := by
      have := congrArg (List.take h0.length) ht
      simpa [List.take_take] using this
     have hle : h0.length + 14 ≤ h.length := by
      have := congrArg List.length ht
      simp [rowsH] at this
      omega
     obtain ⟨x, hx, r2, rfl⟩ := line_ok text htl a (by omega) h0.length .full h (HR_take ht)
     have hll := lineP_len text a (text.length + 2) 0 []
     simp at hll
     generalize lineP text a (text.length + 2) 0 [] = res1 at *
     obtain ⟨o1, p, e⟩ := res1
     simp only at hx hd hll
     by_cases he : e = 0
     ·subst he
      simp only [ne_eq, not_true, if_false] at hd
      simp [wJ63_1, s0, s6, s5, s8, s9, s12, hx, -Int.natCast_add]
      obtain ⟨r', g', p1, p2, p3⟩ := app_list (n0 := h0.length + 14) (key := h.length) (sz := 7) (bytes := 56) (e := 125) (h := h ++ [AE.dead]) (xs := out1.map tokA) (ys := o1.map tokA) (r := r1) (r2 := r2)
       (by simpa using ow.app _) (by omega) (by simp) (by simp; omega) (by simp; omega)
      rw [p1]
      simp
      refine q2 _ _ ⟨a + tl + 1, f, true, out1 ++ o1, r', by omega, rfl, by omega, by simp; omega, hd, by simp [s0], by simp [s6], by simp, by simp, by simp [s12], by simpa using p2, ?_⟩
      rw [p3.takeLe (by omega), take_app (by omega), ht]
     ·simp only [ne_eq, he, not_false_eq_true, if_true] at hd
      simp [wJ63_1, s0, s6, s5, s8, s9, s12, hx, he]
      exact q1 _ _ [] .full _ _ (by simp) (by simp) (by simp) ht0 hd.symm
    rcases Nat.eq_zero_or_pos n with hn0 | hn0
    ·subst hn0
     have hpos : 0 < text.length := hnl
     have hn1i : ¬ (0 : Int) = text.length := by omega
     cases hlet : letC c with
     | false =>
      rw [if_pos (.inl ⟨rfl, hlet⟩)] at hd
      simp [-getElem?_pos, wJ63_2, wJ63_0, s0, s6, s5, s7, s8, s9, s12, hrun, hn1, hn1i, hnl, hc, e59', letter_ok, hlet]
      exact fin _ _ [] .full _ _ (by simp) (by simp) (by simp) ht0 hd.symm
     | true =>
      rw [if_neg (by simp [hlet])] at hd
      cases any with
      | false =>
       simp [-getElem?_pos, wJ63_2, wJ63_0, s0, s6, s5, s7, s8, s9, s12, hrun, hn1, hn1i, hnl, hc, e59', letter_ok, hlet]
       exact tail _ _ h out r (fun σ h xs r a b q1 q2 q3 q4 q5 => fin σ h xs r a b q1 q2 q3 q4 q5) (fun σ h k => ⟨_, by omega, k⟩) (by simp [s0]) (by simp [s6]) (by simp [s5]) (by simp [s8]) (by simp [s9]) (by simp [s12]) ow ht (by omega) (by simpa using hd)
      | true =>
       simp [-getElem?_pos, wJ63_2, wJ63_0, s0, s6, s5, s7, s8, s9, s12, hrun, hn1, hn1i, hnl, hc, e59', letter_ok, hlet]
       obtain ⟨r', g', p1, p2, p3⟩ := app_list (n0 := h0.length + 14) (key := h.length) (sz := 7) (bytes := 56) (e := 125) (h := h ++ [AE.dead]) (xs := out.map tokA) (ys := [tokA { kind := 13, pos := (a : Int) }]) (r := r) (r2 := .full)
        (by simpa using ow.app _) (by omega) (by simp) (by simp; omega) (by simp; omega)
       simp [tokA, tokL] at p1
       rw [p1]
       simp
       exact tail _ _ g' (out ++ [{ kind := 13, pos := (a : Int) }]) r' (fun σ h xs r a b q1 q2 q3 q4 q5 => fin σ h xs r a b q1 q2 q3 q4 q5) (fun σ h k => ⟨_, by omega, k⟩) (by simp [s0]) (by simp [s6]) (by simp [tokA, tokL]) (by simp [s8]) (by simp [s9]) (by simp [s12]) (by simpa using p2) (by rw [p3.takeLe (by omega), take_app (by omega), ht]) (by simp; omega) (by simpa using hd)
    ·have hn0' : (0 : Int) < n := by omega
     have hn0'' : ¬ n = 0 := by omega
     have hn1i : ¬ (n : Int) = text.length := by omega
     cases any with
     | false =>
      simp [-getElem?_pos, wJ63_2, wJ63_0, s0, s6, s5, s7, s8, s9, s12, hrun, hn1, hn1i, hnl, hc, e59', hn0, hn0', hn0'']
      rw [if_pos (.inr ⟨hn0, rfl⟩)] at hd
      exact fin _ _ [] .full _ _ (by simp) (by simp) (by simp) ht0 hd.symm
     | true =>
      rw [if_neg (by simp [hn0''])] at hd
      simp [-getElem?_pos, wJ63_2, wJ63_0, s0, s6, s5, s7, s8, s9, s12, hrun, hn1, hn1i, hnl, hc, e59', hn0, hn0', hn0'']
      exact tail _ _ h out r (fun σ h xs r a b q1 q2 q3 q4 q5 => fin σ h xs r a b q1 q2 q3 q4 q5) (fun σ h k => ⟨_, by omega, k⟩) (by simp [s0]) (by simp [s6]) (by simp [s5]) (by simp [s8]) (by simp [s9]) (by simp [s12]) ow ht (by omega) (by simpa [hn0''] using hd)
  by_cases hm : 10 ∈ src.drop a
  ·simp [-getElem?_pos, wL63_0, s0, s6, s5, s7, s8, hlt, hla, hcut, hm, htrim, w1, w2]
   exact mid _ (by simp [s0]) (by simp [s6]) (by simp [s5]) (by simp [s7]) (by simp [s8]) (by simp [cutL, hm]) (by simp)
  ·simp [-getElem?_pos, wL63_0, s0, s6, s5, s7, s8, hlt, hla, hcut, hm, htrim, w1, w2]
   exact mid _ (by simp [s0]) (by simp [s6]) (by simp [s5]) (by simp [s7]) (by simp [s8]) (by simp [cutL, hm]) (by simp)
 ·rw [if_neg hlt] at hd
  cases any with
  | false =>
   simp [wL63_0, wK63_0, wJ63_3, s0, s6, s5, s7, s8, hlt]
   exact fin _ _ out r 0 0 (by simp) (by simp) (by simp) ht0 (by rw [← hd]; rfl)
  | true =>
   simp [wL63_0, wK63_0, s0, s6, s5, s7, s8, hlt]
   obtain ⟨r', g', p1, p2, p3⟩ := app_list (n0 := h0.length + 14) (key := h.length) (sz := 7) (bytes := 56) (e := 125) (h := h ++ [AE.dead]) (xs := out.map tokA) (ys := [tokA { kind := 13, pos := (src.length : Int) }]) (r := r) (r2 := .full)
    (by simpa using ow.app _) (by omega) (by simp) (by simp; omega) (by simp; omega)
   simp [tokA, tokL] at p1
   rw [p1]
   simp [wJ63_3]
   exact fin _ _ (out ++ [{ kind := 13, pos := (src.length : Int) }]) r' 0 0 (by simp [tokA, tokL]) (by simp) (by simp) (by rw [p3.takeLe (by omega), take_app (by omega), ht0]) (by rw [← hd]; rfl)
end Go.Proofs.YtcflbdikkcpiaaaGreatDoor
