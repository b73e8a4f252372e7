/-
  The machine of this seat; functions of the library by contracts.
-/
import Derived.Test.YtjdpneceeinhhaaDoorAc
import Derived.Test.YtjdpneceeinhhaaDoorC0
set_option linter.unusedVariables false
set_option linter.unusedSimpArgs false
namespace Go.Proofs.YtjdpneceeinhhaaDoor
open Go Go.Am Go.RowKit

theorem abin_rem (k : IntKind) (a b : Int) : abin .rem (.int k a) (.int k b) = if b = 0 then none else some (.int k (a.tmod b)) := by simp [abin, ibin]
theorem abin_quo (k : IntKind) (a b : Int) : abin .quo (.int k a) (.int k b) = if b = 0 then none else some (.int k (k.wrap (a.tdiv b))) := by simp [abin, ibin]
def repL (l : List UInt8) : Nat → List UInt8
  | 0 => []
  | n + 1 => l ++ repL l n
def repPat (a : List AV) : Option AV := match a with
  | [.str s, .int .i64 n] => if 0 ≤ n ∧ n ≤ 1000000000 ∧ s.length * n.toNat ≤ 140737488355328 then some (.str (repL s n.toNat)) else none
  | _ => none
def itPat (a : List AV) : Option AV := match a with
  | [.int .i64 n] => if -9223372036854775808 ≤ n ∧ n ≤ 9223372036854775807 then some (.str (Lib.itoa n)) else none
  | _ => none
def puPat (a : List AV) : Option AV := match a with
  | [.str s, .int .i64 b, .int .i64 z] => if b = 10 ∧ z = 16 ∧ s.length ≤ 1000000000 then
      (match Lib.parseUintB 16 s with
      | .ok u => some (.tup [.int .u64 u, .nili])
      | .syntax => some (.tup [.int .u64 0, .iface 90 .junk])
      | .range => none) else none
  | _ => none
def XS : CallO := orX (fX 22 itPat) (orX (fX 40 puPat) (orX (fX 21 repPat) (clX 29)))
noncomputable abbrev M : Orc := lim XS T
theorem call_of {f : FuncId} {F : AF} {args : List AV} {h : Heap} {r : AV × Heap} (hF : T f = some F) (hX : XS f args h = none) (hc : callF M F args h = some r) : M.call f args h = some r := lim_call_of hF hX hc

theorem repL_eq (s : List UInt8) : ∀ n, Lib.repeatL s n = repL s n
  | 0 => rfl
  | n + 1 => by simp only [Lib.repeatL, repL, repL_eq s n]
theorem repOk : CallOk Tryd.prog (fX 21 repPat) := by
  refine fX_ok fun args r hp B w0 E h w vs hr hsz hrd => ?_
  unfold repPat at hp
  split at hp
  · rename_i s n
    split at hp
    · rename_i hc
      injection hp with hp
      subst hp
      obtain ⟨u, v, rfl, h1, h2⟩ := args2 (by simpa using hsz) hrd
      rw [h1.inv_str, h2.inv_int]
      obtain ⟨k, rfl⟩ : ∃ k : Nat, n = k := ⟨n.toNat, by omega⟩
      obtain ⟨c1, c2, c3⟩ := hc
      simp only [Int.toNat_natCast] at c3 ⊢
      refine fires_of_calls Tryd.func21 rfl (by kernel_rfl) (Tryd.strings_Repeat ⟨⟨s⟩⟩ k w (by omega) (by simpa [ByteArray.size] using c3)) ?_
      rintro e w' ⟨rfl, hb⟩
      refine ⟨_, rfl, hb, ?_⟩
      rw [← repL_eq]
      exact .str _
    · cases hp
  · cases hp
theorem grow_below (w : World) (k : Nat) (os : Array Obj) : Below w.heap.size w (Sort.grow (w.drewN k) os) := by
  refine ⟨rfl, rfl, rfl, by simp [Sort.grow, World.drewN], fun i hi => ?_⟩
  show (w.heap ++ os)[i]? = w.heap[i]?
  rw [Array.getElem?_append_left hi]
theorem itOk : CallOk Tryd.prog (fX 22 itPat) := by
  refine fX_ok fun args r hp B w0 E h w vs hr hsz hrd => ?_
  unfold itPat at hp
  split at hp
  · rename_i n
    split at hp
    · rename_i hc
      injection hp with hp
      subst hp
      obtain ⟨u, rfl, h1⟩ := args1 (by simpa using hsz) hrd
      rw [h1.inv_int]
      have htab : Lib.TabIs Tryd.prog w "internal/strconv.uint64pow10" .u64 Lib.pow10Tab := by
        obtain ⟨⟨hB, t, fr, hz⟩, _⟩ := hr.z
        have := (hr.below.block 1 hB).trans hz
        have hg : Tryd.prog.globalNamed "internal/strconv.uint64pow10" = some 1 := by kernel_rfl
        unfold Lib.TabIs World.var?
        rw [hg]
        simp only [Option.bind_some, this]
        rfl
      refine fires_of_calls Tryd.func22 rfl (by kernel_rfl) (Tryd.strconv_Itoa n hc.1 hc.2 w htab) ?_
      rintro e w' ⟨rfl, k, os, rfl⟩
      exact ⟨_, rfl, grow_below w k os, .str _⟩
    · cases hp
  · cases hp
theorem puOk : CallOk Tryd.prog (fX 40 puPat) := by
  refine fX_ok fun args r hp B w0 E h w vs hr hsz hrd => ?_
  unfold puPat at hp
  split at hp
  · rename_i s b z
    split at hp
    · rename_i hc
      obtain ⟨rfl, rfl, hlen⟩ := hc
      obtain ⟨u, v, t, rfl, h1, h2, h3⟩ := args3 (by simpa using hsz) hrd
      rw [h1.inv_str, h2.inv_int, h3.inv_int]
      split at hp
      · rename_i u hu
        injection hp with hp
        subst hp
        refine fires_of_calls Tryd.func40 rfl (by kernel_rfl) (Tryd.strconv_ParseUint_10_at16_ok ⟨⟨s⟩⟩ (by simpa [ByteArray.size] using by omega) u hu w) ?_
        rintro e w' ⟨rfl, hw⟩
        refine ⟨_, rfl, ?_, .tup _ _ rfl fun i u x hu hx => ?_⟩
        · rcases hw with rfl | rfl
          · exact Below.refl _ _
          · exact below_bytesWorld _ _ _
        · match i with
          | 0 => simp at hu hx; subst hu; subst hx; exact .int _ _
          | 1 => simp at hu hx; subst hu; subst hx; exact .nili
          | i + 2 => simp at hx
      · rename_i hu
        injection hp with hp
        subst hp
        obtain ⟨_, hB, te, pe, t, fr, hz⟩ := hr.z
        have hcell : w.cell? ⟨2, 0, none⟩ = some (.iface te pe) := by
          have := (hr.below.block 2 hB).trans hz
          simp [World.cell?, this]
        refine fires_of_calls Tryd.func40 rfl (by kernel_rfl) (Tryd.strconv_ParseUint_10_at16_syntax ⟨⟨s⟩⟩ (by simpa [ByteArray.size] using by omega) hu _ w hcell (.inr ⟨te, pe, rfl⟩)) ?_
        rintro e w' ⟨N, rfl, _, _, hb⟩
        refine ⟨_, rfl, hb, .tup _ _ rfl fun i u x hu hx => ?_⟩
        match i with
        | 0 => simp at hu hx; subst hu; subst hx; exact .int _ _
        | 1 => simp at hu hx; subst hu; subst hx; exact .iface _ _ _ (.junk _)
        | i + 2 => simp at hx
      · cases hp
    · cases hp
  · cases hp
theorem extOk : CallOk Tryd.prog XS := orX_ok itOk (orX_ok puOk (orX_ok repOk clOk))
theorem extFr : FrXT T XS := orX_frT (fX_fr _ _) (orX_frT (fX_fr _ _) (orX_frT (fX_fr _ _) (clX_fr clT)))

theorem repeat_ok (s : List UInt8) (n : Nat) (hn : n ≤ 1000000000) (hs : s.length * n ≤ 140737488355328) (h : Heap) : M.call 21 [.str s, .int .i64 n] h = some (.str (repL s n), h) := by
  refine lim_ext ?_
  have h0 : (0 : Int) ≤ n ∧ (n : Int) ≤ 1000000000 ∧ s.length * (n : Int).toNat ≤ 140737488355328 := ⟨by omega, by omega, by simpa using hs⟩
  have e1 : fX 22 itPat 21 [.str s, .int .i64 n] h = none := rfl
  have e2 : fX 40 puPat 21 [.str s, .int .i64 n] h = none := rfl
  unfold XS orX
  rw [e1]
  simp only
  rw [e2]
  unfold fX repPat
  simp only [if_true]
  rw [if_pos h0]
  simp
theorem itoa_ok (n : Int) (h1 : -9223372036854775808 ≤ n) (h2 : n ≤ 9223372036854775807) (h : Heap) : M.call 22 [.int .i64 n] h = some (.str (Lib.itoa n), h) := by
  refine lim_ext ?_
  have e1 : fX 22 itPat 22 [.int .i64 n] h = some (.str (Lib.itoa n), h) := by
    unfold fX itPat
    simp only [if_true]
    rw [if_pos ⟨h1, h2⟩]
    rfl
  unfold XS orX
  rw [e1]
theorem u8_eq (c : UInt8) (n : Nat) (hn : n < 256) : ((c.toNat : Int) = (n : Int)) = (c = UInt8.ofNat n) := by
  apply propext
  constructor
  · intro e
    apply UInt8.toNat_inj.1
    rw [UInt8.toNat_ofNat', Nat.mod_eq_of_lt hn]
    omega
  · intro e
    rw [e, UInt8.toNat_ofNat', Nat.mod_eq_of_lt hn]
theorem get_bang (l : List UInt8) (i : Nat) (c : UInt8) (h : l[i]? = some c) : (⟨⟨l⟩⟩ : ByteArray).get! i = c := by
  have h1 : (⟨⟨l⟩⟩ : ByteArray).get! i = (⟨l⟩ : Array UInt8)[i]! := rfl
  rw [h1]
  obtain ⟨hi, he⟩ := List.getElem?_eq_some_iff.1 h
  rw [getElem!_pos (⟨l⟩ : Array UInt8) i (by simpa using hi)]
  simpa using he
theorem decode_low (l : List UInt8) (i : Nat) (c : UInt8) (h : l[i]? = some c) (hc : c.toNat < 128) : Utf8.decode ⟨⟨l⟩⟩ i = (c.toNat, 1) := by
  unfold Utf8.decode
  simp only [Nat.add_zero, get_bang l i c h]
  rw [if_pos hc]
theorem decode_high (l : List UInt8) (i : Nat) (c : UInt8) (h : l[i]? = some c) (hc : ¬ c.toNat < 128) : 128 ≤ (Utf8.decode ⟨⟨l⟩⟩ i).1 ∧ 1 ≤ (Utf8.decode ⟨⟨l⟩⟩ i).2 := by
  unfold Utf8.decode
  simp only [Nat.add_zero, get_bang l i c h]
  rw [if_neg hc]
  have hr : Utf8.runeError = 65533 := rfl
  split
  · split
    · rename_i h1; simp only at h1 ⊢; omega
    · rw [hr]; simp
  · split
    · split
      · rename_i h1; simp only [Bool.and_eq_true, decide_eq_true_eq] at h1 ⊢; omega
      · rw [hr]; simp
    · split
      · split
        · rename_i h1; simp only [Bool.and_eq_true, decide_eq_true_eq] at h1 ⊢; omega
        · rw [hr]; simp
      · rw [hr]; simp

end Go.Proofs.YtjdpneceeinhhaaDoor
