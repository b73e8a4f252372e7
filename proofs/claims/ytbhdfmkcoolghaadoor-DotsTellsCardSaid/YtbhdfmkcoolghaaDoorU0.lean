/-
  bytes.Index by the library's contract; bytes.Cut.
-/
import Derived.Test.YtbhdfmkcoolghaaDoorAc
import Derived.Test.YtbhdfmkcoolghaaDoorSh
set_option linter.unusedVariables false
set_option linter.unusedSimpArgs false
namespace Go.Proofs.YtbhdfmkcoolghaaDoor
open Go Go.Am Go.RowKit

open Classical in
noncomputable def biPat (a : List AV) : Option AV := match a with
  | [.list 1 xs _, .list 1 ys _] => match asBytes xs, asBytes ys with
    | some s, some t => if xs = ofBytes s ∧ ys = ofBytes t ∧ 0 < s.length ∧ s.length < 4294967281 ∧ 0 < t.length ∧ t.length ≤ 1000000 then some (.int .i64 (Lib.index s t)) else none
    | _, _ => none
  | _ => none
/-- The bytes of a list in memory. -/
theorem list_mem {B : Nat} {w0 : World} {E : Env} {h : Heap} {w : World} (hr : Rel B w0 E h w) {u : Value} {s : List UInt8} {r : Rt} (hv : Rd E u (.list 1 (ofBytes s) r)) (hs : 0 < s.length) :
    ∃ g o c, u = .slice (some ⟨g, o, none⟩) s.length c ∧ s.length ≤ c ∧ ∀ (j : Nat) x, s[j]? = some x → w.cell? ⟨g, o + j, none⟩ = some (.int .u8 x.toNat) := by
  cases hv with
  | list A n c sz xs r g o vs k1 k2 k3 k4 k5 k6 k7 =>
    have hn : s.length = n := by simpa [ofBytes] using k1
    rw [k3 (by omega)]
    refine ⟨g, o, c, by rw [hn], by omega, fun j x hj => ?_⟩
    have hlt := (List.getElem?_eq_some_iff.1 hj).1
    have p := hr.prot g (o + (j * 1 + 0)) _ (k5 j 0 (by omega) (by omega))
    rw [(k6 j (.int .u8 x.toNat) 0 (.int .u8 x.toNat) (by simp [ofBytes, hj]) rfl).inv_int] at p
    simpa using p
theorem biOk : CallOk Tryd.prog (fX 26 biPat) := by
  refine fX_ok fun args r hp B w0 E h w vs hr hsz hrd => ?_
  unfold biPat at hp
  split at hp
  · rename_i xs r1 ys r2
    split at hp
    · rename_i s t h1 h2
      split at hp
      · rename_i hc
        obtain ⟨rfl, rfl, c1, c2, c3, c4⟩ := hc
        injection hp with hp
        subst hp
        obtain ⟨u, v, rfl, h1, h2⟩ := args2 (by simpa using hsz) hrd
        obtain ⟨g, o, c, rfl, hcap, hcell⟩ := list_mem hr h1 c1
        obtain ⟨g', o', c', rfl, hcap', hcell'⟩ := list_mem hr h2 c3
        obtain ⟨hB, m, ty, fr, hz⟩ := hr.z
        have hm : w.cell? ⟨0, 0, none⟩ = some (.int .i64 m) := by
          have := (hr.below.block 0 hB).trans hz
          simp [World.cell?, this]
        have conv : ∀ l : List UInt8, Lib.bytesOf (l.map fun x => (x.toNat : Int)) = l := by
          intro l
          simp only [Lib.bytesOf, List.map_map]
          conv => rhs; rw [← List.map_id l]
          apply List.map_congr_left
          intro x _
          simp
        have rng : ∀ l : List UInt8, ∀ x ∈ (l.map fun x => (x.toNat : Int)), 0 ≤ x ∧ x < 256 := by
          intro l x hx
          rw [List.mem_map] at hx
          obtain ⟨y, _, rfl⟩ := hx
          have := y.toNat_lt
          omega
        have cl : ∀ (l : List UInt8) (g o : Nat), (∀ (j : Nat) x, l[j]? = some x → w.cell? ⟨g, o + j, none⟩ = some (.int .u8 x.toNat)) → ∀ i, i < l.length → w.cell? ((⟨g, o, none⟩ : Addr).add i) = some (.int .u8 ((l.map fun x => (x.toNat : Int)).getD i 0)) := by
          intro l g o hl i hi
          rw [add_plain, hl i l[i] (List.getElem?_eq_getElem hi)]
          simp [List.getD_eq_getElem?_getD, hi]
        have k := Tryd.bytes_Index_at ⟨g, o, none⟩ ⟨g', o', none⟩ s.length c t.length c' (s.map fun x => (x.toNat : Int)) (t.map fun x => (x.toNat : Int)) m w (by simp) (by simp) (rng s) (rng t) (cl s g o hcell) (cl t g' o' hcell') hcap c2 (by omega) hm
        rw [conv, conv] at k
        refine fires_of_calls Tryd.func26 rfl (by kernel_rfl) k ?_
        rintro e w' ⟨rfl, q, rfl⟩
        exact ⟨_, rfl, ⟨rfl, rfl, rfl, Nat.le_refl _, fun _ _ => rfl⟩, .int _ _⟩
      · cases hp
    · cases hp
  · cases hp
end Go.Proofs.YtbhdfmkcoolghaaDoor
