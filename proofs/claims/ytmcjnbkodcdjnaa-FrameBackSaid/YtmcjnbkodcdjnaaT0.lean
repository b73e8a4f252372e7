/-
  strings.Contains and strings.Join by the library's contracts.
-/
import Derived.Test.YtmcjnbkodcdjnaaAc
import Derived.Test.YtmcjnbkodcdjnaaSh
set_option linter.unusedVariables false
set_option linter.unusedSimpArgs false
namespace Go.Proofs.Ytmcjnbkodcdjnaa
open Go Go.Am Go.RowKit

def cnPat (a : List AV) : Option AV := match a with
  | [.str s, .str t] => if s.length < 4294967281 then some (.bool (Lib.contains s t)) else none
  | _ => none
def strsOf : List AV → Option (List (List UInt8))
  | [] => some []
  | .str s :: l => (strsOf l).map (s :: ·)
  | _ :: _ => none
def jnPat (a : List AV) : Option AV := match a with
  | [.list 1 xs r, .str t] => match strsOf xs with
    | some l => if l.length ≤ 140737488355328 ∧ (Lib.join l t).length ≤ 140737488355328 then some (.str (Lib.join l t)) else none
    | none => none
  | _ => none
def XS : CallO := orX (fX 13 cnPat) (fX 14 jnPat)
theorem strsOf_eq : ∀ {xs : List AV} {l : List (List UInt8)}, strsOf xs = some l → xs = l.map AV.str
  | [], l, h => by injection h with h; subst h; rfl
  | x :: xs, l, h => by
    cases x with
    | str s =>
      cases hs : strsOf xs with
      | none => simp [strsOf, hs] at h
      | some l' =>
        simp only [strsOf, hs, Option.map_some, Option.some.injEq] at h
        subst h
        rw [strsOf_eq hs]
        rfl
    | _ => cases h
theorem strsOf_map : ∀ (l : List (List UInt8)), strsOf (l.map AV.str) = some l
  | [] => rfl
  | s :: l => by simp [strsOf, strsOf_map l]
theorem cnOk : CallOk Try.prog (fX 13 cnPat) := by
  refine fX_ok fun args r hp B w0 E h w vs hr hsz hrd => ?_
  unfold cnPat at hp
  split at hp
  · rename_i s t
    split at hp
    · rename_i hc
      injection hp with hp
      subst hp
      obtain ⟨u, v, rfl, h1, h2⟩ := args2 (by simpa using hsz) hrd
      rw [h1.inv_str, h2.inv_str]
      obtain ⟨hB, m, ty, fr, hz⟩ := hr.z
      have hm : w.cell? ⟨0, 0, none⟩ = some (.int .i64 m) := by
        have := (hr.below.block 0 hB).trans hz
        simp [World.cell?, this]
      refine fires_of_calls Try.func13 rfl (by kernel_rfl) (Try.strings_Contains ⟨⟨s⟩⟩ ⟨⟨t⟩⟩ m w (by simpa [ByteArray.size] using hc) hm) ?_
      rintro e w' ⟨rfl, rfl⟩
      exact ⟨_, rfl, Below.refl _ _, .bool _⟩
    · cases hp
  · cases hp
theorem jnOk : CallOk Try.prog (fX 14 jnPat) := by
  refine fX_ok fun args r hp B w0 E h w vs hr hsz hrd => ?_
  unfold jnPat at hp
  split at hp
  · rename_i xs rt t
    split at hp
    · rename_i l hl
      split at hp
      · rename_i hc
        injection hp with hp
        subst hp
        obtain rfl := strsOf_eq hl
        obtain ⟨u, v, rfl, h1, h2⟩ := args2 (by simpa using hsz) hrd
        rw [h2.inv_str]
        cases h1 with
        | list A n c sz xs r g o vs k1 k2 k3 k4 k5 k6 k7 =>
          cases l with
          | nil =>
            simp at k1
            subst k1
            refine fires_of_calls Try.func14 rfl (by kernel_rfl) (Try.strings_Join_none A c ⟨⟨t⟩⟩ w) ?_
            rintro e w' ⟨rfl, rfl⟩
            exact ⟨_, rfl, Below.refl _ _, .str _⟩
          | cons x l =>
            have hn : 0 < n := by rw [← k1]; simp
            rw [k3 hn]
            have hcell : ∀ (j : Nat) y, ((x :: l).map fun s : List UInt8 => (⟨⟨s⟩⟩ : ByteArray))[j]? = some y → w.cell? ⟨g, o + j, none⟩ = some (.string y) := by
              intro j y hy
              rw [List.getElem?_map, Option.map_eq_some_iff] at hy
              obtain ⟨s, hs, rfl⟩ := hy
              have hj : j < n := by
                have := (List.getElem?_eq_some_iff.1 hs).1
                rw [← k1]
                simpa using this
              have p := hr.prot g (o + (j * 1 + 0)) _ (k5 j 0 hj (by omega))
              have q := (k6 j (.str s) 0 (.str s) (by rw [List.getElem?_map, hs]; rfl) rfl).inv_str
              rw [q] at p
              simpa using p
            have hbk : g < w.heap.size := by
              have p := hcell 0 _ rfl
              unfold World.cell? at p
              cases hg : w.heap[g]? with
              | none => simp [hg] at p
              | some b => exact (Array.getElem?_eq_some_iff.1 hg).1
            have hlen : ((x :: l).map fun s : List UInt8 => (⟨⟨s⟩⟩ : ByteArray)).length = n := by rw [← k1]; simp
            have e : (((x :: l).map fun s : List UInt8 => (⟨⟨s⟩⟩ : ByteArray)).map (·.data.toList)) = x :: l := by
              rw [List.map_map]
              exact List.map_id _
            have k := Try.strings_Join g o c ((x :: l).map fun s : List UInt8 => (⟨⟨s⟩⟩ : ByteArray)) ⟨⟨t⟩⟩ w hcell hbk (by simpa using hc.1) (by rw [hlen]; exact k2) (by rw [e]; exact hc.2)
            rw [hlen, e] at k
            refine fires_of_calls Try.func14 rfl (by kernel_rfl) k ?_
            rintro e w' ⟨rfl, hb⟩
            exact ⟨_, rfl, hb, .str _⟩
      · cases hp
    · cases hp
  · cases hp
theorem extOk : CallOk Try.prog XS := orX_ok cnOk jnOk
theorem extFr : FrX XS := orX_fr (fX_fr _ _) (fX_fr _ _)
noncomputable abbrev M : Orc := lim XS T
theorem contains_ok (s t : List UInt8) (hs : s.length < 4294967281) (h : Heap) : M.call 13 [.str s, .str t] h = some (.bool (Lib.contains s t), h) := by
  refine lim_ext ?_
  have e1 : fX 13 cnPat 13 [.str s, .str t] h = some (.bool (Lib.contains s t), h) := by
    unfold fX cnPat
    simp only [if_true]
    rw [if_pos hs]
    rfl
  unfold XS orX
  rw [e1]
theorem join_ok (l : List (List UInt8)) (t : List UInt8) (r : Rt) (h1 : l.length ≤ 140737488355328) (h2 : (Lib.join l t).length ≤ 140737488355328) (h : Heap) : M.call 14 [.list 1 (l.map AV.str) r, .str t] h = some (.str (Lib.join l t), h) := by
  refine lim_ext ?_
  have e0 : fX 13 cnPat 14 [.list 1 (l.map AV.str) r, .str t] h = none := rfl
  unfold XS orX
  rw [e0]
  simp only
  unfold fX jnPat
  simp only [if_true, strsOf_map]
  rw [if_pos ⟨h1, h2⟩]
  rfl
end Go.Proofs.Ytmcjnbkodcdjnaa
