/-
  The laws' machine: Encode, Decode and strings.Count by their contracts; awake.
-/
import Derived.Test.YtbhdfmkcoolghaaU14
import Derived.Test.YtbhdfmkcoolghaaV0
import Derived.KernelRfl
set_option linter.unusedVariables false
set_option linter.unusedSimpArgs false
set_option maxRecDepth 20000
namespace Go.Proofs.Ytbhdfmkcoolghaa
open Go Go.Am Go.RowKit

open Classical in
noncomputable def encPat (a : List AV) : Option AV := match a with
  | [.list 1 xs _] => match asBytes xs with
    | some s => if xs = ofBytes s ∧ s.length ≤ 100000000 then some (.list 1 (ofBytes (encP s)) .no) else none
    | _ => none
  | _ => none
open Classical in
noncomputable def decPat (a : List AV) : Option AV := match a with
  | [.list 1 xs _] => match asBytes xs with
    | some s => if xs = ofBytes s ∧ s.length ≤ 100000000 then some (decA s) else none
    | _ => none
  | _ => none
def cntPat (a : List AV) : Option AV := match a with
  | [.str s, .str t] => if s.length < 1000000000 ∧ 1 ≤ t.length then some (.int .i64 (Lib.count s t : Nat)) else none
  | _ => none
theorem encOk : CallOk Try.prog (fX 8 encPat) := by
  intro f args h r h' hx
  unfold fX at hx
  split at hx
  · rename_i hf
    subst hf
    simp only [Option.map_eq_some_iff, Prod.mk.injEq] at hx
    obtain ⟨r0, hp, rfl, rfl⟩ := hx
    unfold encPat at hp
    split at hp
    · split at hp
      · split at hp
        · rename_i hc
          obtain ⟨rfl, hl⟩ := hc
          injection hp with hp
          subst hp
          exact enc_good hl
        · cases hp
      · cases hp
    · cases hp
  · cases hx
theorem decOk : CallOk Try.prog (fX 9 decPat) := by
  intro f args h r h' hx
  unfold fX at hx
  split at hx
  · rename_i hf
    subst hf
    simp only [Option.map_eq_some_iff, Prod.mk.injEq] at hx
    obtain ⟨r0, hp, rfl, rfl⟩ := hx
    unfold decPat at hp
    split at hp
    · split at hp
      · split at hp
        · rename_i hc
          obtain ⟨rfl, hl⟩ := hc
          injection hp with hp
          subst hp
          exact dec_good hl
        · cases hp
      · cases hp
    · cases hp
  · cases hx
theorem cntOk : CallOk Try.prog (fX 15 cntPat) := by
  refine fX_ok fun args r hp B w0 E h w vs hr hsz hrd => ?_
  unfold cntPat at hp
  split at hp
  · rename_i s t
    split at hp
    · rename_i hc
      injection hp with hp
      subst hp
      obtain ⟨u, v, rfl, h1, h2⟩ := args2 (by simpa using hsz) hrd
      rw [h1.inv_str, h2.inv_str]
      obtain ⟨hB, m, ty, fr, hz⟩ := hr.z
      have hm : w.cell? ⟨0, 0, none⟩ = some (.int .i64 m) := by
        have := (hr.below.block 0 hB).trans hz
        simp [World.cell?, this]
      by_cases h2 : 2 ≤ t.length
      · refine fires_of_calls Try.func15 rfl (by kernel_rfl) (Try.strings_Count ⟨⟨s⟩⟩ ⟨⟨t⟩⟩ m w (by have := hc.1; simp [ByteArray.size]; omega) hm (by simpa [ByteArray.size] using h2)) ?_
        rintro e w' ⟨rfl, rfl⟩
        exact ⟨_, rfl, Below.refl _ _, .int _ _⟩
      · match t, hc, h2 with
        | [c], _, _ =>
          refine fires_of_calls Try.func15 rfl (by kernel_rfl) (Try.strings_Count_one ⟨⟨s⟩⟩ c w) ?_
          rintro e w' ⟨rfl, rfl⟩
          have e : (Lib.countByte s c : Int) = ((Lib.count s [c] : Nat) : Int) := by rw [Lib.count_one]; rfl
          exact ⟨_, rfl, Below.refl _ _, by rw [← e]; exact .int _ _⟩
        | [], hc, _ => simp at hc
        | c :: d :: t, _, h2 => simp at h2
    · cases hp
  · cases hp
noncomputable def XL : CallO := orX (fX 8 encPat) (orX (fX 9 decPat) (fX 15 cntPat))
theorem extOk : CallOk Try.prog XL := orX_ok encOk (orX_ok decOk cntOk)
theorem extFr : FrX XL := orX_fr (fX_fr _ _) (orX_fr (fX_fr _ _) (fX_fr _ _))
noncomputable abbrev ML : Orc := lim XL T
theorem XL_none {f : FuncId} (h1 : f ≠ 8) (h2 : f ≠ 9) (h3 : f ≠ 15) (a : List AV) (h : Heap) : XL f a h = none := by
  simp [XL, orX, fX, h1, h2, h3]
theorem noxL : NoX XL := by
  intro f hf a h
  refine XL_none ?_ ?_ ?_ a h <;> (intro e; subst e; revert hf; decide)
theorem encM (s : List UInt8) (r : Rt) (hl : s.length ≤ 100000000) (h : Heap) : ML.call 8 [.list 1 (ofBytes s) r] h = some (.list 1 (ofBytes (encP s)) .no, h) := by
  refine lim_ext ?_
  simp [XL, orX, fX, encPat, hl]
theorem decM (s : List UInt8) (r : Rt) (hl : s.length ≤ 100000000) (h : Heap) : ML.call 9 [.list 1 (ofBytes s) r] h = some (decA s, h) := by
  refine lim_ext ?_
  simp [XL, orX, fX, decPat, hl]
theorem cntM (s t : List UInt8) (hl : s.length < 1000000000) (ht : 1 ≤ t.length) (h : Heap) : ML.call 15 [.str s, .str t] h = some (.int .i64 (Lib.count s t : Nat), h) := by
  refine lim_ext ?_
  simp [XL, orX, fX, cntPat, hl, ht]
theorem awake_ok (h : Heap) : ML.call 7 [] h = some (.bool true, h) := by
  refine lim_call_of tab7 (XL_none (by decide) (by decide) (by decide) _ _) (callF_wp ?_)
  have d1 : ∀ r h, ML.call 9 [.list 1 (ofBytes [46, 13, 10, 46, 120]) r] h = some (.tup [.list 1 [] .no, .int .i64 3, .bool true], h) := fun r h => by
    have e : decP [46, 13, 10, 46, 120] = some ([], 3) := by kernel_rfl
    have := decM [46, 13, 10, 46, 120] r (by simp) h
    unfold decA at this
    rw [e] at this
    exact this
  have d2 : ∀ r h, ML.call 9 [.list 1 (ofBytes [97, 46]) r] h = some (.tup [.list 1 [] .no, .int .i64 0, .bool false], h) := fun r h => by
    have e : decP [97, 46] = none := by kernel_rfl
    have := decM [97, 46] r (by simp) h
    unfold decA at this
    rw [e] at this
    exact this
  have e1 : ∀ r h, ML.call 8 [.list 1 (ofBytes [97, 13, 10, 46, 98]) r] h = some (.list 1 (ofBytes [97, 13, 10, 46, 46, 98, 13, 10, 46, 13, 10]) .no, h) := fun r h => by
    have e : encP [97, 13, 10, 46, 98] = [97, 13, 10, 46, 46, 98, 13, 10, 46, 13, 10] := by kernel_rfl
    have := encM [97, 13, 10, 46, 98] r (by simp) h
    rw [e] at this
    exact this
  have e2 : ∀ r h, ML.call 8 [.list 1 [] r] h = some (.list 1 (ofBytes [46, 13, 10]) .no, h) := fun r h => by
    have e : encP [] = [46, 13, 10] := by kernel_rfl
    have := encM [] r (by simp) h
    rw [e] at this
    exact this
  have u1 : ∀ h, ML.call 13 [.str [46]] h = some (.tup [.str [], .bool true], h) := fun h => unstuff_ok noxL [46] h
  have u2 : ∀ h, ML.call 13 [.str [46, 46]] h = some (.tup [.str [46], .bool false], h) := fun h => unstuff_ok noxL [46, 46] h
  have s1 : ∀ h, ML.call 14 [.str [46, 97]] h = some (.str [46, 46, 97], h) := fun h => stuff_ok noxL [46, 97] (by simp) h
  have s2 : ∀ h, ML.call 14 [.str [97, 46]] h = some (.str [97, 46], h) := fun h => stuff_ok noxL [97, 46] (by simp) h
  simp [wB7, d1, d2, e1, e2, u1, u2, s1, s2]
end Go.Proofs.Ytbhdfmkcoolghaa
