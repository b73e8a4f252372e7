/-
  DotsTells: the machine: Encode and Decode hand out rows; strings.Index, strings.ReplaceAll by the library's contracts; the reference's functions.
-/
import Derived.Test.YtbhdfmkcoolghaaDoorD14
import Derived.Test.YtbhdfmkcoolghaaDoorD15
import Derived.KernelRfl
set_option linter.unusedVariables false
set_option linter.unusedSimpArgs false
set_option maxRecDepth 20000
namespace Go.Proofs.YtbhdfmkcoolghaaDoor
open Go Go.Am Go.RowKit

open Classical in
noncomputable def rowX (f : FuncId) (F : Heap → List UInt8 → AV × Heap) : CallO := fun g a h => if g = f then (match a with
  | [.list 1 xs _] => match asBytes xs with
    | some s => if xs = ofBytes s ∧ s.length ≤ 100000000 then some (F h s) else none
    | _ => none
  | _ => none) else none
theorem rowX_ok {f : FuncId} {F : Heap → List UInt8 → AV × Heap} (hF : ∀ h s r, s.length ≤ 100000000 → Am.Good Tryd.prog f [.list 1 (ofBytes s) r] h (F h s).1 (F h s).2) : CallOk Tryd.prog (rowX f F) := by
  intro g a h r h' hx
  unfold rowX at hx
  split at hx
  · rename_i hg
    subst hg
    split at hx
    · split at hx
      · split at hx
        · rename_i s hq hc
          obtain ⟨rfl, hl⟩ := hc
          injection hx with hx
          have e1 : r = (F h s).1 := by rw [hx]
          have e2 : h' = (F h s).2 := by rw [hx]
          rw [e1, e2]
          exact hF h _ _ hl
        · cases hx
      · cases hx
    · cases hx
  · cases hx
theorem rowX_fr {f : FuncId} {F : Heap → List UInt8 → AV × Heap} (hF : ∀ h s k e, h[k]? = some AE.dead → F (h.set k e) s = ((F h s).1, (F h s).2.set k e)) : FrX (rowX f F) := by
  intro g a h k e hk
  unfold rowX
  split
  · split
    · split
      · split
        · exact ⟨fun hn => (by cases hn), fun r h' hx => by
            injection hx with hx
            rw [hF _ _ _ _ hk, hx]⟩
        · exact ⟨fun _ => rfl, fun _ _ hx => (by cases hx)⟩
      · exact ⟨fun _ => rfl, fun _ _ hx => (by cases hx)⟩
    · exact ⟨fun _ => rfl, fun _ _ hx => (by cases hx)⟩
  · exact ⟨fun _ => rfl, fun _ _ hx => (by cases hx)⟩
theorem set_app_lt {h l : Heap} {k : Nat} {e : AE} (hk : k < h.length) : (h ++ l).set k e = h.set k e ++ l := by
  rw [List.set_append, if_pos hk]
def encA (h : Heap) (s : List UInt8) : AV × Heap := (.gl 1 h.length (encP s).length, h ++ [.grow 1 (ofBytes (encP s))])
theorem encFr : FrX (rowX 11 encA) := rowX_fr fun h s k e hk => by
  simp [encA, set_app_lt (lt_of_get hk)]
theorem decFr : FrX (rowX 9 decA) := rowX_fr fun h s k e hk => by
  unfold decA
  split
  · split
    · rfl
    · simp [set_app_lt (lt_of_get hk)]
  · rfl
theorem encOk : CallOk Tryd.prog (rowX 11 encA) := rowX_ok fun h s r hl => enc_row hl
theorem decOk : CallOk Tryd.prog (rowX 9 decA) := rowX_ok fun h s r hl => dec_row hl
def idxPat (a : List AV) : Option AV := match a with
  | [.str s, .str t] => if s.length < 4294967281 then some (.int .i64 (Lib.index s t)) else none
  | _ => none
def rplPat (a : List AV) : Option AV := match a with
  | [.str s, .str t, .str u] => if s.length < 4294967281 ∧ 1 ≤ t.length ∧ s.length + Lib.count s t * u.length ≤ 140737488355328 then some (.str (Lib.replaceAll s t u)) else none
  | _ => none
theorem args3' {E : Env} {vs : Array Value} {a b c : AV} (hsz : vs.size = 3) (hrd : ∀ (i : Nat) (u : Value) (x : AV), vs[i]? = some u → [a, b, c][i]? = some x → Rd E u x) : ∃ u v w, vs = #[u, v, w] ∧ Rd E u a ∧ Rd E v b ∧ Rd E w c := by
  have h0 : vs[0]? = some vs[0] := Array.getElem?_eq_getElem (by omega)
  have h1 : vs[1]? = some vs[1] := Array.getElem?_eq_getElem (by omega)
  have h2 : vs[2]? = some vs[2] := Array.getElem?_eq_getElem (by omega)
  refine ⟨vs[0], vs[1], vs[2], ?_, hrd 0 _ _ h0 rfl, hrd 1 _ _ h1 rfl, hrd 2 _ _ h2 rfl⟩
  apply Array.ext
  · exact hsz
  · intro i k1 k2
    match i, k2 with
    | 0, _ => rfl
    | 1, _ => rfl
    | 2, _ => rfl
theorem maxlen {B : Nat} {w0 : World} {E : Env} {h : Heap} {w : World} (hr : Rel B w0 E h w) : ∃ m, w.cell? ⟨0, 0, none⟩ = some (.int .i64 m) := by
  obtain ⟨hB, m, ty, fr, hz⟩ := hr.z
  have := (hr.below.block 0 hB).trans hz
  exact ⟨m, by simp [World.cell?, this]⟩
theorem idxOk : CallOk Tryd.prog (fX 16 idxPat) := by
  refine fX_ok fun args r hp B w0 E h w vs hr hsz hrd => ?_
  unfold idxPat at hp
  split at hp
  · rename_i s t
    split at hp
    · rename_i hc
      injection hp with hp
      subst hp
      obtain ⟨u, v, rfl, h1, h2⟩ := args2 (by simpa using hsz) hrd
      rw [h1.inv_str, h2.inv_str]
      obtain ⟨m, hm⟩ := maxlen hr
      refine fires_of_calls Tryd.func16 rfl (by kernel_rfl) (Tryd.strings_Index ⟨⟨s⟩⟩ ⟨⟨t⟩⟩ m w (by simpa [ByteArray.size] using hc) hm) ?_
      rintro e w' ⟨rfl, rfl⟩
      exact ⟨_, rfl, Below.refl _ _, .int _ _⟩
    · cases hp
  · cases hp
theorem rplOk : CallOk Tryd.prog (fX 17 rplPat) := by
  refine fX_ok fun args r hp B w0 E h w vs hr hsz hrd => ?_
  unfold rplPat at hp
  split at hp
  · rename_i s t u
    split at hp
    · rename_i hc
      injection hp with hp
      subst hp
      obtain ⟨x, y, z, rfl, h1, h2, h3⟩ := args3' (by simpa using hsz) hrd
      rw [h1.inv_str, h2.inv_str, h3.inv_str]
      obtain ⟨m, hm⟩ := maxlen hr
      refine fires_of_calls Tryd.func17 rfl (by kernel_rfl) (Tryd.strings_ReplaceAll ⟨⟨s⟩⟩ ⟨⟨t⟩⟩ ⟨⟨u⟩⟩ m w (by simpa [ByteArray.size] using hc.1) hm (by simpa [ByteArray.size] using hc.2.1) (by simpa [ByteArray.size, Lib.countB] using hc.2.2)) ?_
      rintro e w' ⟨rfl, hb⟩
      exact ⟨_, rfl, hb, .str _⟩
    · cases hp
  · cases hp
noncomputable def XL : CallO := orX (rowX 11 encA) (orX (rowX 9 decA) (orX (fX 16 idxPat) (fX 17 rplPat)))
theorem extOk : CallOk Tryd.prog XL := orX_ok encOk (orX_ok decOk (orX_ok idxOk rplOk))
theorem extFr0 : FrX XL := orX_fr encFr (orX_fr decFr (orX_fr (fX_fr _ _) (fX_fr _ _)))
theorem extFr : FrXT T XL := extFr0.weak T
noncomputable abbrev ML : Orc := lim XL T
theorem XL_none {f : FuncId} (h1 : f ≠ 11) (h2 : f ≠ 9) (h3 : f ≠ 16) (h4 : f ≠ 17) (a : List AV) (h : Heap) : XL f a h = none := by
  simp [XL, orX, fX, rowX, h1, h2, h3, h4]
theorem noxL : NoX XL := by
  intro f hf a h
  refine XL_none ?_ ?_ ?_ ?_ a h <;> (intro e; subst e; revert hf; decide)
theorem encM (s : List UInt8) (r : Rt) (hl : s.length ≤ 100000000) (h : Heap) : ML.call 11 [.list 1 (ofBytes s) r] h = some (.gl 1 h.length (encP s).length, h ++ [.grow 1 (ofBytes (encP s))]) := by
  refine lim_ext ?_
  simp [XL, orX, rowX, encA, hl]
theorem decM (s : List UInt8) (r : Rt) (hl : s.length ≤ 100000000) (h : Heap) : ML.call 9 [.list 1 (ofBytes s) r] h = some (decA h s) := by
  refine lim_ext ?_
  simp [XL, orX, rowX, hl]
theorem idxM (s t : List UInt8) (hl : s.length < 1000000000) (h : Heap) : ML.call 16 [.str s, .str t] h = some (.int .i64 (Lib.index s t), h) := by
  refine lim_ext ?_
  have : s.length < 4294967281 := by omega
  simp [XL, orX, fX, rowX, idxPat, this]
theorem rplM (s t u : List UInt8) (hl : s.length < 1000000) (ht : 1 ≤ t.length) (hu : u.length ≤ 100) (h : Heap) : ML.call 17 [.str s, .str t, .str u] h = some (.str (Lib.replaceAll s t u), h) := by
  refine lim_ext ?_
  have h1 : s.length < 4294967281 := by omega
  have h2 := Lib.count_le s t
  have h3 : Lib.count s t * u.length ≤ 1000000 * 100 := Nat.mul_le_mul (by omega) hu
  have h4 : s.length + Lib.count s t * u.length ≤ 140737488355328 := by omega
  simp [XL, orX, fX, rowX, rplPat, h1, ht, h4]
theorem hasSuffix2_ok (s p : List UInt8) (hs : s.length ≤ 1000000000) (h : Heap) : ML.call 25 [.str s, .str p] h = some (.bool (decide (p.length ≤ s.length ∧ s.drop (s.length - p.length) = p)), h) := by
  refine lim_call_of tab25 (XL_none (by decide) (by decide) (by decide) (by decide) _ _) (callF_wp ?_)
  by_cases hl : p.length ≤ s.length
  · have w : IntKind.wrap .i64 ((s.length : Int) - p.length) = ((s.length - p.length : Nat) : Int) := by rw [wrap64 (by omega) (by omega)]; omega
    have : ((s.length - p.length : Nat) : Int) ≤ s.length := by omega
    simp [wB25, hl, w, this]
  · simp [wB25, hl]
theorem hasSuffix_ok (s p : List UInt8) (hs : s.length ≤ 1000000000) (h : Heap) : ML.call 18 [.str s, .str p] h = some (.bool (decide (p.length ≤ s.length ∧ s.drop (s.length - p.length) = p)), h) := by
  refine lim_call_of tab18 (XL_none (by decide) (by decide) (by decide) (by decide) _ _) (callF_wp ?_)
  simp [wB18, hasSuffix2_ok s p hs]
theorem hasEnd_ok (s : List UInt8) (hs : s.length ≤ 1000000000) (h : Heap) : ML.call 18 [.str s, .str [13, 10]] h = some (.bool (decide (endsW s)), h) := by
  rw [hasSuffix_ok s [13, 10] hs h]
  rfl
theorem rstuff_ok (s : List UInt8) (hl : s.length ≤ 1000000000) (h : Heap) : ML.call 8 [.str s] h = some (.str (stuffP s), h) := by
  refine lim_call_of tab8 (XL_none (by decide) (by decide) (by decide) (by decide) _ _) (callF_wp ?_)
  match s, hl with
  | [], _ => simp [wB8, stuffP]
  | c :: t, hl =>
    by_cases hc : c = 46
    · subst hc
      have : 1 + (t.length + 1) ≤ 140737488355328 := by simp at hl; omega
      simp [wB8, stuffP, this]
    · have h1 : ¬ (c.toNat : Int) = 46 := fun e => hc (UInt8.toNat_inj.1 (by rw [show (46 : UInt8).toNat = 46 from rfl]; omega))
      simp [wB8, stuffP, h1, hc]
theorem runstuff_ok (s : List UInt8) (hl : s.length ≤ 1000000000) (h : Heap) : ML.call 6 [.str s] h = some (.tup [.str (if s = [46] then [] else unP s), .bool (decide (s = [46]))], h) := by
  refine lim_call_of tab6 (XL_none (by decide) (by decide) (by decide) (by decide) _ _) (callF_wp ?_)
  match s, hl with
  | [], _ => simp [wB6, unP]
  | [c], hl =>
    by_cases hc : c = 46
    · subst hc
      simp [wB6, unP]
    · have h1 : ¬ (c.toNat : Int) = 46 := fun e => hc (UInt8.toNat_inj.1 (by rw [show (46 : UInt8).toNat = 46 from rfl]; omega))
      simp [wB6, unP, h1, hc]
  | c :: d :: t, hl =>
    have h2 : ¬ ((t.length : Int) + 1 + 1 = 1) := by omega
    have h3 : (0 : Int) < (t.length : Int) + 1 + 1 := by omega
    have h4 : (1 : Int) ≤ (t.length : Int) + 1 + 1 := by omega
    by_cases hc : c = 46
    · subst hc
      simp [wB6, unP, h2, h3, h4]
    · have h1 : ¬ (c.toNat : Int) = 46 := fun e => hc (UInt8.toNat_inj.1 (by rw [show (46 : UInt8).toNat = 46 from rfl]; omega))
      simp [wB6, unP, h1, hc, h2, h3]
end Go.Proofs.YtbhdfmkcoolghaaDoor
