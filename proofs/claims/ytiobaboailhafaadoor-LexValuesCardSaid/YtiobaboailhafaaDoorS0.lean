/-
  The machine of this seat; functions of the library on strings.
-/
import Derived.Test.YtiobaboailhafaaDoorAc
import Derived.Test.YtiobaboailhafaaDoorSh
import Derived.Lib.Case
set_option linter.unusedVariables false
set_option linter.unusedSimpArgs false
namespace Go.Proofs.YtiobaboailhafaaDoor
open Go Go.Am Go.RowKit

/-- strings.ToUpper, of plain text. -/
def upPat (a : List AV) : Option AV := match a with
  | [.str s] => if s.length ≤ 140737488355328 ∧ ∀ b ∈ s, b.toNat < 128 then some (.str (Lib.toUpperA s)) else none
  | _ => none
theorem upOk : CallOk Tryd.prog (fX 7 upPat) := by
  refine fX_ok fun args r hp B w0 E h w vs hr hsz hrd => ?_
  unfold upPat at hp
  split at hp
  · rename_i s
    split at hp
    · rename_i hc
      injection hp with hp
      subst hp
      obtain ⟨u, rfl, h1⟩ := args1 (by simpa using hsz) hrd
      rw [h1.inv_str]
      refine fires_of_calls Tryd.func7 rfl (by kernel_rfl) (Tryd.strings_ToUpper_ascii ⟨⟨s⟩⟩ w (by simpa [ByteArray.size] using hc.1) (fun j b hb => hc.2 b (List.mem_of_getElem? hb))) ?_
      rintro e w' ⟨rfl, hb⟩
      exact ⟨_, rfl, hb, .str _⟩
    · cases hp
  · cases hp
def XS : CallO := orX (ibsX 82) (fX 7 upPat)
noncomputable abbrev M : Orc := lim XS T
theorem call_of {f : FuncId} {F : AF} {args : List AV} {h : Heap} {r : AV × Heap} (hF : T f = some F) (hX : XS f args h = none) (hc : callF M F args h = some r) : M.call f args h = some r := lim_call_of hF hX hc

theorem forall_u8 {p : UInt8 → Prop} (h : ∀ n : Fin 256, p (UInt8.ofNat n)) (c : UInt8) : p c := by
  have := h ⟨c.toNat, c.toNat_lt⟩
  simpa using this
theorem u8_eq (c : UInt8) (n : Nat) (hn : n < 256) : ((c.toNat : Int) = (n : Int)) = (c = UInt8.ofNat n) := by
  apply propext
  constructor
  · intro e
    apply UInt8.toNat_inj.1
    rw [UInt8.toNat_ofNat', Nat.mod_eq_of_lt hn]
    omega
  · intro e
    rw [e, UInt8.toNat_ofNat', Nat.mod_eq_of_lt hn]

theorem hasPrefix2_ok (s p : List UInt8) (h : Heap) : M.call 77 [.str s, .str p] h = some (.bool (decide (s.take p.length = p)), h) := by
  refine call_of tab77 rfl (callF_wp ?_)
  by_cases hl : p.length ≤ s.length
  · have : (p.length : Int) ≤ s.length := by omega
    simp [wB77, hl, this]
  · have : ¬ (p.length : Int) ≤ s.length := by omega
    have h2 : ¬ s.take p.length = p := fun e => by
      have := congrArg List.length e
      simp at this
      omega
    simp [wB77, hl, h2]
theorem hasPrefix_ok (s p : List UInt8) (h : Heap) : M.call 63 [.str s, .str p] h = some (.bool (decide (s.take p.length = p)), h) := by
  refine call_of tab63 rfl (callF_wp ?_)
  simp [wB63, hasPrefix2_ok]
theorem hasSuffix_ok (s p : List UInt8) (hs : s.length ≤ 1000000000) (h : Heap) : M.call 71 [.str s, .str p] h = some (.bool (decide (p.length ≤ s.length ∧ s.drop (s.length - p.length) = p)), h) := by
  refine call_of tab71 rfl (callF_wp ?_)
  by_cases hl : p.length ≤ s.length
  · have w : IntKind.wrap .i64 ((s.length : Int) - p.length) = ((s.length - p.length : Nat) : Int) := by rw [wrap64 (by omega) (by omega)]; omega
    have : ((s.length - p.length : Nat) : Int) ≤ s.length := by omega
    simp [wB71, hl, w, this]
  · simp [wB71, hl]

def trimSuf (s p : List UInt8) : List UInt8 := if p.length ≤ s.length ∧ s.drop (s.length - p.length) = p then s.take (s.length - p.length) else s
theorem trimSuffix_ok (s p : List UInt8) (hs : s.length ≤ 1000000000) (h : Heap) : M.call 21 [.str s, .str p] h = some (.str (trimSuf s p), h) := by
  have h18 : M.call 51 [.str s, .str p] h = some (.str (trimSuf s p), h) := by
    refine call_of tab51 rfl (callF_wp ?_)
    unfold trimSuf
    by_cases hc : p.length ≤ s.length ∧ s.drop (s.length - p.length) = p
    · have w : IntKind.wrap .i64 ((s.length : Int) - p.length) = ((s.length - p.length : Nat) : Int) := by rw [wrap64 (by omega) (by omega)]; omega
      simp [wB51, hasSuffix_ok s p hs, hc.1, hc.2, w]
    · rw [if_neg hc]
      simp only [Classical.not_and_iff_not_or_not] at hc
      by_cases h1 : p.length ≤ s.length
      · have h2 : ¬ s.drop (s.length - p.length) = p := by rcases hc with hc | hc; exact absurd h1 hc; exact hc
        simp [wB51, hasSuffix_ok s p hs, h1, h2]
      · simp [wB51, hasSuffix_ok s p hs, h1]
  refine call_of tab21 rfl (callF_wp ?_)
  simp [wB21, h18]

theorem ibs_ok (s : List UInt8) (c : UInt8) (h : Heap) : M.call 82 [.str s, .int .u8 c.toNat] h = some (.int .i64 (Lib.indexByte s c), h) := by
  have : XS 82 [.str s, .int .u8 c.toNat] h = some (.int .i64 (Lib.indexByte s c), h) := by
    simp [XS, orX, ibsX]
  exact lim_ext this
theorem indexByte_eq (s : List UInt8) (c : UInt8) : Lib.indexByte s c = if c ∈ s then ((s.takeWhile (· != c)).length : Int) else -1 := by
  induction s with
  | nil => rfl
  | cons x s ih =>
    unfold Lib.indexByte
    rw [ih]
    by_cases hx : x = c
    · subst hx; simp
    · have hx' : ¬ c = x := fun e => hx e.symm
      simp [hx, hx']
      by_cases hm : c ∈ s
      · simp [hm]
        try omega
      · simp [hm]
theorem slIndexByte_ok (s : List UInt8) (c : UInt8) (h : Heap) : M.call 78 [.str s, .int .u8 c.toNat] h = some (.int .i64 (Lib.indexByte s c), h) := by
  refine call_of tab78 rfl (callF_wp ?_)
  simp [wB78, ibs_ok]
/-- strings.Index at one byte. -/
theorem slIndex1_ok (s : List UInt8) (c : UInt8) (h : Heap) : M.call 70 [.str s, .str [c]] h = some (.int .i64 (Lib.indexByte s c), h) := by
  refine call_of tab70 rfl (callF_wp ?_)
  simp [wB70, slIndexByte_ok]
  intro e
  subst e
  simp [Lib.indexByte]
def cutB (s : List UInt8) (c : UInt8) : List UInt8 := s.takeWhile (· != c)
theorem cut_len {s : List UInt8} {c : UInt8} (hm : c ∈ s) : (cutB s c).length + 1 ≤ s.length := by
  induction s with
  | nil => cases hm
  | cons x s ih =>
    unfold cutB at *
    by_cases hx : x = c
    · subst hx; simp
    · have : c ∈ s := by simpa [Ne.symm hx] using hm
      simp [hx]
      exact ih this
theorem cut_all {s : List UInt8} {c : UInt8} (hm : ¬ c ∈ s) : cutB s c = s := by
  induction s with
  | nil => rfl
  | cons x s ih =>
    unfold cutB at *
    simp only [List.mem_cons, not_or] at hm
    have hx : x ≠ c := fun e => hm.1 e.symm
    simp [hx, ih hm.2]
theorem cut_take (s : List UInt8) (c : UInt8) : s.take (cutB s c).length = cutB s c := by
  exact (List.prefix_iff_eq_take.1 (List.takeWhile_prefix _)).symm
/-- strings.Cut at one byte. -/
theorem cut_ok (s : List UInt8) (c : UInt8) (hs : s.length ≤ 1000000000) (h : Heap) : M.call 20 [.str s, .str [c]] h = some (.tup [.str (cutB s c), .str (if c ∈ s then s.drop ((cutB s c).length + 1) else []), .bool (decide (c ∈ s))], h) := by
  have h51 : M.call 50 [.str s, .str [c]] h = some (.tup [.str (cutB s c), .str (if c ∈ s then s.drop ((cutB s c).length + 1) else []), .bool (decide (c ∈ s))], h) := by
    refine call_of tab50 rfl (callF_wp ?_)
    by_cases hm : c ∈ s
    · have hl := cut_len hm
      have e : Lib.indexByte s c = ((cutB s c).length : Int) := by rw [indexByte_eq, if_pos hm]; rfl
      have w : IntKind.wrap .i64 (((cutB s c).length : Int) + 1) = (((cutB s c).length + 1 : Nat) : Int) := by rw [wrap64 (by omega) (by omega)]; rfl
      have l1 : (cutB s c).length ≤ s.length := by omega
      have l2 : ((cutB s c).length : Int) + 1 ≤ s.length := by omega
      have t1 : ((((cutB s c).length : Nat) : Int) + 1).toNat = (cutB s c).length + 1 := by omega
      have l3 : 0 ≤ ((cutB s c).length : Int) + 1 := by omega
      simp [wB50, slIndex1_ok, e, w, hm, l1, l2, l3, t1, cut_take]
    · have e : Lib.indexByte s c = -1 := by rw [indexByte_eq, if_neg hm]
      have hc : cutB s c = s := by
        exact cut_all hm
      simp [wB50, slIndex1_ok, e, hm, hc]
  refine call_of tab20 rfl (callF_wp ?_)
  simp [wB20, h51]
end Go.Proofs.YtiobaboailhafaaDoor
