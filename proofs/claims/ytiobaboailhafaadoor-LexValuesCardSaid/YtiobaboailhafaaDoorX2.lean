/-
  LexValues: how bytes are written.
-/
import Derived.Test.YtiobaboailhafaaDoorX1
import Derived.Test.YtiobaboailhafaaDoorF0
import Derived.KernelRfl
import Derived.Lib.Case
set_option linter.unusedVariables false
set_option linter.unusedSimpArgs false
namespace Go.Proofs.YtiobaboailhafaaDoor
open Go Go.Am

def digB (base : Nat) (t : List UInt8) (b : UInt8) : Bool := t.all (hexC base) && decide (1 ≤ t.length) && decide (t.length ≤ 8) && decide (numN base t = b.toNat)
theorem dig_of {base : Nat} {t : List UInt8} {b : UInt8} (h : digB base t b = true) : Dig base t b := by
  simp only [digB, Bool.and_eq_true, List.all_eq_true, decide_eq_true_eq] at h
  exact ⟨h.1.1.1, h.1.1.2, h.1.2, h.2⟩
def digAll (n : Nat) : Bool := digB 16 (fmtP 16 n) (UInt8.ofNat n) && digB 16 (48 :: fmtP 16 n) (UInt8.ofNat n) && digB 16 ((fmtP 16 n).map Lib.upperB) (UInt8.ofNat n) && digB 16 (48 :: (fmtP 16 n).map Lib.upperB) (UInt8.ofNat n) &&
  digB 10 (fmtP 10 n) (UInt8.ofNat n) && digB 10 (48 :: fmtP 10 n) (UInt8.ofNat n) && digB 10 ((fmtP 10 n).map Lib.upperB) (UInt8.ofNat n) && digB 10 (48 :: (fmtP 10 n).map Lib.upperB) (UInt8.ofNat n) && digB 2 (fmtP 2 n) (UInt8.ofNat n) && digB 2 ((fmtP 2 n).map Lib.upperB) (UInt8.ofNat n)
theorem dig_all : ((List.range 256).all digAll) = true := by kernel_rfl
theorem dig_byte (b : UInt8) : digAll b.toNat = true := List.all_eq_true.1 dig_all b.toNat (List.mem_range.2 b.toNat_lt)
/-- The three ways of writing. -/
def ways : List (UInt8 × List UInt8 × Nat) := [(120, [48], 16), (100, [48], 10), (98, [], 2)]
theorem dig_low {p : UInt8 × List UInt8 × Nat} (hp : p ∈ ways) (b : UInt8) : Dig p.2.2 (fmtP p.2.2 b.toNat) b ∧ Dig p.2.2 (p.2.1 ++ fmtP p.2.2 b.toNat) b ∧ Dig p.2.2 ((fmtP p.2.2 b.toNat).map Lib.upperB) b ∧ Dig p.2.2 ((p.2.1 ++ fmtP p.2.2 b.toNat).map Lib.upperB) b := by
  have h := dig_byte b
  have hb : UInt8.ofNat b.toNat = b := by simp
  simp only [digAll, Bool.and_eq_true, hb] at h
  obtain ⟨⟨⟨⟨⟨⟨⟨⟨⟨h1, h2⟩, h3⟩, h4⟩, h5⟩, h6⟩, h7⟩, h8⟩, h9⟩, h10⟩ := h
  simp only [ways, List.mem_cons, List.not_mem_nil, or_false] at hp
  have e48 : Lib.upperB 48 = 48 := by decide
  rcases hp with rfl | rfl | rfl
  · exact ⟨dig_of h1, dig_of h2, dig_of h3, by simp only [List.singleton_append, List.map_cons, e48]; exact dig_of h4⟩
  · exact ⟨dig_of h5, dig_of h6, dig_of h7, by simp only [List.singleton_append, List.map_cons, e48]; exact dig_of h8⟩
  · exact ⟨dig_of h9, dig_of h9, dig_of h10, dig_of h10⟩
def grp (base : Nat) (r : List UInt8) : List (List UInt8 × UInt8) := r.map fun b => (fmtP base b.toNat, b)
def textOf (p : UInt8 × List UInt8 × Nat) (a : UInt8) (r : List UInt8) (lo hi : UInt8) : List UInt8 := ruleT 114 p.1 (fmtP p.2.2 a.toNat) (grp p.2.2 r) (p.2.1 ++ fmtP p.2.2 lo.toNat) (fmtP p.2.2 hi.toNat)
def rowOf (p : UInt8 × List UInt8 × Nat) (a : UInt8) (r : List UInt8) : List UInt8 := 37 :: p.1 :: (fmtP p.2.2 a.toNat ++ tailT (grp p.2.2 r))
theorem map_rule (c0 sg : UInt8) (t : List UInt8) (gs : List (List UInt8 × UInt8)) (u v : List UInt8) : Lib.toUpperA (ruleT c0 sg t gs u v) = ruleT (Lib.upperB c0) (Lib.upperB sg) (t.map Lib.upperB) (gs.map fun g => (g.1.map Lib.upperB, g.2)) (u.map Lib.upperB) (v.map Lib.upperB) := by
  have e1 : Lib.upperB 32 = 32 := by decide
  have e2 : Lib.upperB 61 = 61 := by decide
  have e3 : Lib.upperB 37 = 37 := by decide
  have e4 : Lib.upperB 45 = 45 := by decide
  have e5 : Lib.upperB 46 = 46 := by decide
  have et : (tailT gs).map Lib.upperB = tailT (gs.map fun g => (g.1.map Lib.upperB, g.2)) := by
    unfold tailT
    rw [List.map_flatMap, List.flatMap_map]
    simp [e5]
  unfold Lib.toUpperA ruleT
  simp only [List.map_cons, List.map_append, e1, e2, e3, e4, et]
theorem tail_few {base : Nat} : ∀ gs : List (List UInt8 × UInt8), (∀ g ∈ gs, Dig base g.1 g.2) → (tailT gs).length ≤ 9 * gs.length
  | [], _ => by simp [tailT]
  | g :: gs, h => by
    have h1 := (h g (by simp)).few
    have h2 := tail_few gs fun y hy => h y (by simp [hy])
    have e : tailT (g :: gs) = 46 :: (g.1 ++ tailT gs) := by simp [tailT]
    rw [e]
    simp
    omega
theorem rule_len (c0 sg : UInt8) (t : List UInt8) (gs : List (List UInt8 × UInt8)) (u v : List UInt8) : (ruleT c0 sg t gs u v).length = 10 + t.length + (tailT gs).length + u.length + v.length := by
  simp [ruleT]
  omega
theorem text_low {p : UInt8 × List UInt8 × Nat} (hp : p ∈ ways) (a : UInt8) (r : List UInt8) (lo hi : UInt8) (hr : r.length ≤ 100) (hle : lo ≤ hi) :
    (textOf p a r lo hi).length ≤ 2000 ∧ lexP (textOf p a r lo hi) = (ruleK 114 (rowOf p a r).length (textOf p a r lo hi).length (a :: r) lo hi, 0, 0) := by
  have hb : p.2.2 ≤ 16 ∧ baseC p.1 = p.2.2 ∧ p.1 ≠ 10 := by
    simp only [ways, List.mem_cons, List.not_mem_nil, or_false] at hp
    rcases hp with rfl | rfl | rfl <;> decide
  have ha := (dig_low hp a).1
  have hg : ∀ g ∈ grp p.2.2 r, Dig p.2.2 g.1 g.2 := by
    intro g hg
    obtain ⟨b, _, rfl⟩ := List.mem_map.1 hg
    exact (dig_low hp b).1
  have hlo := (dig_low hp lo).2.1
  have hhi := (dig_low hp hi).1
  have h1 := tail_few _ hg
  have h2 := ha.few
  have h3 := hlo.few
  have h4 := hhi.few
  have h5 : (grp p.2.2 r).length = r.length := by simp [grp]
  have hlen := rule_len 114 p.1 (fmtP p.2.2 a.toNat) (grp p.2.2 r) (p.2.1 ++ fmtP p.2.2 lo.toNat) (fmtP p.2.2 hi.toNat)
  refine ⟨by unfold textOf; omega, ?_⟩
  have := rule_lex hb.1 (c0 := 114) (by decide) hb.2.1 hb.2.2 ha hg hlo hhi hle (by omega)
  unfold textOf
  rw [this]
  have e1 : (grp p.2.2 r).map (·.2) = r := by simp [grp, Function.comp_def]
  have e2 : (rowOf p a r).length = 2 + (fmtP p.2.2 a.toNat).length + (tailT (grp p.2.2 r)).length := by simp [rowOf]; omega
  rw [e1, e2]
theorem text_up {p : UInt8 × List UInt8 × Nat} (hp : p ∈ ways) (a : UInt8) (r : List UInt8) (lo hi : UInt8) (hr : r.length ≤ 100) (hle : lo ≤ hi) :
    lexP (Lib.toUpperA (textOf p a r lo hi)) = (ruleK 82 (rowOf p a r).length (textOf p a r lo hi).length (a :: r) lo hi, 0, 0) := by
  have hb : p.2.2 ≤ 16 ∧ baseC (Lib.upperB p.1) = p.2.2 ∧ Lib.upperB p.1 ≠ 10 := by
    simp only [ways, List.mem_cons, List.not_mem_nil, or_false] at hp
    rcases hp with rfl | rfl | rfl <;> decide
  have ha := (dig_low hp a).2.2.1
  have hg : ∀ g ∈ (grp p.2.2 r).map (fun g => (g.1.map Lib.upperB, g.2)), Dig p.2.2 g.1 g.2 := by
    intro g hg
    obtain ⟨g', hg', rfl⟩ := List.mem_map.1 hg
    obtain ⟨b, _, rfl⟩ := List.mem_map.1 hg'
    exact (dig_low hp b).2.2.1
  have hlo := (dig_low hp lo).2.2.2
  have hhi := (dig_low hp hi).2.2.1
  have hl := (text_low hp a r lo hi hr hle).1
  have hlu : (Lib.toUpperA (textOf p a r lo hi)).length = (textOf p a r lo hi).length := by simp [Lib.toUpperA]
  have hm := map_rule 114 p.1 (fmtP p.2.2 a.toNat) (grp p.2.2 r) (p.2.1 ++ fmtP p.2.2 lo.toNat) (fmtP p.2.2 hi.toNat)
  have := rule_lex hb.1 (c0 := 82) (by decide) hb.2.1 hb.2.2 ha hg hlo hhi hle (by
    rw [show (82 : UInt8) = Lib.upperB 114 by decide, ← hm]
    show (Lib.toUpperA (textOf p a r lo hi)).length ≤ _
    omega)
  have hm' : Lib.toUpperA (textOf p a r lo hi) = _ := hm
  rw [show (82 : UInt8) = Lib.upperB 114 by decide, ← hm] at this
  rw [show Lib.upperB 114 = 82 by decide] at this
  show lexP (Lib.toUpperA (textOf p a r lo hi)) = _
  unfold textOf at hlu ⊢
  rw [this, hlu]
  have e1 : ((grp p.2.2 r).map (fun g => (g.1.map Lib.upperB, g.2))).map (·.2) = r := by simp [grp, Function.comp_def]
  have e3 : (tailT ((grp p.2.2 r).map (fun g => (g.1.map Lib.upperB, g.2)))).length = (tailT (grp p.2.2 r)).length := by
    unfold tailT
    rw [List.flatMap_map, List.length_flatMap, List.length_flatMap]
    simp
  have e2 : (rowOf p a r).length = 2 + (fmtP p.2.2 a.toNat).length + (tailT (grp p.2.2 r)).length := by simp [rowOf]; omega
  rw [e1, e2, e3, List.length_map]
theorem hex_ascii {base : Nat} (hb : base ≤ 16) {c : UInt8} (h : hexC base c = true) : c.toNat < 128 := by
  have : ∀ c : UInt8, nib c < 16 → c.toNat < 128 := fun c => by
    revert c
    apply forall_u8
    decide +kernel
  unfold hexC at h
  exact this c (by have := of_decide_eq_true h; omega)
theorem text_ascii {p : UInt8 × List UInt8 × Nat} (hp : p ∈ ways) (a : UInt8) (r : List UInt8) (lo hi : UInt8) : ∀ b ∈ textOf p a r lo hi, b.toNat < 128 := by
  have hb : p.2.2 ≤ 16 ∧ p.1.toNat < 128 := by
    simp only [ways, List.mem_cons, List.not_mem_nil, or_false] at hp
    rcases hp with rfl | rfl | rfl <;> decide
  have d : ∀ (t : List UInt8) (c : UInt8), Dig p.2.2 t c → ∀ b ∈ t, b.toNat < 128 := fun t c h b hm => hex_ascii hb.1 (h.all b hm)
  have h1 := d _ _ (dig_low hp a).1
  have h2 := d _ _ (dig_low hp lo).2.1
  have h3 := d _ _ (dig_low hp hi).1
  have h4 : ∀ b ∈ tailT (grp p.2.2 r), b.toNat < 128 := by
    intro b hm
    obtain ⟨g, hg, hm⟩ := List.mem_flatMap.1 hm
    obtain ⟨c, _, rfl⟩ := List.mem_map.1 hg
    rcases List.mem_cons.1 hm with rfl | hm
    · decide
    · exact d _ _ (dig_low hp c).1 b hm
  intro b hm
  simp only [textOf, ruleT, List.mem_cons, List.mem_append] at hm
  have e : ∀ n : UInt8, b = n → n.toNat < 128 → b.toNat < 128 := fun n e h => by rw [e]; exact h
  rcases hm with h | h | h | h | h | h | h | h | h | h | h | (h | h) | h | h
  all_goals first | exact e _ h (by decide) | exact e _ h hb.2 | exact h1 b h | exact h4 b h | exact h3 b h | exact h2 b (by simpa using h) | exact h2 b (by simp [h])
end Go.Proofs.YtiobaboailhafaaDoor
