/-
  The mark of a conversion's row; copies; maps; a text's runes one by one.
-/
import Derived.Test.YtiobaboailhafaaAm10
set_option linter.unusedVariables false
set_option linter.unusedSimpArgs false
namespace Go.Am
open Go Go.RowKit
section
variable {P : Program} {B : Nat} {w0 : World} {E : Env} {h h' : Heap} {a : Act} {w : World} {σ : Slots} {o : Oper} {key : Nat} {O : CallO} {v : AV} {ty : TypeId}

theorem heap_freeze {g n : Nat} {cur : Array Value} {t : TypeId} {fr : Nat × Nat} (hg : w.heap[g]? = some (.cells cur t fr)) :
    w.grownBy (w.freeze ⟨g, n, none⟩ 1) (some g) ∧ (w.freeze ⟨g, n, none⟩ 1).heap[g]? = some (.cells cur t (if fr.1 == fr.2 then (n, n + 1) else (min fr.1 n, max fr.2 (n + 1)))) := by
  have hne : ¬ (1 = 0) := by decide
  refine ⟨⟨by simp [World.freeze], by simp [World.freeze], by simp [World.freeze], by simp [World.freeze], fun k hk hn => ?_⟩, ?_⟩
  · have : k ≠ g := by simpa using hn
    simp [World.freeze, Array.getElem?_modify, Ne.symm this]
  · simp only [World.freeze, hne, if_false, Array.getElem?_modify, hg, if_true, Option.map_some]

theorem cvMark_sound {s e : TypeId} {x : Operand} {y : AX} (ho : o.op = .convert s s x) (hus : P.underlying s = some (.slice e)) (hue : P.underlying e = some (.int .u8)) (hc : cx P s x = some y) (hs : SR E a σ) (r : Rel B w0 E h w) (hex : aop O σ h key (.cvMark y) = some (v, h')) : Out P B w0 E h' key a o w v := by
  have hx := cx_sound hc hs
  simp only [aop] at hex
  split at hex
  · rename_i sz xs t he
    rw [he] at hx
    split at hex
    · rename_i sz' n e' hb
      simp only [Option.some.injEq, Prod.mk.injEq] at hex
      obtain ⟨rfl, rfl⟩ := hex
      generalize hv : a.eval x = av at hx
      have hx0 := hx
      cases hx with
      | list A m c _ _ _ g b vs k1 k2 k3 k4 k5 k6 k7 =>
        obtain ⟨g2, rfl, hρ⟩ := k7
        obtain ⟨g3, c3, q1, q2⟩ := r.live t _ hb (by simp)
        rw [hρ] at q1
        injection q1 with q1; injection q1 with q1 q1'; subst q1; subst q1'
        obtain ⟨hB, ⟨cur, tt, fr, hcur, hsz, hnc, hf⟩, hC⟩ := q2
        obtain ⟨f1, f2⟩ := heap_freeze (w := w) (n := cur.size) hcur
        have hsh : w.shape? g2 = some (tt, cur.size) := by simp [World.shape?, hcur]
        have hrun : (convert s s (.slice (some ⟨g2, 0, none⟩) m c)).run P w = .ok (.slice (some ⟨g2, 0, none⟩) m c) (w.freeze ⟨g2, cur.size, none⟩ 1) := by
          simp [convert, run_underlying hus, run_underlying hue, markStringish, hsh]
        refine ⟨_, w.freeze ⟨g2, cur.size, none⟩ 1, E, .inl ?_, E.le_refl, fun _ _ => rfl, ?_, hx0⟩
        · unfold execOp; rw [ho]; dsimp only; rw [hv]
          exact run_v hrun
        · have hst : h.set t (.tok sz' n e') = h := by
            apply List.ext_getElem?
            intro i
            rw [List.getElem?_set]
            split
            · rename_i hi
              subst hi
              rw [hb, if_pos (List.getElem?_eq_some_iff.1 hb).1]
            · rfl
          have := r.turn t g2 c (.tok sz' n e') (.tok sz' n e') hb (by simp) (by simp) hρ hB f1 (fun o v hv => by
            have := r.prot g2 o v hv
            rw [cell_of_block hcur] at this
            rw [cell_of_block f2]
            exact this) ⟨hB, ⟨cur, tt, _, f2, hsz, hnc, by
              rcases hf with hf | hf
              · rw [if_pos (by simpa using hf)]; exact .inr (Nat.le_refl _)
              · by_cases he : fr.1 = fr.2
                · rw [if_pos (by simpa using he)]; exact .inr (Nat.le_refl _)
                · rw [if_neg (by simpa using he)]; exact .inr (by simp; omega)⟩, hC⟩
          rw [hst] at this
          exact this
    · cases hex
  · cases hex

/-! ### A text's runes -/
theorem heap_alloc_obj (w : World) (o : Obj) : (w.alloc o).heap[w.heap.size]? = some o := by
  unfold World.alloc
  simp
theorem putObj_grown (w : World) (r : Nat) (o : Obj) : w.grownBy { w with heap := w.heap.setIfInBounds r o } (some r) :=
  ⟨rfl, rfl, rfl, by simp, fun k hk hn => by
    have : k ≠ r := by simpa using hn
    simp [Array.getElem?_setIfInBounds, Ne.symm this]⟩

theorem rangeS_sound {t : TypeId} {x : Operand} {y : AX} (ho : o.op = .range t x) (hu : P.underlying t = some .string) (hc : cx P t x = some y) (hs : SR E a σ) (r : Rel B w0 E h w) (hk : h[key]? = some .dead) (hfree : E.ρ key = none) (hex : aop O σ h key (.rangeS y) = some (v, h')) : Out P B w0 E h' key a o w v := by
  have hx := cx_sound hc hs
  simp only [aop] at hex
  split at hex
  · rename_i l he
    simp only [Option.some.injEq, Prod.mk.injEq] at hex
    obtain ⟨rfl, rfl⟩ := hex
    rw [he] at hx
    have hrun : (Instr.range t (.string ⟨⟨l⟩⟩)).run P w = .ok (.pointer (some ⟨w.heap.size, 0, none⟩)) (w.alloc (.stringIter ⟨⟨l⟩⟩ 0)) := by
      simp [Instr.range, run_underlying hu]
    have r1 : Rel B w0 E h (w.alloc (.stringIter ⟨⟨l⟩⟩ 0)) := r.world ((Below.refl _ _).alloc (Nat.le_refl _) _)
    obtain ⟨h1, h2⟩ := r1.enter key hk hfree w.heap.size 0 (.siter l 0) E.C (fun _ _ _ h => h) r1.prot
      (fun b e' he hd g' c' hρ => by
        obtain ⟨g1, c1, k1, k2⟩ := r.live b e' he hd
        rw [hρ] at k1; injection k1 with k1; injection k1 with k1 _; subst k1
        exact ⟨Nat.ne_of_lt (k2.lt hd).1, fun _ => rfl⟩)
      (by exact ⟨r.bsz, heap_alloc_obj w _⟩)
    refine ⟨_, _, _, .inl ?_, h1, fun b hb => by dsimp only; rw [if_neg hb], h2, .it key w.heap.size 0 (by simp)⟩
    unfold execOp; rw [ho]; dsimp only; rw [hx.inv_str]
    exact run_v hrun
  · cases hex

theorem next_sound {x : Operand} {y : AX} (ho : o.op = .next x true) (hc : cx P 0 x = some y) (hs : SR E a σ) (r : Rel B w0 E h w) (hex : aop O σ h key (.next y) = some (v, h')) : Out P B w0 E h' key a o w v := by
  have hx := cx_sound hc hs
  simp only [aop] at hex
  split at hex
  · rename_i b he
    rw [he] at hx
    split at hex
    · rename_i l p hb
      generalize hv : a.eval x = av at hx
      cases hx with
      | it _ g c hρ =>
        obtain ⟨g1, c1, q1, q2⟩ := r.live b _ hb (by simp)
        rw [hρ] at q1
        injection q1 with q1; injection q1 with q1 q1'; subst q1; subst q1'
        obtain ⟨hB, hg⟩ := q2
        have hsz : (⟨⟨l⟩⟩ : ByteArray).size = l.length := rfl
        split at hex
        · rename_i hlt
          simp only [Option.some.injEq, Prod.mk.injEq] at hex
          obtain ⟨rfl, rfl⟩ := hex
          have hrun : (Instr.next (.pointer (some ⟨g, 0, none⟩)) true o.type).run P w = .ok (.tuple #[.bool true, .int .i64 p, .int .i32 (Utf8.decode ⟨⟨l⟩⟩ p).1]) { w with heap := w.heap.setIfInBounds g (.stringIter ⟨⟨l⟩⟩ (p + (Utf8.decode ⟨⟨l⟩⟩ p).2)) } := by
            simp [Instr.next, getObj, setObj, Sem.run, hg, hsz, hlt, goInt]
          have hlt2 : g < w.heap.size := (Array.getElem?_eq_some_iff.1 hg).1
          have := r.turn b g c (.siter l p) (.siter l (p + (Utf8.decode ⟨⟨l⟩⟩ p).2)) hb (by simp) (by simp) hρ hB (putObj_grown w g _) (fun o v hv => by
            have := r.prot g o v hv
            simp [World.cell?, hg] at this) (show LiveAt B E { w with heap := w.heap.setIfInBounds g (.stringIter ⟨⟨l⟩⟩ (p + (Utf8.decode ⟨⟨l⟩⟩ p).2)) } g c _ from ⟨hB, by simp [hlt2]⟩)
          refine ⟨_, _, E, .inl ?_, E.le_refl, fun _ _ => rfl, this, .tup #[.bool true, .int .i64 p, .int .i32 (Utf8.decode ⟨⟨l⟩⟩ p).1] _ rfl fun i u z hu hz => ?_⟩
          · unfold execOp; rw [ho]; dsimp only; rw [hv]
            exact run_v hrun
          · match i with
            | 0 => simp at hu hz; subst hu; subst hz; exact .bool _
            | 1 => simp at hu hz; subst hu; subst hz; exact .int _ _
            | 2 => simp at hu hz; subst hu; subst hz; exact .int _ _
            | i + 3 => simp at hu
        · rename_i hlt
          simp only [Option.some.injEq, Prod.mk.injEq] at hex
          obtain ⟨rfl, rfl⟩ := hex
          have hrun : (Instr.next (.pointer (some ⟨g, 0, none⟩)) true o.type).run P w = .ok (.tuple #[.bool false]) w := by
            simp [Instr.next, getObj, Sem.run, hg, hsz, hlt]
          refine Out.quiet r (.tuple #[.bool false]) ?_ (.tup _ _ rfl fun i u z hu hz => ?_)
          · unfold execOp; rw [ho]; dsimp only; rw [hv]
            exact run_v hrun
          · match i with
            | 0 => simp at hu hz; subst hu; subst hz; exact .bool _
            | i + 1 => simp at hu
    · cases hex
  · cases hex
end
end Go.Am
