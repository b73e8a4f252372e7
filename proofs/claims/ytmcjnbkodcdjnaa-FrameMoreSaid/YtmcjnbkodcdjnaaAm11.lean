/-
  The mark of a conversion's row; copies; maps; a text's runes one by one.
-/
import Derived.Test.YtmcjnbkodcdjnaaAm10
set_option linter.unusedVariables false
set_option linter.unusedSimpArgs false
namespace Go.Am
open Go Go.RowKit
section
variable {P : Program} {B : Nat} {w0 : World} {E : Env} {h h' : Heap} {a : Act} {w : World} {σ : Slots} {o : Oper} {key : Nat} {O : CallO} {v : AV} {ty : TypeId}

theorem heap_freeze {g n : Nat} {cur : Array Value} {t : TypeId} {fr : Nat × Nat} (hg : w.heap[g]? = some (.cells cur t fr)) :
    w.grownBy (w.freeze ⟨g, n, none⟩ 1) (some g) ∧ (w.freeze ⟨g, n, none⟩ 1).heap[g]? = some (.cells cur t (if fr.1 == fr.2 then (n, n + 1) else (min fr.1 n, max fr.2 (n + 1)))) := by
  have hne : ¬ (1 = 0) := by decide
  refine ⟨⟨by simp [World.freeze], by simp [World.freeze], by simp [World.freeze], by simp [World.freeze], fun k hk hn => ?_⟩, ?_⟩
  · have : k ≠ g := by simpa using hn
    simp [World.freeze, Array.getElem?_modify, Ne.symm this]
  · simp only [World.freeze, hne, if_false, Array.getElem?_modify, hg, if_true, Option.map_some]

theorem cvMark_sound {s e : TypeId} {x : Operand} {y : AX} (ho : o.op = .convert s s x) (hus : P.underlying s = some (.slice e)) (hue : P.underlying e = some (.int .u8)) (hc : cx P s x = some y) (hs : SR E a σ) (r : Rel B w0 E h w) (hex : aop O σ h key (.cvMark y) = some (v, h')) : Out P B w0 E h' key a o w v := by
  have hx := cx_sound hc hs
  simp only [aop] at hex
  split at hex
  · rename_i sz xs t he
    rw [he] at hx
    split at hex
    · rename_i sz' n e' hb
      simp only [Option.some.injEq, Prod.mk.injEq] at hex
      obtain ⟨rfl, rfl⟩ := hex
      generalize hv : a.eval x = av at hx
      have hx0 := hx
      cases hx with
      | list A m c _ _ _ g b vs k1 k2 k3 k4 k5 k6 k7 =>
        obtain ⟨g2, rfl, hρ⟩ := k7
        obtain ⟨g3, c3, q1, q2⟩ := r.live t _ hb (by simp)
        rw [hρ] at q1
        injection q1 with q1; injection q1 with q1 q1'; subst q1; subst q1'
        obtain ⟨hB, ⟨cur, tt, fr, hcur, hsz, hnc, hf⟩, hC⟩ := q2
        obtain ⟨f1, f2⟩ := heap_freeze (w := w) (n := cur.size) hcur
        have hsh : w.shape? g2 = some (tt, cur.size) := by simp [World.shape?, hcur]
        have hrun : (convert s s (.slice (some ⟨g2, 0, none⟩) m c)).run P w = .ok (.slice (some ⟨g2, 0, none⟩) m c) (w.freeze ⟨g2, cur.size, none⟩ 1) := by
          simp [convert, run_underlying hus, run_underlying hue, markStringish, hsh]
        refine ⟨_, w.freeze ⟨g2, cur.size, none⟩ 1, E, .inl ?_, E.le_refl, fun _ _ => rfl, ?_, hx0⟩
        · unfold execOp; rw [ho]; dsimp only; rw [hv]
          exact run_v hrun
        · have hst : h.set t (.tok sz' n e') = h := by
            apply List.ext_getElem?
            intro i
            rw [List.getElem?_set]
            split
            · rename_i hi
              subst hi
              rw [hb, if_pos (List.getElem?_eq_some_iff.1 hb).1]
            · rfl
          have := r.turn t g2 c (.tok sz' n e') (.tok sz' n e') hb (by simp) (by simp) hρ hB f1 (fun o v hv => by
            have := r.prot g2 o v hv
            rw [cell_of_block hcur] at this
            rw [cell_of_block f2]
            exact this) ⟨hB, ⟨cur, tt, _, f2, hsz, hnc, by
              rcases hf with hf | hf
              · rw [if_pos (by simpa using hf)]; exact .inr (Nat.le_refl _)
              · by_cases he : fr.1 = fr.2
                · rw [if_pos (by simpa using he)]; exact .inr (Nat.le_refl _)
                · rw [if_neg (by simpa using he)]; exact .inr (by simp; omega)⟩, hC⟩
          rw [hst] at this
          exact this
    · cases hex
  · cases hex
end
end Go.Am
