/-
  Functions of the library that have no Go text: the model's own entries, as contracts from without.
-/
import Derived.Test.YtiobaboailhafaaAm26
import Derived.Lib.Bytealg
set_option linter.unusedVariables false
set_option linter.unusedSimpArgs false
namespace Go.Am
open Go Go.RowKit

/-- internal/bytealg.IndexByteString is function 'f'. -/
def ibsX (f : FuncId) : CallO := fun g args h =>
  if g = f then
    match args with
    | [.str s, .int .u8 c] => some (.int .i64 (Lib.indexByte s c.toNat.toUInt8), h)
    | _ => none
  else none

theorem ibsX_ok {P : Program} {f : FuncId} {fn : Func} (hf : P.funcs[f]? = some fn) (hb : fn.body = none) (hn : (fn.name == "runtime.NumGoroutine") = false) (h1 : Extern.findNext fn = none) (h2 : Extern.find fn = some Extern.BytealgIndexByte.indexByte) : CallOk P (ibsX f) := by
  intro g args h r h' hx
  unfold ibsX at hx
  split at hx
  · rename_i hg
    subst hg
    split at hx
    · rename_i s c
      simp only [Option.some.injEq, Prod.mk.injEq] at hx
      obtain ⟨rfl, rfl⟩ := hx
      refine ⟨Nat.le_refl _, fun _ h => h, fun B w0 E w vs hr hsz hrd => ?_⟩
      have hv : vs = #[.string ⟨⟨s⟩⟩, .int .u8 c] := by
        have h0 : vs.size = 2 := hsz
        have e0 := hrd 0 vs[0] _ (Array.getElem?_eq_getElem (by omega)) rfl
        have e1 := hrd 1 vs[1] _ (Array.getElem?_eq_getElem (by omega)) rfl
        apply Array.ext'
        apply List.ext_getElem?
        intro i
        match i with
        | 0 => simp [e0.inv_str, h0]
        | 1 => simp [e1.inv_int, h0]
        | i + 2 => simp [h0]
      subst hv
      have hrun := Lib.run_indexByteString (P := P) ⟨⟨s⟩⟩ c w
      have hn' : ¬ fn.name = "runtime.NumGoroutine" := by simpa using hn
      have hcf : (callFunc g #[.string ⟨⟨s⟩⟩, .int .u8 c]).run P w = .ok (.value (.int .i64 (Lib.indexByte s c.toNat.toUInt8))) w := by
        simp [callFunc, hf, hn', hb, h1, h2, mark]
        have hm : ∀ (k : Sem Unit), Sem.run P (Sem.mark (Mark.extern g) k) w = Sem.run P k w := fun _ => rfl
        rw [hm]
        simp [hrun]
      unfold Fires
      rw [hcf]
      exact ⟨E, E.le_refl, fun _ _ => rfl, hr, .int _ _⟩
    · cases hx
  · cases hx

theorem ibsX_fr (f : FuncId) : FrX (ibsX f) := by
  intro g a h k e hk
  unfold ibsX
  split
  · split
    · refine ⟨fun h => (by cases h), fun r h' hx => ?_⟩
      simp only [Option.some.injEq, Prod.mk.injEq] at hx ⊢
      exact ⟨hx.1, by rw [hx.2]⟩
    · exact ⟨fun _ => rfl, fun _ _ h => by cases h⟩
  · exact ⟨fun _ => rfl, fun _ _ h => by cases h⟩

/-- Of several. -/
def orX (X Y : CallO) : CallO := fun f a h => match X f a h with | some r => some r | none => Y f a h
theorem orX_ok {P : Program} {X Y : CallO} (hX : CallOk P X) (hY : CallOk P Y) : CallOk P (orX X Y) := by
  intro f a h r h' k
  unfold orX at k
  split at k
  · rename_i e
    exact hX f a h r h' (by rw [e, k])
  · exact hY f a h r h' k
theorem orX_fr {X Y : CallO} (hX : FrX X) (hY : FrX Y) : FrX (orX X Y) := by
  intro f a h k e hk
  obtain ⟨x1, x2⟩ := hX f a h k e hk
  obtain ⟨y1, y2⟩ := hY f a h k e hk
  unfold orX
  cases hx : X f a h with
  | none => rw [x1 hx]; exact ⟨y1, y2⟩
  | some r =>
    obtain ⟨r, h1⟩ := r
    rw [x2 r h1 hx]
    refine ⟨fun h => (by cases h), fun r' h' e' => ?_⟩
    simp only [Option.some.injEq, Prod.mk.injEq] at e' ⊢
    exact ⟨e'.1, by rw [e'.2]⟩
end Go.Am
