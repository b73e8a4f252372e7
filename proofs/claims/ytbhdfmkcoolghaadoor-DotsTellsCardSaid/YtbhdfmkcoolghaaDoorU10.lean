/-
  A function that holds a range over a function: its start, its end.
-/
import Derived.Test.YtbhdfmkcoolghaaDoorU9
set_option linter.unusedVariables false
set_option linter.unusedSimpArgs false
namespace Go.Proofs.YtbhdfmkcoolghaaDoor
open Go Go.Am

theorem rd_no {E : Env} {v : Value} {sz : Nat} {xs : List AV} {r : Rt} (h : Rd E v (.list sz xs r)) : Rd E v (.list sz xs .no) := by
  cases h with
  | list A n c sz xs r g o vs k1 k2 k3 k4 k5 k6 k7 => exact .list A n c sz xs .no g o vs k1 k2 k3 k4 k5 k6 trivial
theorem rd_no3 {E : Env} {v : Value} {sz : Nat} {xs : List AV} {r : Rt} {a b : AV} (h : Rd E v (.tup [.list sz xs r, a, b])) : Rd E v (.tup [.list sz xs .no, a, b]) := by
  cases h with
  | tup vs _ h1 h2 =>
    refine .tup vs _ h1 fun i u x hu hx => ?_
    match i, hx with
    | 0, hx =>
      injection hx with hx
      subst hx
      exact rd_no (h2 0 u _ hu rfl)
    | i + 1, hx => exact h2 (i + 1) u x hu hx
theorem fires_marks {P : Program} {f : FuncId} {fn : Func} {c : Code} {vs : Array Value} {w : World} {R : Value → World → Prop} (hf : P.funcs[f]? = some fn) (hn : ¬fn.name = "runtime.NumGoroutine") (hb : fn.body = some c)
    (h : c.wpIn (RF none) 0 P (bodyPostM (RF none) 0 P fn (fun e w' => ∃ v, e = .returned v ∧ R v w')) { tmps := vs ++ Array.replicate (fn.ntmps - vs.size) undef, defers := [] } w) : Fires P f vs w R := by
  have hcf : (callFunc f vs).run P w = .ok (.enter f vs) w := by simp [callFunc, hf, hn, hb]
  unfold Fires
  rw [hcf]
  refine ((callsIn_wide (n := 0)).1 (callsIn_of_wp_marks hf hb trivial h rfl)).mono ?_
  rintro e w' ⟨v, rfl, hR⟩
  exact hR

theorem end_marks {P : Program} {B : Nat} {w0 : World} {nt dn : Nat} {fn : Func} {E E' : Env} {a : Act} {w' : World} {σ : Slots} {h0 h1 : Heap} {d i : Nat} {rs : List ARes} {vs : List AV} {r r' : AV} (hweak : ∀ E v, Rd E v r → Rd E v r')
    {w : World} (hrel0 : Rel B w0 E h0 w) (hat : AtD P B w0 nt [markD d] E' a w' σ h1) (hk : Keeps h0.length E E') (hi : h1[i]? = some (.opq (.deferred (some [])))) (hρ : E'.ρ i = some (d, 0))
    (hrs : compileRs P fn.results.toList = some rs) (hvs : resVals σ (h1.set i (.opq (.deferred none))) rs = some vs) (htake : (h1.set i (.opq (.deferred none))).take h0.length = h0) (hend : clean (h1.set i (.opq (.deferred none))) h0.length (oneOf vs) = some r) :
    LeavesInM (RF none) dn P fn a.tmps (fun e w' => ∃ v, e = .returned v ∧ ∃ E'', E.le E'' ∧ (∀ b, b < h0.length → E''.ρ b = E.ρ b) ∧ Rel B w0 E'' h0 w' ∧ Rd E'' v r') a.defers .returning w' := by
  rw [hat.defers]
  obtain ⟨hD, hr⟩ := turn_opq hat.rel (.deferred none) hi hρ rfl
  refine ⟨by simp, .inl ⟨d, _, rfl, run_takeDeferred hD, ?_⟩⟩
  generalize hg : h1.set i (.opq (.deferred none)) = g at *
  obtain ⟨v, hv1, hv2⟩ := results_sound hat.sr hr hrs hvs
  show LeavesIn _ _ _ _ _ _ [] .returning _
  refine ⟨v, hv1, v, rfl, E'.shut g h0.length _, ?_, ?_, ?_, hweak _ _ (clean_sound hr hv2 hend)⟩
  · have hle := Env.cut_le_shut hr h0.length
    refine ⟨fun g o u hu => hle.C g o u (hk.1.C g o u hu), fun b x hx => ?_⟩
    have hb := hrel0.dom b x hx
    simp only [Env.shut]
    rw [if_pos hb, hk.2 b hb]
    exact hx
  · intro b hb
    simp only [Env.shut]
    rw [if_pos hb, hk.2 b hb]
  · have := hr.shut h0.length fun b e hb he hd g1 cc hl => ?_
    · rw [htake] at this
      exact this
    · have he0 : h0[b]? = some e := by rw [← he]; exact (get_of_take (by rw [htake]; simp) hb).symm
      obtain ⟨g0, c0, _, h2⟩ := hrel0.live b e he0 hd
      exact hl.cutOld hrel0.dom h2

theorem lines_ok {X : CallO} (hX : NoX X) (v : AV) (hv : v.cells = [v]) (h : Heap) : (lim X T).call 15 [v] h = some (.fn 21 [.ptr h.length 0], h ++ [.cells [v]]) := by
  refine lim_call_of tab15 (hX _ (by decide) _ _) (callF_wpK ?_)
  simp [wB15, hv]
end Go.Proofs.YtbhdfmkcoolghaaDoor
