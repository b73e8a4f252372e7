/-
  dots.lines$1: the iterator.
-/
import Derived.Test.YtbhdfmkcoolghaaDoorU4
import Derived.LoopNIn
set_option linter.unusedVariables false
set_option linter.unusedSimpArgs false
namespace Go.Proofs.YtbhdfmkcoolghaaDoor
open Go Go.Am

theorem loopIn_ghost {F : Fence} {n : Nat} {P : Program} {Q : Exit → Act → World → Prop} {a : Act} {w : World} {c : Code} (I : Nat → Act → World → Prop) (n0 : Nat) (h0 : I n0 a w)
    (round : ∀ m a w, I m a w → c.wpIn F n P (Exit.then (fun a' w' => ∃ m', m' < m ∧ I m' a' w') Q) a w) : (Code.loop c).wpIn F n P Q a w := by
  have key : ∀ k m a w, m < k → I m a w → Code.roundsIn F n P c Q k a w := by
    intro k
    induction k with
    | zero => intro m a w h; exact absurd h (Nat.not_lt_zero _)
    | succ k ih =>
      intro m a w hm hI
      rw [roundsIn_succ]
      refine wpIn_mono (round m a w hI) fun e a' w' hq => ?_
      cases e with
      | normal =>
        obtain ⟨m', h1, h2⟩ := hq
        exact ih m' a' w' (by omega) h2
      | exit id => exact hq
      | goto l => exact hq
      | ret => exact hq
      | panic ch => exact hq
      | outgrown => exact hq
  exact wpIn_loop_rounds (n0 + 1) (key (n0 + 1) n0 a w (Nat.lt_succ_self _) h0)

abbrev Item := List UInt8 × Bool
def Item.args (x : Item) : Array Value := #[.string ⟨⟨x.1⟩⟩, .bool x.2]
def rTmps (rec : Loop) (args : Array Value) : Array Value := (rec.params.zip args).foldl (fun tmps (t, a) => tmps.setIfInBounds t a) rec.tmps
theorem recEnd_normal {rec : Loop} (h1 : rec.state = .ready) (h2 : rec.pending = none) : recEnd rec .normal = rec := by
  cases rec
  simp only at h1 h2
  subst h1
  subst h2
  rfl
/-- What holds between two rounds. -/
structure Mid (B : Nat) (w0 : World) (L kL b : Nat) (rec : Loop) (rest : List UInt8) (E : Env) (h : Heap) (W : World) : Prop where
  rel : Rel B w0 E h W
  rho : E.ρ kL = some (L, 0)
  recd : h[kL]? = some (.opq (.loop rec))
  box : ∃ r : Rt, (∀ t, r ≠ .tok t) ∧ h[b]? = some (.cells [.list 1 (ofBytes rest) r])
/-- The heap is as it was, but for the box and the record. -/
def AsWas (b kL : Nat) (h h' : Heap) : Prop := h.length ≤ h'.length ∧ ∀ k, k < h.length → k ≠ b → k ≠ kL → h'[k]? = h[k]?
theorem AsWas.trans {b kL : Nat} {h h1 h2 : Heap} (a : AsWas b kL h h1) (c : AsWas b kL h1 h2) : AsWas b kL h h2 :=
  ⟨Nat.le_trans a.1 c.1, fun k h1 h2 h3 => by have := a.1; rw [c.2 k (by omega) h2 h3, a.2 k h1 h2 h3]⟩
theorem AsWas.app (b kL : Nat) (h l : Heap) : AsWas b kL h (h ++ l) := ⟨by simp, fun k h1 _ _ => List.getElem?_append_left h1⟩
theorem AsWas.box (b kL : Nat) (h : Heap) (v : AE) : AsWas b kL h (h.set b v) := ⟨by simp, fun k h1 h2 _ => List.getElem?_set_ne (Ne.symm h2)⟩
theorem AsWas.rec (b kL : Nat) (h : Heap) (v : AE) : AsWas b kL h (h.set kL v) := ⟨by simp, fun k h1 _ h2 => List.getElem?_set_ne (Ne.symm h2)⟩
abbrev KP : List String := ["franking/dots.lines"]
theorem start_sr {E : Env} {vs : Array Value} {args : List AV} (hsz : vs.size = args.length) (hrd : ∀ (i : Nat) (u : Value) (x : AV), vs[i]? = some u → args[i]? = some x → Rd E u x) (n t : Nat) :
    Rd E ((vs ++ Array.replicate n undef).getD t undef) (args.getD t .junk) := by
  by_cases ht : t < args.length
  · have h1 : args[t]? = some args[t] := List.getElem?_eq_getElem ht
    have h2 : vs[t]? = some (vs[t]'(by omega)) := Array.getElem?_eq_getElem _
    rw [List.getD_eq_getElem?_getD, h1, Array.getD_eq_getD_getElem?, Array.getElem?_append, if_pos (by omega), h2]
    exact hrd t _ _ h2 h1
  · rw [List.getD_eq_getElem?_getD, List.getElem?_eq_none (by omega)]
    exact .junk _
theorem hmix : Tryd.prog.follows .mixedOrders = true := by rfl
theorem m_sim {B : Nat} {w0 : World} {dn nt : Nat} {ro : Option Nat} {ds : List Deferred} {c : Code} (pc : plainC c = true) {Q : Ex → Slots → Heap → Prop} {σ : Slots} {h : Heap} (hw : Wp M0 (compileC Tryd.prog MT nt c) Q σ h) {E : Env} {a : Act} {w : World} (hat : AtD Tryd.prog B w0 nt ds E a w σ h) :
    c.wpIn (RF ro) dn Tryd.prog (fun e a' w' => ∃ ex σ' h' E', e = ex.toExit ∧ Q ex σ' h' ∧ AtD Tryd.prog B w0 nt ds E' a' w' σ' h' ∧ Keeps h.length E E' ∧ Grow h h') a w :=
  wp_sim (mt := MT) (kp := KP) hmix ext0 (fr0.weak _) pc hw hat
theorem f25_is : Tryd.prog.funcs[21]? = some Tryd.f21 := by rfl

theorem lines_calls {dn : Nat} {B : Nat} {w0 : World} {E0 : Env} {W0 : World} {h0 : Heap} {L kL b g : Nat} {rec : Loop} {s : List UInt8} (hm : Mid B w0 L kL b rec s E0 h0 W0) (hbk : b ≠ kL) {gc : Nat} (hg : E0.ρ b = some (g, gc)) (hlen : s.length ≤ 1000000000)
    (hst : rec.state = .ready) (hpe : rec.pending = none) (hps : rec.params.size = 2) (I : List Item → Heap → Prop) (J : Ex → List Item → Heap → Prop) (hI0 : I [] h0)
    (hI : ∀ pre h h', I pre h → AsWas b kL h h' → I pre h')
    (hround : ∀ pre x post rest E h W, linesP s = pre ++ x :: post → Mid B w0 L kL b rec rest E h W → Keeps h0.length E0 E → h0.length ≤ h.length → I pre h →
      RoundIn (RF none) (dn - 1) Tryd.prog L rec.fn (rTmps rec x.args) rec.assign rec.body W fun en W1 => ∃ ex E1 h1, en = .returned (.bool ex.jump.isNone) ∧ Keeps h.length E E1 ∧ Rel B w0 E1 h1 W1 ∧
        h1[kL]? = some (.opq (.loop (recEnd rec ex))) ∧ h1[b]? = h[b]? ∧ h.length ≤ h1.length ∧ (if ex.jump.isNone then ex = .normal ∧ I (pre ++ [x]) h1 else J ex (pre ++ [x]) h1)) :
    CallsIn (RF none) dn Tryd.prog 21 #[.func (.yield L) #[] #[], .pointer (some ⟨g, 0, none⟩)] W0 fun en W1 => (∃ v, en = .returned v) ∧ ∃ ex E1 h1, Keeps h0.length E0 E1 ∧ Rel B w0 E1 h1 W1 ∧ h0.length ≤ h1.length ∧ h1[kL]? = some (.opq (.loop (recEnd rec ex))) ∧
      ((ex = .normal ∧ I (linesP s) h1) ∨ (ex.jump.isNone = false ∧ ∃ pre post, linesP s = pre ++ post ∧ J ex pre h1)) := by
  refine callsIn_of_wp f25_is f25_body trivial ?_ rfl
  refine wpIn_block ?_
  have hlt0 : kL < h0.length := (List.getElem?_eq_some_iff.1 hm.recd).1
  obtain ⟨r0, hr0, hb0⟩ := hm.box
  have hltb : b < h0.length := (List.getElem?_eq_some_iff.1 hb0).1
  refine loopIn_ghost (fun n a w => ∃ E h σ pre rest, AtD Tryd.prog B w0 24 [] E a w σ h ∧ Mid B w0 L kL b rec rest E h w ∧ Keeps h0.length E0 E ∧ h0.length ≤ h.length ∧ I pre h ∧ linesP s = pre ++ linesP rest ∧ rest.length = n ∧ rest.length ≤ 1000000000 ∧ σ 0 = .yv L ∧ σ 1 = .ptr b 0) s.length ?_ ?_
  · refine ⟨E0, h0, fun i => [AV.yv L, .ptr b 0].getD i .junk, [], s, ⟨⟨hm.rel.gl, fun t => ?_⟩, by simp [show Tryd.f21.ntmps = 24 from rfl], rfl, hm.rel⟩, hm, Keeps.refl _ _, Nat.le_refl _, hI0, rfl, rfl, hlen, rfl, rfl⟩
    refine start_sr rfl (fun i u x hu hx => ?_) _ t
    match i, hu, hx with
    | 0, hu, hx =>
      injection hu with hu
      injection hx with hx
      subst hu
      subst hx
      exact .yv L
    | 1, hu, hx =>
      injection hu with hu
      injection hx with hx
      subst hu
      subst hx
      exact .ptr b 0 g gc hg
    | i + 2, hu, hx => cases hx
  · rintro n a w ⟨E, h, σ, pre, rest, hat, hmid, hke, hle, hi, hpre, hn, hrl, hs0, hs1⟩
    obtain ⟨r, hr, hb⟩ := hmid.box
    refine wpIn_seq ?_
    have hw0 := run0 b rest r σ h hs1 hb
    have hw := m_sim (ro := none) (dn := dn) pi0 hw0 hat
    refine wpIn_mono hw ?_
    rintro e a1 w1 ⟨ex, σ1, h1, E1, rfl, ⟨rfl, rfl, g0, g1⟩, hat1, k1, gr1⟩
    subst_vars
    have hltk : kL < h1.length := (List.getElem?_eq_some_iff.1 hmid.recd).1
    by_cases hz : 0 < rest.length
    · rw [if_pos hz]
      have hmid1 : Mid B w0 L kL b rec rest E1 h1 w1 := ⟨hat1.rel, by rw [k1.2 kL hltk]; exact hmid.rho, hmid.recd, hmid.box⟩
      refine wpIn_block (wpIn_seq ?_)
      refine wpIn_mono (m_sim (ro := none) (dn := dn) pi1 (run1 b rest r hr hz hrl σ1 h1 g1 hb) hat1) ?_
      rintro e a2 w2 ⟨ex, σ2, h2, E2, rfl, ⟨rfl, ⟨l', rfl⟩, g2, g3, q1, q2, n1, n2, s3, s4, s5⟩, hat2, k2, gr2⟩
      obtain ⟨x, rest', hx, hx1, hx2, hx3, hlin, hlt⟩ : ∃ (x : Item) (rest' : List UInt8), σ2 3 = .list 1 (ofBytes x.1) q1 ∧ σ2 5 = .bool x.2 ∧ σ2 4 = .list 1 (ofBytes rest') q2 ∧ True ∧ linesP rest = x :: linesP rest' ∧ rest'.length < rest.length := by
        cases hc : cutAt rest with
        | none =>
          rw [hc] at s3 s4 s5
          exact ⟨(rest, false), [], s3, s5, s4, trivial, linesP_last (by intro e; subst e; simp at hz) hc, by simpa using hz⟩
        | some i =>
          rw [hc] at s3 s4 s5
          exact ⟨(rest.take i, true), rest.drop (i + 2), s3, s5, s4, trivial, linesP_cut hc, by simp; omega⟩
      have hbl : b < h1.length := (List.getElem?_eq_some_iff.1 hb).1
      have hke2 : Keeps h0.length E0 E2 := (hke.trans k1 hle).trans k2 hle
      show Code.wpIn _ _ _ (.seq (.seq i2 i2c) i3) _ a2 w2
      refine wpIn_seq ?_
      refine yield_piece hat2 (by rw [g2, g0, hs0]) hx hx1 (fun go h3 => ∃ ex : Ex, go = ex.jump.isNone ∧ h3[kL]? = some (.opq (.loop (recEnd rec ex))) ∧ h3[b]? = (h1 ++ l')[b]? ∧ (h1 ++ l').length ≤ h3.length ∧ (if ex.jump.isNone then ex = .normal ∧ I (pre ++ [x]) h3 else J ex (pre ++ [x]) h3)) ?_ ?_
      · intro E3 w3 hr3 k3
        have hmid3 : Mid B w0 L kL b rec rest E3 (h1 ++ l') w3 := ⟨hr3, by rw [k3.2 kL (by simp; omega), k2.2 kL hltk]; exact hmid1.rho, by rw [List.getElem?_append_left hltk]; exact hmid.recd, r, hr, by rw [List.getElem?_append_left hbl]; exact hb⟩
        have hro := hround pre x (linesP rest') rest E3 (h1 ++ l') w3 (by rw [hpre, hlin]) hmid3 (hke2.trans k3 (by simp; omega)) (by simp; omega) (hI _ _ _ hi (AsWas.app _ _ _ _))
        have hL := (turn_opq hr3 (.loop rec) hmid3.recd hmid3.rho rfl).1
        refine ⟨rec, hL, hps, hro.mono ?_⟩
        rintro en W4 ⟨ex, E4, h4, rfl, k4, hr4, hk4, hb4, hl4, hi4⟩
        exact ⟨_, E4, h4, rfl, k4, hr4, hl4, ex, rfl, hk4, hb4, hl4, hi4⟩
      · rintro go E4 h4 a4 w4 σ4 ⟨ex, rfl, hk4, hb4, hl4, hi4⟩ k4 hat4 t0 t1 t4
        have hke4 : Keeps h0.length E0 E4 := hke2.trans k4 (by simp; omega)
        cases hj : ex.jump.isNone with
        | true =>
          rw [hj] at hi4
          obtain ⟨rfl, hi4⟩ := hi4
          rw [recEnd_normal hst hpe] at hk4
          have hb4' : h4[b]? = some (.cells [.list 1 (ofBytes rest) r]) := by rw [hb4, List.getElem?_append_left hbl]; exact hb
          refine wpIn_mono (m_sim (ro := none) (dn := dn) pi3 (run3 b (.list 1 (ofBytes rest') q2) _ σ4 h4 (by rw [t1, g3]) (by rw [t4, hx2]) rfl hb4') hat4) ?_
          rintro e a5 w5 ⟨ex, σ5, h5, E5, rfl, ⟨rfl, rfl, u0, u1⟩, hat5, k5, gr5⟩
          have hl4' : h1.length ≤ h4.length := by simp at hl4; omega
          refine ⟨rest'.length, hlt, E5, _, σ5, pre ++ [x], rest', hat5, ⟨hat5.rel, ?_, ?_, q2, n2, ?_⟩, hke4.trans k5 (by omega), by simp; omega, hI _ _ _ hi4 (AsWas.box _ _ _ _), by rw [hpre, hlin]; simp, rfl, by omega, by rw [u0, t0, g2, g0, hs0], u1⟩
          · rw [k5.2 kL (by omega), k4.2 kL (by simp; omega), k2.2 kL hltk]
            exact hmid1.rho
          · rw [List.getElem?_set_ne hbk]
            exact hk4
          · rw [List.getElem?_set_self (by omega)]
        | false =>
          rw [hj] at hi4
          refine ⟨hat4.defers, _, results_none rfl _ _ _, ⟨_, rfl⟩, ex, E4, h4, hke4, hat4.rel, by simp at hl4; omega, hk4, .inr ⟨hj, pre ++ [x], linesP rest', by rw [hpre, hlin]; simp, hi4⟩⟩
    · rw [if_neg hz]
      have hnil : rest = [] := List.eq_nil_of_length_eq_zero (by omega)
      subst hnil
      refine ⟨hat1.defers, _, results_none rfl _ _ _, ⟨_, rfl⟩, .normal, E1, h1, hke.trans k1 hle, hat1.rel, hle, ?_, .inl ⟨rfl, ?_⟩⟩
      · rw [recEnd_normal hst hpe]
        exact hmid.recd
      · have : linesP s = pre := by rw [hpre]; simp [linesP, linesF]
        rw [this]
        exact hi
end Go.Proofs.YtbhdfmkcoolghaaDoor
