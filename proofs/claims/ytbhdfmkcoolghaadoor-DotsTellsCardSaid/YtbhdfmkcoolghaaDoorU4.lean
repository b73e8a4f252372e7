/-
  dots.lines$1: the piece that calls yield.
-/
import Derived.Test.YtbhdfmkcoolghaaDoorU3
set_option linter.unusedVariables false
set_option linter.unusedSimpArgs false
namespace Go.Proofs.YtbhdfmkcoolghaaDoor
open Go Go.Am

def opsOf : Code → Array Oper
  | .region _ ops _ => ops
  | _ => #[]
noncomputable def o2 : Array Oper := opsOf i2
theorem i2_is : i2 = .region 2 o2 false := by rfl
def as2 : List AO := [⟨some 17, .mv (.t 0), none, 0⟩, ⟨some 18, .mv (.t 3), none, 0⟩, ⟨some 19, .cvBytesStr (.t 18), none, 0⟩, ⟨some 20, .mv (.t 5), none, 0⟩, ⟨some 21, .call (.t 17) [.t 19, .t 20], none, 0⟩, ⟨some 22, .not (.t 21), none, 0⟩]
theorem c2 : compileOps Tryd.prog MT 24 o2 o2.toList 0 = some (as2, 0) := by kernel_rfl
theorem comp2 : Comp Tryd.prog MT 24 o2 as2 := by
  obtain ⟨c1, c2, c3, c4, c5⟩ := compileOps_spec c2
  exact ⟨by simpa using c1, fun i o ao ho hao => c2 i o ao (by simpa using ho) hao, c5⟩
theorem free2 (k0 : Nat) (E : Env) (h : Heap) (l : List Nat) : Free as2 k0 E h l := by
  intro i _ ao hao hal
  have : ∀ x ∈ as2, x.op.isAlloc = false := by simp [as2, AOp.isAlloc]
  rw [this ao (List.mem_of_getElem? hao)] at hal
  cases hal
theorem o2_4 : ∃ o, o2[4]? = some o ∧ o.dst = some 21 ∧ o.guard = none ∧ o.op = .call { callee := .value (.tmp 17), args := #[.tmp 19, .tmp 20], argTypes := #[9, 4] } := ⟨_, rfl, rfl, rfl, rfl⟩
theorem o2_size : List.range o2.size = [0, 1, 2, 3, 4, 5] := by rfl
def nO : CallO := fun _ _ _ => none
theorem nO_ok : CallOk Tryd.prog nO := fun _ _ _ _ _ h => by cases h
theorem i2c_is : i2c = .cond (.tmp 22) .ret .skip := by rfl
theorem yield_piece {B : Nat} {w0 : World} {E : Env} {a : Act} {w : World} {σ : Slots} {h : Heap} {L : Nat} (hat : AtD Tryd.prog B w0 24 [] E a w σ h) (h0 : σ 0 = .yv L) {s : List UInt8} {r : Rt} (h3 : σ 3 = .list 1 (ofBytes s) r) {e : Bool} (h5 : σ 5 = .bool e) {dn : Nat} {Q : Exit → Act → World → Prop}
    (R : Bool → Heap → Prop)
    (hy : ∀ (E' : Env) (w' : World), Rel B w0 E' h w' → Keeps h.length E E' → ∃ rec : Loop, w'.heap[L]? = some (.loop rec) ∧ rec.params.size = 2 ∧
      RoundIn (RF none) (dn - 1) Tryd.prog L rec.fn ((rec.params.zip #[Value.string ⟨⟨s⟩⟩, .bool e]).foldl (fun tmps (t, a) => tmps.setIfInBounds t a) rec.tmps) rec.assign rec.body w' fun en w1 =>
        ∃ (go : Bool) (E1 : Env) (h1 : Heap), en = .returned (.bool go) ∧ Keeps h.length E' E1 ∧ Rel B w0 E1 h1 w1 ∧ h.length ≤ h1.length ∧ R go h1)
    (hQ : ∀ go E1 h1 a1 w1 σ1, R go h1 → Keeps h.length E E1 → AtD Tryd.prog B w0 24 [] E1 a1 w1 σ1 h1 → σ1 0 = σ 0 → σ1 1 = σ 1 → σ1 4 = σ 4 → Q (if go then .normal else .ret) a1 w1) :
    (Code.seq i2 i2c).wpIn (RF none) dn Tryd.prog Q a w := by
  refine wpIn_seq ?_
  rw [i2_is]
  refine wpIn_region ?_
  rw [o2_size, wpOpsIn_cons]
  obtain ⟨f0, hst0⟩ : ∃ f, stepA nO h.length ⟨some 17, .mv (.t 0), none, 0⟩ σ h = some (upd σ 17 (.yv L), h, f) := ⟨_, by simp [stepA, passed, AX.ev, h0, put]; rfl⟩
  refine at_stepIn nO_ok comp2 hat (i := 0) rfl (l := [1, 2, 3, 4, 5]) (by simp) (free2 _ _ _ _) hst0 (Nat.le_refl _) fun a1 w1 E1 s1 _ k1 kk1 => ?_
  rw [wpOpsIn_cons]
  obtain ⟨f1, hst1⟩ : ∃ f, stepA nO h.length ⟨some 18, .mv (.t 3), none, 0⟩ (upd σ 17 (.yv L)) h = some (upd (upd σ 17 (.yv L)) 18 (.list 1 (ofBytes s) r), h, f) := ⟨_, by simp [stepA, passed, AX.ev, h3, put]; rfl⟩
  refine at_stepIn nO_ok comp2 s1 (i := 1) rfl (l := [2, 3, 4, 5]) (by simp) (free2 _ _ _ _) hst1 (Nat.le_refl _) fun a2 w2 E2 s2 _ k2 kk2 => ?_
  rw [wpOpsIn_cons]
  obtain ⟨f2, hst2⟩ : ∃ f, stepA nO h.length ⟨some 19, .cvBytesStr (.t 18), none, 0⟩ (upd (upd σ 17 (.yv L)) 18 (.list 1 (ofBytes s) r)) h = some (upd (upd (upd σ 17 (.yv L)) 18 (.list 1 (ofBytes s) r)) 19 (.str s), h, f) := ⟨_, by simp [stepA, passed, AX.ev, upd, put, bytesV]; rfl⟩
  refine at_stepIn nO_ok comp2 s2 (i := 2) rfl (l := [3, 4, 5]) (by simp) (free2 _ _ _ _) hst2 (Nat.le_refl _) fun a3 w3 E3 s3 _ k3 kk3 => ?_
  rw [wpOpsIn_cons]
  obtain ⟨f3, hst3⟩ : ∃ f, stepA nO h.length ⟨some 20, .mv (.t 5), none, 0⟩ (upd (upd (upd σ 17 (.yv L)) 18 (.list 1 (ofBytes s) r)) 19 (.str s)) h = some (upd (upd (upd (upd σ 17 (.yv L)) 18 (.list 1 (ofBytes s) r)) 19 (.str s)) 20 (.bool e), h, f) := ⟨_, by simp [stepA, passed, AX.ev, upd, put, h5]; rfl⟩
  refine at_stepIn nO_ok comp2 s3 (i := 3) rfl (l := [4, 5]) (by simp) (free2 _ _ _ _) hst3 (Nat.le_refl _) fun a4 w4 E4 s4 _ k4 kk4 => ?_
  rw [wpOpsIn_cons]
  have hk : Keeps h.length E E4 := Keeps.trans ⟨k1, kk1⟩ (Keeps.trans ⟨k2, kk2⟩ (Keeps.trans ⟨k3, kk3⟩ ⟨k4, kk4⟩ (Nat.le_refl _)) (Nat.le_refl _)) (Nat.le_refl _)
  generalize hσ4 : upd (upd (upd (upd σ 17 (.yv L)) 18 (.list 1 (ofBytes s) r)) 19 (.str s)) 20 (.bool e) = σ4 at s4
  have g17 : σ4 17 = .yv L := by rw [← hσ4]; simp [upd]
  have g19 : σ4 19 = .str s := by rw [← hσ4]; simp [upd]
  have g20 : σ4 20 = .bool e := by rw [← hσ4]; simp [upd]
  have gl : σ4 0 = σ 0 ∧ σ4 1 = σ 1 ∧ σ4 4 = σ 4 := by rw [← hσ4]; simp [upd]
  obtain ⟨o, ho, hd, hgd, hop⟩ := o2_4
  have hsem : o.semAt none a4.eval = execOp a4.eval o := Oper.semAt_eq none _ o fun c hc => by rw [hop] at hc; cases hc
  have v17 : a4.eval (.tmp 17) = .func (.yield L) #[] #[] := by
    have := s4.sr.2 17
    rw [g17] at this
    generalize hu : a4.tmps.getD 17 undef = u at this
    cases this
    exact hu
  have v19 : a4.eval (.tmp 19) = .string ⟨⟨s⟩⟩ := by
    have := s4.sr.2 19
    rw [g19] at this
    exact this.inv_str
  have v20 : a4.eval (.tmp 20) = .bool e := by
    have := s4.sr.2 20
    rw [g20] at this
    exact this.inv_bool
  have hex : execOp a4.eval o = Instr.yield L #[.string ⟨⟨s⟩⟩, .bool e] := by
    unfold execOp
    rw [hop]
    dsimp only
    unfold resolve
    dsimp only
    simp only [v17, Deferred.ofValue]
    simp [invoke, v19, v20]
  obtain ⟨rec, hrec, hps, hround⟩ := hy E4 w4 s4.rel hk
  unfold wpOpIn
  simp only [ho]
  have hw : Region.wanted o (yielded o2 a4.tmps) = true := by simp [Region.wanted, hgd]
  rw [if_pos hw]
  refine ⟨fun _ _ => trivial, ?_⟩
  show o.uponIn (RF none) dn Tryd.prog a4 _ _ ((o.semAt none a4.eval).run Tryd.prog w4)
  rw [hsem, hex, run_yield hrec (by rw [hps]; rfl), Oper.uponIn_round]
  refine ⟨fun h => (by cases h), hround.mono ?_⟩
  rintro en w1 ⟨go, E1, h1, rfl, kk, hr1, hle1, hR⟩
  show wpOpsIn _ _ _ _ _ _ _ _
  rw [hd]
  have s5 : AtD Tryd.prog B w0 24 [] E1 (a4.put (some 21) (.bool go)) w1 (upd σ4 21 (.bool go)) h1 := by
    refine ⟨(s4.sr.mono kk.1).put (d := some 21) (fun x hx => ?_) (.bool go), by rw [size_put]; exact s4.size, by rw [defers_put]; exact s4.defers, hr1⟩
    injection hx with hx
    subst hx
    exact Nat.lt_of_lt_of_le (by decide) s4.size
  rw [wpOpsIn_cons]
  obtain ⟨f5, hst5⟩ : ∃ f, stepA nO h1.length ⟨some 22, .not (.t 21), none, 0⟩ (upd σ4 21 (.bool go)) h1 = some (upd (upd σ4 21 (.bool go)) 22 (.bool !go), h1, f) := ⟨_, by simp [stepA, passed, AX.ev, upd, put]; rfl⟩
  refine at_stepIn nO_ok comp2 s5 (i := 5) rfl (l := []) (by simp) (free2 _ _ _ _) hst5 (Nat.le_refl _) fun a6 w6 E6 s6 _ k6 kk6 => ?_
  have hkk : Keeps h.length E E6 := (hk.trans kk (Nat.le_refl _)).trans ⟨k6, kk6⟩ hle1
  show Code.wpIn _ _ _ i2c Q a6 w6
  have e22 : a6.eval (.tmp 22) = .bool !go := by
    have := s6.sr.2 22
    exact this.inv_bool
  rw [i2c_is]
  refine wpIn_cond e22 ?_
  have hfin : Q (if go then .normal else .ret) a6 w6 := hQ go E6 h1 a6 w6 _ hR hkk s6 (by simp [upd, gl]) (by simp [upd, gl]) (by simp [upd, gl])
  cases go with
  | true => exact wpIn_skip hfin
  | false => exact wpIn_ret hfin
end Go.Proofs.YtbhdfmkcoolghaaDoor
