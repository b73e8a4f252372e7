/-
  The simulation of Am16 to Am18 under a fence, in a round or not, with deferred calls at hand: for code without loops. (Printed by mkin.py out of those texts.)
-/
import Derived.Test.YtbhdfmkcoolghaaDoorAmC
import Derived.OrdersIn
import Derived.RangeFuncCalls
import Derived.RangeFuncLeaves
import Derived.RangeFuncOwn
set_option linter.unusedVariables false
set_option linter.unusedSimpArgs false
namespace Go.Am
open Go

def RF (ro : Option Nat) : Fence := { Fence.wide with round := ro }
theorem RF_wide : RF none = Fence.wide := rfl
theorem RF_round (l : Nat) : RF (some l) = Fence.wide.inRound l := rfl
theorem callsIn_RF {ro : Option Nat} {n : Nat} {P : Program} {f : FuncId} {args : Array Value} {w : World} {R : Ending → World → Prop} (h : Calls P f args w R) : CallsIn (RF ro) n P f args w R := (callsIn_wide (n := n)).2 h

structure AtD (P : Program) (B : Nat) (w0 : World) (nt : Nat) (ds : List Deferred) (E : Env) (a : Act) (w : World) (σ : Slots) (h : Heap) : Prop where
  sr : SR E a σ
  size : nt ≤ a.tmps.size
  defers : a.defers = ds
  rel : Rel B w0 E h w
def EndsD (P : Program) (nt : Nat) (ds : List Deferred) (σ : Slots) (h : Heap) (ex : Ex) (σ' : Slots) (h' : Heap) (wp : (Exit → Act → World → Prop) → Act → World → Prop) : Prop :=
  ∀ (B : Nat) (w0 : World) (E : Env) (a : Act) (w : World) (Q : Exit → Act → World → Prop), AtD P B w0 nt ds E a w σ h →
    (∀ a' w' E', AtD P B w0 nt ds E' a' w' σ' h' → Keeps h.length E E' → Q ex.toExit a' w') → wp Q a w
def plainC : Code → Bool
  | .seq a b => plainC a && plainC b
  | .cond _ a b => plainC a && plainC b
  | .block _ a => plainC a
  | .loop _ => false
  | .scope _ => false
  | _ => true

section
variable {P : Program} {B : Nat} {w0 : World} {E : Env} {h : Heap} {a : Act} {w : World} {σ : Slots} {O : CallO} {mt : List String} {nt : Nat} {ops : Array Oper} {o : Oper} {ao : AO} {Q : Exit → Act → World → Prop} {ds : List Deferred} {ro : Option Nat} {dn : Nat}
theorem step_simIn (hO : CallOk P O) (hc : Cmp P mt nt ops o ao) (hs : SR E a σ) (hsz : nt ≤ a.tmps.size) (hdf : a.defers = ds) (r : Rel B w0 E h w) {k0 : Nat} (hk : ao.op.isAlloc = true → h[k0 + ao.key]? = some .dead ∧ E.ρ (k0 + ao.key) = none)
    {σ1 : Slots} {h1 : Heap} {f : Foot} (hst : stepA O k0 ao σ h = some (σ1, h1, f)) {i : Nat} (hi : ops[i]? = some o) {K : Act → World → Prop}
    (hK : ∀ a' w' E', SR E' a' σ1 → nt ≤ a'.tmps.size → a'.defers = ds → Rel B w0 E' h1 w' → E.le E' → (∀ b, b < h.length → (ao.op.isAlloc = true → b ≠ k0 + ao.key) → E'.ρ b = E.ρ b) → K a' w') : wpOpIn (RF ro) dn P ops Q i K a w := by
  obtain ⟨hd, hdl, hop, hg⟩ := hc
  have hdl' : ∀ x, o.dst = some x → x < a.tmps.size := fun x hx => Nat.lt_of_lt_of_le (hdl x hx) hsz
  unfold wpOpIn
  simp only [hi]
  rcases stepA_cases hst with ⟨hp, e⟩ | ⟨hp, v, h', ha, e⟩
  · injection e with e1 e2; injection e2 with e2 e3; subst e1; subst e2
    rw [wanted_passed ⟨hd, hdl, hop, hg⟩ hs hp]
    simp only [Bool.not_true, Bool.false_eq_true, if_false]
    rw [hd] at hK
    refine ⟨fun _ _ => trivial, ?_⟩
    exact hK _ _ E (hs.put hdl' (.tup #[] [] rfl fun _ _ _ hu _ => by simp at hu)) (by rw [size_put]; exact hsz) (by rw [defers_put]; exact hdf) r E.le_refl fun _ _ _ => rfl
  · injection e with e1 e2; injection e2 with e2 e3; subst e1; subst e2
    rw [wanted_passed ⟨hd, hdl, hop, hg⟩ hs hp]
    simp only [Bool.not_false, if_true]
    refine ⟨fun _ _ => trivial, ?_⟩
    rw [hd] at hK
    have hop' := hop
    unfold compileOp' at hop'
    cases hco : compileOp P mt o with
    | none =>
      rw [hco] at hop'
      simp only at hop'
      rw [hop'] at ha
      simp [aop] at ha
    | some op =>
      rw [hco] at hop'
      simp only at hop'
      cases hpv : op.proved with
      | false =>
        rw [hpv] at hop'
        simp only [Bool.false_eq_true, if_false] at hop'
        rw [hop'] at ha
        simp [aop] at ha
      | true =>
        have hsem : ∀ ρ, o.semAt ro ρ = execOp ρ o := fun ρ => Oper.semAt_eq ro ρ o fun c hc => (by simp [compileOp, hc] at hco)
        rw [hpv, if_pos rfl] at hop'
        cases hcl : op.isCall with
        | false =>
          obtain ⟨val, w', E', hrun, hle, hρ, hrel, hrd⟩ : ∃ val w' E', ((execOp a.eval o).run P w = .ok (.value val) w' ∨ ((execOp a.eval o).run P w = .ok .skip w' ∧ val = undef)) ∧ E.le E' ∧ (∀ b, b < h.length → (ao.op.isAlloc = true → b ≠ k0 + ao.key) → E'.ρ b = E.ρ b) ∧ Rel B w0 E' h1 w' ∧ Rd E' val v := by
            cases hal : op.isAlloc with
            | true =>
              rw [hop'] at ha hk
              obtain ⟨val, w', E', hrun, hle, hρ, hrel, hrd⟩ := op_sound hco hpv hcl hs r hk ha
              exact ⟨val, w', E', hrun, hle, fun b _ hb => hρ b (hb (by rw [hop']; exact hal)), hrel, hrd⟩
            | false =>
              rw [hop'] at ha
              rw [aop_nokey (key' := h.length) hal] at ha
              obtain ⟨val, w', E', hrun, hle, hρ, hrel, hrd⟩ := op_sound hco hpv hcl hs r (fun hx => by rw [hal] at hx; cases hx) ha
              exact ⟨val, w', E', hrun, hle, fun b hb _ => hρ b (by omega), hrel, hrd⟩
          have hfin := hK (a.put o.dst val) w' E' ((hs.mono hle).put hdl' hrd) (by rw [size_put]; exact hsz) (by rw [defers_put]; exact hdf) hrel hle hρ
          show o.uponIn (RF ro) dn P a K Q ((o.semAt ro a.eval).run P w)
          rw [hsem]
          rcases hrun with hrun | ⟨hrun, rfl⟩
          · rw [hrun]; exact hfin
          · rw [hrun]; exact hfin
        | true =>
          obtain ⟨g, xs, rfl⟩ : ∃ g xs, op = .call g xs := by cases op <;> first | exact ⟨_, _, rfl⟩ | cases hcl
          have hcc : ∃ c, o.op = .call c ∧ compileCall P o.type c = some (.call g xs) := by
            cases hop2 : o.op <;> simp only [compileOp, hop2] at hco <;> first
              | exact ⟨_, rfl, hco⟩
              | (exfalso
                 clear hK hst hp ha hs hk hg hop hop' r
                 repeat' (split at hco)
                 all_goals first
                   | (cases hco; done)
                   | (injection hco with hco; cases hco; done)
                   | (injection hco with hco; split at hco <;> cases hco; done)
                   | (simp only [Option.map_eq_some_iff] at hco; obtain ⟨_, _, hco⟩ := hco; cases hco; done)
                   | (simp only [Option.map_eq_some_iff] at hco; obtain ⟨_, _, hco⟩ := hco; split at hco <;> cases hco; done)
                   | (rename_i hq; cases hq; done)
                   | skip)
          obtain ⟨c, hoc, hcomp⟩ := hcc
          have hcv : ∃ fv gx as, c.callee = .value fv ∧ cx P 0 fv = some gx ∧ cxTs P (c.args.toList.zipIdx.map fun p => (p.1, c.argTypes.getD p.2 0)) = some as ∧ gx = g ∧ as = xs := by
            unfold compileCall at hcomp
            split at hcomp
            · rename_i fv hcal
              split at hcomp
              · rename_i gx as h1 h2
                injection hcomp with hcomp
                injection hcomp with e1 e2
                exact ⟨fv, gx, as, hcal, h1, h2, e1, e2⟩
              · cases hcomp
            all_goals (
              exfalso
              repeat' (split at hcomp)
              all_goals first
                | (cases hcomp; done)
                | (injection hcomp with hcomp; cases hcomp; done)
                | (simp only [Option.map_eq_some_iff] at hcomp; obtain ⟨_, _, hcomp⟩ := hcomp; cases hcomp; done))
          obtain ⟨fv, gx, as, hcal, hfx, hax, rfl, rfl⟩ := hcv
          rw [hop'] at ha
          simp only [aop] at ha
          split at ha
          · rename_i F caps hgv
            have hF := cx_sound hfx hs
            rw [hgv] at hF
            obtain ⟨cs, hev, hcl1, hcl2⟩ : ∃ cs : Array Value, a.eval fv = .func (.func F) #[] cs ∧ cs.size = caps.length ∧ ∀ (i : Nat) (u : Value) (x : AV), cs[i]? = some u → caps[i]? = some x → Rd E u x := by
              generalize a.eval fv = u at hF
              cases hF with
              | fn _ cs _ h1 h2 => exact ⟨cs, rfl, h1, h2⟩
            obtain ⟨hl1, hl2⟩ := cxTs_sound hax hs
            obtain ⟨g1, g2, g3⟩ := hO _ _ _ _ _ ha
            have hargs := g3 B w0 E w (c.args.map a.eval ++ cs) r (by
                have : c.args.size = as.length := by simpa using hl1
                simp [this, hcl1]) (by
              intro i u x hu hx
              have hsz2 : c.args.size = as.length := by simpa using hl1
              rw [Array.getElem?_append] at hu
              rw [List.getElem?_append] at hx
              simp only [Array.size_map, List.length_map] at hu hx
              by_cases hlt : i < c.args.size
              · rw [if_pos hlt] at hu
                rw [if_pos (by omega)] at hx
                simp only [Array.getElem?_map, Option.map_eq_some_iff] at hu
                simp only [List.getElem?_map, Option.map_eq_some_iff] at hx
                obtain ⟨p, hp1, rfl⟩ := hu
                obtain ⟨q, hq1, rfl⟩ := hx
                refine hl2 i (p, c.argTypes.getD i 0) q ?_ hq1
                simp only [List.getElem?_map, List.getElem?_zipIdx, Array.getElem?_toList, hp1, Option.map_some, Nat.zero_add]
              · rw [if_neg hlt] at hu
                rw [if_neg (by omega)] at hx
                rw [hsz2] at hu
                exact hcl2 _ u x hu hx)
            have hrunE : execOp a.eval o = callFunc F (c.args.map a.eval ++ cs) := by
              unfold execOp
              rw [hoc]
              dsimp only
              unfold resolve
              rw [hcal]
              simp only [hev, Deferred.ofValue]
              simp [invoke]
            show o.uponIn (RF ro) dn P a K Q ((o.semAt ro a.eval).run P w)
            rw [hsem, hrunE]
            unfold Fires at hargs
            have hpost : ∀ v' w', (∃ E', E.le E' ∧ (∀ b, b < h.length → E'.ρ b = E.ρ b) ∧ Rel B w0 E' h1 w' ∧ Rd E' v' v) → K (a.put o.dst v') w' := by
              intro v' w' hh
              obtain ⟨E', k1, k2, k3, k4⟩ := hh
              exact hK (a.put o.dst v') w' E' ((hs.mono k1).put hdl' k4) (by rw [size_put]; exact hsz) (by rw [defers_put]; exact hdf) k3 k1 fun b hb _ => k2 b hb
            split at hargs
            · rename_i v' w' hrun
              rw [hrun]
              exact hpost _ _ hargs
            · rename_i F' ys w' hrun
              rw [hrun]
              refine ⟨fun h => (by cases h), CallsIn.mono (callsIn_RF hargs) fun e w'' he => ?_⟩
              cases e with
              | returned v' => exact hpost _ _ he
              | panicked ch => exact he.elim
              | outgrown => exact he.elim
            · exact hargs.elim
          · cases ha
end
section
variable {P : Program} {B : Nat} {w0 : World} {O : CallO} {mt : List String} {nt : Nat} {ops : Array Oper} {as : List AO} {Q : Exit → Act → World → Prop} {k0 : Nat} {ds : List Deferred} {ro : Option Nat} {dn : Nat}
/-- One operation, with what is kept for the rest. -/
theorem at_stepIn (hO : CallOk P O) (hc : Comp P mt nt ops as) {E : Env} {a : Act} {w : World} {σ σ1 : Slots} {h h1 : Heap} {f : Foot} (hat : AtD P B w0 nt ds E a w σ h) {i : Nat} {oi : AO} (hoi : as[i]? = some oi) {l : List Nat} (hl : i ∉ l) (hfree : Free as k0 E h (i :: l))
    (hst : stepA O k0 oi σ h = some (σ1, h1, f)) {K : Act → World → Prop} (hk0 : k0 ≤ h.length)
    (hK : ∀ a' w' E', AtD P B w0 nt ds E' a' w' σ1 h1 → Free as k0 E' h1 l → E.le E' → (∀ b, b < k0 → E'.ρ b = E.ρ b) → K a' w') : wpOpIn (RF ro) dn P ops Q i K a w := by
  have hi : i < ops.size := by rw [← hc.len]; exact (List.getElem?_eq_some_iff.1 hoi).1
  have ho : ops[i]? = some ops[i] := Array.getElem?_eq_getElem hi
  refine step_simIn hO (hc.cmp i _ _ ho hoi) hat.sr hat.size hat.defers hat.rel (hfree i List.mem_cons_self oi hoi) hst ho fun a' w' E' s1 s2 s3 s4 s5 s6 => ?_
  refine hK a' w' E' ⟨s1, s2, s3, s4⟩ ?_ s5 fun b hb => s6 b (by omega) fun _ => by omega
  intro j hj ao hao hal
  obtain ⟨d1, d2⟩ := stepA_dead hO hst
  obtain ⟨f1, f2⟩ := hfree j (List.mem_cons_of_mem _ hj) ao hao hal
  have hne : oi.op.isAlloc = true → k0 + ao.key ≠ k0 + oi.key := fun hx => by
    have := hc.key_ne hao hoi (fun e => hl (e ▸ hj)) hal hx
    omega
  exact ⟨d2 _ f1 hne, by rw [s6 _ (List.getElem?_eq_some_iff.1 f1).1 hne]; exact f2⟩

/-- In a given order. -/
theorem list_simIn (hO : CallOk P O) (hc : Comp P mt nt ops as) {E0 : Env} {σ' : Slots} {h' : Heap}
    (hQ : ∀ a' w' E', AtD P B w0 nt ds E' a' w' σ' h' → E0.le E' → (∀ b, b < k0 → E'.ρ b = E0.ρ b) → Q .normal a' w') :
    ∀ {l : List Nat} {E : Env} {a : Act} {w : World} {σ : Slots} {h : Heap} {T : List (Nat × Foot)}, l.Nodup → AtD P B w0 nt ds E a w σ h → Free as k0 E h l → E0.le E → (∀ b, b < k0 → E.ρ b = E0.ρ b) → k0 ≤ h.length → runL O k0 as l σ h = some (σ', h', T) → wpOpsIn (RF ro) dn P ops Q l a w
  | [], E, a, w, σ, h, T, _, hat, hf, hle, hρ, hk0, hr => by
    simp only [runL, Option.some.injEq, Prod.mk.injEq] at hr
    obtain ⟨rfl, rfl, _⟩ := hr
    exact hQ a w E hat hle hρ
  | i :: l, E, a, w, σ, h, T, hnd, hat, hf, hle, hρ, hk0, hr => by
    obtain ⟨o, σ1, h1, f, T', ho, hs, hr', rfl⟩ := runL_cons hr
    have hnd' := List.nodup_cons.1 hnd
    rw [wpOpsIn_cons]
    refine at_stepIn hO hc hat ho hnd'.1 hf hs hk0 fun a' w' E' s1 s2 s3 s4 => ?_
    exact list_simIn hO hc hQ hnd'.2 s1 s2 (Env.le_trans hle s3) (fun b hb => by rw [s4 b hb]; exact hρ b hb) (Nat.le_trans hk0 (stepA_dead hO hs).1) hr'

/-- In any order. -/
theorem any_simIn (hO : CallOk P O) (hF : FrO O) (hc : Comp P mt nt ops as) (hsl : slotsOk ops as = true) {E0 : Env} {σ' : Slots} {h' : Heap}
    (hQ : ∀ a' w' E', AtD P B w0 nt ds E' a' w' σ' h' → E0.le E' → (∀ b, b < k0 → E'.ρ b = E0.ρ b) → Q .normal a' w') :
    ∀ {n : Nat} {l : List Nat} {L : Array Bool} {E : Env} {a : Act} {w : World} {σ : Slots} {h : Heap} {T : List (Nat × Foot)}, l.length = n → l.Pairwise (· < ·) → Closed ops L → (∀ i, i ∈ l ↔ (i < ops.size ∧ L.getD i true = false)) → L.size = ops.size →
      AtD P B w0 nt ds E a w σ h → Free as k0 E h l → E0.le E → (∀ b, b < k0 → E.ρ b = E0.ρ b) → k0 ≤ h.length → runL O k0 as l σ h = some (σ', h', T) → T.Pairwise (RT ops) → wpAnyIn (RF ro) dn P .any ops Q n L a w := by
  intro n
  induction n with
  | zero =>
    intro l L E a w σ h T hn hpw hcl hmem hLs hat hf hle hρ hk0 hr hp
    have : l = [] := List.length_eq_zero_iff.1 hn
    subst this
    simp only [runL, Option.some.injEq, Prod.mk.injEq] at hr
    obtain ⟨rfl, rfl, _⟩ := hr
    refine ⟨?_, hQ a w E hat hle hρ⟩
    rw [List.eq_nil_iff_forall_not_mem]
    intro i hi
    obtain ⟨h1, o, ho, _⟩ := mem_ready.1 hi
    have : i < ops.size := (Array.getElem?_eq_some_iff.1 ho).1
    exact absurd ((hmem i).2 ⟨this, h1⟩) (by simp)
  | succ n ih =>
    intro l L E a w σ h T hn hpw hcl hmem hLs hat hf hle hρ hk0 hr hp
    refine ⟨fun hnil => ?_, fun i hi => ?_⟩
    · exfalso
      cases l with
      | nil => simp at hn
      | cons i l =>
        have hi := (hmem i).1 List.mem_cons_self
        have ho : ops[i]? = some ops[i] := Array.getElem?_eq_getElem hi.1
        have : i ∈ Region.ready .any ops L := by
          refine mem_ready.2 ⟨hi.2, _, ho, fun e he hb => ?_⟩
          have hlt := edgesOk_spec hsl ho he hb
          have hsz : e.on < L.size := by rw [hLs]; omega
          cases hx : L.getD e.on true with
          | false =>
            have := (hmem e.on).2 ⟨by omega, hx⟩
            rcases List.mem_cons.1 this with h1 | h1
            · omega
            · have := (List.pairwise_cons.1 hpw).1 _ h1
              omega
          | true =>
            rw [Array.getD_eq_getD_getElem?, Array.getElem?_eq_getElem hsz] at hx ⊢
            exact hx
        rw [hnil] at this
        cases this
    · obtain ⟨hun, o, ho, _⟩ := mem_ready.1 hi
      have hlt : i < ops.size := (Array.getElem?_eq_some_iff.1 ho).1
      have him : i ∈ l := (hmem i).2 ⟨hlt, hun⟩
      obtain ⟨pre, post, rfl⟩ := List.append_of_mem him
      obtain ⟨oi, hoi⟩ : ∃ oi, as[i]? = some oi := ⟨as[i]'(by rw [hc.len]; exact hlt), List.getElem?_eq_getElem _⟩
      have hpa := List.pairwise_append.1 hpw
      have hbef : ∀ k ∈ pre, k < i ∧ fixed ops k i = false := by
        intro k hk
        refine ⟨hpa.2.2 k hk i List.mem_cons_self, ?_⟩
        cases hfx : fixed ops k i with
        | false => rfl
        | true =>
          have h1 := ready_fixed hcl hi hfx
          have h2 := ((hmem k).1 (List.mem_append_left _ hk)).2
          have h3 := ((hmem k).1 (List.mem_append_left _ hk)).1
          rw [Array.getD_eq_getD_getElem?, Array.getElem?_eq_getElem (by omega)] at h1 h2
          simp only [Option.getD_some] at h1 h2
          rw [h1] at h2; cases h2
      obtain ⟨σ1, h1, f, T', st, hr2, hp2, _, _⟩ := runL_front O hoi pre hr hp (fun k hk => ⟨fun ok hok => slotsOk_spec hsl (hbef k hk).1 hok hoi (hbef k hk).2, fun f g hR => hR.2 (hbef k hk).2⟩) hF (fun hal => (hf i him oi hoi hal).1) (fun k hk o ho σ h σ1 h1 f hst hal hdd => (stepA_dead hO hst).2 _ hdd fun hx => by
        have := hc.key_ne hoi ho (fun e => by have := (hbef k hk).1; omega) hal hx
        omega)
      have hnd : (pre ++ i :: post).Nodup := hpw.imp fun hlt e => by omega
      have hni : i ∉ pre ++ post := by
        intro hm
        rw [List.nodup_append] at hnd
        rcases List.mem_append.1 hm with hm | hm
        · exact hnd.2.2 i hm i List.mem_cons_self rfl
        · exact (List.nodup_cons.1 hnd.2.1).1 hm
      have hf' : Free as k0 E h (i :: (pre ++ post)) := by
        intro j hj
        refine hf j ?_
        rcases List.mem_cons.1 hj with rfl | hj
        · exact him
        · rcases List.mem_append.1 hj with hj | hj
          · exact List.mem_append_left _ hj
          · exact List.mem_append_right _ (List.mem_cons_of_mem _ hj)
      refine at_stepIn hO hc hat hoi hni hf' st hk0 fun a' w' E' s1 s2 s3 s4 => ?_
      refine ih (l := pre ++ post) (L := L.setIfInBounds i true) ?_ ?_ (hcl.set hi) ?_ (by simp [hLs]) s1 s2 (Env.le_trans hle s3) (fun b hb => by rw [s4 b hb]; exact hρ b hb) (Nat.le_trans hk0 (stepA_dead hO st).1) hr2 hp2
      · simp only [List.length_append, List.length_cons] at hn ⊢; omega
      · exact hpw.sublist (List.Sublist.append (List.Sublist.refl pre) (List.sublist_cons_self i post))
      · intro j
        have hm := hmem j
        by_cases hji : i = j
        · subst hji
          constructor
          · intro h; exact absurd h hni
          · rintro ⟨h1, h2⟩
            simp [Array.getD_eq_getD_getElem?, Array.getElem?_setIfInBounds, hLs, h1] at h2
        · rw [getD_set_ne true hji, ← hm]
          simp only [List.mem_append, List.mem_cons]
          constructor
          · rintro (h | h)
            · exact .inl h
            · exact .inr (.inr h)
          · rintro (h | h | h)
            · exact .inl h
            · exact absurd h.symm hji
            · exact .inr h
end
section
variable {P : Program} {mt : List String} {O : Orc} {nt : Nat} {ds : List Deferred} {ro : Option Nat} {dn : Nat}
theorem region_simIn (hm : P.follows .mixedOrders = true) (hO : OrcOk P mt O) {id : Nat} {ops : Array Oper} {draw : Bool} {σ : Slots} {h : Heap} {ex : Ex} {σ' : Slots} {h' : Heap} (hr : run O (compileC P mt nt (.region id ops draw)) σ h = some (ex, σ', h')) :
    EndsD P nt ds σ h ex σ' h' (fun Q a w => (Code.region id ops draw).wpIn (RF ro) dn P Q a w) := by
  intro B w0 E a w Q hat hQ
  simp only [compileC] at hr
  split at hr
  · rename_i as nk hcomp
    obtain ⟨c1, c2, c3, c4, c5⟩ := compileOps_spec hcomp
    have hc : Comp P mt nt ops as := ⟨by simpa using c1, fun i o ao ho hao => c2 i o ao (by simpa using ho) hao, c5⟩
    have hfree : ∀ l, Free as h.length E (h ++ List.replicate nk .dead) l := by
      intro l i hi ao hao hal
      have hk := c4 ao (List.mem_of_getElem? hao) hal
      refine ⟨?_, ?_⟩
      · rw [List.getElem?_append_right (by omega)]
        simp only [Nat.add_sub_cancel_left, List.getElem?_replicate]
        rw [if_pos (by omega)]
      · cases hx : E.ρ (h.length + ao.key) with
        | none => rfl
        | some x => have := hat.rel.dom _ _ hx; omega
    have hat1 : AtD P B w0 nt ds E a w σ (h ++ List.replicate nk .dead) := ⟨hat.sr, hat.size, hat.defers, hat.rel.reserve nk⟩
    have hlen : h.length ≤ (h ++ List.replicate nk AE.dead).length := by simp
    cases draw with
    | false =>
      simp only [Bool.false_and, Bool.false_eq_true, if_false, run] at hr
      split at hr
      · rename_i s g hs
        simp only [Option.some.injEq, Prod.mk.injEq] at hr
        obtain ⟨rfl, rfl, rfl⟩ := hr
        obtain ⟨fs, hf⟩ := opsRun_F hs
        obtain ⟨e1, e2⟩ := opsRunF_runL (pre := []) hf
        simp only [List.nil_append, List.length_nil] at e2
        rw [← List.range_eq_range', hc.len] at e2
        refine wpIn_region (list_simIn hO.call hc (E0 := E) (fun a' w' E' s1 s2 s3 => hQ a' w' E' s1 ⟨s2, s3⟩) List.nodup_range hat1 (hfree _) E.le_refl (fun _ _ => rfl) hlen e2)
      · cases hr
    | true =>
      simp only [Bool.true_and] at hr
      split at hr
      · simp [run] at hr
      · rename_i hsl
        simp only [Bool.not_eq_true', Bool.not_eq_false] at hsl
        simp only [if_true, run] at hr
        split at hr
        · rename_i s g fs hs
          split at hr
          · rename_i hp
            simp only [Option.some.injEq, Prod.mk.injEq] at hr
            obtain ⟨rfl, rfl, rfl⟩ := hr
            obtain ⟨T, t1, t2⟩ := opsRunF_draw hs hp
            rw [hc.len] at t1
            have hat2 : AtD P B w0 nt ds E a { w with drawn := w.drawn + 1 } σ (h ++ List.replicate nk .dead) := ⟨hat.sr, hat.size, hat.defers, (hat.rel.reserve nk).drew⟩
            refine wpIn_region_any hm (any_simIn hO.call hO.fr hc hsl (E0 := E) (fun a' w' E' s1 s2 s3 => hQ a' w' E' s1 ⟨s2, s3⟩) (by simp) List.pairwise_lt_range ?_ ?_ (by simp) hat2 (hfree _) E.le_refl (fun _ _ => rfl) hlen t1 t2)
            · intro i o hi
              exfalso
              rw [Array.getD_eq_getD_getElem?, Array.getElem?_replicate] at hi
              split at hi <;> cases hi
            · intro i
              rw [List.mem_range, Array.getD_eq_getD_getElem?, Array.getElem?_replicate]
              constructor
              · intro h; exact ⟨h, by rw [if_pos h]; rfl⟩
              · exact fun h => h.1
          · cases hr
        · cases hr
  · simp [run] at hr

theorem code_simIn (hm : P.follows .mixedOrders = true) (hO : OrcOk P mt O) : ∀ (c : Code) (hnl : plainC c = true) {σ : Slots} {h : Heap} {ex : Ex} {σ' : Slots} {h' : Heap}, run O (compileC P mt nt c) σ h = some (ex, σ', h') →
    EndsD P nt ds σ h ex σ' h' (fun Q a w => c.wpIn (RF ro) dn P Q a w) := by
  intro c
  induction c <;> intro hnl σ h ex σ' h' hr
  case skip =>
    intro B w0 E a w Q hat hQ
    simp only [compileC, run, Option.some.injEq, Prod.mk.injEq] at hr
    obtain ⟨rfl, rfl, rfl⟩ := hr
    exact wpIn_skip (hQ a w E hat (Keeps.refl _ _))
  case label l =>
    intro B w0 E a w Q hat hQ
    simp only [compileC, run, Option.some.injEq, Prod.mk.injEq] at hr
    obtain ⟨rfl, rfl, rfl⟩ := hr
    exact wpIn_label (hQ a w E hat (Keeps.refl _ _))
  case exit id =>
    intro B w0 E a w Q hat hQ
    simp only [compileC, run, Option.some.injEq, Prod.mk.injEq] at hr
    obtain ⟨rfl, rfl, rfl⟩ := hr
    exact wpIn_exit (hQ a w E hat (Keeps.refl _ _))
  case goto l =>
    intro B w0 E a w Q hat hQ
    simp only [compileC, run, Option.some.injEq, Prod.mk.injEq] at hr
    obtain ⟨rfl, rfl, rfl⟩ := hr
    exact wpIn_goto (hQ a w E hat (Keeps.refl _ _))
  case ret =>
    intro B w0 E a w Q hat hQ
    simp only [compileC, run, Option.some.injEq, Prod.mk.injEq] at hr
    obtain ⟨rfl, rfl, rfl⟩ := hr
    exact wpIn_ret (hQ a w E hat (Keeps.refl _ _))
  case region id ops draw => exact region_simIn hm hO hr
  case seq x y ihx ihy =>
    intro B w0 E a w Q hat hQ
    simp only [compileC, run] at hr
    split at hr
    · rename_i s g hs
      refine wpIn_seq (ihx (by simp [plainC] at hnl; exact hnl.1) hs B w0 E a w _ hat fun a' w' E' s1 s2 => ?_)
      exact ihy (by simp [plainC] at hnl; exact hnl.2) hr B w0 E' a' w' Q s1 fun a'' w'' E'' t1 t2 => hQ a'' w'' E'' t1 (s2.trans t2 (run_grow hO hs).1)
    · rename_i hne
      refine wpIn_seq (ihx (by simp [plainC] at hnl; exact hnl.1) hr B w0 E a w _ hat fun a' w' E' s1 s2 => ?_)
      have := hQ a' w' E' s1 s2
      cases ex with
      | normal => exact absurd hr (hne _ _)
      | exit id => exact this
      | goto l => exact this
      | ret => exact this
  case cond c x y ihx ihy =>
    intro B w0 E a w Q hat hQ
    simp only [compileC] at hr
    split at hr
    · rename_i z hz
      have hx := cx_sound hz hat.sr
      simp only [run] at hr
      split at hr
      · rename_i hv
        rw [hv] at hx
        exact wpIn_cond_true hx.inv_bool (ihx (by simp [plainC] at hnl; exact hnl.1) hr B w0 E a w Q hat hQ)
      · rename_i hv
        rw [hv] at hx
        exact wpIn_cond_false hx.inv_bool (ihy (by simp [plainC] at hnl; exact hnl.2) hr B w0 E a w Q hat hQ)
      · cases hr
    · simp [run] at hr
  case block id x ih =>
    intro B w0 E a w Q hat hQ
    simp only [compileC, run] at hr
    split at hr
    · rename_i j s g hs
      split at hr
      · rename_i hj
        simp only [Option.some.injEq, Prod.mk.injEq] at hr
        obtain ⟨rfl, rfl, rfl⟩ := hr
        refine wpIn_block (ih (by simpa [plainC] using hnl) hs B w0 E a w _ hat fun a' w' E' s1 s2 => ?_)
        simp only [Ex.toExit, Exit.inBlock, hj, if_true]
        exact hQ a' w' E' s1 s2
      · rename_i hj
        simp only [Option.some.injEq, Prod.mk.injEq] at hr
        obtain ⟨rfl, rfl, rfl⟩ := hr
        refine wpIn_block (ih (by simpa [plainC] using hnl) hs B w0 E a w _ hat fun a' w' E' s1 s2 => ?_)
        simp only [Ex.toExit, Exit.inBlock, hj, if_false]
        exact hQ a' w' E' s1 s2
    · rename_i hne
      refine wpIn_block (ih (by simpa [plainC] using hnl) hr B w0 E a w _ hat fun a' w' E' s1 s2 => ?_)
      have := hQ a' w' E' s1 s2
      cases ex with
      | normal => exact this
      | exit j => exact absurd hr (hne _ _ _)
      | goto l => exact this
      | ret => exact this
  case loop x ih => exact absurd hnl (by simp [plainC])
  case scope x ih => exact absurd hnl (by simp [plainC])
  all_goals (simp [compileC, run] at hr)
end
end Go.Am

/-
  One round of a range over a function.
-/
set_option linter.unusedVariables false
set_option linter.unusedSimpArgs false
namespace Go.Am
open Go

/-- How a body's end is told. -/
def Ex.jump : Ex → Option Code
  | .normal => none
  | .exit id => some (.exit id)
  | .goto l => some (.goto l)
  | .ret => some .ret
def putAll (σ : Slots) : List (Nat × AV) → Slots
  | [] => σ
  | (t, v) :: r => putAll (upd σ t v) r

theorem turn_opq {B : Nat} {w0 : World} {E : Env} {h : Heap} {w : World} (r : Rel B w0 E h w) {b g : Nat} {o : Obj} (o' : Obj) (hb : h[b]? = some (.opq o)) (hρ : E.ρ b = some (g, 0)) (ho : o.isCells = false) : w.heap[g]? = some o ∧ Rel B w0 E (h.set b (.opq o')) (w.putObj g o') := by
  obtain ⟨g', c', h1, h2⟩ := r.live b _ hb (by simp)
  rw [hρ] at h1
  injection h1 with h1; injection h1 with h1 h1'; subst h1; subst h1'
  obtain ⟨hB, hg⟩ := h2
  have hlt : g < w.heap.size := (Array.getElem?_eq_some_iff.1 hg).1
  refine ⟨hg, r.turn b g 0 (.opq o) (.opq o') hb (by simp) (by simp) hρ hB (grownBy_putObj' w g o') (fun o2 v hv => ?_) ⟨hB, World.putObj_heap_same hlt⟩⟩
  obtain ⟨o3, h3, h4⟩ := cells_of_cell (r.prot g o2 v hv)
  rw [hg] at h3
  injection h3 with h3
  subst h3
  rw [ho] at h4
  cases h4

section
variable {P : Program} {mt : List String} {O : Orc} {nt : Nat} {B : Nat} {w0 : World} {dn : Nat}
def recEnd (rec : Loop) (ex : Ex) : Loop := { rec with state := if ex.jump.isNone then .ready else .done, pending := ex.jump }
theorem round_sim (hm : P.follows .mixedOrders = true) (hO : OrcOk P mt O) {L kL : Nat} {rec : Loop} {E : Env} {h h1 h2 : Heap} {W : World} {tm : Array Value} {σx σ1 σ2 : Slots} {ex : Ex}
    (hrel : Rel B w0 E h W) (hk : h[kL]? = some (.opq (.loop rec))) (hρ : E.ρ kL = some (L, 0)) (hst : rec.state = .ready)
    (hs : SR E { tmps := tm, defers := [] } σx) (hsz : nt ≤ tm.size) (pa : plainC rec.assign = true) (pb : plainC rec.body = true)
    (ha : run O (compileC P mt nt rec.assign) σx h = some (.normal, σ1, h1)) (hk1 : h1[kL]? = some (.opq (.loop rec)))
    (hb : run O (compileC P mt nt rec.body) σ1 (h1.set kL (.opq (.loop { rec with state := .busy }))) = some (ex, σ2, h2)) (hk2 : h2[kL]? = some (.opq (.loop { rec with state := .busy }))) :
    RoundIn (RF none) dn P L rec.fn tm rec.assign rec.body W fun e W' => e = .returned (.bool ex.jump.isNone) ∧ ∃ E', Keeps h.length E E' ∧ Rel B w0 E' (h2.set kL (.opq (.loop (recEnd rec ex)))) W' := by
  have hlt : kL < h.length := (List.getElem?_eq_some_iff.1 hk).1
  refine roundIn_of_wpIn trivial ?_
  refine code_simIn (ro := some L) hm hO rec.assign pa ha B w0 E _ W _ ⟨hs, hsz, rfl, hrel⟩ fun a1 W1 E1 s1 k1 => ?_
  have hρ1 : E1.ρ kL = some (L, 0) := by rw [k1.2 kL hlt]; exact hρ
  obtain ⟨hL1, hrel2⟩ := turn_opq s1.rel (.loop { rec with state := .busy }) hk1 hρ1 rfl
  refine ⟨_, run_beginRound hL1 hst, ?_⟩
  refine code_simIn (ro := some L) hm hO rec.body pb hb B w0 E1 a1 _ _ ⟨s1.sr, s1.size, s1.defers, hrel2⟩ fun a2 W2 E2 s2 k2 => ?_
  have hg1 := run_grow hO ha
  have hlt1 : kL < h1.length := by have := hg1.1; omega
  have hρ2 : E2.ρ kL = some (L, 0) := by rw [k2.2 kL (by simpa using hlt1)]; exact hρ1
  obtain ⟨hL2, hrel3⟩ := turn_opq s2.rel (.loop (recEnd rec ex)) hk2 hρ2 rfl
  have hkeep : Keeps h.length E E2 := k1.trans k2 (by simpa using hg1.1)
  have fin : ∀ j, ex.jump = j → ∃ v W', (Instr.endRound L j).run P W2 = .ok v W' ∧ (Ending.returned v = .returned (.bool ex.jump.isNone) ∧ ∃ E', Keeps h.length E E' ∧ Rel B w0 E' (h2.set kL (.opq (.loop (recEnd rec ex)))) W') := by
    intro j hj
    subst hj
    exact ⟨_, _, run_endRound _ hL2, rfl, E2, hkeep, hrel3⟩
  cases ex with
  | normal => exact fin _ rfl
  | exit id => exact fin _ rfl
  | goto l => exact fin _ rfl
  | ret => exact fin _ rfl
/-- What a piece of code does, by what the machine tells of it. -/
theorem wp_sim {kp : List String} {X : CallO} (hm : P.follows .mixedOrders = true) (hX : CallOk P X) (hXf : FrXT (table P mt kp) X) {ro : Option Nat} {ds : List Deferred} {c : Code} (pc : plainC c = true) {Q : Ex → Slots → Heap → Prop} {σ : Slots} {h : Heap}
    (hw : Wp (lim X (table P mt kp)) (compileC P mt nt c) Q σ h) {E : Env} {a : Act} {w : World} (hat : AtD P B w0 nt ds E a w σ h) :
    c.wpIn (RF ro) dn P (fun e a' w' => ∃ ex σ' h' E', e = ex.toExit ∧ Q ex σ' h' ∧ AtD P B w0 nt ds E' a' w' σ' h' ∧ Keeps h.length E E' ∧ Grow h h') a w := by
  obtain ⟨ex, σ', h', hr, hq⟩ := hw
  obtain ⟨k, hk⟩ := run_lim hr
  have hO := iter_ok (mt := mt) (kp := kp) hm hX hXf k
  exact code_simIn hm hO c pc hk B w0 E a w _ hat fun a' w' E' s1 s2 => ⟨ex, σ', h', E', rfl, hq, s1, s2, run_grow hO hk⟩
end
end Go.Am
