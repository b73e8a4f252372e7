/-
  slices.Clone of texts by the library's contract: what is handed back is a list; what is handed in may be a list, or a row that is written.
-/
import Derived.Test.YtjdpneceeinhhaaDoorAc
import Derived.Test.YtjdpneceeinhhaaDoorSh
set_option linter.unusedVariables false
set_option linter.unusedSimpArgs false
namespace Go.Proofs.YtjdpneceeinhhaaDoor
open Go Go.Am Go.RowKit

def strsOf : List AV → Option (List (List UInt8))
  | [] => some []
  | .str s :: l => (strsOf l).map (s :: ·)
  | _ :: _ => none
theorem strsOf_eq : ∀ {xs : List AV} {l : List (List UInt8)}, strsOf xs = some l → xs = l.map AV.str
  | [], l, h => by injection h with h; subst h; rfl
  | x :: xs, l, h => by
    cases x with
    | str s =>
      cases hs : strsOf xs with
      | none => simp [strsOf, hs] at h
      | some l' =>
        simp only [strsOf, hs, Option.map_some, Option.some.injEq] at h
        subst h
        rw [strsOf_eq hs]
        rfl
    | _ => cases h
theorem strsOf_map : ∀ (l : List (List UInt8)), strsOf (l.map AV.str) = some l
  | [] => rfl
  | s :: l => by simp [strsOf, strsOf_map l]
/-- What a row of one cell each holds. -/
def rowOf (h : Heap) : AV → Option (List AV)
  | .list 1 xs _ => some xs
  | .sl 1 b o n _ => match h[b]? with
    | some (.cells cs) => if o + n ≤ cs.length then some ((cs.drop o).take n) else none
    | _ => none
  | .gl 1 b n => match h[b]? with
    | some (.grow 1 cs) => if n ≤ cs.length then some (cs.take n) else none
    | _ => none
  | _ => none
def clPat (h : Heap) : List AV → Option AV
  | [v] => match rowOf h v with
    | some xs => match strsOf xs with
      | some l => if l.length * 16 ≤ 140737488355328 then some (.list 1 (l.map AV.str) .no) else none
      | none => none
    | none => none
  | _ => none
def clX (f : FuncId) : CallO := fun g a h => if g = f then (clPat h a).map fun r => (r, h) else none

theorem rowOf_fr {h : Heap} {k : Nat} (e : AE) (hk : h[k]? = some .dead) {v : AV} {xs : List AV} (hr : rowOf h v = some xs) : rowOf (h.set k e) v = some xs := by
  unfold rowOf at hr
  split at hr
  · exact hr
  · rename_i b o n c
    split at hr
    · rename_i cs hb
      simp only [rowOf]
      rw [get_dead_ne e hk hb (by simp)]
      exact hr
    · cases hr
  · rename_i b n
    split at hr
    · rename_i cs hb
      simp only [rowOf]
      rw [get_dead_ne e hk hb (by simp)]
      exact hr
    · cases hr
  · cases hr
theorem clPat_inv {h : Heap} {a : List AV} {r : AV} (hp : clPat h a = some r) : ∃ (v : AV) (l : List (List UInt8)), a = [v] ∧ rowOf h v = some (l.map AV.str) ∧ l.length * 16 ≤ 140737488355328 ∧ r = .list 1 (l.map AV.str) .no := by
  unfold clPat at hp
  split at hp
  · rename_i v
    cases hx : rowOf h v with
    | none => simp [hx] at hp
    | some xs =>
      cases hl : strsOf xs with
      | none => simp [hx, hl] at hp
      | some l =>
        simp only [hx, hl] at hp
        obtain rfl := strsOf_eq hl
        split at hp
        · rename_i hc
          injection hp with hp
          exact ⟨v, l, rfl, hx, hc, hp.symm⟩
        · cases hp
  · cases hp
theorem clPat_of {h : Heap} {v : AV} {l : List (List UInt8)} (hx : rowOf h v = some (l.map AV.str)) (hl : l.length * 16 ≤ 140737488355328) : clPat h [v] = some (.list 1 (l.map AV.str) .no) := by
  unfold clPat
  simp only [hx, strsOf_map, if_pos hl]
theorem clX_fr {T : FuncId → Option AF} {f : FuncId} (hT : T f = none) : FrXT T (clX f) := by
  intro g a h k e hk
  unfold clX
  by_cases hg : g = f
  · subst hg
    refine ⟨fun _ => .inr hT, fun r h' hx => ?_⟩
    rw [if_pos rfl] at hx ⊢
    simp only [Option.map_eq_some_iff, Prod.mk.injEq] at hx
    obtain ⟨r0, h1, rfl, rfl⟩ := hx
    obtain ⟨v, l, rfl, h2, h3, rfl⟩ := clPat_inv h1
    rw [clPat_of (rowOf_fr e hk h2) h3]
    rfl
  · rw [if_neg hg, if_neg hg]
    exact ⟨fun _ => .inl rfl, fun _ _ h => (by cases h)⟩
theorem orX_frT {T : FuncId → Option AF} {X Y : CallO} (hX : FrX X) (hY : FrXT T Y) : FrXT T (orX X Y) := by
  intro f a h k e hk
  unfold orX
  cases hx : X f a h with
  | some r =>
    obtain ⟨r, h'⟩ := r
    refine ⟨fun hn => (by simp at hn), fun r' h'' hh => ?_⟩
    simp only [Option.some.injEq, Prod.mk.injEq] at hh
    obtain ⟨rfl, rfl⟩ := hh
    rw [(hX f a h k e hk).2 _ _ hx]
  | none =>
    rw [(hX f a h k e hk).1 hx]
    exact hY f a h k e hk

/-- What a row's value is in memory. -/
theorem row_mem {B : Nat} {w0 : World} {E : Env} {h : Heap} {w : World} (hr : Rel B w0 E h w) {u : Value} {v : AV} (hv : Rd E u v) {l : List (List UInt8)} (hx : rowOf h v = some (l.map AV.str)) :
    ∃ A c, u = .slice A l.length c ∧ (0 < l.length → ∃ g o, A = some ⟨g, o, none⟩ ∧ ∀ (j : Nat) x, l[j]? = some x → w.cell? ⟨g, o + j, none⟩ = some (.string ⟨⟨x⟩⟩)) := by
  unfold rowOf at hx
  split at hx
  · injection hx with hx
    subst hx
    cases hv with
    | list A n c sz xs r g o vs k1 k2 k3 k4 k5 k6 k7 =>
      have hn : l.length = n := by simpa using k1
      refine ⟨A, c, by rw [hn], fun hp => ⟨g, o, k3 (by omega), fun j x hj => ?_⟩⟩
      have hlt := (List.getElem?_eq_some_iff.1 hj).1
      have p := hr.prot g (o + (j * 1 + 0)) _ (k5 j 0 (by omega) (by omega))
      rw [(k6 j (.str x) 0 (.str x) (by rw [List.getElem?_map, hj]; rfl) rfl).inv_str] at p
      simpa using p
  · rename_i b o n c
    split at hx
    · rename_i cs hb
      split at hx
      · rename_i hle
        injection hx with hx
        have hn : l.length = n := by
          have := congrArg List.length hx
          simp at this
          omega
        cases hv with
        | sl _ _ _ _ _ g c' hρ hc =>
          obtain ⟨g', c'', h1, h2⟩ := hr.live b _ hb (by simp)
          rw [hρ] at h1
          injection h1 with h1; injection h1 with h1 h1'; subst h1; subst h1'
          refine ⟨_, _, by rw [hn], fun hp => ⟨g, o, rfl, fun j x hj => ?_⟩⟩
          have hlt := (List.getElem?_eq_some_iff.1 hj).1
          have : cs[o + j]? = some (.str x) := by
            have e := congrArg (fun z : List AV => z[j]?) hx
            simp only [List.getElem?_take, List.getElem?_drop, List.getElem?_map, hj] at e
            rw [if_pos (by omega)] at e
            exact e
          obtain ⟨u, p, q⟩ := h2.at _ _ this
          rw [q.inv_str] at p
          exact p
      · cases hx
    · cases hx
  · rename_i b n
    split at hx
    · rename_i cs hb
      split at hx
      · rename_i hle
        injection hx with hx
        have hn : l.length = n := by
          have := congrArg List.length hx
          simp at this
          omega
        cases hv with
        | gl _ _ _ g c' hρ hc =>
          obtain ⟨g', c'', h1, h2⟩ := hr.live b _ hb (by simp)
          rw [hρ] at h1
          injection h1 with h1; injection h1 with h1 h1'; subst h1; subst h1'
          refine ⟨_, _, by rw [hn], fun hp => ⟨g, 0, rfl, fun j x hj => ?_⟩⟩
          have hlt := (List.getElem?_eq_some_iff.1 hj).1
          have : cs[0 + j]? = some (.str x) := by
            have e := congrArg (fun z : List AV => z[j]?) hx
            simp only [List.getElem?_take, List.getElem?_map, hj] at e
            rw [if_pos (by omega)] at e
            rw [Nat.zero_add]
            exact e
          obtain ⟨u, p, q⟩ := h2.atG _ _ this
          rw [q.inv_str] at p
          exact p
      · cases hx
    · cases hx
  · cases hx
/-- A fresh row of the call's own is a list. -/
theorem own_list {B : Nat} {w0 : World} {E : Env} {h : Heap} {w w' : World} (hr : Rel B w0 E h w) (hb : Below w.heap.size w w') {e : TypeId} {v : Value} {l : List (List UInt8)} {n : Nat} (hn : l.length = n) (ho : w'.ownsRow w.heap.size e 1 v n (l.map fun x => Value.string ⟨⟨x⟩⟩)) :
    ∃ E', E.le E' ∧ (∀ b, b < h.length → E'.ρ b = E.ρ b) ∧ Rel B w0 E' h w' ∧ Rd E' v (.list 1 (l.map AV.str) .no) := by
  subst hn
  obtain ⟨_, ⟨rfl, h0⟩ | ⟨g, cap, cur, rfl, hg, hh, hc, _, hs, ht⟩⟩ := ho
  · have : l = [] := List.eq_nil_of_length_eq_zero h0
    subst this
    exact ⟨E, E.le_refl, fun _ _ => rfl, hr.world hb, .list none 0 0 1 [] .no 0 0 (fun _ _ => undef) rfl (Nat.le_refl _) (fun h => absurd h (Nat.lt_irrefl _)) (fun _ h => (by cases h)) (fun i j h => absurd h (Nat.not_lt_zero _)) (fun i x j y h => (by cases h)) trivial⟩
  · have hnC : ∀ o, E.C g o = none := by
      intro o
      cases hC : E.C g o with
      | none => rfl
      | some v => exact absurd (World.block_lt_of_cell? w _ (hr.prot _ _ _ hC)) (by simp; omega)
    have hcur : ∀ (j : Nat) x, l[j]? = some x → cur[j]? = some (.string ⟨⟨x⟩⟩) := by
      intro j x hj
      have e := congrArg (fun z : List Value => z[j]?) ht
      have hlt := (List.getElem?_eq_some_iff.1 hj).1
      simp only [List.getElem?_take, List.getElem?_map, hj] at e
      rw [if_pos (by omega)] at e
      simpa using e
    obtain ⟨hle, hrel⟩ := (hr.world hb).protect (fun g' o => if g' = g then cur[o]? else E.C g' o)
      (fun g' o v hv => by
        split
        · rename_i he; subst he; rw [hnC] at hv; cases hv
        · exact hv)
      (fun g' o v hv => by
        split at hv
        · rename_i he; subst he; simpa [World.cell?, hh] using hv
        · exact (hr.world hb).prot _ _ _ hv)
      (fun b e' he hd g' c' hρ o => by
        rw [if_neg]
        obtain ⟨g1, c1, k1, k2⟩ := hr.live b e' he hd
        rw [hρ] at k1; injection k1 with k1; injection k1 with k1 _; subst k1
        have := (k2.lt hd).1
        omega)
    refine ⟨_, hle, fun _ _ => rfl, hrel, ?_⟩
    have hlen : (l.map AV.str).length = l.length := by simp
    rw [← hlen]
    refine rd_list (cur := fun o => cur[o]?) hle (by simpa using hc) ⟨fun x hx => ?_, fun i x j y hx hy => ?_⟩ (fun o u ho hu => by rw [if_pos rfl]; exact hu) trivial
    · rw [List.mem_map] at hx
      obtain ⟨s, _, rfl⟩ := hx
      exact ⟨rfl, fun y hy => by simp [AV.cells] at hy; subst hy; trivial⟩
    · rw [List.getElem?_map, Option.map_eq_some_iff] at hx
      obtain ⟨s, hs, rfl⟩ := hx
      match j with
      | 0 =>
        simp [AV.cells] at hy
        subst hy
        exact ⟨_, by simpa using hcur i s hs, .str _⟩
      | j + 1 => simp [AV.cells] at hy
theorem clOk : CallOk Tryd.prog (clX 29) := by
  intro g args h r h' hx
  unfold clX at hx
  split at hx
  · rename_i hg
    subst hg
    simp only [Option.map_eq_some_iff, Prod.mk.injEq] at hx
    obtain ⟨r0, h1, rfl, rfl⟩ := hx
    obtain ⟨v, l, rfl, h2, h3, rfl⟩ := clPat_inv h1
    refine ⟨Nat.le_refl _, fun _ h => h, fun B w0 E w vs hr hsz hrd => ?_⟩
    obtain ⟨u, rfl, hu⟩ := args1 (by simpa using hsz) hrd
    obtain ⟨A, c, rfl, hA⟩ := row_mem hr hu h2
    have key : Calls Tryd.prog 29 #[.slice A l.length c] w fun e w' => ∃ v', e = .returned v' ∧ w'.ownsRow w.heap.size 9 1 v' l.length (l.map fun x => Value.string ⟨⟨x⟩⟩) ∧ Below w.heap.size w w' := by
      rcases Nat.eq_zero_or_pos l.length with h0 | hp
      · have : l = [] := List.eq_nil_of_length_eq_zero h0
        subst this
        cases A with
        | none =>
          refine (Tryd.slices_Clone_string_nil 0 c w).mono fun e w' k => ?_
          obtain ⟨rfl, rfl⟩ := k
          exact ⟨_, rfl, ⟨rfl, .inl ⟨rfl, rfl⟩⟩, Below.refl _ _⟩
        | some ad =>
          refine (Tryd.slices_Clone_string_zero ad c w).mono fun e w' k => ?_
          obtain ⟨v', rfl, k1, _, k3⟩ := k
          exact ⟨_, rfl, k1, k3⟩
      · obtain ⟨g, o, rfl, hc⟩ := hA hp
        refine (Tryd.slices_Clone_string g o l.length c (l.map fun x => (⟨⟨x⟩⟩ : ByteArray)) w (by simp) h3 (fun j hj => ?_)).mono fun e w' k => ?_
        · have hj' : j < l.length := by simpa using hj
          rw [hc j l[j] (List.getElem?_eq_getElem hj')]
          simp [List.getD_eq_getElem?_getD, hj']
        · obtain ⟨v', rfl, k1, _, k3⟩ := k
          refine ⟨_, rfl, ?_, k3⟩
          have : (((l.map fun x => (⟨⟨x⟩⟩ : ByteArray)).take l.length).map Value.string) = l.map fun x => Value.string ⟨⟨x⟩⟩ := by
            rw [List.take_of_length_le (by simp), List.map_map]
            rfl
          rw [← this]
          exact k1
    have hcf : ((callFunc 29 #[.slice A l.length c]).run Tryd.prog w) = .ok (.enter 29 #[.slice A l.length c]) w := by
      have hn : ¬ (Tryd.f29.name = "runtime.NumGoroutine") := by
        have : (Tryd.f29.name == "runtime.NumGoroutine") = false := by kernel_rfl
        simpa using this
      have hb : ∃ c, Tryd.f29.body = some c := ⟨_, rfl⟩
      obtain ⟨c', hb⟩ := hb
      simp [callFunc, Tryd.func29, hn, hb]
    unfold Fires
    rw [hcf]
    refine key.mono fun e w' k => ?_
    obtain ⟨v', rfl, k1, k2⟩ := k
    exact own_list hr k2 rfl k1
  · cases hx
theorem clT : T 29 = none := by kernel_rfl
end Go.Proofs.YtjdpneceeinhhaaDoor
