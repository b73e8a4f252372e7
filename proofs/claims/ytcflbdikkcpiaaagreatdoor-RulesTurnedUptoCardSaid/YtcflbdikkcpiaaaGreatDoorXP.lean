/-
  rules: the way through the rules.
-/
import Derived.Test.YtcflbdikkcpiaaaGreatDoorXO
set_option linter.unusedVariables false
set_option linter.unusedSimpArgs false
namespace Go.Proofs.YtcflbdikkcpiaaaGreatDoor
open Go Go.Am
def thr (nx : List (List Nat)) : Nat → Nat → List Bool × List Nat → List Bool × List Nat
 | 0, _, s => s
 | f + 1, i, s => if s.1[i]?.getD true then s else
   (((nx[i]?.getD []).foldl (fun s n => thr nx f n s) (s.1.set i true, s.2)).1, ((nx[i]?.getD []).foldl (fun s n => thr nx f n s) (s.1.set i true, s.2)).2 ++ [i])
theorem thr_sum {nx : List (List Nat)} {N : Nat} (hnx : ∀ (k n : Nat), n ∈ nx[k]?.getD [] → n < N) : ∀ (f i : Nat) (s : List Bool × List Nat), s.1.length = N → i < N → cf s.1 ≤ f →
  (thr nx (f + 1) i s).1.length = N ∧ (thr nx (f + 1) i s).2.length + cf (thr nx (f + 1) i s).1 = s.2.length + cf s.1 ∧ cf (thr nx (f + 1) i s).1 ≤ cf s.1
 | f, i, s, h1, h2, h3 => by
  rw [thr]
  cases hb : s.1[i]?.getD true with
  | true => simp [h1]
  | false =>
   have hf : s.1[i]? = some false := by
    rw [List.getElem?_eq_getElem (by omega)] at hb ⊢
    simp at hb
    rw [hb]
   have hcs := cf_set s.1 i hf
   simp only [Bool.false_eq_true, if_false]
   match f, h3 with
   | 0, h3 => omega
   | f + 1, h3 =>
    have fold : ∀ (ns : List Nat) (s : List Bool × List Nat), (∀ n ∈ ns, n < N) → s.1.length = N → cf s.1 ≤ f →
      (ns.foldl (fun s n => thr nx (f + 1) n s) s).1.length = N ∧ (ns.foldl (fun s n => thr nx (f + 1) n s) s).2.length + cf (ns.foldl (fun s n => thr nx (f + 1) n s) s).1 = s.2.length + cf s.1 ∧ cf (ns.foldl (fun s n => thr nx (f + 1) n s) s).1 ≤ cf s.1 := by
     intro ns
     induction ns with
     | nil => intro s _ h1 _; exact ⟨h1, rfl, Nat.le_refl _⟩
     | cons n ns ih =>
      intro s hn h1 h3
      obtain ⟨a1, a2, a3⟩ := thr_sum hnx f n s h1 (hn n (by simp)) h3
      obtain ⟨b1, b2, b3⟩ := ih (thr nx (f + 1) n s) (fun m hm => hn m (by simp [hm])) a1 (by omega)
      exact ⟨b1, by rw [List.foldl_cons]; omega, by rw [List.foldl_cons]; omega⟩
    obtain ⟨c1, c2, c3⟩ := fold (nx[i]?.getD []) (s.1.set i true, s.2) (hnx i) (by simpa using h1) (by simp only; omega)
    refine ⟨c1, ?_, by simp only at c3 ⊢; omega⟩
    simp only [List.length_append, List.length_cons, List.length_nil] at c2 ⊢
    omega
def BLr (h : Heap) (bl : AV) (rows : List Ru) : Prop := (∃ r, bl = .list 10 (rows.map ruA) r) ∨ ∃ gb, bl = .gl 10 gb rows.length ∧ h[gb]? = some (.grow 10 (rows.flatMap ruL))
structure TH (bl : AV) (m N pw kb : Nat) (H0 : Heap) (been : List Bool) (out : List Nat) (r : Rt) (h : Heap) : Prop where
 take : h.take H0.length = H0
 pwn : H0.length ≤ pw
 kbn : H0.length ≤ kb
 cw : h[pw]? = some (.cells [bl, .map m, .sl 1 kb 0 N N, .list 1 (ints out) r])
 ck : h[kb]? = some (.cells (been.map AV.bool))
 bn : been.length = N
 bnd : out.length + cf been ≤ N
 ow : (out = [] ∧ r = .full) ∨ ∃ t, r = .tok t ∧ H0.length ≤ t ∧ h[t]? = some (.tok 1 out.length 3)
def FR (pw kb : Nat) (h h' : Heap) : Prop := ∀ (j : Nat) (e : AE), j ≠ pw → j ≠ kb → h[j]? = some e → (∀ s n x, e ≠ .tok s n x) → h'[j]? = some e
theorem FR.trans {pw kb : Nat} {a b c : Heap} (h1 : FR pw kb a b) (h2 : FR pw kb b c) : FR pw kb a c := fun j e hp hk he hn => h2 j e hp hk (h1 j e hp hk he hn) hn
theorem FR.app {pw kb : Nat} (a q : Heap) : FR pw kb a (a ++ q) := fun j e _ _ he _ => get_left he q
section
variable {bl : AV} {m N pw kb : Nat} {H0 : Heap} {been : List Bool} {out : List Nat} {r : Rt} {h : Heap}
theorem TH.app (k : TH bl m N pw kb H0 been out r h) (q : List AE) (hl : H0.length ≤ h.length) : TH bl m N pw kb H0 been out r (h ++ q) :=
 ⟨by rw [List.take_append_of_le_length hl]; exact k.take, k.pwn, k.kbn, get_left k.cw q, get_left k.ck q, k.bn, k.bnd, by
  rcases k.ow with e | ⟨t, e1, e2, e3⟩
  ·exact .inl e
  ·exact .inr ⟨t, e1, e2, get_left e3 q⟩⟩
theorem TH.le (k : TH bl m N pw kb H0 been out r h) : H0.length < h.length := Nat.lt_of_le_of_lt k.pwn (lt_of_get k.cw)
end
theorem eachS_thr (nx : List (List Nat)) (nm : List (List UInt8)) (f : Nat) : ∀ (l : List (List UInt8)) (s : List Bool × List Nat), eachS (fun s n => (true, thr nx f (atP nm n) s)) l s = (true, (l.map (atP nm)).foldl (fun s n => thr nx f n s) s)
 | [], s => rfl
 | n :: l, s => by simp [eachS, eachS_thr nx nm f l]
section
variable {bl : AV} {m N pw kb : Nat} {H0 : Heap} {been : List Bool} {out : List Nat} {r : Rt} {h : Heap}
theorem TH.ne (k : TH bl m N pw kb H0 been out r h) : kb ≠ pw := fun e => by
 have h1 := k.ck
 rw [e, k.cw] at h1
 injection h1 with h1
 injection h1 with h1
 have : (been.map AV.bool)[1]? = some (.map m) := by rw [← h1]; rfl
 rw [List.getElem?_map] at this
 cases hb : been[1]? with
 | none => rw [hb] at this; cases this
 | some b => rw [hb] at this; simp at this
theorem TH.mark (k : TH bl m N pw kb H0 been out r h) {i : Nat} (hi : been[i]? = some false) : TH bl m N pw kb H0 (been.set i true) out r (h.set kb (.cells ((been.set i true).map AV.bool))) ∧ FR pw kb h (h.set kb (.cells ((been.set i true).map AV.bool))) := by
 have hne := k.ne
 have hcs := cf_set been i hi
 have hb := k.bnd
 refine ⟨⟨by rw [take_set k.kbn]; exact k.take, k.pwn, k.kbn, by rw [get_set_ne hne]; exact k.cw, get_set_eq (lt_of_get k.ck), by simpa using k.bn, by omega, ?_⟩, fun j e hp hk he _ => by rw [get_set_ne (fun q => hk q.symm)]; exact he⟩
 rcases k.ow with e | ⟨t, e1, e2, e3⟩
 ·exact .inl e
 ·exact .inr ⟨t, e1, e2, by rw [get_set_ne (fun e => by rw [← e, k.ck] at e3; cases e3)]; exact e3⟩
theorem TH.push (k : TH bl m N pw kb H0 been out r h) (i : Nat) (hN : N ≤ 1000000) (hb : out.length + 1 + cf been ≤ N) {f : AV → Heap → Prop}
  (hf : ∀ h', h'[pw]? = some (.cells [bl, .map m, .sl 1 kb 0 N N, .list 1 (ints out) r]) → h'.length = h.length + 1 → (pw ≠ h.length ∧ ∀ t, r = .tok t → pw ≠ t) → (∀ j e, j < h.length → h[j]? = some e → (∀ s n x, e ≠ .tok s n x) → h'[j]? = some e) → TH bl m N pw kb H0 been (out ++ [i]) (.tok h.length) (h'.set pw (.cells [bl, .map m, .sl 1 kb 0 N N, .list 1 (ints (out ++ [i])) (.tok h.length)])) → FR pw kb h (h'.set pw (.cells [bl, .map m, .sl 1 kb 0 N N, .list 1 (ints (out ++ [i])) (.tok h.length)])) → f (.list 1 (ints (out ++ [i])) (.tok h.length)) h') :
  onO (appA (h ++ [.dead]) h.length 1 8 3 (.list 1 (ints out) r) (.list 1 [.int .i64 (i : Nat)] .full)) f := by
 have hgl := k.le
 have hne := k.ne
 have he : ints out ++ [.int .i64 (i : Nat)] = ints (out ++ [i]) := by simp [ints]
 have hl : (ints out).length + [AV.int .i64 (i : Nat)].length = (out ++ [i]).length := by simp
 have hpl := lt_of_get k.cw
 have hbl2 := k.bnd
 rcases k.ow with ⟨rfl, rfl⟩ | ⟨t, rfl, e2, e3⟩
 ·refine onO_appK trivial (by simp) (by simp) (by simp) ?_
  rw [he, hl]
  have hkk : (kill (h ++ [.dead]) .full).set h.length (.tok 1 ([] ++ [i]).length 3) = h ++ [.tok 1 ([] ++ [i]).length 3] := by simp [kill]
  rw [hkk]
  have k2 := k.app [.tok 1 ([] ++ [i]).length 3] (by omega)
  refine hf _ k2.cw (by simp) ⟨by omega, fun t e => by cases e⟩ (fun j e hj he _ => get_left he _) ⟨by rw [take_set k.pwn]; exact k2.take, k.pwn, k.kbn, get_set_eq (by simp; omega), by rw [get_set_ne (fun e => hne e.symm)]; exact k2.ck, k.bn, by simp; simp at hb; omega, .inr ⟨h.length, rfl, by omega, by rw [get_set_ne (by omega)]; simp⟩⟩ (fun j e hp hk he _ => by rw [get_set_ne (fun q => hp q.symm)]; exact get_left he _)
 ·have htl := lt_of_get e3
  refine onO_appK (by show (h ++ [.dead])[t]? = _; rw [ints_len]; exact get_left e3 _) (by simp) (by simp; omega) (by simp; omega) ?_
  rw [he, hl]
  have hkk : (kill (h ++ [.dead]) (.tok t)).set h.length (.tok 1 (out ++ [i]).length 3) = h.set t .dead ++ [.tok 1 (out ++ [i]).length 3] := by
   simp only [kill]
   rw [List.set_append_left _ _ htl, List.set_append_right _ _ (by simp)]
   simp
  rw [hkk]
  have htp : t ≠ pw := fun e => by rw [e, k.cw] at e3; cases e3
  have htk : t ≠ kb := fun e => by rw [e, k.ck] at e3; cases e3
  refine hf _ (get_left (by rw [get_set_ne htp]; exact k.cw) _) (by simp) ⟨by omega, fun t' e => by injection e with e; subst e; exact fun q => htp q.symm⟩ (fun j e hj he hn => get_left (by rw [get_set_ne (fun q => by rw [← q, e3] at he; injection he with he; exact hn _ _ _ he.symm)]; exact he) _)
   ⟨by rw [take_set k.pwn, List.take_append_of_le_length (by simp; omega), take_set e2]; exact k.take, k.pwn, k.kbn, get_set_eq (by simp; omega), by rw [get_set_ne (fun e => hne e.symm)]; exact get_left (by rw [get_set_ne htk]; exact k.ck) _, k.bn, by simp; omega, .inr ⟨h.length, rfl, by omega, by rw [get_set_ne (by omega), List.getElem?_append_right (by simp)]; simp⟩⟩ (fun j e hp hk he hn => by
    rw [get_set_ne (fun q => hp q.symm)]
    exact get_left (by rw [get_set_ne (fun q => by rw [← q, e3] at he; injection he with he; exact hn _ _ _ he.symm)]; exact he) _)
end
section
variable {bl : AV} {m pw kb : Nat} {H0 : Heap} {rows : List Ru} (hl : rows.length ≤ 1000000) (hx : ∀ x ∈ rows, ROk x) (hbl : BLr H0 bl rows) (hm : H0[m]? = some (.amap (keysE (rows.map Ru.name) 0)))
include hl hx hbl hm in
theorem through_ok : ∀ (f i : Nat) (been : List Bool) (out : List Nat) (r : Rt) (h : Heap), i < rows.length → cf been ≤ f → TH bl m rows.length pw kb H0 been out r h →
  ∃ v h' r', M.call 35 [.ptr pw 0, .int .i64 (i : Nat)] h = some (v, h') ∧ TH bl m rows.length pw kb H0 (thr (rows.map (nxR (rows.map Ru.name))) (f + 1) i (been, out)).1 (thr (rows.map (nxR (rows.map Ru.name))) (f + 1) i (been, out)).2 r' h' ∧ FR pw kb h h'
 | f, i, been, out, r, h, hi, hf, k => by
  have hN : 0 < rows.length := by omega
  have hiI : (i : Int) < rows.length := by omega
  have hgl := k.le
  have hbn := k.bn
  have hlt : i < been.length := by omega
  obtain ⟨bv, hbv⟩ : ∃ bv, been[i]? = some bv := ⟨_, List.getElem?_eq_getElem hlt⟩
  obtain ⟨x, hxi⟩ : ∃ x, rows[i]? = some x := ⟨_, List.getElem?_eq_getElem hi⟩
  have hxr := hx x (List.mem_of_getElem? hxi)
  have hcw : ∀ q, (h ++ q)[pw]? = some (.cells [bl, .map m, .sl 1 kb 0 rows.length rows.length, .list 1 (ints out) r]) := fun q => get_left k.cw q
  have hck : ∀ q, (h ++ q)[kb]? = some (.cells (been.map AV.bool)) := fun q => get_left k.ck q
  suffices key : ∃ v h', M.call 35 [.ptr pw 0, .int .i64 (i : Nat)] h = some (v, h') ∧ ∃ r', TH bl m rows.length pw kb H0 (thr (rows.map (nxR (rows.map Ru.name))) (f + 1) i (been, out)).1 (thr (rows.map (nxR (rows.map Ru.name))) (f + 1) i (been, out)).2 r' h' ∧ FR pw kb h h' by
   obtain ⟨v, h', e1, r', e2, e3⟩ := key
   exact ⟨v, h', r', e1, e2, e3⟩
  have hthr := thr.eq_2 (rows.map (nxR (rows.map Ru.name))) i (been, out) f
  simp only [hbv, Option.getD_some] at hthr
  generalize hRes : thr (rows.map (nxR (rows.map Ru.name))) (f + 1) i (been, out) = Res at hthr ⊢
  obtain ⟨R, hR⟩ : ∃ R : AV → Heap → Prop, R = fun v h' => ∃ r', TH bl m rows.length pw kb H0 Res.1 Res.2 r' h' ∧ FR pw kb h h' := ⟨_, rfl⟩
  have fin : ∀ v h' r', TH bl m rows.length pw kb H0 Res.1 Res.2 r' h' → FR pw kb h h' → R v h' := fun v h' r' q1 q2 => by rw [hR]; exact ⟨r', q1, q2⟩
  suffices key : ∃ v h', M.call 35 [.ptr pw 0, .int .i64 (i : Nat)] h = some (v, h') ∧ R v h' by rw [hR] at key; exact key
  clear hR
  refine call_postK tab35 rfl ?_
  cases bv with
  | true =>
   simp only [if_true] at hthr
   subst hthr
   simp [-getElem?_pos, -Int.natCast_add, wB35, hcw, hck, hiI, hi, hbv, hbn]
   exact fin _ _ r (k.app _ (by omega)) (FR.app _ _)
  | false =>
   simp only [Bool.false_eq_true, if_false] at hthr
   have hcs := cf_set been i hbv
   match f, hf with
   | 0, hf => omega
   | f + 1, hf =>
    have ih := through_ok f
    have hkl := lt_of_get k.ck
    have hpl := lt_of_get k.cw
    have hst : (been.map AV.bool).take i ++ .bool true :: (been.map AV.bool).drop (i + 1) = (been.set i true).map AV.bool := by
     rw [set_split _ (by simp; omega), List.map_set]
    have hsetk : ∀ q v, (h ++ q).set kb v = h.set kb v ++ q := fun q v => by rw [List.set_append_left _ _ hkl]
    have hp2 : ∀ v c q, (h.set kb v ++ c :: q)[h.length]? = some c := fun v c q => by rw [List.getElem?_append_right (by simp)]; simp
    have hpw2 : ∀ v q, (h.set kb v ++ q)[pw]? = some (.cells [bl, .map m, .sl 1 kb 0 rows.length rows.length, .list 1 (ints out) r]) := fun v q => get_left (by rw [get_set_ne k.ne]; exact k.cw) q
    obtain ⟨km1, km2⟩ := k.mark hbv
    have k1 := km1.app [.cells [.ptr pw 0]] (by simp; omega)
    have hnxl : ∀ (a n : Nat), n ∈ (rows.map (nxR (rows.map Ru.name)))[a]?.getD [] → n < rows.length := by
     intro a n hn
     rw [List.getElem?_map] at hn
     cases hr : rows[a]? with
     | none => rw [hr] at hn; simp at hn
     | some y =>
      rw [hr] at hn
      simp only [Option.map_some, Option.getD_some] at hn
      obtain ⟨s, _, rfl⟩ := List.mem_map.1 hn
      have := atP_lt (nm := rows.map Ru.name) (by simp; omega) s
      simpa using this
    have hget : (rows.map (nxR (rows.map Ru.name)))[i]?.getD [] = nxR (rows.map Ru.name) x := by simp [hxi]
    rw [hget] at hthr
    have hb0 := k.bnd
    -- each name's way
    obtain ⟨h2, e1, r2, e2, e3, e4, e5⟩ := each_ok (St := List Bool × List Nat) (I := fun s h' => ∃ r', TH bl m rows.length pw kb H0 s.1 s.2 r' h' ∧ FR pw kb (h.set kb (.cells ((been.set i true).map AV.bool)) ++ [.cells [.ptr pw 0]]) h' ∧ s.2.length + cf s.1 + 1 = out.length + cf been ∧ cf s.1 ≤ f) (step := fun s n => (true, thr (rows.map (nxR (rows.map Ru.name))) (f + 1) (atP (rows.map Ru.name) n) s)) (f := 52) (caps := [.ptr h.length 0])
     (fun s h' q ⟨r', a1, a2, a3⟩ => ⟨r', a1.app q (by have := a1.le; omega), a2.trans (FR.app _ _), a3⟩)
     (fun s n h' ⟨r', a1, a2, a3, a4⟩ => by
      have hat := atP_lt (nm := rows.map Ru.name) (by simp; omega) n
      simp only [List.length_map] at hat
      obtain ⟨v, h'', r'', b1, b2, b3⟩ := ih (atP (rows.map Ru.name) n) s.1 s.2 r' h' hat a4 a1
      have hsum := thr_sum hnxl f (atP (rows.map Ru.name) n) s a1.bn hat a4
      refine ⟨h'', ?_, r'', b2, a2.trans b3, by simp only; omega, by simp only; omega⟩
      have hbox : h'[h.length]? = some (.cells [.ptr pw 0]) := a2 _ _ (by omega) (by omega) (hp2 _ _ _) (by simp)
      have hmm : h'[m]? = some (.amap (keysE (rows.map Ru.name) 0)) := of_take a1.take hm
      have hcw1 := a1.cw
      have hfind : mapFind (.str n) (keysE (rows.map Ru.name) 0) 0 = some ((posK n (rows.map Ru.name)).map fun j => (j, .int .i64 (j : Nat))) := by
       rw [find_keys]
       cases posK n (rows.map Ru.name) <;> simp
      have hlk : ∀ H : Heap, lookV (.int .i64 0) false (some ((posK n (rows.map Ru.name)).map fun j => (j, AV.int .i64 (j : Nat)))) H = some (.int .i64 (atP (rows.map Ru.name) n : Nat), H) := by
       intro H
       unfold atP
       cases posK n (rows.map Ru.name) <;> simp
      refine lim_call_of tab52 rfl (callF_wpK ?_)
      simp [-getElem?_pos, -Int.natCast_add, wB52, hbox, hcw1, hmm, hfind, hlk, b1])
     x.tree hxr.T (been.set i true, out) (h.set kb (.cells ((been.set i true).map AV.bool)) ++ [.cells [.ptr pw 0]]) ⟨r, k1, fun j e _ _ he _ => he, by simp only; omega, by simp only; omega⟩
    rw [eachS_thr] at e1 e2 e4 e5
    simp only [List.map_set] at e1
    have hbox : ∀ q, (h2 ++ q)[h.length]? = some (.cells [.ptr pw 0]) := fun q => get_left (e3 _ _ (by omega) (by omega) (hp2 _ _ _) (by simp)) q
    obtain ⟨Z, hZ⟩ : ∃ Z, (nxR (rows.map Ru.name) x).foldl (fun s n => thr (rows.map (nxR (rows.map Ru.name))) (f + 1) n s) (been.set i true, out) = Z := ⟨_, rfl⟩
    have hZ' : ((namT x.tree).map (atP (rows.map Ru.name))).foldl (fun s n => thr (rows.map (nxR (rows.map Ru.name))) (f + 1) n s) (been.set i true, out) = Z := hZ
    simp only [hZ'] at e2 e4 e5
    rw [hZ] at hthr
    have hcw2 : ∀ q, (h2 ++ q)[pw]? = some (.cells [bl, .map m, .sl 1 kb 0 rows.length rows.length, .list 1 (ints Z.2) r2]) := fun q => get_left e2.cw q
    have hi1 : i + 1 ≤ rows.length := hi
    rcases hbl with ⟨rl, rfl⟩ | ⟨gb, rfl, hgb⟩
    ·simp [-getElem?_pos, -Int.natCast_add, wB35, hcw, hck, hiI, hi, hbv, hbn, hxi, ruA_cells, ruL_take, ruL_agg, ruL_tree, hst, hsetk, hp2, hpw2, e1, hbox, hcw2, hi1]
     refine TH.push e2 i hl (by omega) fun h' q1 q2 q3 q4 q5 q6 => ?_
     have q7 : h'[h.length]? = some (.cells [.ptr pw 0]) := q4 _ _ (lt_of_get (hbox []) |> fun z => by simpa using z) (by simpa using hbox []) (by simp)
     simp [-getElem?_pos, -Int.natCast_add, q1, q7]
     have q8 : h2[h.length]? = some (.cells [.ptr pw 0]) := by simpa using hbox []
     have q9 := lt_of_get q8
     have hFR := (km2.trans (FR.app _ _)).trans (e3.trans q6)
     subst hthr
     refine ⟨?_, fin _ _ _ q5 hFR⟩
     rcases e2.ow with ⟨_, rfl⟩ | ⟨t, rfl, _, ht⟩
     ·simp; omega
     ·simp
      exact ⟨by omega, fun e => by rw [← e, q8] at ht; cases ht⟩
    ·obtain ⟨cs, hcs2⟩ : ∃ cs, rows.flatMap ruL = cs := ⟨_, rfl⟩
     rw [hcs2] at hgb
     obtain ⟨c1, c2, c4, c5, c6⟩ := row_facts hxi hcs2
     have c7 : min 7 (cs.length - (i * 10 + 3)) = 7 := by omega
     have hgr : ∀ v q, (h.set kb v ++ q)[gb]? = some (.grow 10 cs) := fun v q => by
      have hgbl := lt_of_get hgb
      exact get_left (by rw [get_set_ne (by have := k.kbn; omega)]; exact of_take k.take hgb) q
     simp [-getElem?_pos, -Int.natCast_add, wB35, hcw, hck, hiI, hi, hbv, hbn, hgr, c5, c6, c7, enc_agg, hst, hsetk, hp2, hpw2, e1, hbox, hcw2, hi1]
     refine TH.push e2 i hl (by omega) fun h' q1 q2 q3 q4 q5 q6 => ?_
     have q7 : h'[h.length]? = some (.cells [.ptr pw 0]) := q4 _ _ (lt_of_get (hbox []) |> fun z => by simpa using z) (by simpa using hbox []) (by simp)
     simp [-getElem?_pos, -Int.natCast_add, q1, q7]
     have q8 : h2[h.length]? = some (.cells [.ptr pw 0]) := by simpa using hbox []
     have q9 := lt_of_get q8
     have hFR := (km2.trans (FR.app _ _)).trans (e3.trans q6)
     subst hthr
     refine ⟨?_, fin _ _ _ q5 hFR⟩
     rcases e2.ow with ⟨_, rfl⟩ | ⟨t, rfl, _, ht⟩
     ·simp; omega
     ·simp
      exact ⟨by omega, fun e => by rw [← e, q8] at ht; cases ht⟩
end
mutual
def copyT : Tr → Tr
 | .mk k s lo hi mn mx f ks => .mk k s lo hi mn mx ks.isEmpty (copyL ks)
def copyL : List Tr → List Tr
 | [] => []
 | t :: l => copyT t :: copyL l
end
theorem copyL_map : ∀ l : List Tr, copyL l = l.map copyT
 | [] => rfl
 | t :: l => by rw [copyL, copyL_map l]; rfl
theorem copyT_eq (t : Tr) : copyT t = .mk t.k t.s t.lo t.hi t.mn t.mx t.kids.isEmpty (t.kids.map copyT) := by
 cases t
 rw [copyT, copyL_map]
 rfl
theorem clean_tree {h : Heap} {base : Nat} {k lo hi : Int} {s : List UInt8} {mn mx : Int} {xs : List AV} {r r' : Rt} (hl : AV.lows base xs) (hr : (r = .full ∧ r' = .full) ∨ ∃ u, r = .tok u ∧ base ≤ u ∧ r' = .no) :
  clean h base (.agg [.int .u8 k, .str s, .int .u8 lo, .int .u8 hi, .int .i64 mn, .int .i64 mx, .list 7 xs r]) = some (.agg [.int .u8 k, .str s, .int .u8 lo, .int .u8 hi, .int .i64 mn, .int .i64 mx, .list 7 xs r']) := by
 rcases hr with ⟨rfl, rfl⟩ | ⟨u, rfl, hu, rfl⟩
 ·simp [clean, clean2, cleans, clean1, AV.low, hl]
 ·have : ¬ u < base := by omega
  simp [clean, clean2, cleans, clean1, AV.low, hl, this]
def InvCp (t : Tr) (h0 : Heap) (k : Nat) (σ : Slots) (h : Heap) : Prop := ∃ i r, i ≤ t.kids.length ∧ k = t.kids.length - i ∧ h.take h0.length = h0 ∧ h0.length + 2 ≤ h.length ∧ h[h0.length]? = some (.cells t.encL) ∧ (∃ z, h[h0.length + 1]? = some (.cells z) ∧ z.length = 7) ∧ σ 1 = .ptr h0.length 0 ∧ σ 2 = .ptr (h0.length + 1) 0 ∧ σ 3 = .list 7 ((t.kids.take i).map fun k => (copyT k).enc) r ∧ σ 7 = .list 7 (t.kids.map Tr.enc) (rtB t.full) ∧ σ 8 = .int .i64 (t.kids.length : Nat) ∧ σ 9 = .int .i64 (i : Nat) ∧
 ((i = 0 ∧ r = .full) ∨ (0 < i ∧ ∃ u, r = .tok u ∧ h0.length + 2 ≤ u ∧ h[u]? = some (.tok 7 i 36)))
theorem copied_okN : ∀ (n : Nat) (t : Tr), t.size ≤ n → TOk t → ∀ h0 : Heap, M.call 36 [t.enc] h0 = some ((copyT t).enc, h0)
 | 0, t, hn, _, _ => by cases t; simp [Tr.size] at hn
 | n + 1, t, hn, hT, h0 => by
  have ih := fun k (hk : k ∈ t.kids) => copied_okN n k (by have := Tr.size_kid hk; omega) (hT.kid hk)
  have hTn := hT.n
  refine call_of tab36 rfl (callF_wp ?_)
  generalize hQ : (fun e σ h => isEnd e ∧ ∃ vs, resVals σ h [ARes.cell 2 (some 7)] = some vs ∧ finish h0 h (oneOf vs) = some ((copyT t).enc, h0)) = Q
  have fin : ∀ (σ : Slots) (h : Heap) (r : Rt), h.take h0.length = h0 → h[h0.length + 1]? = some (.cells [.int .u8 t.k.toNat, .str t.s, .int .u8 t.lo.toNat, .int .u8 t.hi.toNat, .int .i64 t.mn, .int .i64 t.mx, .list 7 (t.kids.map fun k => (copyT k).enc) r]) → ((t.kids = [] ∧ r = .full) ∨ (t.kids ≠ [] ∧ ∃ u, r = .tok u ∧ h0.length ≤ u)) → σ 2 = .ptr (h0.length + 1) 0 → Q .ret σ h := by
   intro σ h r e1 e2 e3 e4
   subst hQ
   have hlow : AV.lows h0.length (t.kids.map fun k => (copyT k).enc) := lows_iff.2 fun y hy => by
    obtain ⟨k, _, rfl⟩ := List.mem_map.1 hy
    exact Tr.enc_low _ _
   have hc := clean_tree (h := h) (base := h0.length) (k := t.k.toNat) (lo := t.lo.toNat) (hi := t.hi.toNat) (s := t.s) (mn := t.mn) (mx := t.mx) (xs := t.kids.map fun k => (copyT k).enc) (r := r) (r' := rtB t.kids.isEmpty) hlow (by
    rcases e3 with ⟨q1, rfl⟩ | ⟨q1, u, rfl, q2⟩
    ·exact .inl ⟨rfl, by rw [q1]; rfl⟩
    ·refine .inr ⟨u, rfl, q2, ?_⟩
     have : t.kids.isEmpty = false := by simpa using q1
     rw [this]
     rfl)
   simp [e4, e2]
   rw [finish_of_take e1, hc, copyT_eq]
   simp only [Option.map_some, Option.some.injEq, Prod.mk.injEq, and_true]
   unfold Tr.enc
   rw [Tr.encL_eq]
   simp [Tr.k, Tr.s, Tr.lo, Tr.hi, Tr.mn, Tr.mx, Tr.kids, Tr.full]
  have L : ∀ (σ : Slots) (g : Heap), InvCp t h0 t.kids.length σ g → Wp M (.loop L36_0) (blkQ 0 (thenQ (Wp M K36_0 Q) Q)) σ g := by
   intro σ g hI
   refine Wp.loop (InvCp t h0) ?_ (n := t.kids.length) hI
   clear hI σ g
   rintro k σ g ⟨i, r, hi, rfl, hg, hgl, g0, ⟨z, g1, hz⟩, s1, s2, s3, s7, s8, s9, how⟩
   by_cases hlt : i < t.kids.length
   ·obtain ⟨x, hxi⟩ : ∃ x, t.kids[i]? = some x := ⟨_, List.getElem?_eq_getElem hlt⟩
    have hltI : (i : Int) < t.kids.length := by omega
    have hadd : IntKind.wrap .i64 ((i : Int) + 1) = ((i + 1 : Nat) : Int) := by rw [wrap64 (by omega) (by omega)]; rfl
    have e1 := ih x (List.mem_of_getElem? hxi)
    simp [-getElem?_pos, -Int.natCast_add, wL36_0, s1, s2, s3, s7, s8, s9, hltI, hlt, hxi, enc_cells, encL_take, enc_agg, e1, hadd]
    have hli : (List.take i (List.map (fun k => (copyT k).enc) t.kids)).length = i := by simp; omega
    have hsn : List.take i (List.map (fun k => (copyT k).enc) t.kids) ++ [(copyT x).enc] = List.take (i + 1) (List.map (fun k => (copyT k).enc) t.kids) := by
     rw [List.take_add_one]
     simp [hxi]
    have take' : ∀ q, (g ++ q).take h0.length = h0 := fun q => by rw [List.take_append_of_le_length (by omega)]; exact hg
    rcases how with ⟨hi0, rfl⟩ | ⟨hip, u, rfl, hu1, hu2⟩
    ·refine onO_appK trivial (by simp) (by rw [hli]; simp; omega) (by rw [hli]; simp; omega) ?_
     rw [hsn, hli]
     simp [-getElem?_pos, -Int.natCast_add, kill, s9, hadd]
     refine ⟨t.kids.length - (i + 1), by omega, i + 1, .tok (g.length + 1), by omega, rfl, take' _, by simp; omega, get_left g0 _, ⟨z, get_left g1 _, hz⟩, by simp [s1], by simp [s2], by simp, by simp [s7], by simp [s8], by simp, .inr ⟨by omega, g.length + 1, rfl, by omega, ?_⟩⟩
     rw [List.getElem?_append_right (by omega)]
     simp
    ·refine onO_appK (by show (g ++ _)[u]? = _; rw [hli]; exact get_left hu2 _) (by simp) (by rw [hli]; simp; omega) (by rw [hli]; simp; omega) ?_
     rw [hsn, hli]
     have hul := lt_of_get hu2
     have hk1 : ∀ q, (g ++ q).set u .dead = g.set u .dead ++ q := fun q => by rw [List.set_append_left _ _ hul]
     simp [-getElem?_pos, -Int.natCast_add, kill, s9, hadd, hk1]
     have hu0 : h0.length ≠ u := by omega
     have hu3 : h0.length + 1 ≠ u := by omega
     refine ⟨t.kids.length - (i + 1), by omega, i + 1, .tok (g.length + 1), by omega, rfl, ?_, by simp; omega, get_left (by rw [get_set_ne (Ne.symm hu0)]; exact g0) _, ⟨z, get_left (by rw [get_set_ne (Ne.symm hu3)]; exact g1) _, hz⟩, by simp [s1], by simp [s2], by simp, by simp [s7], by simp [s8], by simp, .inr ⟨by omega, g.length + 1, rfl, by omega, ?_⟩⟩
     ·rw [List.take_append_of_le_length (by simp; omega), take_set (by omega)]; exact hg
     ·rw [List.getElem?_append_right (by simp)]
      simp
   ·obtain rfl : i = t.kids.length := by omega
    simp [-getElem?_pos, -Int.natCast_add, wL36_0, wK36_0, s1, s2, s3, s7, s8, s9, g0, g1, hz]
    have hs0 : ∀ v, (g.set h0.length v)[h0.length]? = some v := fun v => get_set_eq (by omega)
    have hs1 : ∀ v, (g.set h0.length v)[h0.length + 1]? = some (.cells z) := fun v => by rw [get_set_ne (by omega)]; exact g1
    simp [-getElem?_pos, -Int.natCast_add, hs0, hs1, hz, Tr.encL_eq, s2]
    have hd : z.drop 7 = [] := List.drop_eq_nil_of_le (by omega)
    rw [hd]
    refine fin _ _ r ?_ (get_set_eq (by simp; omega)) ?_ (by simp [s2])
    ·rw [take_set (by omega), take_set (Nat.le_refl _)]; exact hg
    ·rcases how with ⟨h1, h2⟩ | ⟨h1, u, h2, h3, _⟩
     ·exact .inl ⟨List.eq_nil_of_length_eq_zero h1, h2⟩
     ·exact .inr ⟨fun e => by rw [e] at h1; simp at h1, u, h2, by omega⟩
  simp [-getElem?_pos, -Int.natCast_add, wB36, enc_cells, encL_take, encL6]
  refine L _ _ ⟨0, .full, Nat.zero_le _, rfl, by simp, by simp, by simp, ⟨_, by simp; rfl, by simp⟩, by simp, by simp, by simp, by simp, by simp, by simp, .inl ⟨rfl, rfl⟩⟩
theorem copied_ok (t : Tr) (hT : TOk t) (h0 : Heap) : M.call 36 [t.enc] h0 = some ((copyT t).enc, h0) := copied_okN t.size t (Nat.le_refl _) hT h0
def copyR (x : Ru) : Ru := { x with tree := copyT x.tree }
def getR (rows : List Ru) (i : Nat) : Ru := rows[i]?.getD ⟨[], 0, false, zeroT⟩
def nxG (rows : List Ru) : List (List Nat) := rows.map (nxR (rows.map Ru.name))
def ordS (rows : List Ru) (k : Nat) : List Bool × List Nat := (List.range k).foldl (fun s i => thr (nxG rows) (rows.length + 1) i s) (List.replicate rows.length false, [])
def gathR (rows : List Ru) : List Ru × List UInt8 × Int :=
 match lackP (rows.map Ru.name) rows with
 | some s => ([], s, 32)
 | none => match loopP (nxG rows) rows.length rows 0 with
  | some s => ([], s, 33)
  | none => ((ordS rows rows.length).2.map fun i => copyR (getR rows i), [], 0)
def gatherP (l : List Ru) : List Ru × List UInt8 × Int :=
 if l.all gvP then
  match gathS l [] with
  | .bad n e => ([], n, e)
  | .ok gs => match deepG gs with
   | some n => ([], n, 21)
   | none => gathR (gs.map rowG)
 else ([], [], 2)
theorem gathS_err : ∀ {l : List Ru} {gs : Gs} {n : List UInt8} {e : Int}, gathS l gs = .bad n e → e = 30 ∨ e = 31
 | [], gs, n, e, h => by cases h
 | x :: l, gs, n, e, h => by
  simp only [gathS] at h
  unfold gstep at h
  cases hp : posK x.name (nmG gs) with
  | none =>
   rw [hp] at h
   simp only at h
   cases hm : x.more with
   | true => rw [hm] at h; simp at h; omega
   | false => rw [hm] at h; simp at h; exact gathS_err h
  | some j =>
   rw [hp] at h
   simp only at h
   cases hm : x.more with
   | true => rw [hm] at h; simp at h; exact gathS_err h
   | false => rw [hm] at h; simp at h; omega
theorem thr_lt {nx : List (List Nat)} {N : Nat} (hnx : ∀ (k n : Nat), n ∈ nx[k]?.getD [] → n < N) : ∀ (f i : Nat) (s : List Bool × List Nat), i < N → (∀ j ∈ s.2, j < N) → ∀ j ∈ (thr nx f i s).2, j < N
 | 0, i, s, _, h => h
 | f + 1, i, s, hi, h => by
  rw [thr]
  cases hb : s.1[i]?.getD true with
  | true => simpa using h
  | false =>
   simp only [Bool.false_eq_true, if_false]
   have fold : ∀ (ns : List Nat) (s : List Bool × List Nat), (∀ n ∈ ns, n < N) → (∀ j ∈ s.2, j < N) → ∀ j ∈ (ns.foldl (fun s n => thr nx f n s) s).2, j < N := by
    intro ns
    induction ns with
    | nil => intro s _ h; exact h
    | cons n ns ih =>
     intro s hn h
     rw [List.foldl_cons]
     exact ih _ (fun m hm => hn m (by simp [hm])) (thr_lt hnx f n s (hn n (by simp)) h)
   intro j hj
   rcases List.mem_append.1 hj with hj | hj
   ·exact fold _ (s.1.set i true, s.2) (hnx i) h j hj
   ·simp at hj; omega
theorem nxG_lt (rows : List Ru) (k n : Nat) (hn : n ∈ (nxG rows)[k]?.getD []) : n < rows.length := by
 unfold nxG at hn
 rw [List.getElem?_map] at hn
 cases hr : rows[k]? with
 | none => rw [hr] at hn; simp at hn
 | some y =>
  rw [hr] at hn
  simp only [Option.map_some, Option.getD_some] at hn
  obtain ⟨s, _, rfl⟩ := List.mem_map.1 hn
  have hk := (List.getElem?_eq_some_iff.1 hr).1
  have := atP_lt (nm := rows.map Ru.name) (by simp; omega) s
  simpa using this
theorem ordS_succ (rows : List Ru) (k : Nat) : ordS rows (k + 1) = thr (nxG rows) (rows.length + 1) k (ordS rows k) := by
 unfold ordS
 rw [List.range_succ, List.foldl_append]
 rfl
theorem ordS_facts (rows : List Ru) : ∀ k, k ≤ rows.length → (ordS rows k).1.length = rows.length ∧ (ordS rows k).2.length + cf (ordS rows k).1 = rows.length ∧ ∀ j ∈ (ordS rows k).2, j < rows.length
 | 0, _ => ⟨by simp [ordS], by simp [ordS, cf_rep], by simp [ordS]⟩
 | k + 1, hk => by
  obtain ⟨h1, h2, h3⟩ := ordS_facts rows k (by omega)
  rw [ordS_succ]
  obtain ⟨a1, a2, a3⟩ := thr_sum (nxG_lt rows) rows.length k (ordS rows k) h1 (by omega) (by omega)
  exact ⟨a1, by omega, thr_lt (nxG_lt rows) _ _ _ (by omega) h3⟩
theorem nmG_rows (gs : Gs) : (gs.map rowG).map Ru.name = nmG gs := by simp [nmG, rowG]
theorem loops_nil (m : Nat) (h0 : Heap) : M.call 34 [.agg [.list 10 [] .full, .map m]] h0 = some (.tup [.str [], .bool false], h0) := by
 refine call_of tab34 rfl (callF_wp ?_)
 simp [-getElem?_pos, -Int.natCast_add, wB34, Nat.add_assoc]
 refine Wp.loop (fun k σ h => k = 0 ∧ h.take h0.length = h0 ∧ h[h0.length]? = some (.cells [.list 10 [] .full, .map m]) ∧ σ 1 = .ptr h0.length 0 ∧ σ 20 = .int .i64 0 ∧ σ 21 = .int .i64 0) ?_ (n := 0) ⟨rfl, by simp, by simp, by simp, by simp, by simp⟩
 rintro k σ h ⟨rfl, h1, h2, s1, s20, s21⟩
 simp [-getElem?_pos, -Int.natCast_add, wL34_0, wK34_3, s1, s20, s21, h2]
 refine Wp.loop (fun k σ' h' => k = 0 ∧ h' = h ∧ σ' 33 = .int .i64 0 ∧ σ' 34 = .int .i64 0) ?_ (n := 0) ⟨rfl, rfl, by simp, by simp⟩
 rintro k σ' h' ⟨rfl, rfl, s33, s34⟩
 simp [-getElem?_pos, -Int.natCast_add, wL34_3, wK34_2, s33, s34]
 rw [finish_of_take h1]
 simp
def InvGa (l : List Ru) (r : Rt) (h0 : Heap) (R : Bool) (k : Nat) (σ : Slots) (h : Heap) : Prop := ∃ i, i ≤ l.length ∧ k = l.length - i ∧ (l.drop i).all gvP = R ∧ h.take h0.length = h0 ∧ h[h0.length]? = some (.cells [.list 10 [] .full]) ∧ σ 0 = .list 10 (l.map ruA) r ∧ σ 2 = .ptr h0.length 0 ∧ σ 20 = .list 10 (l.map ruA) r ∧ σ 21 = .int .i64 (l.length : Nat) ∧ σ 22 = .int .i64 (i : Nat)
theorem ga1 (l : List Ru) (r : Rt) (hl : l.length ≤ 1000000) (hx : ∀ x ∈ l, ROk x) (h0 : Heap) (Q : Ex → Slots → Heap → Prop)
  (hbad : l.all gvP = false → ∀ σ h, h.take h0.length = h0 → h[h0.length]? = some (.cells [.list 10 [] .full]) → σ 2 = .ptr h0.length 0 → σ 3 = .str [] → σ 4 = .int .i64 2 → Q .ret σ h)
  (hK : l.all gvP = true → ∀ σ h, h.take h0.length = h0 → h[h0.length]? = some (.cells [.list 10 [] .full]) → σ 0 = .list 10 (l.map ruA) r → σ 2 = .ptr h0.length 0 → Wp M K11_2 Q σ h) :
  ∀ (σ : Slots) (g : Heap), InvGa l r h0 (l.all gvP) l.length σ g → Wp M (.loop L11_0) (blkQ 0 (thenQ (Wp M K11_2 Q) Q)) σ g := by
 intro σ g hI
 refine Wp.loop (InvGa l r h0 (l.all gvP)) ?_ (n := l.length) hI
 clear hI σ g
 rintro k σ g ⟨i, hi, rfl, hr, hg, g0, s0, s2, s20, s21, s22⟩
 have hgl := lt_of_get g0
 by_cases hlt : i < l.length
 ·obtain ⟨x, hxi⟩ : ∃ x, l[i]? = some x := ⟨_, List.getElem?_eq_getElem hlt⟩
  have hd : l.drop i = x :: l.drop (i + 1) := by
   rw [List.drop_eq_getElem_cons hlt]
   congr 1
   rw [List.getElem?_eq_getElem hlt] at hxi
   exact Option.some.inj hxi
  have hltI : (i : Int) < l.length := by omega
  have hadd : IntKind.wrap .i64 ((i : Int) + 1) = ((i + 1 : Nat) : Int) := by rw [wrap64 (by omega) (by omega)]; rfl
  have gv := given_ok x (hx x (List.mem_of_getElem? hxi))
  have g0' : ∀ q, (g ++ q)[h0.length]? = some (.cells [.list 10 [] .full]) := fun q => get_left g0 q
  have take' : ∀ q, (g ++ q).take h0.length = h0 := fun q => by rw [List.take_append_of_le_length (by omega)]; exact hg
  rw [hd, List.all_cons] at hr
  cases b1 : gvP x with
  | true =>
   rw [b1] at gv hr
   simp only [Bool.true_and] at hr
   simp [-getElem?_pos, -Int.natCast_add, wL11_0, s0, s2, s20, s21, s22, hltI, hlt, hxi, ruA_cells, ruL_take, ruL_agg, gv, hadd]
   exact ⟨l.length - (i + 1), by omega, i + 1, by omega, rfl, hr, take' _, g0' _, by simp [s0], by simp [s2], by simp [s20], by simp [s21], by simp⟩
  | false =>
   rw [b1] at gv hr
   simp only [Bool.false_and] at hr
   simp [-getElem?_pos, -Int.natCast_add, wL11_0, s0, s2, s20, s21, s22, hltI, hlt, hxi, ruA_cells, ruL_take, ruL_agg, gv, g0']
   refine hbad hr.symm _ _ ?_ (get_set_eq (by simp; omega)) (by simp [s2]) (by simp) (by simp)
   rw [take_set (Nat.le_refl _)]; exact take' _
 ·obtain rfl : i = l.length := by omega
  simp only [List.drop_length, List.all_nil] at hr
  simp [-getElem?_pos, -Int.natCast_add, wL11_0, s20, s21, s22]
  exact hK hr.symm _ _ hg g0 (by simp [s0]) (by simp [s2])
def outR (rows : List Ru) (ord : List Nat) : List Ru := ord.map fun i => copyR (getR rows i)
def InvGo (gb m : Nat) (rows : List Ru) (ord : List Nat) (ro : Rt) (p2 p7 p16 : Nat) (H : Heap) (k : Nat) (σ : Slots) (h : Heap) : Prop := ∃ j r, j ≤ ord.length ∧ k = ord.length - j ∧ h.take H.length = H ∧ H.length ≤ p16 ∧ h[p16]? = some (.cells [.list 10 ((outR rows (ord.take j)).map ruA) r]) ∧ σ 2 = .ptr p2 0 ∧ σ 7 = .ptr p7 0 ∧ σ 16 = .ptr p16 0 ∧ σ 78 = .list 1 (ints ord) ro ∧ σ 79 = .int .i64 (ord.length : Nat) ∧ σ 80 = .int .i64 (j : Nat) ∧
 ((j = 0 ∧ r = .full) ∨ (0 < j ∧ ∃ u, r = .tok u ∧ H.length ≤ u ∧ h[u]? = some (.tok 10 j 38)))
theorem ga3 (gb m : Nat) (rows : List Ru) (ord : List Nat) (ro : Rt) (p2 p7 p16 : Nat) (H : Heap) (hl : ord.length ≤ 1000000) (hor : ∀ i ∈ ord, i < rows.length) (hx : ∀ x ∈ rows, ROk x) (h7 : H[p7]? = some (.cells [.gl 10 gb rows.length, .map m])) (hgb : H[gb]? = some (.grow 10 (rows.flatMap ruL))) (h2 : ∃ v, H[p2]? = some (.cells [v])) (Q : Ex → Slots → Heap → Prop)
  (hQ : ∀ (σ : Slots) (h h' : Heap) (r : Rt), h.take H.length = H → ((ord = [] ∧ r = .full) ∨ (ord ≠ [] ∧ ∃ u, r = .tok u ∧ H.length ≤ u)) → h' = h.set p2 (.cells [.list 10 ((outR rows ord).map ruA) r]) → σ 2 = .ptr p2 0 → σ 3 = .str [] → σ 4 = .int .i64 0 → Q .ret σ h') :
  ∀ (σ : Slots) (g : Heap), InvGo gb m rows ord ro p2 p7 p16 H ord.length σ g → Wp M (.loop L11_2) (blkQ 4 (thenQ (Wp M K11_0 Q) Q)) σ g := by
 intro σ g hI
 refine Wp.loop (InvGo gb m rows ord ro p2 p7 p16 H) ?_ (n := ord.length) hI
 clear hI σ g
 rintro k σ g ⟨j, r, hj, rfl, hg, hp16, g16, s2, s7, s16, s78, s79, s80, how⟩
 have hl16 := lt_of_get g16
 by_cases hlt : j < ord.length
 ·obtain ⟨i, hij⟩ : ∃ i, ord[j]? = some i := ⟨_, List.getElem?_eq_getElem hlt⟩
  have hi := hor i (List.mem_of_getElem? hij)
  obtain ⟨x, hxi⟩ : ∃ x, rows[i]? = some x := ⟨_, List.getElem?_eq_getElem hi⟩
  have hxr := hx x (List.mem_of_getElem? hxi)
  have hltI : (j : Int) < ord.length := by omega
  have hiI : (i : Int) < rows.length := by omega
  have hadd : IntKind.wrap .i64 ((j : Int) + 1) = ((j + 1 : Nat) : Int) := by rw [wrap64 (by omega) (by omega)]; rfl
  have hin : (ints ord)[j]? = some (.int .i64 (i : Nat)) := by simp [ints, hij]
  obtain ⟨cs, hcs⟩ : ∃ cs, rows.flatMap ruL = cs := ⟨_, rfl⟩
  rw [hcs] at hgb
  obtain ⟨c1, c2, c4, c5, c6⟩ := row_facts hxi hcs
  have c3 : min 10 (cs.length - i * 10) = 10 := by omega
  have take' : ∀ q, (g ++ q).take H.length = H := fun q => by rw [List.take_append_of_le_length (by omega)]; exact hg
  have hgr0 : g[gb]? = some (.grow 10 cs) := of_take hg hgb
  have h70 : g[p7]? = some (.cells [.gl 10 gb rows.length, .map m]) := of_take hg h7
  have hgr : ∀ q, (g ++ q)[gb]? = some (.grow 10 cs) := fun q => get_left hgr0 q
  have h7' : ∀ q, (g ++ q)[p7]? = some (.cells [.gl 10 gb rows.length, .map m]) := fun q => get_left h70 q
  have h16 : ∀ q, (g ++ q)[p16]? = some (.cells [.list 10 ((outR rows (ord.take j)).map ruA) r]) := fun q => get_left g16 q
  have cp := copied_ok x.tree hxr.T
  have hst : List.take 3 (ruL x) ++ ((copyT x.tree).encL ++ List.drop 10 (ruL x)) = ruL (copyR x) := by rw [ruL_drop, List.append_nil]; rfl
  simp [-getElem?_pos, -Int.natCast_add, wL11_2, s2, s7, s16, s78, s79, s80, hltI, hlt, hin, hiI, hi, h70, h7', hgr0, hgr, c1, c2, c3, c4, ruA_cells, ruL_take, ruL_agg, ruL_tree, enc_cells, cp, h16, hadd, hst]
  have hli : ((outR rows (ord.take j)).map ruA).length = j := by simp [outR]; omega
  have hsn : (outR rows (ord.take j)).map ruA ++ [ruA (copyR x)] = (outR rows (ord.take (j + 1))).map ruA := by
   rw [List.take_add_one, hij]
   simp [outR, getR, hxi]
  rcases how with ⟨hj0, rfl⟩ | ⟨hjp, u, rfl, hu1, hu2⟩
  ·refine onO_appK trivial (by simp) (by rw [hli]; simp; omega) (by rw [hli]; simp; omega) ?_
   rw [hsn, hli]
   simp [-getElem?_pos, -Int.natCast_add, kill, s80, s16, hadd, h16]
   refine ⟨ord.length - (j + 1), by omega, j + 1, .tok (g.length + 1), by omega, rfl, ?_, hp16, get_set_eq (by simp; omega), by simp [s2], by simp [s7], by simp [s16], by simp [s78], by simp [s79], by simp, .inr ⟨by omega, g.length + 1, rfl, by have := congrArg List.length hg; simp at this; omega, ?_⟩⟩
   ·rw [take_set (by omega)]; exact take' _
   ·rw [get_set_ne (by omega), List.getElem?_append_right (by omega)]
    simp
  ·refine onO_appK (by show (g ++ _)[u]? = _; rw [hli]; exact get_left hu2 _) (by simp) (by rw [hli]; simp; omega) (by rw [hli]; simp; omega) ?_
   rw [hsn, hli]
   have hul := lt_of_get hu2
   have hk1 : ∀ q, (g ++ q).set u .dead = g.set u .dead ++ q := fun q => by rw [List.set_append_left _ _ hul]
   have h1u : u ≠ p16 := fun e => by rw [e, g16] at hu2; cases hu2
   have hk16 : ∀ q, (g.set u .dead ++ q)[p16]? = some (.cells [.list 10 ((outR rows (ord.take j)).map ruA) (.tok u)]) := fun q => get_left (by rw [get_set_ne h1u]; exact g16) q
   simp [-getElem?_pos, -Int.natCast_add, kill, s80, s16, hadd, hk1, hk16]
   have hul0 := hu1
   refine ⟨ord.length - (j + 1), by omega, j + 1, .tok (g.length + 1), by omega, rfl, ?_, hp16, get_set_eq (by simp; omega), by simp [s2], by simp [s7], by simp [s16], by simp [s78], by simp [s79], by simp, .inr ⟨by omega, g.length + 1, rfl, by have := congrArg List.length hg; simp at this; omega, ?_⟩⟩
   ·rw [take_set (by omega), List.take_append_of_le_length (by simp; omega), take_set (by omega)]; exact hg
   ·rw [get_set_ne (by omega), List.getElem?_append_right (by simp)]
    simp
 ·obtain rfl : j = ord.length := by omega
  obtain ⟨v, h2v⟩ := h2
  have h20 : g[p2]? = some (.cells [v]) := of_take hg h2v
  simp only [List.take_length] at g16
  simp [-getElem?_pos, -Int.natCast_add, wL11_2, wK11_0, s2, s7, s16, s78, s79, s80, g16, h20]
  refine hQ _ g _ r hg ?_ rfl (by simp [s2]) (by simp) (by simp)
  rcases how with ⟨h1, h2⟩ | ⟨h1, u, h2, h3, _⟩
  ·exact .inl ⟨List.eq_nil_of_length_eq_zero h1, h2⟩
  ·exact .inr ⟨fun e => by rw [e] at h1; simp at h1, u, h2, h3⟩
def InvGt (gb m : Nat) (rows : List Ru) (p2 p7 pw kb : Nat) (H : Heap) (k : Nat) (σ : Slots) (h : Heap) : Prop := ∃ i r, i ≤ rows.length ∧ k = rows.length - i ∧ TH (.gl 10 gb rows.length) m rows.length pw kb H (ordS rows i).1 (ordS rows i).2 r h ∧ σ 2 = .ptr p2 0 ∧ σ 7 = .ptr p7 0 ∧ σ 14 = .ptr pw 0 ∧ σ 67 = .int .i64 (rows.length : Nat) ∧ σ 68 = .int .i64 (i : Nat)
theorem ga2 (gb m : Nat) (rows : List Ru) (p2 p7 pw kb : Nat) (H : Heap) (hl : rows.length ≤ 1000000) (hx : ∀ x ∈ rows, ROk x) (h7 : H[p7]? = some (.cells [.gl 10 gb rows.length, .map m])) (hgb : H[gb]? = some (.grow 10 (rows.flatMap ruL))) (hm : H[m]? = some (.amap (keysE (rows.map Ru.name) 0))) (h2 : ∃ v, H[p2]? = some (.cells [v])) (Q : Ex → Slots → Heap → Prop)
  (hQ : ∀ (σ : Slots) (h h' : Heap) (r : Rt), h.take H.length = H → (((ordS rows rows.length).2 = [] ∧ r = .full) ∨ ((ordS rows rows.length).2 ≠ [] ∧ ∃ u, r = .tok u ∧ H.length ≤ u)) → h' = h.set p2 (.cells [.list 10 ((outR rows (ordS rows rows.length).2).map ruA) r]) → σ 2 = .ptr p2 0 → σ 3 = .str [] → σ 4 = .int .i64 0 → Q .ret σ h') :
  ∀ (σ : Slots) (g : Heap), InvGt gb m rows p2 p7 pw kb H rows.length σ g → Wp M (.loop L11_1) (blkQ 2 (thenQ (Wp M K11_1 Q) Q)) σ g := by
 intro σ g hI
 refine Wp.loop (InvGt gb m rows p2 p7 pw kb H) ?_ (n := rows.length) hI
 clear hI σ g
 rintro k σ g ⟨i, r, hi, rfl, hG, s2, s7, s14, s67, s68⟩
 by_cases hlt : i < rows.length
 ·have hltI : (i : Int) < rows.length := by omega
  have hadd : IntKind.wrap .i64 ((i : Int) + 1) = ((i + 1 : Nat) : Int) := by rw [wrap64 (by omega) (by omega)]; rfl
  obtain ⟨f1, f2, f3⟩ := ordS_facts rows i (by omega)
  obtain ⟨v, h', r', e1, e2, e3⟩ := through_ok hl hx (.inr ⟨gb, rfl, hgb⟩) hm rows.length i (ordS rows i).1 (ordS rows i).2 r g hlt (by omega) hG
  have hs : thr (rows.map (nxR (rows.map Ru.name))) (rows.length + 1) i ((ordS rows i).1, (ordS rows i).2) = ordS rows (i + 1) := (ordS_succ rows i).symm
  rw [hs] at e2
  simp [-getElem?_pos, -Int.natCast_add, wL11_1, s2, s7, s14, s67, s68, hltI, hlt, e1, hadd]
  exact ⟨rows.length - (i + 1), by omega, i + 1, r', by omega, rfl, e2, by simp [s2], by simp [s7], by simp [s14], by simp [s67], by simp⟩
 ·obtain rfl : i = rows.length := by omega
  obtain ⟨f1, f2, f3⟩ := ordS_facts rows rows.length (Nat.le_refl _)
  have hcw : ∀ q, (g ++ q)[pw]? = some (.cells [.gl 10 gb rows.length, .map m, .sl 1 kb 0 rows.length rows.length, .list 1 (ints (ordS rows rows.length).2) r]) := fun q => get_left hG.cw q
  have hle := hG.le
  simp [-getElem?_pos, -Int.natCast_add, wL11_1, wK11_1, s2, s7, s14, s67, s68, hcw]
  refine ga3 gb m rows (ordS rows rows.length).2 r p2 p7 g.length H (by omega) f3 hx h7 hgb h2 Q hQ _ _ ⟨0, .full, Nat.zero_le _, rfl, ?_, by omega, by simp [outR], by simp [s2], by simp [s7], by simp, by simp, by simp, by simp, .inl ⟨rfl, rfl⟩⟩
  rw [List.take_append_of_le_length (by omega)]
  exact hG.take
def wtG : Gs → Nat
 | [] => 0
 | p :: gs => wts p.2 + wtG gs
theorem wtG_mem {p : Ru × List Tr} : ∀ {gs : Gs}, p ∈ gs → wts p.2 ≤ wtG gs
 | q :: gs, h => by
  simp only [wtG]
  rcases List.mem_cons.1 h with rfl | h
  ·omega
  ·have := wtG_mem h; omega
theorem wtG_app (p : Ru × List Tr) : ∀ gs : Gs, wtG (gs ++ [p]) = wtG gs + wts p.2
 | [] => by simp [wtG]
 | q :: gs => by simp only [List.cons_append, wtG, wtG_app p gs]; omega
theorem wts_snoc : ∀ (l : List Tr) (t : Tr), wts (l ++ [t]) = wts l + t.wt
 | [], t => by simp [wts]
 | x :: l, t => by
  have := wts_snoc l t
  simp only [List.cons_append, wts]
  omega
theorem wtG_set (p q : Ru × List Tr) : ∀ (gs : Gs) (j : Nat), gs[j]? = some p → wtG (gs.set j q) + wts p.2 = wtG gs + wts q.2
 | [], j, h => by simp at h
 | x :: gs, 0, h => by simp at h; subst h; simp only [List.set_cons_zero, wtG]; omega
 | x :: gs, j + 1, h => by
  have := wtG_set p q gs j (by simpa using h)
  simp only [List.set_cons_succ, wtG]
  omega
theorem wtG_add (gs : Gs) (j : Nat) (t : Tr) : wtG (addG gs j t) ≤ wtG gs + t.wt := by
 unfold addG
 cases h : gs[j]? with
 | none => simp only; omega
 | some p =>
  simp only
  have := wtG_set p (p.1, p.2 ++ [t]) gs j h
  rw [wts_snoc] at this
  omega
theorem gathS_all {P : Ru → Prop} : ∀ {l : List Ru} {gs gs' : Gs}, gathS l gs = .ok gs' → (∀ x ∈ l, P x) → (∀ p ∈ gs, P p.1) → (∀ p ∈ gs', P p.1) ∧ wtG gs' ≤ wtG gs + wts (l.map Ru.tree) ∧ gs'.length ≤ gs.length + l.length
 | [], gs, gs', h, _, hg => by injection h with h; subst h; exact ⟨hg, by simp [wts], by simp⟩
 | x :: l, gs, gs', h, hl, hg => by
  simp only [gathS] at h
  have hx := hl x (by simp)
  unfold gstep at h
  simp only [List.map_cons, wts, List.length_cons]
  cases hp : posK x.name (nmG gs) with
  | none =>
   rw [hp] at h
   simp only at h
   cases hm : x.more with
   | true => rw [hm] at h; simp at h
   | false =>
    rw [hm] at h
    simp only [Bool.false_eq_true, if_false] at h
    obtain ⟨a1, a2, a3⟩ := gathS_all (P := P) h (fun y hy => hl y (by simp [hy])) (fun p hpm => by
     rcases List.mem_append.1 hpm with q | q
     ·exact hg p q
     ·simp at q; subst q; exact hx)
    rw [wtG_app] at a2
    simp only [wts] at a2
    simp at a3
    exact ⟨a1, by omega, by omega⟩
  | some j =>
   rw [hp] at h
   simp only at h
   cases hm : x.more with
   | false => rw [hm] at h; simp at h
   | true =>
    rw [hm] at h
    simp only [if_true] at h
    have hw := wtG_add gs j x.tree
    have hr := addG_rows gs j x.tree
    have hlen := congrArg List.length hr
    simp at hlen
    obtain ⟨a1, a2, a3⟩ := gathS_all (P := P) h (fun y hy => hl y (by simp [hy])) (fun p hpm => by
     have : p.1 ∈ (addG gs j x.tree).map (·.1) := List.mem_map_of_mem hpm
     rw [hr] at this
     obtain ⟨q, hq, e⟩ := List.mem_map.1 this
     rw [← e]
     exact hg q hq)
    exact ⟨a1, by omega, by omega⟩
structure LOk (l : List Ru) : Prop where
 len : l.length ≤ 1000000
 all : ∀ x ∈ l, ROk x
 wt : wts (l.map Ru.tree) ≤ 900000000
theorem LOk.gs {l : List Ru} (h : LOk l) {gs : Gs} (hg : gathS l [] = .ok gs) : (∀ p ∈ gs, ROk (rowG p)) ∧ gs.length ≤ l.length := by
 obtain ⟨a1, a2, a3⟩ := gathS_all (P := ROk) hg h.all (fun p hp => by cases hp)
 refine ⟨fun p hp => ?_, by simpa using a3⟩
 have hr := a1 p hp
 have hw := wtG_mem hp
 have := h.wt
 simp only [wtG] at a2
 refine ⟨hr.1, ?_⟩
 show (treeG p).wt ≤ _
 unfold treeG
 split
 ·rw [wt_eq]
  simp only [orT, Tr.s, Tr.kids, List.length_nil]
  omega
 ·exact hr.2
theorem LOk.T {l : List Ru} (h : LOk l) : ∀ gs, gathS l [] = .ok gs → ∀ p ∈ gs, TOk (treeG p) := fun gs hg p hp => ((h.gs hg).1 p hp).T
theorem gatherF_ok (l : List Ru) (r : Rt) (hl : LOk l) (h0 : Heap) : ∃ b, M.call 11 [.list 10 (l.map ruA) r] h0 = some (.tup [gmA (gatherP l).1 (rtB b), .str (gatherP l).2.1, .int .i64 (gatherP l).2.2], h0) := by
 obtain ⟨P, hP⟩ : ∃ P, gatherP l = P := ⟨_, rfl⟩
 rw [hP]
 suffices key : ∃ x, M.call 11 [.list 10 (l.map ruA) r] h0 = some x ∧ ∃ b, x = (.tup [gmA P.1 (rtB b), .str P.2.1, .int .i64 P.2.2], h0) by
  obtain ⟨x, e, b, rfl⟩ := key
  exact ⟨b, e⟩
 refine call_post tab11 rfl ?_
 generalize hQ : (fun e σ h => isEnd e ∧ ∃ vs, resVals σ h [ARes.cell 2 (some 1), ARes.tmp 3, ARes.tmp 4] = some vs ∧ ∃ x, finish h0 h (oneOf vs) = some x ∧ ∃ b, x = (.tup [gmA P.1 (rtB b), .str P.2.1, .int .i64 P.2.2], h0)) = Q
 have fin : ∀ (σ : Slots) (h : Heap) (q : Rt), h.take h0.length = h0 → h[h0.length]? = some (.cells [.list 10 (P.1.map ruA) q]) → (q = .full ∨ ∃ u, q = .tok u ∧ h0.length ≤ u) → σ 2 = .ptr h0.length 0 → σ 3 = .str P.2.1 → σ 4 = .int .i64 P.2.2 → Q .ret σ h := by
  intro σ h q e1 e2 e3 e4 e5 e6
  subst hQ
  have hlow : AV.lows h0.length (P.1.map ruA) := lows_iff.2 fun y hy => by
   obtain ⟨k, _, rfl⟩ := List.mem_map.1 hy
   exact ruA_low _ _
  rcases e3 with rfl | ⟨u, rfl, hu⟩
  ·simp [e4, e2, e5, e6]
   rw [finish_of_take e1]
   simp [clean, cleans2, clean2, cleans, clean1, hlow, gmA, AV.low]
   exact ⟨_, _, ⟨rfl, rfl⟩, .inr ⟨rfl, rfl⟩⟩
  ·have hu' : ¬ u < h0.length := by omega
   simp [e4, e2, e5, e6]
   rw [finish_of_take e1]
   simp [clean, cleans2, clean2, cleans, clean1, hlow, gmA, AV.low, hu']
   exact ⟨_, _, ⟨rfl, rfl⟩, .inl ⟨rfl, rfl⟩⟩
 have L := ga1 l r hl.len hl.all h0 Q (fun hall σ h e1 e2 s2 s3 s4 => by
  have : P = ([], [], 2) := by rw [← hP]; unfold gatherP; rw [if_neg (by simp [hall])]
  subst this
  exact fin σ h .full e1 (by simpa using e2) (.inl rfl) s2 s3 s4) (fun hall σ h e1 e2 s0 s2 => by
  have hPP : (match gathS l [] with | .bad n e => ([], n, e) | .ok gs => match deepG gs with | some n => ([], n, 21) | none => gathR (gs.map rowG)) = P := by
   rw [← hP]
   unfold gatherP
   rw [if_pos hall]
   all_goals rfl
  obtain ⟨v, h1, g1, g2, g3, g4⟩ := gather_ok l r hl.len hl.T (h ++ [.dead])
  have hn : h0.length < h.length := lt_of_get e2
  have hh1 : h.length < h1.length := by simp at g3; omega
  have t1 : h1.take h0.length = h0 := by
   have := congrArg (List.take h0.length) g2
   rw [List.take_take, Nat.min_eq_left (by simp; omega), List.take_append_of_le_length (by omega), e1] at this
   exact this
  have c1 : h1[h0.length]? = some (.cells [.list 10 [] .full]) := of_take g2 (get_left e2 _)
  have take' : ∀ c, (h1.set h.length c).take h0.length = h0 := fun c => by rw [take_set (by omega)]; exact t1
  have c1' : ∀ c, (h1.set h.length c)[h0.length]? = some (.cells [.list 10 [] .full]) := fun c => by rw [get_set_ne (by omega)]; exact c1
  have b7 : ∀ c, (h1.set h.length c)[h.length]? = some c := fun c => get_set_eq hh1
  have ends : ∀ (σ : Slots) (c : AE) (n : List UInt8) (e : Int), P = ([], n, e) → σ 2 = .ptr h0.length 0 → σ 3 = .str n → σ 4 = .int .i64 e → Q .ret σ ((h1.set h.length c).set h0.length (.cells [.list 10 [] .full])) := by
   intro σ c n e hp t2 t3 t4
   subst hp
   refine fin σ _ .full ?_ (get_set_eq (by simp; omega)) (.inl rfl) t2 t3 t4
   rw [take_set (Nat.le_refl _)]
   exact take' c
  cases hgs : gathS l [] with
  | bad n e =>
   rw [hgs] at g4 hPP
   simp only at g4 hPP
   subst g4
   have he : ¬ e = 0 := by have := gathS_err hgs; omega
   simp [-getElem?_pos, -Int.natCast_add, wK11_2, s0, s2, g1, he, c1', b7]
   refine ends _ _ n e hPP.symm ?_ ?_ ?_ <;> simp [s2]
  | ok gs =>
   rw [hgs] at g4 hPP
   simp only at g4 hPP
   cases hdp : deepG gs with
   | some n =>
    rw [hdp] at g4 hPP
    simp only at g4 hPP
    subst g4
    simp [-getElem?_pos, -Int.natCast_add, wK11_2, s0, s2, g1, c1', b7]
    refine ends _ _ n 21 hPP.symm ?_ ?_ ?_ <;> simp [s2]
   | none =>
    rw [hdp] at g4 hPP
    simp only at g4 hPP
    obtain ⟨bl, m, rfl, hm1, hm2, hbl⟩ := g4
    obtain ⟨rows, hrows⟩ : ∃ rows, gs.map rowG = rows := ⟨_, rfl⟩
    have hnmr := nmG_rows gs
    rw [hrows] at hPP hbl hnmr
    rw [← hnmr] at hm2
    obtain ⟨hrk, hgl⟩ := hl.gs hgs
    have hrl : rows.length ≤ 1000000 := by rw [← hrows]; simp; have := hl.len; omega
    have hrok : ∀ x ∈ rows, ROk x := fun x hx => by
     rw [← hrows] at hx
     obtain ⟨p, hp, rfl⟩ := List.mem_map.1 hx
     exact hrk p hp
    simp only [List.length_append, List.length_cons, List.length_nil] at hm1 hbl
    obtain ⟨H, hH⟩ : ∃ H, h1.set h.length (.cells [bl, .map m]) = H := ⟨_, rfl⟩
    have Hlen : H.length = h1.length := by rw [← hH]; simp
    have Ht : H.take h0.length = h0 := by rw [← hH]; exact take' _
    have H0 : H[h0.length]? = some (.cells [.list 10 [] .full]) := by rw [← hH]; exact c1' _
    have H7 : H[h.length]? = some (.cells [bl, .map m]) := by rw [← hH]; exact b7 _
    have Hm : H[m]? = some (.amap (keysE (rows.map Ru.name) 0)) := by rw [← hH, get_set_ne (by omega)]; exact hm2
    have Hbl : BLg H (h.length + 1) bl rows := by
     rcases hbl with q | ⟨gb, q1, q2, q3⟩
     ·exact .inl q
     ·exact .inr ⟨gb, q1, q2, by rw [← hH, get_set_ne (by omega)]; exact q3⟩
    have lk := lacks_ok bl m (h.length + 1) rows hrl (fun x hx => (hrok x hx).T) H Hbl Hm
    have endH : ∀ (σ : Slots) (n : List UInt8) (e : Int), P = ([], n, e) → σ 2 = .ptr h0.length 0 → σ 3 = .str n → σ 4 = .int .i64 e → Q .ret σ (H.set h0.length (.cells [.list 10 [] .full])) := by
     intro σ n e hp t2 t3 t4
     rw [← hH]
     exact ends σ _ n e hp t2 t3 t4
    unfold gathR at hPP
    cases hlk : lackP (rows.map Ru.name) rows with
    | some s =>
     rw [hlk] at lk hPP
     simp only at hPP
     simp at lk
     simp [-getElem?_pos, -Int.natCast_add, wK11_2, s0, s2, g1, b7, hH, H7, H0, lk]
     refine endH _ s 32 hPP.symm ?_ ?_ ?_ <;> simp [s2]
    | none =>
     rw [hlk] at lk hPP
     simp only at hPP
     simp at lk
     have lp : M.call 34 [.agg [bl, .map m]] H = some (.tup [.str ((loopP (nxG rows) rows.length rows 0).getD []), .bool (loopP (nxG rows) rows.length rows 0).isSome], H) := by
      rcases Hbl with ⟨q1, rfl⟩ | ⟨gb, q1, rfl, q3⟩
      ·subst q1
       exact loops_nil m H
      ·exact loops_ok gb m rows hrl hrok H q3 Hm
     cases hlp : loopP (nxG rows) rows.length rows 0 with
     | some s =>
      rw [hlp] at lp hPP
      simp only at hPP
      simp at lp
      simp [-getElem?_pos, -Int.natCast_add, wK11_2, s0, s2, g1, b7, hH, H7, H0, lk, lp]
      refine endH _ s 33 hPP.symm ?_ ?_ ?_ <;> simp [s2]
     | none =>
      rw [hlp] at lp hPP
      simp only at hPP
      simp at lp
      have H7' : ∀ q, (H ++ q)[h.length]? = some (.cells [bl, .map m]) := fun q => get_left H7 q
      have hlen : lenV bl = some (.int .i64 (rows.length : Nat)) := by
       rcases Hbl with ⟨rfl, rfl⟩ | ⟨gb, _, rfl, _⟩
       ·rfl
       ·simp
      have hrep : (rows.length : Nat) ≤ 70368744177664 := by omega
      have hrepI : ((rows.length : Nat) : Int) ≤ 70368744177664 := by omega
      simp [-getElem?_pos, -Int.natCast_add, wK11_2, s0, s2, g1, b7, hH, H7, H7', H0, lk, lp, hlen, hrep, hrepI, Nat.add_assoc]
      refine ⟨by omega, ?_⟩
      rcases Hbl with ⟨q1, rfl⟩ | ⟨gb, q1, rfl, q3⟩
      ·subst q1
       refine Wp.loop (fun k σ' h' => k = 0 ∧ h' = H ++ [.cells [], .cells [.list 10 [] .full, .map m, .sl 1 H.length 0 0 0, .list 1 [] .full]] ∧ σ' 2 = .ptr h0.length 0 ∧ σ' 14 = .ptr (H.length + 1) 0 ∧ σ' 67 = .int .i64 0 ∧ σ' 68 = .int .i64 0) ?_ (n := 0) ⟨rfl, by simp, by simp [s2], by simp, by simp, by simp⟩
       rintro k σ' h' ⟨rfl, rfl, u2, u14, u67, u68⟩
       simp [-getElem?_pos, -Int.natCast_add, wL11_1, wK11_1, u2, u14, u67, u68]
       refine Wp.loop (fun k σ2 h2 => k = 0 ∧ h2 = H ++ [.cells [], .cells [.list 10 [] .full, .map m, .sl 1 H.length 0 0 0, .list 1 [] .full], .cells [.list 10 [] .full]] ∧ σ2 2 = .ptr h0.length 0 ∧ σ2 16 = .ptr (H.length + 2) 0 ∧ σ2 79 = .int .i64 0 ∧ σ2 80 = .int .i64 0) ?_ (n := 0) ⟨rfl, rfl, by simp [u2], by simp, by simp, by simp⟩
       rintro k σ2 h2 ⟨rfl, rfl, w2, w16, w79, w80⟩
       have H0' : ∀ q, (H ++ q)[h0.length]? = some (.cells [.list 10 [] .full]) := fun q => get_left H0 q
       simp [-getElem?_pos, -Int.natCast_add, wL11_2, wK11_0, w2, w16, w79, w80, H0']
       simp [ordS] at hPP
       subst hPP
       refine fin _ _ .full ?_ (get_set_eq (by simp; omega)) (.inl rfl) ?_ ?_ ?_
       ·rw [take_set (Nat.le_refl _), List.take_append_of_le_length (by omega)]; exact Ht
       all_goals simp [w2]
      ·refine ga2 gb m rows h0.length h.length (H.length + 1) H.length H hrl hrok H7 q3 Hm ⟨_, H0⟩ Q (fun σ' g g' q t1 t2 t3 t4 t5 t6 => ?_) _ _ ⟨0, .full, Nat.zero_le _, rfl, ⟨by simp, by omega, Nat.le_refl _, by simp [ordS, ints], by simp [ordS], by simp [ordS], by simp [ordS, cf_rep], .inl ⟨by simp [ordS], rfl⟩⟩, ?_, ?_, ?_, ?_, ?_⟩
       ·subst t3
        subst hPP
        refine fin _ _ q ?_ (get_set_eq ?_) ?_ t4 t5 t6
        ·rw [take_set (Nat.le_refl _)]
         have := congrArg (List.take h0.length) t1
         rw [List.take_take, Nat.min_eq_left (by omega), Ht] at this
         exact this
        ·have := congrArg List.length t1
         simp at this
         omega
        ·rcases t2 with ⟨_, e⟩ | ⟨_, u, e, eu⟩
         ·exact .inl e
         ·exact .inr ⟨u, e, by omega⟩
       all_goals simp [s2])
 simp [-getElem?_pos, -Int.natCast_add, wB11]
 refine L _ _ ⟨0, Nat.zero_le _, rfl, by simp, by simp, by simp, by simp, by simp, by simp, by simp, by simp⟩
end Go.Proofs.YtcflbdikkcpiaaaGreatDoor
