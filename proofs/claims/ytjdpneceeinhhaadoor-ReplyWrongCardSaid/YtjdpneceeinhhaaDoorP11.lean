/-
  frankinglaw18: ReplyWrong, its walk.
-/
import Derived.Test.YtjdpneceeinhhaaDoorP9
import Derived.Test.YtjdpneceeinhhaaDoorP10
set_option linter.unusedVariables false
set_option linter.unusedSimpArgs false
namespace Go.Proofs.YtjdpneceeinhhaaDoor
open Go Go.Am

theorem app3 (h : Heap) (A B C : List AV) (ra rb rc : Rt) (hl : A.length + B.length + C.length ≤ 1000000) : ∃ r1 g1 r2 g2 r3 g3,
    appA (h ++ [AE.dead, AE.dead, AE.dead]) h.length 1 16 9 (.list 1 [] .full) (.list 1 A ra) = some (.list 1 A r1, g1) ∧
    appA g1 (h.length + 1) 1 16 9 (.list 1 A r1) (.list 1 B rb) = some (.list 1 (A ++ B) r2, g2) ∧
    appA g2 (h.length + 2) 1 16 9 (.list 1 (A ++ B) r2) (.list 1 C rc) = some (.list 1 (A ++ B ++ C) r3, g3) ∧
    g2.length = h.length + 3 ∧ g3.length = h.length + 3 ∧ (∀ (i : Nat) (e : AE), h[i]? = some e → (∀ s m f, e ≠ AE.tok s m f) → g2[i]? = some e) ∧ (∀ (i : Nat) (e : AE), h[i]? = some e → (∀ s m f, e ≠ AE.tok s m f) → g3[i]? = some e) := by
  obtain ⟨r1, g1, p1, o1, t1⟩ := app_list (n0 := h.length) (key := h.length) (sz := 1) (bytes := 16) (e := 9) (h := h ++ [AE.dead, AE.dead, AE.dead]) (xs := []) (ys := A) (r := .full) (r2 := ra) .full (Nat.le_refl _) (by simp) (by simp; omega) (by simp; omega)
  simp only [List.nil_append, List.length_nil, Nat.zero_add] at p1 o1
  obtain ⟨r2, g2, p2, o2, t2⟩ := app_list (n0 := h.length) (key := h.length + 1) (sz := 1) (bytes := 16) (e := 9) (h := g1) (xs := A) (ys := B) (r := r1) (r2 := rb) o1 (by omega) (by rw [t1.len]; simp) (by omega) (by omega)
  obtain ⟨r3, g3, p3, o3, t3⟩ := app_list (n0 := h.length) (key := h.length + 2) (sz := 1) (bytes := 16) (e := 9) (h := g2) (xs := A ++ B) (ys := C) (r := r2) (r2 := rc) (by simpa using o2) (by omega) (by rw [t2.len, t1.len]; simp) (by simp; omega) (by simp; omega)
  have k1 : ∀ (i : Nat) (e : AE), h[i]? = some e → (∀ s m f, e ≠ AE.tok s m f) → g1[i]? = some e := fun i e he hn => by
    have hi := (List.getElem?_eq_some_iff.1 he).1
    exact t1.keep (sz := 1) (e := 9) (n := 0) .full (by rw [List.getElem?_append_left hi]; exact he) hn (by omega)
  have k2 : ∀ (i : Nat) (e : AE), h[i]? = some e → (∀ s m f, e ≠ AE.tok s m f) → g2[i]? = some e := fun i e he hn => by
    have hi := (List.getElem?_eq_some_iff.1 he).1
    exact t2.keep o1 (k1 i e he hn) hn (by omega)
  refine ⟨r1, g1, r2, g2, r3, g3, p1, p2, p3, by rw [t2.len, t1.len]; simp, by rw [t3.len, t2.len, t1.len]; simp, k2, fun i e he hn => ?_⟩
  have hi := (List.getElem?_eq_some_iff.1 he).1
  exact t3.keep (by simpa using o2) (k2 i e he hn) hn (by omega)
def InvWr (n : Nat) (l : Txt) (k : Nat) (rp rb : Rt) (bad : Txt) (m : Nat) (σ : Slots) (h : Heap) : Prop := ∃ i, i ≤ bad.length ∧ m = bad.length - i ∧ σ 3 = .ptr 0 0 ∧ σ 7 = .list 1 ((prL n l).map AV.str) rp ∧ σ 9 = .int .i64 k ∧
  σ 112 = .list 1 (bad.map AV.str) rb ∧ σ 113 = .int .i64 bad.length ∧ σ 114 = .int .i64 i ∧ h[0]? = some (AE.cells [.int .i64 n, .list 1 (l.map AV.str) .no])
set_option maxRecDepth 20000 in
theorem wrong_loop {n : Nat} {l : Txt} (hr : rightP n l = true) {k : Nat} (hk : k < l.length) (rp rb : Rt) (bad : Txt) (hbl : bad.length ≤ 1000) (hb : ∀ x ∈ bad, BadAt n k x) (Q : Ex → Slots → Heap → Prop) (hQ : ∀ σ h, σ 6 = .bool true → Q .ret σ h) :
    ∀ (m : Nat) (σ : Slots) (h : Heap), InvWr n l k rp rb bad m σ h → Wp M (.loop L5_0) (blkQ 0 (thenQ (Wp M K5_0 Q) Q)) σ h := by
  intro m σ h hI
  refine Wp.loop (InvWr n l k rp rb bad) ?_ hI
  clear hI
  rintro m σ h ⟨i, hi, rfl, s3, s7, s9, s112, s113, s114, hh⟩
  obtain ⟨⟨n', hn, hn1, hn2⟩, hl1, hl2, hsaid⟩ := right_spec hr
  have hpl : ((prL n l).map AV.str).length = l.length := by simp [prL_len]
  have hh0 : ∀ l', (h ++ l')[0]? = some (AE.cells [.int .i64 n, .list 1 (l.map AV.str) .no]) := fun l' => by
    rw [List.getElem?_append_left (List.getElem?_eq_some_iff.1 hh).1]; exact hh
  by_cases hlt : i < bad.length
  · obtain ⟨b, eb⟩ : ∃ b, bad[i]? = some b := ⟨_, List.getElem?_eq_getElem hlt⟩
    have eb' : (bad.map AV.str)[i]? = some (.str b) := by rw [List.getElem?_map, eb]; rfl
    have hltI : (i : Int) < bad.length := by omega
    have e64 : IntKind.wrap .i64 ((i : Int) + 1) = ((i + 1 : Nat) : Int) := by rw [wrap64 (by omega) (by omega)]; rfl
    have wk : IntKind.wrap .i64 ((k : Int) + 1) = ((k + 1 : Nat) : Int) := by rw [wrap64 (by omega) (by omega)]; rfl
    have hf : ∀ r h, M.call 15 [.int .i64 180, .list 1 (((prL n l).map AV.str).take k ++ [.str b] ++ ((prL n l).map AV.str).drop (k + 1)) r] h = some (.bool true, h) := fun r h => by
      have := refused_ok 180 ((prL n l).take k ++ b :: (prL n l).drop (k + 1)) (by simp [prL_len]; unfold big; omega) r h
      rw [bad_plain hr hk (hb b (List.mem_of_getElem? eb))] at this
      simpa [strL] using this
    generalize hLM : (prL n l).map AV.str = LM at *
    obtain ⟨r1, g1, r2, g2, r3, g3, p1, p2, p3, l2, l3, k2, k3⟩ := app3 h (LM.take k) [.str b] (LM.drop (k + 1)) (sliceRt rp false 0 k l.length) .full (sliceRt rp false (k + 1) l.length l.length) (by simp; omega)
    have hkne : ¬ k = l.length := by omega
    simp [sliceRt, hkne] at p1 p2 p3
    have hk0 : (k : Int) ≤ l.length := by omega
    have hk1 : ((k + 1 : Nat) : Int) ≤ l.length := by omega
    have hk2 : (0 : Int) ≤ ((k + 1 : Nat) : Int) := by omega
    have hh3 := k3 0 _ hh (fun _ _ _ h => by cases h)
    simp [-getElem?_pos, -List.getElem?_map, -Int.natCast_add, wL5_0, s3, s7, s9, s112, s113, s114, hlt, hltI, eb', hh, hpl, hk0, hk1, hk2, hkne, wk]
    rw [p1]
    simp [-Int.natCast_add, s7, s9, wk, hk1, hk2, hpl]
    rw [p2]
    simp [-Int.natCast_add, s7, s9, wk, hk1, hk2, hpl, sliceRt]
    rw [p3]
    simp at hf
    simp [-Int.natCast_add, hf, s114, e64]
    exact ⟨bad.length - (i + 1), by omega, i + 1, by omega, rfl, by simp [s3], by simp [s7, hLM], by simp [s9], by simp [s112], by simp [s113], by simp, hh3⟩
  · have hil : i = bad.length := by omega
    subst hil
    have hltI : ((bad.length : Int) < bad.length) = False := eq_false (by omega)
    obtain ⟨fq, hq⟩ : ∃ f : Rt → Heap → Rt, ∀ r h, M.call 11 [.list 1 ((prL n l).map AV.str ++ [.str [63]]) r] h = some (.tup [.agg [.int .i64 n, .list 1 (l.map AV.str) (f r h)], .int .i64 l.length, .int .i64 0], h) :=
      Classical.axiomOfChoice fun r => parse_back hr [[63]] (by decide) r
    have hs := fun r1 h => same_ok n n l l r1 .no (by unfold big; omega) h
    simp only [repA, strL, and_self, decide_true] at hs
    generalize hLM : (prL n l).map AV.str = LM at *
    obtain ⟨r1, g1, r2, g2, r3, g3, p1, p2, p3, l2, l3, k2, k3⟩ := app3 h LM [.str [63]] [] rp .full .full (by simp; omega)
    have hh2 := k2 0 _ hh (fun _ _ _ h => by cases h)
    have hpos : 0 < h.length := (List.getElem?_eq_some_iff.1 hh).1
    have gs : ∀ e, (g2.set (h.length + 2) e)[h.length + 2]? = some e := fun e => get_set (by omega)
    have g0 : ∀ e, (g2.set (h.length + 2) e)[0]? = some (AE.cells [.int .i64 n, .list 1 (l.map AV.str) .no]) := fun e => by rw [List.getElem?_set_ne (by omega)]; exact hh2
    simp [wL5_0, wK5_0, s3, s7, s9, s112, s113, s114, hltI]
    rw [p1]
    simp
    rw [p2]
    simp [hq, gs, g0, s3, s7, hpl, hs, awake_ok]
    exact hQ _ _ (by simp)
/-- An append, behind which the goal goes on. -/
theorem onO_app' {n0 : Nat} {H : Heap} {key sz bytes : Nat} {e : TypeId} {xs ys : List AV} {r r2 : Rt} {f : AV → Heap → Prop} (k : Ow n0 H sz e r xs.length) (hn : n0 ≤ key) (hk : key < H.length)
    (h1 : (xs.length + ys.length) * bytes ≤ 70368744177664) (h2 : xs.length + ys.length ≤ 70368744177664) (hf : ∀ r' H', Ow n0 H' sz e r' (xs.length + ys.length) → AppTo n0 H key r H' → f (.list sz (xs ++ ys) r') H') :
    onO (appA H key sz bytes e (.list sz xs r) (.list sz ys r2)) f := by
  obtain ⟨r', H', p1, p2, p3⟩ := app_list (r2 := r2) k hn hk h1 h2
  rw [p1, onO_some]
  exact hf r' H' p2 p3
theorem all_snoc {α : Type} {P : α → Prop} {l : List α} {y : α} (h : ∀ x ∈ l, P x) (hy : P y) : ∀ x ∈ l ++ [y], P x := by
  intro x hx
  rcases List.mem_append.1 hx with h' | h'
  · exact h x h'
  · rw [List.mem_singleton.1 h']; exact hy
theorem asB1 (x : Int) : asBytes [.int .u8 x] = some [UInt8.ofNat x.toNat] := rfl
set_option maxRecDepth 20000 in
theorem replyWrong_true (c : Int) (l : Txt) (hl : l.length ≤ big) (pos b : UInt8) : M.call 5 [repA c l .no, .int .u8 pos.toNat, .int .u8 b.toNat] [] = some (.bool true, []) := by
  refine call_of tab5 rfl (callF_wp ?_)
  obtain ⟨fp, hp⟩ := print_eq c l hl .no
  unfold printP at hp
  cases hR : rightP c l with
  | false =>
    rw [hR] at hp
    simp at hp
    simp [wB5, strL, repA, hp, awake_ok]
  | true =>
    rw [hR] at hp
    simp only [if_true] at hp
    obtain ⟨⟨n, rfl, hn1, hn2⟩, hl1, hl2, hsaid⟩ := right_spec hR
    have hposl := pos.toNat_lt
    have wp : IntKind.wrap .i64 (pos.toNat : Int) = (pos.toNat : Int) := wrap64 (by omega) (by omega)
    have hkl : pos.toNat % l.length < l.length := Nat.mod_lt _ hl1
    have tm : Int.tmod (pos.toNat : Int) (l.length : Int) = ((pos.toNat % l.length : Nat) : Int) := rfl
    generalize pos.toNat % l.length = k at *
    have hk0 : (0 : Int) ≤ k := by omega
    have hpl : ((prL n l).map AV.str).length = l.length := by simp [prL_len]
    have hpl0 : ¬ l = [] := by intro e; subst e; simp at hl1
    have hpl0' : ¬ (l.length : Int) = 0 := by omega
    obtain ⟨s, es⟩ : ∃ s, l[k]? = some s := ⟨_, List.getElem?_eq_getElem hkl⟩
    have hsl : s.length ≤ 500 := by
      have := hsaid s (List.mem_of_getElem? es)
      simp [saidP] at this
      exact this.1
    obtain ⟨m, hm⟩ : ∃ m : UInt8, mkL n l.length k s = dig3 n ++ m :: s := by
      unfold mkL
      rw [itoa3 (by omega) (by omega)]
      exact ⟨_, rfl⟩
    have eL : ((prL n l).map AV.str)[k]? = some (.str (dig3 n ++ m :: s)) := by rw [List.getElem?_map, prL_get, es, Option.map_some, Option.map_some, hm]
    have hbads := bads_ok hn1 hn2 k m s
    have hbd := fun h => bad_digit hn1 hn2 (k := k) h m s
    have hmk : b ≠ 32 → b ≠ 45 → BadAt n k (dg (n / 100) :: dg (n / 10 % 10) :: dg (n % 10) :: b :: s) := fun h1 h2 => bad_mark h1 h2
    have hq9 : n % 10 ≤ 9 := by omega
    have hq2 : (n % 10 + 1) % 10 ≤ 9 := by omega
    have tm2 : Int.tmod ((n % 10 + 1 : Nat) : Int) 10 = (((n % 10 + 1) % 10 : Nat) : Int) := rfl
    unfold dig3 at eL
    unfold bads at hbads
    generalize hLM : (prL n l).map AV.str = LM at *
    generalize (n % 10 + 1) % 10 = q2 at *
    generalize n % 10 = q at *
    have d3 := dg_nat hq9
    have d4 := dg_nat hq2
    have v1 : IntKind.wrap .u8 (((dg q).toNat : Int) - 48) = (q : Int) := by rw [d3, wrap8 (by omega) (by omega)]; omega
    have v2 : IntKind.wrap .u8 ((q : Int) + 1) = (q : Int) + 1 := wrap8 (by omega) (by omega)
    have v3 : Int.tmod ((q : Int) + 1) 10 = (q2 : Int) := tm2
    have v4 : IntKind.wrap .u8 (48 + (q2 : Int)) = ((dg q2).toNat : Int) := by rw [d4, wrap8 (by omega) (by omega)]; omega
    generalize dg (n / 100) = d1 at *
    generalize dg (n / 10 % 10) = d2 at *
    have e32 : ((b.toNat : Int) = 32) = (b = 32) := u8_eq b 32 (by omega)
    have e45 : ((b.toNat : Int) = 45) = (b = 45) := u8_eq b 45 (by omega)
    have l3 : (3 : Int) ≤ (s.length : Int) + 1 + 1 + 1 + 1 := by omega
    have l4 : (4 : Int) ≤ (s.length : Int) + 1 + 1 + 1 + 1 := by omega
    have l1 : (1 : Int) ≤ (s.length : Int) + 1 + 1 + 1 + 1 := by omega
    have l2 : (2 : Int) ≤ (s.length : Int) + 1 + 1 + 1 + 1 := by omega
    have lno : ¬ ((s.length : Int) + 1 + 1 + 1 + 1 < 4) := by omega
    have hcell : ∀ (l' : Heap), ([AE.cells [.int .i64 n, .list 1 (l.map AV.str) .no]] ++ l')[0]? = some (AE.cells [.int .i64 n, .list 1 (l.map AV.str) .no]) := fun l' => rfl
    have go : ∀ (bad : Txt) (rb : Rt) (σ : Slots) (h : Heap), (∀ x ∈ bad, BadAt n k x) → bad.length ≤ 100 → σ 3 = .ptr 0 0 → σ 7 = .list 1 LM (fp [AE.cells [.int .i64 n, .list 1 (l.map AV.str) .no]]) → σ 9 = .int .i64 k →
        σ 112 = .list 1 (bad.map AV.str) rb → σ 113 = .int .i64 bad.length → σ 114 = .int .i64 0 → h[0]? = some (AE.cells [.int .i64 n, .list 1 (l.map AV.str) .no]) →
        Wp M (.loop L5_0) (blkQ 0 (thenQ (Wp M K5_0 fun e σ h => isEnd e ∧ finish [] h (σ 6) = some (AV.bool true, [])) fun e σ h => isEnd e ∧ finish [] h (σ 6) = some (AV.bool true, []))) σ h := by
      intro bad rb σ h g1 g2 t3 t7 t9 t112 t113 t114 th
      refine wrong_loop hR hkl _ rb bad (by omega) g1 _ ?_ bad.length σ h ⟨0, by omega, by omega, t3, by rw [t7, hLM], t9, t112, t113, by simpa using t114, th⟩
      intro σ h h6
      simp [h6]
    by_cases hb1 : b = 32 ∨ b = 45
    · have hbb : (((b.toNat : Int) = 32) = True ∨ ((b.toNat : Int) = 32) = False ∧ ((b.toNat : Int) = 45) = True) := by
        rcases hb1 with rfl | rfl
        · exact .inl (by simp)
        · exact .inr ⟨by simp, by simp⟩
      rcases hbb with hb2 | ⟨hb2, hb3⟩
      · rcases Nat.eq_zero_or_pos k with hk | hk
        · subst hk
          simp [-getElem?_pos, wB5, strL, repA, hp, hpl, hpl0, hpl0', wp, abin_rem, tm, hk0, hkl, eL, l1, l2, l3, l4, lno, asB1, v1, v2, v3, v4, hb2]
          exact ⟨by omega, by omega, by omega, by omega, go _ .full _ _ hbads (by simp) (by simp) (by simp) (by simp) (by simp) (by simp) (by simp) (by simp)⟩
        · have hkI : (0 : Int) < k := by omega
          simp [-getElem?_pos, wB5, strL, repA, hp, hpl, hpl0, hpl0', wp, abin_rem, tm, hk0, hkl, eL, l1, l2, l3, l4, lno, asB1, v1, v2, v3, v4, hb2, hkI, hk]
          refine ⟨by omega, by omega, by omega, by omega, by omega, onO_app' (n0 := 1) .full (by omega) (by simp) (by simp) (by simp) fun r' g' ow t => ?_⟩
          have th : g'[0]? = some (AE.cells [.int .i64 n, .list 1 (l.map AV.str) .no]) := by rw [t.get 0 (by omega) (fun _ h => by cases h)]; rfl
          simp
          exact go _ r' _ _ (all_snoc hbads (hbd hk)) (by simp) (by simp) (by simp) (by simp) (by simp) (by simp) (by simp) th
      · rcases Nat.eq_zero_or_pos k with hk | hk
        · subst hk
          simp [-getElem?_pos, wB5, strL, repA, hp, hpl, hpl0, hpl0', wp, abin_rem, tm, hk0, hkl, eL, l1, l2, l3, l4, lno, asB1, v1, v2, v3, v4, hb2, hb3]
          exact ⟨by omega, by omega, by omega, by omega, go _ .full _ _ hbads (by simp) (by simp) (by simp) (by simp) (by simp) (by simp) (by simp) (by simp)⟩
        · have hkI : (0 : Int) < k := by omega
          simp [-getElem?_pos, wB5, strL, repA, hp, hpl, hpl0, hpl0', wp, abin_rem, tm, hk0, hkl, eL, l1, l2, l3, l4, lno, asB1, v1, v2, v3, v4, hb2, hb3, hkI, hk]
          refine ⟨by omega, by omega, by omega, by omega, by omega, onO_app' (n0 := 1) .full (by omega) (by simp) (by simp) (by simp) fun r' g' ow t => ?_⟩
          have th : g'[0]? = some (AE.cells [.int .i64 n, .list 1 (l.map AV.str) .no]) := by rw [t.get 0 (by omega) (fun _ h => by cases h)]; rfl
          simp
          exact go _ r' _ _ (all_snoc hbads (hbd hk)) (by simp) (by simp) (by simp) (by simp) (by simp) (by simp) (by simp) th
    · simp only [not_or] at hb1
      have hb2 : ((b.toNat : Int) = 32) = False := by rw [e32]; exact eq_false hb1.1
      have hb3 : ((b.toNat : Int) = 45) = False := by rw [e45]; exact eq_false hb1.2
      rcases Nat.eq_zero_or_pos k with hk | hk
      · subst hk
        simp [-getElem?_pos, wB5, strL, repA, hp, hpl, hpl0, hpl0', wp, abin_rem, tm, hk0, hkl, eL, l1, l2, l3, l4, lno, asB1, v1, v2, v3, v4, hb2, hb3]
        refine ⟨by omega, by omega, by omega, by omega, by omega, onO_app' (n0 := 1) .full (by omega) (by simp) (by simp) (by simp) fun r' g' ow t => ?_⟩
        have th : g'[0]? = some (AE.cells [.int .i64 n, .list 1 (l.map AV.str) .no]) := by rw [t.get 0 (by omega) (fun _ h => by cases h)]; rfl
        simp
        exact go _ r' _ _ (all_snoc hbads (hmk hb1.1 hb1.2)) (by simp) (by simp) (by simp) (by simp) (by simp) (by simp) (by simp) th
      · have hkI : (0 : Int) < k := by omega
        simp [-getElem?_pos, wB5, strL, repA, hp, hpl, hpl0, hpl0', wp, abin_rem, tm, hk0, hkl, eL, l1, l2, l3, l4, lno, asB1, v1, v2, v3, v4, hb2, hb3, hkI, hk]
        refine ⟨by omega, by omega, by omega, by omega, by omega, onO_app' (n0 := 1) .full (by omega) (by simp) (by simp) (by simp) fun r' g' ow t => ?_⟩
        have th : g'[0]? = some (AE.cells [.int .i64 n, .list 1 (l.map AV.str) .no]) := by rw [t.get 0 (by omega) (fun _ h => by cases h)]; rfl
        have tl := t.len
        simp at tl
        simp [hkI, hk, v1, v2, v3, v4, asB1, abin_rem, l2, l3]
        refine ⟨by omega, onO_app' (n0 := 1) (by simpa using ow.app _) (by omega) (by simp) (by simp) (by simp) fun r2 g2 ow2 t2 => ?_⟩
        have th2 : g2[0]? = some (AE.cells [.int .i64 n, .list 1 (l.map AV.str) .no]) := t2.keep (by simpa using ow.app _) (by rw [List.getElem?_append_left (by omega)]; exact th) (fun _ _ _ h => by cases h) (by omega)
        simp
        exact go _ r2 _ _ (all_snoc (all_snoc hbads (hmk hb1.1 hb1.2)) (hbd hk)) (by simp) (by simp) (by simp) (by simp) (by simp) (by simp) (by simp) th2
set_option maxRecDepth 100000 in
theorem ReplyWrong_law (xs : List AV) (h : HasArgs Tryd.prog [24, 5, 5] xs) : (lim XS T).call 5 xs [] = some (.bool true, []) := by
  obtain ⟨a0, r0, n0, rfl, h0, h⟩ := h
  obtain ⟨a1, r1, n1, rfl, h1, h⟩ := h
  obtain ⟨a2, r2, n2, rfl, h2, h⟩ := h
  obtain rfl := args_nil h
  obtain ⟨c, l, rfl, hl⟩ := arg_reply h0
  obtain ⟨p, rfl⟩ := has_u8 Tryd.underlying5 h1
  obtain ⟨b, rfl⟩ := has_u8 Tryd.underlying5 h2
  exact replyWrong_true c l hl p b
end Go.Proofs.YtjdpneceeinhhaaDoor
