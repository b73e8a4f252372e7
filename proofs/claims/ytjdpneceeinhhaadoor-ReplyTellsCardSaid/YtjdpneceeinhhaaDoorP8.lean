/-
  frankinglaw18: ReplyBack, ReplyAgain: the walks.
-/
import Derived.Test.YtjdpneceeinhhaaDoorP7
set_option linter.unusedVariables false
set_option linter.unusedSimpArgs false
namespace Go.Proofs.YtjdpneceeinhhaaDoor
open Go Go.Am

theorem parse_back {c : Int} {l : Txt} (hr : rightP c l = true) (more : Txt) (hm : more.length ≤ 1000000) (r : Rt) : ∃ f : Heap → Rt, ∀ h, M.call 11 [.list 1 ((prL c l).map AV.str ++ more.map AV.str) r] h = some (.tup [.agg [.int .i64 c, .list 1 (l.map AV.str) (f h)], .int .i64 l.length, .int .i64 0], h) := by
  have hs := right_spec hr
  obtain ⟨f, hf⟩ := parse_eq (prL c l ++ more) (by rw [List.length_append, prL_len]; unfold big; omega) r
  rw [back_plain hr more] at hf
  refine ⟨f, fun h => ?_⟩
  have := hf h
  rw [List.map_append] at this
  exact this
set_option maxRecDepth 20000 in
theorem replyBack_true (c : Int) (l more : Txt) (hl : l.length ≤ big) (hm : more.length ≤ big) : M.call 3 [repA c l .no, strL more .no] [] = some (.bool true, []) := by
  refine call_of tab3 rfl (callF_wp ?_)
  by_cases h50 : 50 < more.length
  · have h50' : (50 : Int) < more.length := by omega
    simp [wB3, strL, repA, h50', awake_ok]
  have h50' : ((50 : Int) < more.length) = False := eq_false (by omega)
  obtain ⟨fp, hp⟩ := print_eq c l hl .no
  have hr := fun h => right_ok c l hl .no h
  unfold printP at hp
  simp only [repA, strL] at hr
  cases hR : rightP c l with
  | false =>
    rw [hR] at hp hr
    simp at hp
    simp [wB3, strL, repA, h50', hp, hr, awake_ok]
  | true =>
    rw [hR] at hp hr
    simp only [if_true] at hp
    obtain ⟨⟨n, hn, hn1, hn2⟩, hl1, hl2, hsaid⟩ := right_spec hR
    have hpl := prL_len c l
    obtain ⟨r1, g1, a1, o1, t1⟩ := app_list (n0 := 1) (key := 1) (sz := 1) (bytes := 16) (e := 9) (h := [AE.cells [.int .i64 c, .list 1 (l.map AV.str) .no], .dead, .dead, .dead]) (xs := []) (ys := (prL c l).map AV.str) (r := .full)
      (r2 := fp [AE.cells [.int .i64 c, .list 1 (l.map AV.str) .no]]) .full (by omega) (by simp) (by simp [hpl]; omega) (by simp [hpl]; omega)
    obtain ⟨r2, g2, a2, o2, t2⟩ := app_list (n0 := 1) (key := 2) (sz := 1) (bytes := 16) (e := 9) (h := g1) (xs := (prL c l).map AV.str) (ys := more.map AV.str) (r := r1) (r2 := .no)
      (by simpa using o1) (by omega) (by rw [t1.len]; simp) (by simp [hpl]; omega) (by simp [hpl]; omega)
    have k1 : g1[0]? = some (AE.cells [.int .i64 c, .list 1 (l.map AV.str) .no]) := t1.keep (sz := 1) (e := 9) (n := 0) .full (by rfl) (fun _ _ _ h => by cases h) (by omega)
    have k2 : g2[0]? = some (AE.cells [.int .i64 c, .list 1 (l.map AV.str) .no]) := t2.keep o1 k1 (fun _ _ _ h => by cases h) (by omega)
    have hlen : g2.length = 4 := by rw [t2.len, t1.len]; rfl
    simp only [List.nil_append] at a1
    obtain ⟨fq, hq⟩ := parse_back hR more (by omega) r2
    have hs := fun r1 h => same_ok c c l l r1 .no hl h
    have hk := fun h => kind_ok c h
    have hkn : (2 : Int) ≤ kindN c := by
      subst hn
      unfold kindN
      rw [if_neg (by omega)]
      simp
      omega
    have s3 : ∀ e, (g2.set 3 e)[3]? = some e := fun e => get_set (by omega)
    have s0 : ∀ e, (g2.set 3 e)[0]? = some (AE.cells [.int .i64 c, .list 1 (l.map AV.str) .no]) := fun e => by rw [List.getElem?_set_ne (by omega)]; exact k2
    simp only [repA, strL, and_self, decide_true] at hs
    simp [wB3, strL, repA, h50', hp, hr]
    rw [a1]
    simp
    rw [a2]
    simp [hq, s3, s0, hpl, hs, hk, hkn, awake_ok]
set_option maxRecDepth 20000 in
theorem replyAgain_true (l : Txt) (cut : UInt8) (hl : l.length ≤ big) : M.call 4 [strL l .no, .int .u8 cut.toNat] [] = some (.bool true, []) := by
  refine call_of tab4 rfl (callF_wp ?_)
  by_cases h150 : 150 < l.length
  · have h150' : (150 : Int) < l.length := by omega
    simp [wB4, strL, h150', awake_ok]
  have h150' : ((150 : Int) < l.length) = False := eq_false (by omega)
  obtain ⟨fp, hp⟩ := parse_eq l hl .no
  have herr := go_err l 0 0 []
  have hag := fun c ls n => again_plain (l := l) (c := c) (ls := ls) (n := n)
  have hcutl := cut.toNat_lt
  change _ → _ at herr
  unfold parseP at hp hag
  generalize goP l 0 0 [] = res at *
  obtain ⟨⟨c, ls⟩, n, e⟩ := res
  simp only at hp herr hag
  by_cases he : e = 0
  · subst he
    obtain ⟨k, rfl, hk1, hkl, hk100, hlsl, hright, hprl, hcuts⟩ := hag c ls n rfl
    have hr := fun r h => right_ok c ls (by omega) r h
    rw [hright] at hr
    have hpr : ∀ r, ∃ f : Heap → Rt, ∀ h, M.call 9 [.agg [.int .i64 c, .list 1 (ls.map AV.str) r]] h = some (.tup [.list 1 ((l.take k).map AV.str) (f h), .int .i64 0], h) := fun r => by
      obtain ⟨f, hf⟩ := print_eq c ls (by omega) r
      unfold printP at hf
      rw [hright] at hf
      simp only [if_true, hprl] at hf
      exact ⟨f, hf⟩
    obtain ⟨fr, hfr⟩ := Classical.axiomOfChoice hpr
    have ht := fun r1 r2 h => texts_ok (l.take k) (l.take k) r1 r2 (by simp; omega) h
    have hkI : (1 : Int) ≤ k := by omega
    have hkI2 : (k : Int) ≤ l.length := by omega
    have hkI3 : ((k : Int) < 1) = False := eq_false (by omega)
    have hkI4 : ((l.length : Int) < k) = False := eq_false (by omega)
    have wk : IntKind.wrap .i64 (cut.toNat : Int) = (cut.toNat : Int) := wrap64 (by omega) (by omega)
    have hj : cut.toNat % k < k := Nat.mod_lt _ (by omega)
    have tm : Int.tmod (cut.toNat : Int) (k : Int) = ((cut.toNat % k : Nat) : Int) := rfl
    generalize cut.toNat % k = j at *
    have hj0 : (0 : Int) ≤ j := by omega
    have hjl : (j : Int) ≤ l.length := by omega
    have hk0 : ¬ (k : Int) = 0 := by omega
    have hk0' : ¬ k = 0 := by omega
    have hf := fun r h => refused_ok 181 (l.take j) (by simp; omega) r h
    have hcj := hcuts j hj
    unfold parseP at hf
    rw [hcj] at hf
    simp [repA, strL] at hr hf ht
    simp [wB4, strL, h150', hp, hr, hfr, ht, hkI, hkI2, hkI3, hkI4, wk, abin_rem, hk0, hk0', tm, hj0, hjl, hf, awake_ok, Nat.add_assoc]
  · obtain ⟨h1, rfl, h3⟩ := herr he
    simp only [Prod.mk.injEq] at h3
    obtain ⟨rfl, rfl⟩ := h3
    have hs := fun r1 h => same_ok 0 0 [] [] r1 .full (by decide) h
    simp [repA, strL] at hs
    simp at hp
    rcases h1 with rfl | rfl
    · simp [wB4, strL, h150', hp, hs, awake_ok]
    · simp [wB4, strL, h150', hp, hs, awake_ok]
end Go.Proofs.YtjdpneceeinhhaaDoor
