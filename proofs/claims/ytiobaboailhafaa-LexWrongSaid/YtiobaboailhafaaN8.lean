/-
  frankinglaw01: LexWrong, its walk; strings.Repeat by the library's contract.
-/
import Derived.Test.YtiobaboailhafaaN7
import Derived.Test.YtiobaboailhafaaSh
set_option linter.unusedVariables false
set_option linter.unusedSimpArgs false
namespace Go.Proofs.Ytiobaboailhafaa
open Go Go.Am Go.RowKit

theorem repL_eq (s : List UInt8) : ∀ n, Lib.repeatL s n = repL s n
  | 0 => rfl
  | n + 1 => by simp only [Lib.repeatL, repL, repL_eq s n]
theorem repOk : CallOk Try.prog (fX 18 repPat) := by
  refine fX_ok fun args r hp B w0 E h w vs hr hsz hrd => ?_
  unfold repPat at hp
  split at hp
  · rename_i s n
    split at hp
    · rename_i hc
      injection hp with hp
      subst hp
      obtain ⟨u, v, rfl, h1, h2⟩ := args2 (by simpa using hsz) hrd
      rw [h1.inv_str, h2.inv_int]
      obtain ⟨k, rfl⟩ : ∃ k : Nat, n = k := ⟨n.toNat, by omega⟩
      obtain ⟨c1, c2, c3⟩ := hc
      simp only [Int.toNat_natCast] at c3 ⊢
      refine fires_of_calls Try.func18 rfl (by kernel_rfl) (Try.strings_Repeat ⟨⟨s⟩⟩ k w (by omega) (by simpa [ByteArray.size] using c3)) ?_
      rintro e w' ⟨rfl, hb⟩
      refine ⟨_, rfl, hb, ?_⟩
      rw [← repL_eq]
      exact .str _
    · cases hp
  · cases hp
theorem extOk : CallOk Try.prog XS := orX_ok (ibsX_ok Try.func78 rfl (by kernel_rfl) (by kernel_rfl) (by kernel_rfl)) repOk
theorem extFr : FrX XS := orX_fr (ibsX_fr _) (fX_fr _ _)

theorem abin_remW (k : IntKind) (a b : Int) : abin .rem (.int k a) (.int k b) = if b = 0 then none else some (.int k (a.tmod b)) := by simp [abin, ibin]
theorem long_ok : lexP (repL [32] 65537) = ([], 65536, 3) := by
  unfold lexP
  rw [if_pos (by rw [repL_len]; decide)]
set_option maxRecDepth 20000 in
theorem lexWrong_true (s : List UInt8) (which : UInt8) (behind : List UInt8) : M.call 7 [.str s, .int .u8 which.toNat, .str behind] [] = some (.bool true, []) := by
  refine call_of tab7 rfl (callF_wp ?_)
  by_cases hl : 1000 < s.length
  · have hl' : (1000 : Int) < s.length := by omega
    simp [wB7, hl', awake_ok]
  have hl' : ((1000 : Int) < s.length) = False := eq_false (by omega)
  have hl2 : (s.length : Int) ≤ 1000 := by omega
  by_cases hm : 1000 < behind.length
  · have hm' : (1000 : Int) < behind.length := by omega
    simp [wB7, hl', hl2, hm', awake_ok]
  have hm' : ((1000 : Int) < behind.length) = False := eq_false (by omega)
  have hm2 : (behind.length : Int) ≤ 1000 := by omega
  obtain ⟨x1, hx1, r1, rfl⟩ := lex_ok s (by omega) []
  have hw := fun b off err hb => wrong_plain s b behind off err (by omega) (by omega) hb
  generalize lexP s = ra at *
  obtain ⟨a, pa, ea⟩ := ra
  simp only at hx1 hw
  by_cases he : ea = 0
  · subst he
    have hk := which.toNat_lt
    have wk : IntKind.wrap .i64 (which.toNat : Int) = (which.toNat : Int) := wrap64 (by omega) (by omega)
    have tm : Int.tmod (which.toNat : Int) 22 = ((which.toNat % 22 : Nat) : Int) := rfl
    obtain ⟨b, off, err, eb, hb⟩ := bad_at (which.toNat % 22) (Nat.mod_lt _ (by omega))
    have hkm : which.toNat % 22 < 22 := Nat.mod_lt _ (by omega)
    generalize which.toNat % 22 = kk at *
    have hk0 : 0 ≤ (kk : Int) := by omega
    have hlex := hw b off err hb rfl
    obtain ⟨_, _, hbl, herr, ho1, ho2, _⟩ := hb
    have eb' : (badT.map fun p => AV.agg [AV.str p.1, AV.int .i64 p.2.1, AV.int .i64 p.2.2])[kk]? = some (.agg [.str b, .int .i64 off, .int .i64 err]) := by rw [List.getElem?_map, eb]; rfl
    simp only [badT, List.map_cons, List.map_nil] at eb'
    have f1 := fun h => fails_ok (s ++ 10 :: (b ++ 10 :: behind)) ((s.length : Int) + 1 + off) err (by simp; omega) h
    rw [hlex] at f1
    simp only [and_self, decide_true] at f1
    have f2 := fun h => fails_ok (repL [32] 65537) 65536 3 (by rw [repL_len]; decide) h
    rw [long_ok] at f2
    simp only [and_self, decide_true] at f2
    have rp := fun h => repeat_ok [32] 65537 (by decide) (by decide) h
    have e65 : ((65537 : Nat) : Int) = 65537 := rfl
    rw [e65] at rp
    generalize repL [32] 65537 = sp at *
    have w1 : IntKind.wrap .i64 ((s.length : Int) + 1) = (s.length : Int) + 1 := wrap64 (by omega) (by omega)
    have w2 : IntKind.wrap .i64 ((s.length : Int) + 1 + off) = (s.length : Int) + 1 + off := wrap64 (by omega) (by omega)
    have b1 : s.length + 1 ≤ 140737488355328 := by omega
    simp [-getElem?_pos, wB7, hl', hl2, hm', hm2, hx1, wk, tm, abin_remW, hk0, eb', w1, w2, f1, rp, f2, awake_ok]
    refine ⟨by omega, by omega, by omega, by omega, ?_⟩
    rw [finish_of_take (by simp)]
    simp
  · simp [wB7, hl', hl2, hm', hm2, hx1, he, awake_ok]
theorem LexWrong_law (xs : List AV) (h : HasArgs Try.prog [9, 5, 9] xs) : (lim XS T).call 7 xs [] = some (.bool true, []) := by
  obtain ⟨a0, r0, n0, rfl, h0, h⟩ := h
  obtain ⟨a1, r1, n1, rfl, h1, h⟩ := h
  obtain ⟨a2, r2, n2, rfl, h2, h⟩ := h
  obtain rfl := args_nil h
  obtain ⟨s, rfl, _⟩ := has_str Try.underlying9 h0
  obtain ⟨c, rfl⟩ := has_u8 Try.underlying5 h1
  obtain ⟨t, rfl, _⟩ := has_str Try.underlying9 h2
  exact lexWrong_true s c t
end Go.Proofs.Ytiobaboailhafaa
