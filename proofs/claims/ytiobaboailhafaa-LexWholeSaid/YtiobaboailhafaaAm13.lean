/-
  Every operation that is no call: what the abstract machine computes, the model's machine does.
-/
import Derived.Test.YtiobaboailhafaaAm4
import Derived.Test.YtiobaboailhafaaAm11
import Derived.Test.YtiobaboailhafaaAm12
set_option linter.unusedVariables false
set_option linter.unusedSimpArgs false
namespace Go.Am
open Go Go.RowKit

section
variable {P : Program} {B : Nat} {w0 : World} {E : Env} {h : Heap} {a : Act} {w : World} {σ : Slots} {O : CallO} {v : AV} {h' : Heap} {key : Nat} {o : Oper} {op : AOp}

theorem arr1 {α : Type} {xs : Array α} {x : α} (h : xs.toList = [x]) : xs = #[x] := by
  cases xs; simp_all
theorem arr2 {α : Type} {xs : Array α} {x y : α} (h : xs.toList = [x, y]) : xs = #[x, y] := by
  cases xs; simp_all

theorem isU8_spec {e : TypeId} (h : isU8 P e = true) : P.underlying e = some (.int .u8) := by
  unfold isU8 at h
  split at h
  · assumption
  · cases h

theorem call_sound {c : Call} {type : TypeId} (ho : o.op = .call c) (hco : compileCall P type c = some op) (hp : op.proved = true) (hcl : op.isCall = false) (hs : SR E a σ) (r : Rel B w0 E h w) (hk : op.isAlloc = true → h[key]? = some .dead ∧ E.ρ key = none) (hex : aop O σ h key op = some (v, h')) : Out P B w0 E h' key a o w v := by
  unfold compileCall at hco
  split at hco
  · split at hco
    · injection hco with hco; subst hco; cases hcl
    · cases hco
  · cases hco
  · rename_i hb
    split at hco
    · rename_i x t ha ht
      split at hco
      · rename_i hu
        simp only [Option.map_eq_some_iff] at hco
        obtain ⟨y, hy, rfl⟩ := hco
        exact lenS_sound ho hb (arr1 ha) (arr1 ht) hu hy hs r hex
      · rename_i e hu
        simp only [Option.map_eq_some_iff] at hco
        obtain ⟨y, hy, rfl⟩ := hco
        exact len_sound ho hb (arr1 ha) (arr1 ht) hu hy hs r hex
      · simp only [Option.map_eq_some_iff] at hco
        obtain ⟨y, hy, rfl⟩ := hco
        cases hp
      · rename_i n e hu
        injection hco with hco; subst hco
        refine mvc_sound (u := .int .i64 n) ?_ (.int _ _) r hex
        rw [run_builtin ho hb, arr1 ha, arr1 ht]
        simp only [List.map_toArray, List.map_cons, List.map_nil]
        refine run_v ?_
        simp only [Builtin.len_]
        show (underlying t >>= _ : Sem Value).run P w = _
        rw [Sem.run_bind, run_underlying hu]
        rfl
      · rename_i t2 hu
        split at hco
        · rename_i n e hu2
          injection hco with hco; subst hco
          refine mvc_sound (u := .int .i64 n) ?_ (.int _ _) r hex
          rw [run_builtin ho hb, arr1 ha, arr1 ht]
          simp only [List.map_toArray, List.map_cons, List.map_nil]
          refine run_v ?_
          simp only [Builtin.len_]
          show (underlying t >>= _ : Sem Value).run P w = _
          rw [Sem.run_bind, run_underlying hu]
          show (underlying t2 >>= _ : Sem Value).run P w = _
          rw [Sem.run_bind, run_underlying hu2]
          rfl
        · cases hco
      · cases hco
    · cases hco
  · rename_i hb
    split at hco
    · rename_i x y ha
      split at hco
      · rename_i p q hp1 hq1
        injection hco with hco; subst hco
        exact minmax_sound (b := .min) (.inl rfl) ho hb (arr2 ha) hp1 hq1 hs r hex
      · cases hco
    · cases hco
  · rename_i hb
    split at hco
    · rename_i x y ha
      split at hco
      · rename_i p q hp1 hq1
        injection hco with hco; subst hco
        exact minmax_sound (b := .max) (.inr rfl) ho hb (arr2 ha) hp1 hq1 hs r hex
      · cases hco
    · cases hco
  · rename_i hb
    split at hco
    · rename_i s x t u ha ht
      split at hco
      · rename_i e hu
        split at hco
        · rename_i i z p q d hi hz h1 h2 hd
          split at hco
          · rename_i hg
            split at hco
            · injection hco with hco; subst hco
              exact append_sound ho hb (arr2 ha) (arr2 ht) hu hi hz hg.1 hg.2.1 hg.2.2.1 hd (.inl ⟨_, rfl⟩) h1 h2 hs r (hk rfl).1 (hk rfl).2 hex
            · split at hco
              · injection hco with hco; subst hco
                exact append_sound ho hb (arr2 ha) (arr2 ht) hu hi hz hg.1 hg.2.1 hg.2.2.1 hd (.inr rfl) h1 h2 hs r (hk rfl).1 (hk rfl).2 hex
              · cases hco
            · cases hco
          · cases hco
        · cases hco
      · cases hco
    · cases hco
  · split at hco
    · split at hco
      · split at hco
        · split at hco
          · injection hco with hco; subst hco; cases hp
          · split at hco
            · injection hco with hco; subst hco; cases hp
            · cases hco
          · cases hco
        · cases hco
      · cases hco
    · cases hco
  · cases hco

theorem op_sound {mt : List String} (hco : compileOp P mt o = some op) (hp : op.proved = true) (hcl : op.isCall = false) (hs : SR E a σ) (r : Rel B w0 E h w) (hk : op.isAlloc = true → h[key]? = some .dead ∧ E.ρ key = none) (hex : aop O σ h key op = some (v, h')) : Out P B w0 E h' key a o w v := by
  cases hop : o.op <;> simp only [compileOp, hop] at hco <;> try (cases hco; done)
  case move x =>
    simp only [Option.map_eq_some_iff] at hco
    obtain ⟨y, hy, rfl⟩ := hco
    exact mv_sound (.inl hop) hy hs r hex
  case assign x =>
    simp only [Option.map_eq_some_iff] at hco
    obtain ⟨y, hy, rfl⟩ := hco
    exact mv_sound (.inr hop) hy hs r hex
  case nilCheck x =>
    simp only [Option.map_eq_some_iff] at hco
    obtain ⟨y, hy, rfl⟩ := hco
    exact nilchk_sound hop hy hs r hex
  case pick c x y =>
    split at hco
    · rename_i h1 h2 h3
      injection hco with hco; subst hco
      exact pick_sound hop h1 h2 h3 hs r hex
    · cases hco
  case alloc t =>
    simp only [Option.map_eq_some_iff] at hco
    obtain ⟨y, hy, rfl⟩ := hco
    exact alloc_sound hop hy r key (hk rfl).1 (hk rfl).2 hex
  case box t x =>
    split at hco
    · split at hco
      · rename_i n y hn hy hpos
        injection hco with hco; subst hco
        exact box_sound hop hpos hy hs r key (hk rfl).1 (hk rfl).2 hex
      · cases hco
    · cases hco
  case build t parts =>
    split at hco
    · rename_i z fs hz hu
      split at hco
      · rename_i hf
        simp only [Option.map_eq_some_iff] at hco
        obtain ⟨y, hy, rfl⟩ := hco
        exact build_sound hop hz (.inl ⟨_, hu, hf, hy⟩) hs r hex
      · cases hco
    · rename_i z n e hz hu
      split at hco
      · rename_i s hsz
        simp only [Option.map_eq_some_iff] at hco
        obtain ⟨y, hy, rfl⟩ := hco
        exact build_sound hop hz (.inr ⟨_, _, _, hu, hsz, hy⟩) hs r hex
      · cases hco
    · cases hco
  case buildSlice t len parts =>
    split at hco
    · rename_i e hu
      split at hco
      · rename_i s z xs hsz hz hxs
        split at hco
        · rename_i hg
          injection hco with hco; subst hco
          split at hex
          · rename_i hm
            rw [if_pos hm] at hk
            exact bsliceM_sound hop hu hz hg.2.2.2 hg.2.2.1 hg.2.1 hg.1 hxs hs r (hk rfl).1 (hk rfl).2 hex
          · rename_i hm
            rw [if_neg hm] at hk hp hcl
            split at hex
            · rename_i l hl
              rw [hl] at hk
              split at hl
              · rename_i hs1
                obtain ⟨rfl, hu8⟩ := hs1
                exact bsliceT_sound hop hu hz hg.2.2.2 hg.2.1 hg.1 hxs hl hs r (hk rfl).1 (hk rfl).2 hex
              · cases hl
            · exact bslice_sound hop hu hz hg.2.2.2 hg.2.2.1 hg.2.1 hg.1 hxs hs r hex
        · cases hco
      · cases hco
    · cases hco
  case load t x =>
    split at hco
    · rename_i h1 h2
      injection hco with hco; subst hco
      exact load_sound hop h1 h2 hs r key hex
    · cases hco
  case store t p x =>
    split at hco
    · split at hco
      · rename_i h1 h2 h3 hpos
        injection hco with hco; subst hco
        exact store_sound hop h1 hpos h2 h3 hs r key hex
      · cases hco
    · cases hco
  case binOp bop t x y u =>
    split at hco
    · rename_i p q h1 h2
      split at hco
      · rename_i hbop
        split at hco
        · injection hco with hco; subst hco
          exact bin_sound hop h1 h2 hs r hex
        · rename_i hsc
          split at hco
          · cases hco
          · rename_i hgd
            split at hco
            · rename_i offs hoffs
              simp only [Option.map_eq_some_iff] at hco
              obtain ⟨s, hl, rfl⟩ := hco
              refine eq_sound hop hbop (by simpa using hsc) ?_ hoffs hl h1 h2 hs r key hex
              rw [hl] at hgd
              cases hg : P.eqGuardType P.depth t
              · exact .inl rfl
              · rw [hg] at hgd
                refine .inr ?_
                cases s with
                | none =>
                  refine ⟨rfl, ?_⟩
                  cases hx : isK x
                  · exact .inr (by simpa [hx] using hgd)
                  · exact .inl rfl
                | some n => simp at hgd
            · cases hco
      · injection hco with hco; subst hco
        exact bin_sound hop h1 h2 hs r hex
    · cases hco
  case unOp uop t x =>
    split at hco
    · rename_i h1
      injection hco with hco; subst hco
      exact neg_sound hop h1 hs r hex
    · rename_i h1
      injection hco with hco; subst hco
      exact not_sound hop h1 hs r hex
    · cases hco
  case convert s d x =>
    split at hco
    · rename_i sd dd y hus hud hc
      split at hco
      · injection hco with hco; subst hco
        exact cvInt_sound hop hus hud hc hs r hex
      · injection hco with hco; subst hco
        exact cvIntStr_sound hop hus hud hc hs r hex
      · injection hco with hco; subst hco
        exact cvStr_sound hop hus hud hc hs r hex
      · split at hco
        · rename_i e hg
          simp only [Bool.and_eq_true] at hg
          injection hco with hco; subst hco
          split at hex
          · rename_i hm
            rw [if_pos hm] at hk
            exact cvStrBytesM_sound hop hus (isU8_spec hg.1.1) hud hc hs r (hk rfl).1 (hk rfl).2 hex
          · rename_i hm
            rw [if_neg hm] at hk
            exact cvStrBytes_sound hop hus (isU8_spec hg.1.1) hud hc hs r (hk rfl).1 (hk rfl).2 hex
        · cases hco
      · split at hco
        · rename_i e1 e hg
          simp only [Bool.and_eq_true, beq_iff_eq] at hg
          obtain ⟨rfl, hg⟩ := hg
          injection hco with hco; subst hco
          exact cvMark_sound hop hud (isU8_spec hg) hc hs r hex
        · cases hco
      · split at hco
        · rename_i e hg
          injection hco with hco; subst hco
          exact cvBytesStr_sound hop hus (isU8_spec hg) hud hc hs r hex
        · cases hco
      · cases hco
    · cases hco
  case makeFunc f first caps =>
    split at hco
    · rename_i g xs hf hxs
      injection hco with hco; subst hco
      exact mkfn_sound hop hf hxs hs r hex
    · cases hco
  case makeSlice t l c =>
    split at hco
    · rename_i e hu
      split at hco
      · rename_i i zs z p q hi hz hzv h1 h2
        split at hco
        · rename_i hg
          injection hco with hco; subst hco
          split at hex
          · rename_i hm
            rw [if_pos hm] at hk
            exact mksliceM_sound hop hu hi hz hg.1 hg.2 hzv h1 h2 hs r (hk rfl).1 (hk rfl).2 hex
          · rename_i hm
            rw [if_neg hm] at hk
            exact mkslice_sound hop hu hi hz hg.1 hg.2 hzv h1 h2 hs r (hk rfl).1 (hk rfl).2 hex
        · cases hco
      · cases hco
    · cases hco
  case slice t x lo hi mx =>
    split at hco
    · rename_i n e p l hh hu hc h1 h2 h3
      split at hco
      · rename_i s hsz
        injection hco with hco; subst hco
        have : mx = none := by
          cases mx with
          | none => rfl
          | some m => simp [optX] at h3
        subst this
        exact sliceA_sound hop hu hsz hc h1 h2 hs r hex
      · cases hco
    · rename_i p l hh hu hc h1 h2 h3
      injection hco with hco; subst hco
      have : mx = none := by
        cases mx with
        | none => rfl
        | some m => simp [optX] at h3
      subst this
      exact sliceS_sound hop hu hc h1 h2 hs r hex
    · rename_i e p l hh m hu hc h1 h2 h3
      split at hco
      · rename_i s hsz
        split at hco
        · rename_i hg
          injection hco with hco; subst hco
          refine slice_sound hop hu hsz hc h1 h2 h3 ?_ hs r hex
          cases m with
          | none => exact .inl rfl
          | some m =>
            refine .inr ?_
            cases hh with
            | none => simp at hg
            | some q => simp
        · cases hco
      · cases hco
    · cases hco
  case fieldAddr t x f =>
    split at hco
    · rename_i fs y hu hc
      split at hco
      · rename_i fd hf
        split at hco
        · rename_i n hn
          split at hco
          · rename_i hpos
            injection hco with hco; subst hco
            exact off_sound hop hu hf hn hpos hc hs r hex
          · cases hco
        · cases hco
      · cases hco
    · cases hco
  case indexAddr t x i =>
    split at hco
    · rename_i e y j hu h1 h2
      simp only [Option.map_eq_some_iff] at hco
      obtain ⟨s, hsz, rfl⟩ := hco
      exact idx_sound hop hu hsz h1 h2 hs r hex
    · rename_i n e y j hu h1 h2
      split at hco
      · rename_i hn
        simp only [Option.map_eq_some_iff] at hco
        obtain ⟨s, hsz, rfl⟩ := hco
        exact idxA_sound hop hu hsz hn h1 h2 hs r hex
      · cases hco
    · cases hco
  case field t x f =>
    split at hco
    · rename_i fs y hu hc
      split at hco
      · rename_i fd hf
        simp only [Option.map_eq_some_iff] at hco
        obtain ⟨s, hl, rfl⟩ := hco
        exact field_sound hop hu hf hl hc hs r hex
      · cases hco
    · cases hco
  case index t x i =>
    split at hco
    · rename_i y j hu h1 h2
      injection hco with hco; subst hco
      exact indexS_sound hop hu h1 h2 hs r hex
    · rename_i n e y j hu h1 h2
      split at hco
      · rename_i s l hsz hl
        injection hco with hco; subst hco
        exact indexA_sound hop hu hsz hl h1 h2 hs r hex
      · cases hco
    · cases hco
  case makeInterface t x =>
    split at hco
    · rename_i d hu
      split at hco
      · cases hco
      · rename_i hni
        simp only [Option.map_eq_some_iff] at hco
        obtain ⟨y, hy, rfl⟩ := hco
        exact mkiface_sound hop hu (fun ms e => hni ms e) hy hs r hex
    · cases hco
  case extract x i =>
    simp only [Option.map_eq_some_iff] at hco
    obtain ⟨y, hy, rfl⟩ := hco
    exact ext_sound hop hy hs r hex
  case call c => exact call_sound hop hco hp hcl hs r hk hex
  case lookup t m k ok =>
    repeat' (split at hco)
    all_goals first
      | (cases hco; done)
      | (injection hco with hco; subst hco; cases hp)
  case mapUpdate t m k v =>
    repeat' (split at hco)
    all_goals first
      | (cases hco; done)
      | (injection hco with hco; subst hco; cases hp)
  case range t x =>
    split at hco
    · rename_i hu
      simp only [Option.map_eq_some_iff] at hco
      obtain ⟨y, hy, rfl⟩ := hco
      exact rangeS_sound hop hu hy hs r (hk rfl).1 (hk rfl).2 hex
    · cases hco
  case makeMap t rr =>
    cases rr <;> simp only at hco
    repeat' (split at hco)
    all_goals first
      | (cases hco; done)
      | (injection hco with hco; subst hco; cases hp)
  case next x ok =>
    cases ok <;> simp only at hco
    · cases hco
    · simp only [Option.map_eq_some_iff] at hco
      obtain ⟨y, hy, rfl⟩ := hco
      exact next_sound hop hy hs r hex
end
end Go.Am
