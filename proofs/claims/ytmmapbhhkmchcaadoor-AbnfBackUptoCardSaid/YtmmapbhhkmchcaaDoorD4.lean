/-
  abnf: text, bracketed, Print.
-/
import Derived.Test.YtmmapbhhkmchcaaDoorD3
set_option linter.unusedVariables false
set_option linter.unusedSimpArgs false
namespace Go.Proofs.YtmmapbhhkmchcaaDoor
open Go Go.Am

def InvBk (t : Tr) (ks : List UInt8) (r : Rt) (h0 : Heap) (k : Nat) (σ : Slots) (h : Heap) : Prop := ∃ i, i ≤ ks.length ∧ k = ks.length - i ∧ ks.contains t.k = (ks.drop i).contains t.k ∧ σ 2 = .ptr h0.length 0 ∧ σ 7 = .list 1 (ofBytes ks) r ∧ σ 8 = .int .i64 (ks.length : Nat) ∧ σ 9 = .int .i64 i ∧ h = h0 ++ [.cells t.encL]
theorem bracketed_ok (t : Tr) (tx : ∀ h, M.call 20 [t.enc] h = some (.str (textP t), h)) (hl : (textP t).length ≤ 1000000000) (ks : List UInt8) (hk : ks.length ≤ 1000) (r : Rt) (h0 : Heap) :
    M.call 39 [t.enc, .list 1 (ofBytes ks) r] h0 = some (.str (if ks.contains t.k then 40 :: (textP t ++ [41]) else textP t), h0) := by
  generalize hR : (if ks.contains t.k then 40 :: (textP t ++ [41]) else textP t) = R
  refine call_of tab39 rfl (callF_wp ?_)
  unfold Tr.enc at tx ⊢
  rw [Tr.encL_eq] at tx ⊢
  simp [wB39]
  refine Wp.loop (InvBk t ks r h0) ?_ (n := ks.length) ⟨0, by omega, by omega, by simp, by simp, by simp, by simp, by simp, by rw [Tr.encL_eq]⟩
  rintro k σ h ⟨i, hi, rfl, he, s2, s7, s8, s9, rfl⟩
  rw [Tr.encL_eq]
  have b1 : 1 + (textP t).length ≤ 140737488355328 := by omega
  have b2 : (textP t).length ≤ 140737488355326 := by omega
  by_cases hlt : i < ks.length
  · obtain ⟨c, ec⟩ : ∃ c, ks[i]? = some c := ⟨_, List.getElem?_eq_getElem hlt⟩
    have hd := drop_at ec
    have e64 : IntKind.wrap .i64 ((i : Int) + 1) = ((i + 1 : Nat) : Int) := by rw [wrap64 (by omega) (by omega)]; rfl
    have ee : ((t.k.toNat : Int) = c.toNat) = (t.k = c) := propext ⟨fun h => UInt8.toNat_inj.1 (by omega), fun h => by rw [h]⟩
    rw [hd] at he
    by_cases hc : t.k = c
    · have hct : ks.contains t.k = true := by rw [he]; simp [hc]
      rw [if_pos hct] at hR
      subst hR
      simp [-getElem?_pos, -Int.natCast_add, wL39_0, s2, s7, s8, s9, hlt, ec, ee.trans (eq_true hc), tx, b1, b2, Nat.add_assoc]
    · have hct : ks.contains t.k = (ks.drop (i + 1)).contains t.k := by rw [he]; simp [hc]
      simp [-getElem?_pos, -Int.natCast_add, wL39_0, s2, s7, s8, s9, hlt, ec, ee, hc, e64, Nat.add_assoc]
      exact ⟨ks.length - (i + 1), by omega, i + 1, by omega, rfl, hct, by simp [s2], by simp [s7], by simp [s8], by simp, by rw [Tr.encL_eq]⟩
  · have : i = ks.length := by omega
    subst this
    rw [List.drop_length] at he
    rw [he] at hR
    simp at hR
    subst hR
    simp [wL39_0, wK39_0, s2, s7, s8, s9, tx]
theorem ct5 (k : UInt8) : ([5, 6] : List UInt8).contains k = needs 5 k := by
  have := allU8 (p := fun k => ([5, 6] : List UInt8).contains k == needs 5 k) (by decide +kernel) k
  simpa using this
theorem ct6 (k : UInt8) : ([6] : List UInt8).contains k = needs 6 k := by
  have := allU8 (p := fun k => ([6] : List UInt8).contains k == needs 6 k) (by decide +kernel) k
  simpa using this
theorem ct7 (k : UInt8) : ([7, 5, 6] : List UInt8).contains k = needs 7 k := by
  have := allU8 (p := fun k => ([7, 5, 6] : List UInt8).contains k == needs 7 k) (by decide +kernel) k
  simpa using this
def InvTx0 (t : Tr) (h0 : Heap) (k : Nat) (σ : Slots) (h : Heap) : Prop := ∃ i r, i ≤ t.s.length ∧ k = t.s.length - i ∧ σ 1 = .ptr h0.length 0 ∧ σ 3 = .list 1 (((t.s.take i).map hexP).map AV.str) r ∧ σ 25 = .int .i64 (t.s.length : Nat) ∧ σ 26 = .int .i64 i ∧ Ow (h0.length + 1) h 1 9 r i ∧ h.take (h0.length + 1) = h0 ++ [.cells t.encL]
def InvTx1 (m : UInt8) (a b c : Nat) (E : TypeId) (t : Tr) (h0 : Heap) (k : Nat) (σ : Slots) (h : Heap) : Prop := ∃ i r, i ≤ t.kids.length ∧ k = t.kids.length - i ∧ σ a = .list 7 (t.kids.map Tr.enc) (rtB t.full) ∧ σ 3 = .list 1 (((t.kids.take i).map (brk m)).map AV.str) r ∧ σ b = .int .i64 (t.kids.length : Nat) ∧ σ c = .int .i64 i ∧ Ow (h0.length + 1) h 1 E r i ∧ h.take (h0.length + 1) = h0 ++ [.cells t.encL]
theorem text_okN : ∀ (n d : Nat) (t : Tr), t.size ≤ n → fitsP d t = true → t.wt ≤ 1000000000 → TOk t → ∀ h0 : Heap, M.call 20 [t.enc] h0 = some (.str (textP t), h0)
  | 0, d, t, hn, _, _, _, _ => by cases t; simp [Tr.size] at hn
  | n + 1, d, t, hn, hf, hw, hT, h0 => by
    have ha := fits_alone hf
    have hlen := text_len hf
    have kw : ∀ x ∈ t.kids, x.wt + 16 ≤ t.wt := fun x hx => wt_kid hx
    have ih : ∀ x ∈ t.kids, ∀ h0 : Heap, M.call 20 [x.enc] h0 = some (.str (textP x), h0) := fun x hx =>
      text_okN n (d - 1) x (by have := Tr.size_kid hx; omega) (fits_kid hf hx) (by have := kw x hx; omega) (hT.kid hx)
    have bk : ∀ x ∈ t.kids, ∀ (ks : List UInt8) (hk : ks.length ≤ 1000) (r : Rt) (h0 : Heap), M.call 39 [x.enc, .list 1 (ofBytes ks) r] h0 = some (.str (if ks.contains x.k then 40 :: (textP x ++ [41]) else textP x), h0) := fun x hx =>
      bracketed_ok x (ih x hx) (by have := text_len (fits_kid hf hx); have := kw x hx; omega)
    have hk := hT.n
    have hs := hT.s
    refine call_of tab20 rfl (callF_wp ?_)
    generalize hQ : (fun e σ h => isEnd e ∧ ∃ vs, resVals σ h [ARes.tmp 2] = some vs ∧ finish h0 h (oneOf vs) = some (.str (textP t), h0)) = Q
    have fin : ∀ (σ : Slots) (h : Heap) (v : List UInt8), v = textP t → σ 2 = .str v → h.take h0.length = h0 → Q .ret σ h := by
      intro σ h v hv s2 hh
      subst hQ
      subst hv
      simp [s2, finish_of_take hh]
    have hh0 : ∀ {h : Heap}, h.take (h0.length + 1) = h0 ++ [.cells t.encL] → h0.length + 1 ≤ h.length ∧ h.take h0.length = h0 ∧ ∀ q, (h ++ q)[h0.length]? = some (.cells t.encL) := by
      intro h hh
      have h1 : h0.length + 1 ≤ h.length := by
        have := congrArg List.length hh
        simp at this
        omega
      refine ⟨h1, ?_, fun q => ?_⟩
      · have := congrArg (List.take h0.length) hh
        rwa [List.take_take, Nat.min_eq_left (by omega), List.take_left' (by simp)] at this
      · rw [List.getElem?_append_left (by omega)]
        have := congrArg (fun q : Heap => q[h0.length]?) hh
        simp only [List.getElem?_take, if_pos (Nat.lt_succ_self _)] at this
        rw [this]
        simp
    have htx := textP_eq t
    unfold Tr.enc
    rcases alone_kinds ha with k | k | k | k | k | k | k
    · have e : textP t = t.s := by rw [htx, if_pos k]
      rw [Tr.encL_eq]
      simp [wB20, k]
      refine fin _ _ _ e.symm ?_ ?_ <;> simp
    · have e : textP t = 34 :: (t.s ++ [34]) := by rw [htx, k]; rfl
      have b1 : 1 + t.s.length ≤ 140737488355328 := by omega
      have b2 : t.s.length ≤ 140737488355326 := by omega
      rw [Tr.encL_eq]
      simp [wB20, k, b1, b2, Nat.add_assoc]
      refine fin _ _ _ e.symm ?_ ?_ <;> simp
    · have e : textP t = 37 :: 120 :: Lib.join (t.s.map hexP) [46] := by rw [htx, k]; rfl
      have jl : (Lib.join (t.s.map hexP) [46]).length + 2 ≤ 1000000000 := by rw [e] at hlen; simp at hlen; omega
      have jn := fun r h => join_ok (t.s.map hexP) [46] r (by simp; omega) (by omega) h
      have jb : 2 + (Lib.join (t.s.map hexP) [46]).length ≤ 140737488355328 := by omega
      have jb2 : (Lib.join (t.s.map hexP) [46]).length ≤ 140737488355326 := by omega
      have hcs : [AV.int .u8 (3 : Nat), .str t.s, .int .u8 t.lo.toNat, .int .u8 t.hi.toNat, .int .i64 t.mn, .int .i64 t.mx, .list 7 (t.kids.map Tr.enc) (rtB t.full)] = t.encL := by rw [Tr.encL_eq, k]; rfl
      rw [Tr.encL_eq]
      simp [wB20, k]
      refine Wp.loop (InvTx0 t h0) ?_ (n := t.s.length) ⟨0, .full, by omega, by omega, by simp, by simp, by simp, by simp, .full, by rw [List.take_of_length_le (by simp), ← hcs]; rfl⟩
      rintro j σ h ⟨i, r, hi, rfl, s1, s3, s25, s26, ow, hh⟩
      obtain ⟨hle, hh1, hat⟩ := hh0 hh
      have hat0 := hat []
      rw [List.append_nil] at hat0
      rw [Tr.encL_eq] at hat hat0
      by_cases hlt : i < t.s.length
      · obtain ⟨c, ec⟩ : ∃ c, t.s[i]? = some c := ⟨_, List.getElem?_eq_getElem hlt⟩
        have hx := hex_ok c
        have e64 : IntKind.wrap .i64 ((i : Int) + 1) = ((i + 1 : Nat) : Int) := by rw [wrap64 (by omega) (by omega)]; rfl
        simp [-getElem?_pos, -Int.natCast_add, -List.map_map, -List.map_take, wL20_0, s1, s3, s25, s26, hat, hat0, hlt, ec, hx, Nat.add_assoc]
        have hm : (((t.s.take i).map hexP).map AV.str).length = i := by simp; omega
        obtain ⟨r2, g2, p1, p2, p3⟩ := app_list (n0 := h0.length + 1) (key := h.length) (sz := 1) (bytes := 16) (e := 9) (h := h ++ [AE.dead]) (xs := ((t.s.take i).map hexP).map AV.str) (ys := [AV.str (hexP c)]) (r := r) (r2 := .full)
          (by rw [hm]; exact ow.app _) (by omega) (by simp) (by rw [hm]; simp; omega) (by rw [hm]; simp; omega)
        rw [hm] at p2
        rw [p1]
        simp [-Int.natCast_add, s26, e64]
        refine ⟨t.s.length - (i + 1), by omega, i + 1, r2, by omega, rfl, by simp [s1], ?_, by simp [s25], by simp, p2, by rw [p3.take, List.take_append_of_le_length (by omega), hh]⟩
        simp [List.take_add_one, ec]
      · have : i = t.s.length := by omega
        subst this
        rw [List.take_length] at s3
        simp [-List.map_map, -List.map_take, wL20_0, wK20_0, s1, s3, s25, s26, jn, jb, jb2]
        refine fin _ _ _ e.symm ?_ hh1
        simp
    · have e : textP t = 37 :: 120 :: (hexP t.lo ++ 45 :: hexP t.hi) := by rw [htx, k]; rfl
      have hx1 := hex_ok t.lo
      have hx2 := hex_ok t.hi
      have l1 : (hexP t.lo).length = 2 := rfl
      have l2 : (hexP t.hi).length = 2 := rfl
      rw [Tr.encL_eq]
      simp [wB20, k, hx1, hx2, l1, l2, Nat.add_assoc]
      refine fin _ _ _ e.symm ?_ ?_ <;> simp
    · have e : textP t = Lib.join (t.kids.map (brk 5)) [32] := by rw [htx, k]; rfl
      have jn := fun r h => join_ok (t.kids.map (brk 5)) [32] r (by simp; omega) (by rw [← e]; omega) h
      have hcs : [AV.int .u8 (5 : Nat), .str t.s, .int .u8 t.lo.toNat, .int .u8 t.hi.toNat, .int .i64 t.mn, .int .i64 t.mx, .list 7 (t.kids.map Tr.enc) (rtB t.full)] = t.encL := by rw [Tr.encL_eq, k]; rfl
      rw [Tr.encL_eq]
      simp [wB20, k]
      refine Wp.loop (InvTx1 5 69 70 71 9 t h0) ?_ (n := t.kids.length) ⟨0, .full, by omega, by omega, by simp, by simp, by simp, by simp, .full, by rw [List.take_of_length_le (by simp), ← hcs]; rfl⟩
      rintro j σ h ⟨i, r, hi, rfl, sa, s3, sb, sc, ow, hh⟩
      obtain ⟨hle, hh1, hat⟩ := hh0 hh
      by_cases hlt : i < t.kids.length
      · obtain ⟨x, ex⟩ : ∃ x, t.kids[i]? = some x := ⟨_, List.getElem?_eq_getElem hlt⟩
        have hx := fun r h => bk x (List.mem_of_getElem? ex) [5, 6] (by simp) r h
        have eb : (if ([5, 6] : List UInt8).contains x.k then 40 :: (textP x ++ [41]) else textP x) = brk 5 x := by rw [ct5]; rfl
        simp only [eb] at hx
        have e64 : IntKind.wrap .i64 ((i : Int) + 1) = ((i + 1 : Nat) : Int) := by rw [wrap64 (by omega) (by omega)]; rfl
        simp [-getElem?_pos, -Int.natCast_add, -List.map_map, -List.map_take, wL20_1, sa, s3, sb, sc, hlt, ex, hx, Nat.add_assoc]
        have hm : (((t.kids.take i).map (brk 5)).map AV.str).length = i := by simp; omega
        obtain ⟨r2, g2, p1, p2, p3⟩ := app_list (n0 := h0.length + 1) (key := h.length + 2) (sz := 1) (bytes := 16) (e := 9) (h := h ++ [AE.cells x.encL, AE.tok 1 2 5, AE.dead]) (xs := ((t.kids.take i).map (brk 5)).map AV.str) (ys := [AV.str (brk 5 x)]) (r := r) (r2 := .full)
          (by rw [hm]; exact ow.app _) (by omega) (by simp) (by rw [hm]; simp; omega) (by rw [hm]; simp; omega)
        rw [hm] at p2
        rw [p1]
        simp [-Int.natCast_add, sc, e64]
        refine ⟨t.kids.length - (i + 1), by omega, i + 1, r2, by omega, rfl, by simp [sa], ?_, by simp [sb], by simp, p2, by rw [p3.take, List.take_append_of_le_length (by omega), hh]⟩
        simp [List.take_add_one, ex]
      · have : i = t.kids.length := by omega
        subst this
        rw [List.take_length] at s3
        simp [-List.map_map, -List.map_take, wL20_1, wK20_1, sa, s3, sb, sc, jn]
        refine fin _ _ _ e.symm ?_ hh1
        simp
    · have e : textP t = Lib.join (t.kids.map (brk 6)) [32, 47, 32] := by rw [htx, k]; rfl
      have jn := fun r h => join_ok (t.kids.map (brk 6)) [32, 47, 32] r (by simp; omega) (by rw [← e]; omega) h
      have hcs : [AV.int .u8 (6 : Nat), .str t.s, .int .u8 t.lo.toNat, .int .u8 t.hi.toNat, .int .i64 t.mn, .int .i64 t.mx, .list 7 (t.kids.map Tr.enc) (rtB t.full)] = t.encL := by rw [Tr.encL_eq, k]; rfl
      rw [Tr.encL_eq]
      simp [wB20, wK20_3, k]
      refine Wp.loop (InvTx1 6 85 86 87 9 t h0) ?_ (n := t.kids.length) ⟨0, .full, by omega, by omega, by simp, by simp, by simp, by simp, .full, by rw [List.take_of_length_le (by simp), ← hcs]; rfl⟩
      rintro j σ h ⟨i, r, hi, rfl, sa, s3, sb, sc, ow, hh⟩
      obtain ⟨hle, hh1, hat⟩ := hh0 hh
      by_cases hlt : i < t.kids.length
      · obtain ⟨x, ex⟩ : ∃ x, t.kids[i]? = some x := ⟨_, List.getElem?_eq_getElem hlt⟩
        have hx := fun r h => bk x (List.mem_of_getElem? ex) [6] (by simp) r h
        have eb : (if ([6] : List UInt8).contains x.k then 40 :: (textP x ++ [41]) else textP x) = brk 6 x := by rw [ct6]; rfl
        simp only [eb] at hx
        have e64 : IntKind.wrap .i64 ((i : Int) + 1) = ((i + 1 : Nat) : Int) := by rw [wrap64 (by omega) (by omega)]; rfl
        simp [-getElem?_pos, -Int.natCast_add, -List.map_map, -List.map_take, wL20_2, sa, s3, sb, sc, hlt, ex, hx, Nat.add_assoc]
        have hm : (((t.kids.take i).map (brk 6)).map AV.str).length = i := by simp; omega
        obtain ⟨r2, g2, p1, p2, p3⟩ := app_list (n0 := h0.length + 1) (key := h.length + 2) (sz := 1) (bytes := 16) (e := 9) (h := h ++ [AE.cells x.encL, AE.tok 1 1 5, AE.dead]) (xs := ((t.kids.take i).map (brk 6)).map AV.str) (ys := [AV.str (brk 6 x)]) (r := r) (r2 := .full)
          (by rw [hm]; exact ow.app _) (by omega) (by simp) (by rw [hm]; simp; omega) (by rw [hm]; simp; omega)
        rw [hm] at p2
        rw [p1]
        simp [-Int.natCast_add, sc, e64]
        refine ⟨t.kids.length - (i + 1), by omega, i + 1, r2, by omega, rfl, by simp [sa], ?_, by simp [sb], by simp, p2, by rw [p3.take, List.take_append_of_le_length (by omega), hh]⟩
        simp [List.take_add_one, ex]
      · have : i = t.kids.length := by omega
        subst this
        rw [List.take_length] at s3
        simp [-List.map_map, -List.map_take, wL20_2, wK20_2, sa, s3, sb, sc, jn]
        refine fin _ _ _ e.symm ?_ hh1
        simp
    · have e : textP t = manyP t.mn t.mx ++ (t.kids.map (brk 7)).headD [] := by rw [htx, k]; rfl
      obtain ⟨a1, a2, a3, a4, a5, a6⟩ := alone7 ha k
      obtain ⟨x, hx⟩ : ∃ x, t.kids = [x] := by
        match t.kids, a1 with
        | [x], _ => exact ⟨x, rfl⟩
      have tm := many_ok t.mn t.mx a2 a3 a4 a5
      have bk7 := fun r h => bk x (by rw [hx]; simp) [7, 5, 6] (by simp) r h
      have eb : (if ([7, 5, 6] : List UInt8).contains x.k then 40 :: (textP x ++ [41]) else textP x) = brk 7 x := by rw [ct7]; rfl
      simp only [eb] at bk7
      have e2 : textP t = manyP t.mn t.mx ++ brk 7 x := by rw [e, hx]; rfl
      have b1 : (manyP t.mn t.mx).length + (brk 7 x).length ≤ 140737488355328 := by rw [e2] at hlen; simp at hlen; omega
      rw [Tr.encL_eq]
      simp [wB20, k, hx, tm, bk7, b1, Nat.add_assoc]
      refine fin _ _ _ e2.symm ?_ ?_ <;> simp
theorem text_ok (d : Nat) (t : Tr) (hf : fitsP d t = true) (hw : t.wt ≤ 1000000000) (hT : TOk t) (h0 : Heap) : M.call 20 [t.enc] h0 = some (.str (textP t), h0) := text_okN t.size d t (Nat.le_refl _) hf hw hT h0
/-- A rule's text, or an error. -/
def printP (x : Ru) : List UInt8 × Int := if namedP x.name && fitsP 100 x.tree then (x.name ++ ((if x.more then [32, 61, 47, 32] else [32, 61, 32]) ++ textP x.tree), 0) else ([], 2)
theorem print_ok (x : Ru) (hn : x.name.length ≤ 1000000000) (hw : x.tree.wt ≤ 1000000000) (hT : TOk x.tree) (h0 : Heap) : M.call 10 [ruA x] h0 = some (.tup [.str (printP x).1, .int .i64 (printP x).2], h0) := by
  have nm := named_ok x.name hn
  have rg := right_ok x.tree hT
  refine call_of tab10 rfl (callF_wp ?_)
  unfold printP
  cases h1 : namedP x.name with
  | false =>
    rw [h1] at nm
    simp [-getElem?_pos, wB10, ruA_cells, ruL_take, ruL_drop, ruL_agg, ruL_name, ruL_tree, ruL_more, nm]
  | true =>
    cases h2 : fitsP 100 x.tree with
    | false =>
      rw [h1] at nm
      rw [h2] at rg
      simp [-getElem?_pos, wB10, ruA_cells, ruL_take, ruL_drop, ruL_agg, ruL_name, ruL_tree, ruL_more, nm, rg]
    | true =>
      have tx := text_ok 100 x.tree h2 hw hT
      have tl := text_len h2
      rw [h1] at nm
      rw [h2] at rg
      cases h3 : x.more with
      | false =>
        have b1 : x.name.length + 3 ≤ 140737488355328 := by omega
        have b2 : x.name.length + (3 + (textP x.tree).length) ≤ 140737488355328 := by omega
        simp [-getElem?_pos, wB10, wJ10_0, ruA_cells, ruL_take, ruL_drop, ruL_agg, ruL_name, ruL_tree, ruL_more, nm, rg, tx, h3, b1, b2, Nat.add_assoc]
      | true =>
        have b1 : x.name.length + 4 ≤ 140737488355328 := by omega
        have b2 : x.name.length + (4 + (textP x.tree).length) ≤ 140737488355328 := by omega
        simp [-getElem?_pos, wB10, wJ10_0, ruA_cells, ruL_take, ruL_drop, ruL_agg, ruL_name, ruL_tree, ruL_more, nm, rg, tx, h3, b1, b2, Nat.add_assoc]
end Go.Proofs.YtmmapbhhkmchcaaDoor
