/-
  The reference: trees alone, within, small letters, leaves, kinds.
-/
import Derived.Test.YtmmapbhhkmchcaaGreatDoorB1
set_option linter.unusedVariables false
set_option linter.unusedSimpArgs false
namespace Go.Proofs.YtmmapbhhkmchcaaGreatDoor
open Go Go.Am

def InvRoo (t : Tr) (h0 : Heap) (k : Nat) (σ : Slots) (h : Heap) : Prop := ∃ i, i ≤ t.s.length ∧ k = t.s.length - i ∧ t.s.all prC = (t.s.drop i).all prC ∧ σ 1 = .ptr h0.length 0 ∧ σ 3 = .int .i64 i ∧ h = h0 ++ [.cells t.encL]
theorem prC_eq (d : UInt8) : prC d = (decide (32 ≤ d.toNat) && decide (d.toNat ≤ 126) && !decide (d = 34)) := by
  unfold prC okC
  by_cases h : d = 34
  · subst h; decide
  · simp [h]
set_option maxRecDepth 20000 in
set_option maxHeartbeats 1000000 in
theorem rone_ok (t : Tr) (hs : t.s.length ≤ 1000000000) (h0 : Heap) : M.call 84 [t.enc] h0 = some (.bool (aloneP t), h0) := by
  refine call_of tab84 rfl (callF_wp ?_)
  generalize hQ : (fun e σ h => isEnd e ∧ ∃ vs, resVals σ h [ARes.tmp 2] = some vs ∧ finish h0 h (oneOf vs) = some (.bool (aloneP t), h0)) = Q
  have fin : ∀ (b : Bool), b = aloneP t → ∀ (σ : Slots) (l : List AE), σ 2 = .bool b → Q .ret σ (h0 ++ l) := by
    intro b hb σ l s2
    subst hQ
    subst hb
    simp [s2]
  have n1 := rnamed_ok t.s hs
  have z1 : (t.lo.toNat = 0) = (t.lo = 0) := propext (by rw [← UInt8.toNat_inj]; rfl)
  have z2 : (t.hi.toNat = 0) = (t.hi = 0) := propext (by rw [← UInt8.toNat_inj]; rfl)
  have ke : ∀ k : Nat, k < 256 → ((t.k.toNat : Int) = (k : Int)) = (t.k = UInt8.ofNat k) := fun k hk => u8_eq t.k k hk
  have k1' := ke 1 (by omega)
  have k2' := ke 2 (by omega)
  have k3' := ke 3 (by omega)
  have k4' := ke 4 (by omega)
  have k5' := ke 5 (by omega)
  have k6' := ke 6 (by omega)
  have k7' := ke 7 (by omega)
  simp at k1' k2' k3' k4' k5' k6' k7'
  clear ke
  have hk : decide (t.kids = []) = t.kids.isEmpty := by cases t.kids <;> simp
  have z5 : t.s.isEmpty = decide (t.s = []) := by cases t.s <;> simp
  unfold Tr.enc
  rw [Tr.encL_eq]
  by_cases k1 : t.k = 1
  · have ha : aloneP t = (namedP t.s && (t.kids.isEmpty && (t.lo == 0 && t.hi == 0 && t.mn == 0 && t.mx == 0))) := by unfold aloneP; rw [if_pos k1]
    rw [ha] at fin
    by_cases y1 : t.lo = 0
    · by_cases y2 : t.hi = 0
      · by_cases y3 : t.mn = 0
        · by_cases y4 : t.mx = 0
          · cases hn : namedP t.s
            · simp [wB84, k1', k1, z1, z2, y1, y2, y3, y4, n1, hn]
              refine fin false ?_ _ _ ?_ <;> simp [hn]
            · simp [wB84, k1', k1, z1, z2, y1, y2, y3, y4, n1, hn]
              refine fin t.kids.isEmpty ?_ _ _ ?_ <;> simp [hn, y1, y2, y3, y4, hk]
          · simp [wB84, k1', k1, z1, z2, y1, y2, y3, y4]
            refine fin false ?_ _ _ ?_ <;> simp [y4]
        · simp [wB84, k1', k1, z1, z2, y1, y2, y3]
          refine fin false ?_ _ _ ?_ <;> simp [y3]
      · simp [wB84, k1', k1, z1, z2, y1, y2]
        refine fin false ?_ _ _ ?_ <;> simp [y2]
    · simp [wB84, k1', k1, z1, z2, y1]
      refine fin false ?_ _ _ ?_ <;> simp [y1]
  by_cases k2 : t.k = 2
  · have ha : aloneP t = (t.s.all prC && (t.kids.isEmpty && (t.lo == 0 && t.hi == 0 && t.mn == 0 && t.mx == 0))) := by unfold aloneP; rw [if_neg k1, if_pos k2]
    rw [ha] at fin
    by_cases y1 : t.lo = 0
    · by_cases y2 : t.hi = 0
      · by_cases y3 : t.mn = 0
        · by_cases y4 : t.mx = 0
          · simp [wB84, k1', k2', k1, k2, z1, z2, y1, y2, y3, y4]
            have hcell : [AV.int .u8 (2 : Nat), AV.str t.s, AV.int .u8 0, AV.int .u8 0, AV.int .i64 0, AV.int .i64 0, AV.list 7 (t.kids.map Tr.enc) (rtB t.full)] = t.encL := by rw [Tr.encL_eq, k2, y1, y2, y3, y4]; rfl
            refine Wp.loop (InvRoo t h0) ?_ (n := t.s.length) ⟨0, by omega, by omega, by simp, by simp, by simp, by rw [← hcell]; simp⟩
            rintro k σ h ⟨i, hi, rfl, hn, s1, s3, rfl⟩
            rw [Tr.encL_eq]
            by_cases hlt : i < t.s.length
            · obtain ⟨d, ed⟩ : ∃ d, t.s[i]? = some d := ⟨_, List.getElem?_eq_getElem hlt⟩
              have hd := drop_at ed
              have e64 : IntKind.wrap .i64 ((i : Int) + 1) = ((i + 1 : Nat) : Int) := by rw [wrap64 (by omega) (by omega)]; rfl
              have e34 : ((d.toNat : Int) = 34) = (d = 34) := u8_eq d 34 (by omega)
              rw [hd] at hn
              have pd := prC_eq d
              have bad : prC d = false → ∀ σ l, σ 2 = .bool false → Q .ret σ (h0 ++ l) := fun q => fin false (by rw [hn]; simp [q])
              by_cases b1 : d.toNat < 32
              · simp [-getElem?_pos, -Int.natCast_add, wL84_0, s1, s3, hlt, ed, lit_lt, lt_lit, b1]
                refine bad (by rw [pd]; simp; omega) _ _ ?_
                simp
              by_cases b2 : 126 < d.toNat
              · simp [-getElem?_pos, -Int.natCast_add, wL84_0, s1, s3, hlt, ed, lit_lt, lt_lit, b1, b2]
                refine bad (by rw [pd]; simp; omega) _ _ ?_
                simp
              by_cases b3 : d = 34
              · have e34' := e34.trans (eq_true b3)
                simp [-getElem?_pos, -Int.natCast_add, wL84_0, s1, s3, hlt, ed, lit_lt, lt_lit, b1, b2, e34']
                refine bad (by rw [pd]; simp [b3]) _ _ ?_
                simp
              · have e34' := e34.trans (eq_false b3)
                simp [-getElem?_pos, -Int.natCast_add, wL84_0, s1, s3, hlt, ed, lit_lt, lt_lit, b1, b2, e34', e64]
                refine ⟨t.s.length - (i + 1), by omega, i + 1, by omega, rfl, ?_, by simp [s1], by simp, by rw [Tr.encL_eq]⟩
                rw [hn, List.all_cons, pd]
                have q1 : 32 ≤ d.toNat := by omega
                have q2 : d.toNat ≤ 126 := by omega
                simp [b3, q1, q2]
            · have hall : t.s.all prC = true := by rw [hn, List.drop_eq_nil_of_le (by omega)]; rfl
              simp [wL84_0, wK84_0, s1, s3, hlt]
              refine fin t.kids.isEmpty ?_ _ _ ?_ <;> simp [hall, y1, y2, y3, y4, hk]
          · simp [wB84, k1', k2', k1, k2, z1, z2, y1, y2, y3, y4]
            refine fin false ?_ _ _ ?_ <;> simp [y4]
        · simp [wB84, k1', k2', k1, k2, z1, z2, y1, y2, y3]
          refine fin false ?_ _ _ ?_ <;> simp [y3]
      · simp [wB84, k1', k2', k1, k2, z1, z2, y1, y2]
        refine fin false ?_ _ _ ?_ <;> simp [y2]
    · simp [wB84, k1', k2', k1, k2, z1, z2, y1]
      refine fin false ?_ _ _ ?_ <;> simp [y1]
  by_cases k3 : t.k = 3
  · have ha : aloneP t = (!t.s.isEmpty && (t.kids.isEmpty && (t.lo == 0 && t.hi == 0 && t.mn == 0 && t.mx == 0))) := by unfold aloneP; rw [if_neg k1, if_neg k2, if_pos k3]
    rw [ha] at fin
    by_cases y1 : t.lo = 0
    · by_cases y2 : t.hi = 0
      · by_cases y3 : t.mn = 0
        · by_cases y4 : t.mx = 0
          · by_cases y5 : t.s = []
            · simp [wB84, k1', k2', k3', k1, k2, k3, z1, z2, y1, y2, y3, y4, y5]
              refine fin false ?_ _ _ ?_ <;> simp [y5]
            · simp [wB84, k1', k2', k3', k1, k2, k3, z1, z2, y1, y2, y3, y4, y5]
              refine fin t.kids.isEmpty ?_ _ _ ?_ <;> simp [y5, y1, y2, y3, y4, hk, z5]
          · simp [wB84, k1', k2', k3', k1, k2, k3, z1, z2, y1, y2, y3, y4]
            refine fin false ?_ _ _ ?_ <;> simp [y4]
        · simp [wB84, k1', k2', k3', k1, k2, k3, z1, z2, y1, y2, y3]
          refine fin false ?_ _ _ ?_ <;> simp [y3]
      · simp [wB84, k1', k2', k3', k1, k2, k3, z1, z2, y1, y2]
        refine fin false ?_ _ _ ?_ <;> simp [y2]
    · simp [wB84, k1', k2', k3', k1, k2, k3, z1, z2, y1]
      refine fin false ?_ _ _ ?_ <;> simp [y1]
  by_cases k4 : t.k = 4
  · have ha : aloneP t = (decide (t.lo.toNat ≤ t.hi.toNat) && (t.kids.isEmpty && (t.s.isEmpty && t.mn == 0 && t.mx == 0))) := by unfold aloneP; rw [if_neg k1, if_neg k2, if_neg k3, if_pos k4]
    rw [ha] at fin
    by_cases y5 : t.s = []
    · by_cases y3 : t.mn = 0
      · by_cases y4 : t.mx = 0
        · by_cases y6 : t.lo.toNat ≤ t.hi.toNat
          · simp [wB84, k1', k2', k3', k4', k1, k2, k3, k4, y3, y4, y5, y6]
            refine fin t.kids.isEmpty ?_ _ _ ?_ <;> simp [y5, y3, y4, y6, hk]
          · simp [wB84, k1', k2', k3', k4', k1, k2, k3, k4, y3, y4, y5, y6]
            refine fin false ?_ _ _ ?_ <;> simp [y6]
        · simp [wB84, k1', k2', k3', k4', k1, k2, k3, k4, y3, y4, y5]
          refine fin false ?_ _ _ ?_ <;> simp [y4]
      · simp [wB84, k1', k2', k3', k4', k1, k2, k3, k4, y3, y5]
        refine fin false ?_ _ _ ?_ <;> simp [y3]
    · simp [wB84, k1', k2', k3', k4', k1, k2, k3, k4, y5]
      refine fin false ?_ _ _ ?_ <;> simp [y5]
  by_cases k56 : t.k = 5 ∨ t.k = 6
  · have ha : aloneP t = (decide (2 ≤ t.kids.length) && (t.s.isEmpty && t.lo == 0 && t.hi == 0 && t.mn == 0 && t.mx == 0)) := by unfold aloneP; rw [if_neg k1, if_neg k2, if_neg k3, if_neg k4, if_pos k56]
    rw [ha] at fin
    have k7 : ¬ t.k = 7 := by rcases k56 with e | e <;> rw [e] <;> decide
    by_cases y5 : t.s = []
    · by_cases y1 : t.lo = 0
      · by_cases y2 : t.hi = 0
        · by_cases y3 : t.mn = 0
          · by_cases y4 : t.mx = 0
            · have e2 : (1 < t.kids.length) = (2 ≤ t.kids.length) := rfl
              by_cases k5 : t.k = 5
              · simp [wB84, k1', k2', k3', k4', k5', k6', k7', k1, k2, k3, k4, k5, k7, z1, z2, y1, y2, y3, y4, y5, lit_lt]
                refine fin (decide (2 ≤ t.kids.length)) ?_ _ _ ?_ <;> simp [y1, y2, y3, y4, y5, e2]
              · have k6 : t.k = 6 := by simpa [k5] using k56
                simp [wB84, k1', k2', k3', k4', k5', k6', k7', k1, k2, k3, k4, k5, k6, k7, z1, z2, y1, y2, y3, y4, y5, lit_lt]
                refine fin (decide (2 ≤ t.kids.length)) ?_ _ _ ?_ <;> simp [y1, y2, y3, y4, y5, e2]
            · simp [wB84, k1', k2', k3', k4', k7', k1, k2, k3, k4, k7, z1, z2, y1, y2, y3, y4, y5]
              refine fin false ?_ _ _ ?_ <;> simp [y4]
          · simp [wB84, k1', k2', k3', k4', k7', k1, k2, k3, k4, k7, z1, z2, y1, y2, y3, y5]
            refine fin false ?_ _ _ ?_ <;> simp [y3]
        · simp [wB84, k1', k2', k3', k4', k7', k1, k2, k3, k4, k7, z1, z2, y1, y2, y5]
          refine fin false ?_ _ _ ?_ <;> simp [y2]
      · simp [wB84, k1', k2', k3', k4', k7', k1, k2, k3, k4, k7, z1, z2, y1, y5]
        refine fin false ?_ _ _ ?_ <;> simp [y1]
    · simp [wB84, k1', k2', k3', k4', k7', k1, k2, k3, k4, k7, y5]
      refine fin false ?_ _ _ ?_ <;> simp [y5]
  obtain ⟨k5, k6⟩ := not_or.1 k56
  by_cases k7 : t.k = 7
  · have ha : aloneP t = (decide (t.kids.length = 1 ∧ 0 ≤ t.mn ∧ t.mn ≤ 9999 ∧ (t.mx = -1 ∨ t.mn ≤ t.mx ∧ t.mx ≤ 9999)) && (t.s.isEmpty && t.lo == 0 && t.hi == 0)) := by unfold aloneP; rw [if_neg k1, if_neg k2, if_neg k3, if_neg k4, if_neg k56, if_pos k7]
    rw [ha] at fin
    by_cases y5 : t.s = []
    · by_cases y1 : t.lo = 0
      · by_cases y2 : t.hi = 0
        · by_cases p0 : t.kids.length = 1
          · by_cases p1 : 0 ≤ t.mn
            · by_cases p2 : t.mn ≤ 9999
              · by_cases p5 : t.mx ≤ 9999
                · by_cases p3 : t.mx = -1
                  · simp [wB84, k1', k2', k3', k4', k5', k6', k7', k1, k2, k3, k4, k5, k6, k7, z1, z2, y1, y2, y5, p0, p1, p2, p3, p5]
                    refine fin true ?_ _ _ ?_ <;> simp [y1, y2, y5, p0, p1, p2, p3]
                  · simp [wB84, k1', k2', k3', k4', k5', k6', k7', k1, k2, k3, k4, k5, k6, k7, z1, z2, y1, y2, y5, p0, p1, p2, p3, p5]
                    refine fin (decide (t.mn ≤ t.mx)) ?_ _ _ ?_ <;> simp [y1, y2, y5, p0, p1, p2, p3, p5]
                · have p3 : ¬ t.mx = -1 := by omega
                  simp [wB84, k1', k2', k3', k4', k5', k6', k7', k1, k2, k3, k4, k5, k6, k7, z1, z2, y1, y2, y5, p0, p1, p2, p5]
                  refine fin false ?_ _ _ ?_ <;> simp [p5, p3]
              · simp [wB84, k1', k2', k3', k4', k5', k6', k7', k1, k2, k3, k4, k5, k6, k7, z1, z2, y1, y2, y5, p0, p1, p2]
                refine fin false ?_ _ _ ?_ <;> simp [p2]
            · simp [wB84, k1', k2', k3', k4', k5', k6', k7', k1, k2, k3, k4, k5, k6, k7, z1, z2, y1, y2, y5, p0, p1]
              refine fin false ?_ _ _ ?_ <;> simp [p1]
          · have p0' : ¬ ((t.kids.length : Int) = 1) := by omega
            simp [wB84, k1', k2', k3', k4', k5', k6', k7', k1, k2, k3, k4, k5, k6, k7, z1, z2, y1, y2, y5, p0, p0']
            refine fin false ?_ _ _ ?_ <;> simp [p0]
        · simp [wB84, k1', k2', k3', k4', k7', k1, k2, k3, k4, k7, z1, z2, y1, y2, y5]
          refine fin false ?_ _ _ ?_ <;> simp [y2]
      · simp [wB84, k1', k2', k3', k4', k7', k1, k2, k3, k4, k7, z1, z2, y1, y5]
        refine fin false ?_ _ _ ?_ <;> simp [y1]
    · simp [wB84, k1', k2', k3', k4', k7', k1, k2, k3, k4, k7, y5]
      refine fin false ?_ _ _ ?_ <;> simp [y5]
  have ha : aloneP t = false := by unfold aloneP; rw [if_neg k1, if_neg k2, if_neg k3, if_neg k4, if_neg k56, if_neg k7]
  rw [ha] at fin
  have fin := fin false rfl
  by_cases y5 : t.s = []
  · by_cases y1 : t.lo = 0
    · by_cases y2 : t.hi = 0
      · by_cases y3 : t.mn = 0
        · by_cases y4 : t.mx = 0
          · simp [wB84, wK84_1, k1', k2', k3', k4', k5', k6', k7', k1, k2, k3, k4, k5, k6, k7, z1, z2, y1, y2, y3, y4, y5]
            refine fin _ _ ?_
            simp
          · simp [wB84, k1', k2', k3', k4', k7', k1, k2, k3, k4, k7, z1, z2, y1, y2, y3, y4, y5]
            refine fin _ _ ?_
            simp
        · simp [wB84, k1', k2', k3', k4', k7', k1, k2, k3, k4, k7, z1, z2, y1, y2, y3, y5]
          refine fin _ _ ?_
          simp
      · simp [wB84, k1', k2', k3', k4', k7', k1, k2, k3, k4, k7, z1, z2, y1, y2, y5]
        refine fin _ _ ?_
        simp
    · simp [wB84, k1', k2', k3', k4', k7', k1, k2, k3, k4, k7, z1, z2, y1, y5]
      refine fin _ _ ?_
      simp
  · simp [wB84, k1', k2', k3', k4', k7', k1, k2, k3, k4, k7, y5]
    refine fin _ _ ?_
    simp

set_option maxRecDepth 20000 in
theorem rone7_ok (mn mx : Int) (b : Nat) (h0 : Heap) : M.call 84 [.agg [.int .u8 7, .str [], .int .u8 0, .int .u8 0, .int .i64 mn, .int .i64 mx, .sl 7 b 0 1 1]] h0 = some (.bool (times7 mn mx), h0) := by
  refine call_of tab84 rfl (callF_wp ?_)
  generalize hQ : (fun e σ h => isEnd e ∧ ∃ vs, resVals σ h [ARes.tmp 2] = some vs ∧ finish h0 h (oneOf vs) = some (.bool (times7 mn mx), h0)) = Q
  have fin : ∀ (b : Bool), b = times7 mn mx → ∀ (σ : Slots) (l : List AE), σ 2 = .bool b → Q .ret σ (h0 ++ l) := by
    intro b hb σ l s2
    subst hQ
    subst hb
    simp [s2]
  unfold times7 at fin
  by_cases p1 : 0 ≤ mn
  · by_cases p2 : mn ≤ 9999
    · by_cases p5 : mx ≤ 9999
      · by_cases p3 : mx = -1
        · simp [wB84, p1, p2, p3, p5]
          refine fin true ?_ _ _ ?_ <;> simp [p1, p2, p3]
        · simp [wB84, p1, p2, p3, p5]
          refine fin (decide (mn ≤ mx)) ?_ _ _ ?_ <;> simp [p1, p2, p3, p5]
      · have p3 : ¬ mx = -1 := by omega
        simp [wB84, p1, p2, p5]
        refine fin false ?_ _ _ ?_ <;> simp [p5, p3]
    · simp [wB84, p1, p2]
      refine fin false ?_ _ _ ?_ <;> simp [p2]
  · simp [wB84, p1]
    refine fin false ?_ _ _ ?_ <;> simp [p1]

def InvRi (t : Tr) (d : Nat) (h0 : Heap) (k : Nat) (σ : Slots) (h : Heap) : Prop := ∃ i, i ≤ t.kids.length ∧ k = t.kids.length - i ∧ (t.kids.take i).all (fitsP d) = true ∧ σ 1 = .int .i64 ((d + 1 : Nat) : Int) ∧ σ 2 = .ptr h0.length 0 ∧ σ 5 = .int .i64 i ∧ h.take (h0.length + 1) = h0 ++ [.cells t.encL]
theorem rwithin_ok : ∀ (d : Nat) (t : Tr), d ≤ 1000 → TOk t → ∀ h0 : Heap, M.call 43 [t.enc, .int .i64 d] h0 = some (.bool (fitsP d t), h0)
  | 0, t, _, ht, h0 => by
    refine call_of tab43 rfl (callF_wp ?_)
    unfold Tr.enc
    rw [Tr.encL_eq]
    simp [wB43, fitsP]
  | d + 1, t, hd, ht, h0 => by
    refine call_of tab43 rfl (callF_wp ?_)
    have ih := fun k hk h => rwithin_ok d k (by omega) (ht.kid hk) h
    have ha := rone_ok t ht.s
    have hn := ht.n
    unfold Tr.enc at ha
    rw [Tr.encL_eq] at ha
    unfold Tr.enc
    rw [Tr.encL_eq]
    have h1 : ¬ ((d : Int) + 1 = 0) := by omega
    unfold fitsP
    cases hal : aloneP t
    · simp [wB43, h1, ha, hal]
    · simp [wB43, h1, ha, hal]
      refine Wp.loop (InvRi t d h0) ?_ (n := t.kids.length) ⟨0, by omega, by omega, by simp, by simp, by simp, by simp, by rw [List.take_of_length_le (by simp), Tr.encL_eq]⟩
      rintro k σ h ⟨i, hi, rfl, hal, s1, s2, s5, hh⟩
      have hlen : h0.length + 1 ≤ h.length := by
        have := congrArg List.length hh
        simp at this
        omega
      have hh0 : h.take h0.length = h0 := by
        have := congrArg (List.take h0.length) hh
        simpa [List.take_take] using this
      have hat : ∀ q : Heap, (h ++ q)[h0.length]? = some (.cells t.encL) := fun q => by
        rw [List.getElem?_append_left (by omega)]
        have := congrArg (fun q : Heap => q[h0.length]?) hh
        simp only [List.getElem?_take, if_pos (Nat.lt_succ_self _)] at this
        rw [this]
        simp
      have hat0 := hat []
      rw [List.append_nil] at hat0
      rw [Tr.encL_eq] at hat hat0
      by_cases hlt : i < t.kids.length
      · obtain ⟨x, ex⟩ : ∃ x, t.kids[i]? = some x := ⟨_, List.getElem?_eq_getElem hlt⟩
        have hx := ih x (List.mem_of_getElem? ex)
        have e64 : IntKind.wrap .i64 ((i : Int) + 1) = ((i + 1 : Nat) : Int) := by rw [wrap64 (by omega) (by omega)]; rfl
        have e1 : IntKind.wrap .i64 (((d + 1 : Nat) : Int) - 1) = (d : Int) := by rw [wrap64 (by omega) (by omega)]; omega
        cases hf : fitsP d x
        · simp [-getElem?_pos, -Int.natCast_add, wL43_0, s1, s2, s5, hat, hat0, hlt, ex, e1, hx, hf, Nat.add_assoc]
          have : t.kids.all (fitsP d) = false := by rw [List.all_eq_false]; exact ⟨x, List.mem_of_getElem? ex, by simp [hf]⟩
          simp [this, finish_of_take hh0]
        · simp [-getElem?_pos, -Int.natCast_add, wL43_0, s1, s2, s5, hat, hat0, hlt, ex, e1, hx, hf, e64, Nat.add_assoc]
          refine ⟨t.kids.length - (i + 1), by omega, i + 1, by omega, rfl, ?_, by simp [s1], by simp [s2], by simp, hh⟩
          rw [List.take_add_one, ex]
          simp [hal, hf]
      · have : i = t.kids.length := by omega
        subst this
        rw [List.take_length] at hal
        simp [wL43_0, wK43_0, s1, s2, s5, hat, hat0, finish_of_take hh0, hal]
theorem rright_ok (t : Tr) (ht : TOk t) (h0 : Heap) : M.call 15 [t.enc] h0 = some (.bool (fitsP 100 t), h0) := by
  refine call_of tab15 rfl (callF_wp ?_)
  have := rwithin_ok 100 t (by omega) ht
  unfold Tr.enc at this ⊢
  rw [Tr.encL_eq] at this ⊢
  simp at this
  simp [wB15, this]
end Go.Proofs.YtmmapbhhkmchcaaGreatDoor
