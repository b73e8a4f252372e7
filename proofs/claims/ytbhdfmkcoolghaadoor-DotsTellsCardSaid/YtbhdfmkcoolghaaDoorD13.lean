/-
  dots.Decode.
-/
import Derived.Test.YtbhdfmkcoolghaaDoorD12
set_option linter.unusedVariables false
set_option linter.unusedSimpArgs false
namespace Go.Proofs.YtbhdfmkcoolghaaDoor
open Go Go.Am

def decL : List Item → List UInt8 → Nat → Option (List UInt8 × Nat)
  | [], _, _ => none
  | x :: r, b, n => if x.2 = true then (if x.1 = [46] then some (b, n + (x.1.length + 2)) else decL r (b ++ unP x.1 ++ [13, 10]) (n + (x.1.length + 2))) else none
def decP (s : List UInt8) : Option (List UInt8 × Nat) := decL (linesP s) [] 0
def bodyL (xs : List Item) : List UInt8 := xs.flatMap fun x => unP x.1 ++ [13, 10]
def lenL : List Item → Nat
  | [] => 0
  | x :: r => x.1.length + 2 + lenL r
def goOn (xs : List Item) : Prop := ∀ x ∈ xs, x.2 = true ∧ x.1 ≠ [46]
theorem lenL_add : ∀ (xs : List Item) (x : Item), lenL (xs ++ [x]) = lenL xs + (x.1.length + 2)
  | [], x => by simp [lenL]
  | y :: r, x => by simp [lenL, lenL_add r x]; omega
theorem lenL_app : ∀ (xs ys : List Item), lenL (xs ++ ys) = lenL xs + lenL ys
  | [], ys => by simp [lenL]
  | y :: r, ys => by simp [lenL, lenL_app r ys]; omega
theorem bodyL_add (xs : List Item) (x : Item) : bodyL (xs ++ [x]) = bodyL xs ++ unP x.1 ++ [13, 10] := by simp [bodyL]
theorem unP_len (s : List UInt8) : (unP s).length ≤ s.length := by unfold unP; split <;> simp
theorem bodyL_len : ∀ xs : List Item, (bodyL xs).length ≤ lenL xs
  | [] => by simp [bodyL, lenL]
  | x :: r => by
    have := bodyL_len r
    have := unP_len x.1
    simp only [bodyL, List.flatMap_cons, List.length_append, List.length_cons, List.length_nil, lenL] at *
    omega
theorem decL_go : ∀ (xs ys : List Item) (b : List UInt8) (n : Nat), goOn xs → decL (xs ++ ys) b n = decL ys (b ++ bodyL xs) (n + lenL xs)
  | [], ys, b, n, _ => by simp [bodyL, lenL]
  | x :: r, ys, b, n, h => by
    have hx := h x (by simp)
    have := decL_go r ys (b ++ unP x.1 ++ [13, 10]) (n + (x.1.length + 2)) (fun y hy => h y (by simp [hy]))
    simp only [List.cons_append, decL, if_pos hx.1, if_neg hx.2, this]
    simp [bodyL, lenL, Nat.add_assoc]
theorem linesF_len : ∀ (n : Nat) (s : List UInt8), lenL (linesF n s) ≤ s.length + 2
  | 0, s => by simp [linesF, lenL]
  | n + 1, s => by
    simp only [linesF]
    split
    · simp [lenL]
    · split
      · rename_i i hc
        have := (cut_room s i hc).1
        have h1 := linesF_len n (s.drop (i + 2))
        simp only [lenL, List.length_take, List.length_drop] at *
        omega
      · simp [lenL]
theorem linesP_room {s : List UInt8} {pre post : List Item} (h : linesP s = pre ++ post) : lenL pre ≤ s.length + 2 := by
  have := linesF_len s.length s
  have h' : linesF s.length s = pre ++ post := h
  rw [h', lenL_app] at this
  omega

/-- Decode's boxes between two rounds. -/
def DecI (h0 : Heap) (pre : List Item) (h' : Heap) : Prop :=
  goOn pre ∧ (∃ rr, (rr = .full → pre = []) ∧ DecB h0.length h' (.list 1 [] .full) 0 false (bodyL pre) rr (lenL pre) ∧ Ow (h0.length + 8) h' 1 5 rr (bodyL pre).length) ∧ h'.take h0.length = h0 ∧ h0.length + 8 ≤ h'.length
def DecJ (h0 : Heap) (s : List UInt8) (ex : Ex) (pre : List Item) (h' : Heap) : Prop :=
  ex = .ret ∧ (∃ xs rr n ok out rr2 n2, DecB h0.length h' (.list 1 (ofBytes xs) rr) ((n : Nat) : Int) ok out rr2 n2 ∧ (xs = [] ∨ ∃ t m, rr = .tok t ∧ h'[t]? = some (.tok 1 m 5) ∧ h0.length + 8 ≤ t) ∧ decP s = (if ok then some (xs, n) else none) ∧ (ok = false → xs = [] ∧ n = 0)) ∧ h'.take h0.length = h0 ∧ h0.length + 8 ≤ h'.length
theorem decB_same {m : Nat} {h1 h2 : Heap} {a : AV} {b : Int} {c : Bool} {out : List UInt8} {rr : Rt} {n : Nat} (hb : DecB m h1 a b c out rr n) (hk : ∀ k, m ≤ k → k < m + 5 → h2[k]? = h1[k]?) : DecB m h2 a b c out rr n :=
  ⟨by rw [hk _ (by omega) (by omega)]; exact hb.b0, by rw [hk _ (by omega) (by omega)]; exact hb.b1, by rw [hk _ (by omega) (by omega)]; exact hb.b2, by rw [hk _ (by omega) (by omega)]; exact hb.b3, by rw [hk _ (by omega) (by omega)]; exact hb.b4⟩
theorem take_same {h0 h1 h2 : Heap} {b kL : Nat} (ht : h1.take h0.length = h0) (hl : h0.length ≤ h1.length) (hw : AsWas b kL h1 h2) (hb : h0.length ≤ b) (hk : h0.length ≤ kL) : h2.take h0.length = h0 :=
  take_get (by have := hw.1; omega) fun k hk' => by
    rw [hw.2 _ (by omega) (by omega) (by omega)]
    exact get_of_take (by rw [ht]; simp) hk'
theorem decI_same {h0 : Heap} {pre : List Item} {h1 h2 : Heap} (hi : DecI h0 pre h1) (hw : AsWas (h0.length + 5) (h0.length + 7) h1 h2) : DecI h0 pre h2 := by
  obtain ⟨hg, ⟨rr, hfu, hb, ow⟩, ht, hl⟩ := hi
  refine ⟨hg, ⟨rr, hfu, decB_same hb fun k k1 k2 => hw.2 _ (by omega) (by omega) (by omega), ow.same fun t ht => ?_⟩, take_same ht (by omega) hw (by omega) (by omega), by have := hw.1; omega⟩
  rcases ow with ow | ⟨t', k1, k2, k3⟩
  · rw [ow] at ht; cases ht
  · rw [ht] at k1
    injection k1 with k1
    subst k1
    exact hw.2 _ (lt_of_get k3) (by omega) (by omega)
theorem decJ_same {h0 : Heap} {s : List UInt8} {ex : Ex} {pre : List Item} {h1 h2 : Heap} (hi : DecJ h0 s ex pre h1) (hw : AsWas (h0.length + 5) (h0.length + 7) h1 h2) : DecJ h0 s ex pre h2 := by
  obtain ⟨he, ⟨xs, rr, n, ok, out, rr2, n2, hb, h4, h3⟩, ht, hl⟩ := hi
  refine ⟨he, ⟨xs, rr, n, ok, out, rr2, n2, decB_same hb fun k k1 k2 => hw.2 _ (by omega) (by omega) (by omega), ?_, h3⟩, take_same ht (by omega) hw (by omega) (by omega), by have := hw.1; omega⟩
  rcases h4 with h4 | ⟨t, m, h4, h5, h6⟩
  · exact .inl h4
  · exact .inr ⟨t, m, h4, by rw [hw.2 _ (lt_of_get h5) (by omega) (by omega)]; exact h5, h6⟩
def decA (h : Heap) (s : List UInt8) : AV × Heap :=
  match decP s with
  | some (b, n) => if b = [] then (.tup [.list 1 [] .no, .int .i64 ((n : Nat) : Int), .bool true], h) else (.tup [.gl 1 h.length b.length, .int .i64 ((n : Nat) : Int), .bool true], h ++ [.grow 1 (ofBytes b)])
  | none => (.tup [.list 1 [] .no, .int .i64 0, .bool false], h)
end Go.Proofs.YtbhdfmkcoolghaaDoor
