/-
  lex: the rows of tokens; which token stands at a place.
-/
import Derived.Test.YtmmapbhhkmchcaaDoorS4
set_option linter.unusedVariables false
set_option linter.unusedSimpArgs false
namespace Go.Proofs.YtmmapbhhkmchcaaDoor
open Go Go.Am

abbrev RowP := (UInt8 → Bool) × (List UInt8 → Fd)
def rowsP : List RowP := [(letC, nameP), (fun c => c == 61, isP), (fun c => c == 47, fun _ => signP 4), (fun c => c == 40, fun _ => signP 5), (fun c => c == 41, fun _ => signP 6), (fun c => c == 91, fun _ => signP 7), (fun c => c == 93, fun _ => signP 8),
  (fun c => digC c || c == 42, timesP), (fun c => c == 34, charsP), (fun c => c == 37, valueP), (fun c => c == 60, fun _ => { err := 16 }), (fun _ => true, fun _ => { err := 11 })]
def boxC (c : UInt8) : AE := .cells [.int .u8 c.toNat]
def rowsH : List AE := [boxC 61, boxC 47, boxC 4, boxC 40, boxC 5, boxC 41, boxC 6, boxC 91, boxC 7, boxC 93, boxC 8, boxC 34, boxC 37, boxC 60]
def rowA (f : FuncId) (fc : List AV) (g : FuncId) (gc : List AV) : AV := .agg [.fn f fc, .fn g gc]
def rowsA (n : Nat) : List AV := [rowA 30 [] 44 [], rowA 43 [.ptr n 0] 45 [], rowA 43 [.ptr (n + 1) 0] 67 [.ptr (n + 2) 0], rowA 43 [.ptr (n + 3) 0] 67 [.ptr (n + 4) 0],
  rowA 43 [.ptr (n + 5) 0] 67 [.ptr (n + 6) 0], rowA 43 [.ptr (n + 7) 0] 67 [.ptr (n + 8) 0], rowA 43 [.ptr (n + 9) 0] 67 [.ptr (n + 10) 0],
  rowA 47 [] 49 [], rowA 43 [.ptr (n + 11) 0] 50 [], rowA 43 [.ptr (n + 12) 0] 51 [], rowA 43 [.ptr (n + 13) 0] 52 [], rowA 53 [] 54 []]

theorem one_ok (c : UInt8) (h : Heap) : M.call 42 [.int .u8 c.toNat] h = some (.fn 43 [.ptr h.length 0], h ++ [boxC c]) := by
  refine call_of tab42 rfl (callF_wpK ?_)
  simp [wB42, boxC]
theorem sign_ok (c : UInt8) (h : Heap) : M.call 46 [.int .u8 c.toNat] h = some (.fn 67 [.ptr h.length 0], h ++ [boxC c]) := by
  refine call_of tab46 rfl (callF_wpK ?_)
  simp [wB46, boxC]
theorem eq_ok (c d : UInt8) (b : Nat) (h : Heap) (hb : h[b]? = some (boxC d)) : M.call 43 [.int .u8 c.toNat, .ptr b 0] h = some (.bool (c == d), h) := by
  refine call_of tab43 rfl (callF_wp ?_)
  have e : ((d.toNat : Int) = (c.toNat : Int)) = (c = d) := by
    apply propext
    exact ⟨fun e => UInt8.toNat_inj.1 (by omega), fun e => by rw [e]⟩
  unfold boxC at hb
  by_cases hcd : c = d
  · subst hcd
    simp [wB43, hb]
  · have e' : ((d.toNat : Int) = (c.toNat : Int)) = False := by rw [e]; exact eq_false hcd
    simp [wB43, hb, e', hcd]
    try omega
theorem dig2_ok (c : UInt8) (h : Heap) : M.call 47 [.int .u8 c.toNat] h = some (.bool (digC c || c == 42), h) := by
  refine call_of tab47 rfl (callF_wp ?_)
  have e2 : ((c.toNat : Int) = 42) = ((c == 42) = true) := by
    rw [show ((c == 42) = true) = (c = 42) by simp]
    exact u8_eq c 42 (by omega)
  cases h3 : c == 42 <;> rw [h3] at e2
  · simp at e2
    have e3 := eq_false e2
    cases h2 : digC c <;> simp [wB47, digit_ok, h2, e3]
  · have e3 : ((c.toNat : Int) = 42) = True := by rw [e2]; simp
    cases h2 : digC c <;> simp [wB47, digit_ok, h2, e3]
theorem any_ok (c : UInt8) (h : Heap) : M.call 53 [.int .u8 c.toNat] h = some (.bool true, h) := by
  refine call_of tab53 rfl (callF_wp ?_)
  simp [wB53]

theorem rows_ok (h : Heap) : M.call 25 [] h = some (.list 2 (rowsA h.length) .full, h ++ rowsH) := by
  refine call_of tab25 rfl (callF_wpK ?_)
  have o1 := one_ok 61
  have o2 := one_ok 47
  have o3 := one_ok 40
  have o4 := one_ok 41
  have o5 := one_ok 91
  have o6 := one_ok 93
  have o7 := one_ok 34
  have o8 := one_ok 37
  have o9 := one_ok 60
  have p1 := sign_ok 4
  have p2 := sign_ok 5
  have p3 := sign_ok 6
  have p4 := sign_ok 7
  have p5 := sign_ok 8
  simp at o1 o2 o3 o4 o5 o6 o7 o8 o9 p1 p2 p3 p4 p5
  simp [wB25, o1, o2, o3, o4, o5, o6, o7, o8, o9, p1, p2, p3, p4, p5, rowsA, rowA, rowsH, Nat.add_assoc]

def HR (n : Nat) (h : Heap) : Prop := ∀ k e, rowsH[k]? = some e → h[n + k]? = some e
def RowOk (h : Heap) (row : AV) (p : RowP) : Prop := ∃ f fc g gc, row = rowA f fc g gc ∧ (∀ c : UInt8, M.call f (.int .u8 c.toNat :: fc) h = some (.bool (p.1 c), h)) ∧ (∀ s : List UInt8, 1 ≤ s.length → s.length ≤ 1000000000 → M.call g (.str s :: gc) h = some (fdA (p.2 s), h))

theorem rows_row {n : Nat} {h : Heap} (k : HR n h) : ∀ (j : Nat) (row : AV) (p : RowP), (rowsA n)[j]? = some row → rowsP[j]? = some p → RowOk h row p := by
  intro j row p h1 h2
  have k0 := k 0 _ rfl
  have k1 := k 1 _ rfl
  have k2 := k 2 _ rfl
  have k3 := k 3 _ rfl
  have k4 := k 4 _ rfl
  have k5 := k 5 _ rfl
  have k6 := k 6 _ rfl
  have k7 := k 7 _ rfl
  have k8 := k 8 _ rfl
  have k9 := k 9 _ rfl
  have k10 := k 10 _ rfl
  have k11 := k 11 _ rfl
  have k12 := k 12 _ rfl
  have k13 := k 13 _ rfl
  match j with
  | 0 => cases h1; cases h2; exact ⟨_, _, _, _, rfl, fun c => letter_ok c h, fun s _ hs => name_ok s hs h⟩
  | 1 => cases h1; cases h2; exact ⟨_, _, _, _, rfl, fun c => eq_ok c _ _ h k0, fun s _ hs => is_ok s h⟩
  | 2 => cases h1; cases h2; exact ⟨_, _, _, _, rfl, fun c => eq_ok c _ _ h k1, fun s _ hs => sign1_ok _ s _ h k2⟩
  | 3 => cases h1; cases h2; exact ⟨_, _, _, _, rfl, fun c => eq_ok c _ _ h k3, fun s _ hs => sign1_ok _ s _ h k4⟩
  | 4 => cases h1; cases h2; exact ⟨_, _, _, _, rfl, fun c => eq_ok c _ _ h k5, fun s _ hs => sign1_ok _ s _ h k6⟩
  | 5 => cases h1; cases h2; exact ⟨_, _, _, _, rfl, fun c => eq_ok c _ _ h k7, fun s _ hs => sign1_ok _ s _ h k8⟩
  | 6 => cases h1; cases h2; exact ⟨_, _, _, _, rfl, fun c => eq_ok c _ _ h k9, fun s _ hs => sign1_ok _ s _ h k10⟩
  | 7 => cases h1; cases h2; exact ⟨_, _, _, _, rfl, fun c => dig2_ok c h, fun s _ hs => times_ok s hs h⟩
  | 8 => cases h1; cases h2; exact ⟨_, _, _, _, rfl, fun c => eq_ok c _ _ h k11, fun s h1 hs => chars_ok s h1 hs h⟩
  | 9 => cases h1; cases h2; exact ⟨_, _, _, _, rfl, fun c => eq_ok c _ _ h k12, fun s h1 hs => value_ok s h1 hs h⟩
  | 10 => cases h1; cases h2; exact ⟨_, _, _, _, rfl, fun c => eq_ok c _ _ h k13, fun s h1 hs => prose_ok s h⟩
  | 11 => cases h1; cases h2; exact ⟨_, _, _, _, rfl, fun c => any_ok c h, fun s h1 hs => byte_ok s h⟩
  | j + 12 => simp [rowsP] at h2

/-- The first row that begins so. -/
def readL : List RowP → UInt8 → List UInt8 → Fd
  | [], _, _ => { err := 11 }
  | p :: ps, c, s => if p.1 c then p.2 s else readL ps c s
def readP (c : UInt8) (s : List UInt8) : Fd := readL rowsP c s
end Go.Proofs.YtmmapbhhkmchcaaDoor
