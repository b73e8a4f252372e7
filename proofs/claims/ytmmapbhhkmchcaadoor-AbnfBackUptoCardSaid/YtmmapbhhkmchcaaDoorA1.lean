/-
  abnf: trees as plain data.
-/
import Derived.Test.YtmmapbhhkmchcaaDoorS8
set_option linter.unusedVariables false
set_option linter.unusedSimpArgs false
namespace Go.Proofs.YtmmapbhhkmchcaaDoor
open Go Go.Am

/-- A tree; full: an append to its kids makes a new slice. -/
inductive Tr where
  | mk (k : UInt8) (s : List UInt8) (lo hi : UInt8) (mn mx : Int) (full : Bool) (kids : List Tr)
def rtB (b : Bool) : Rt := if b then .full else .no
@[simp] theorem rtB_t : rtB true = .full := rfl
@[simp] theorem rtB_f : rtB false = .no := rfl
mutual
def Tr.encL : Tr → List AV
  | .mk k s lo hi mn mx r ks => [.int .u8 k.toNat, .str s, .int .u8 lo.toNat, .int .u8 hi.toNat, .int .i64 mn, .int .i64 mx, .list 7 (encs ks) (rtB r)]
def encs : List Tr → List AV
  | [] => []
  | t :: ts => .agg t.encL :: encs ts
end
def Tr.enc (t : Tr) : AV := .agg t.encL
theorem encs_map : ∀ l : List Tr, encs l = l.map Tr.enc
  | [] => by simp [encs]
  | t :: l => by simp [encs, encs_map l, Tr.enc]
def Tr.k : Tr → UInt8 | .mk k _ _ _ _ _ _ _ => k
def Tr.s : Tr → List UInt8 | .mk _ s _ _ _ _ _ _ => s
def Tr.lo : Tr → UInt8 | .mk _ _ lo _ _ _ _ _ => lo
def Tr.hi : Tr → UInt8 | .mk _ _ _ hi _ _ _ _ => hi
def Tr.mn : Tr → Int | .mk _ _ _ _ mn _ _ _ => mn
def Tr.mx : Tr → Int | .mk _ _ _ _ _ mx _ _ => mx
def Tr.full : Tr → Bool | .mk _ _ _ _ _ _ r _ => r
def Tr.kids : Tr → List Tr | .mk _ _ _ _ _ _ _ ks => ks
theorem Tr.encL_eq (t : Tr) : t.encL = [.int .u8 t.k.toNat, .str t.s, .int .u8 t.lo.toNat, .int .u8 t.hi.toNat, .int .i64 t.mn, .int .i64 t.mx, .list 7 (t.kids.map Tr.enc) (rtB t.full)] := by
  cases t
  simp [Tr.encL, encs_map, Tr.k, Tr.s, Tr.lo, Tr.hi, Tr.mn, Tr.mx, Tr.full, Tr.kids]
theorem Tr.enc_mk (k : UInt8) (s : List UInt8) (lo hi : UInt8) (mn mx : Int) (r : Bool) (ks : List Tr) : (Tr.mk k s lo hi mn mx r ks).enc = .agg [.int .u8 k.toNat, .str s, .int .u8 lo.toNat, .int .u8 hi.toNat, .int .i64 mn, .int .i64 mx, .list 7 (ks.map Tr.enc) (rtB r)] := by
  unfold Tr.enc
  rw [Tr.encL_eq]
  rfl
@[simp] theorem Tr.encL_len (t : Tr) : t.encL.length = 7 := by rw [Tr.encL_eq]; rfl
theorem rtB_low (b : Bool) (n t : Nat) : rtB b = .tok t → t < n := by cases b <;> simp
mutual
theorem Tr.encL_low (n : Nat) : ∀ t : Tr, AV.lows n t.encL
  | .mk k s lo hi mn mx r ks => by simp only [Tr.encL, AV.lows, AV.low, true_and, and_true]; exact ⟨fun t => rtB_low r n t, encs_low n ks⟩
theorem encs_low (n : Nat) : ∀ l : List Tr, AV.lows n (encs l)
  | [] => trivial
  | t :: l => by simp only [encs, AV.lows, AV.low]; exact ⟨Tr.encL_low n t, encs_low n l⟩
end
@[simp] theorem Tr.enc_low (n : Nat) (t : Tr) : t.enc.low n := Tr.encL_low n t
@[simp] theorem trs_low (n : Nat) (l : List Tr) : AV.lows n (l.map Tr.enc) := by rw [← encs_map]; exact encs_low n l
mutual
def Tr.size : Tr → Nat
  | .mk _ _ _ _ _ _ _ ks => sizes ks + 1
def sizes : List Tr → Nat
  | [] => 0
  | t :: ts => t.size + sizes ts
end
theorem Tr.size_mem : ∀ {ks : List Tr} {t : Tr}, t ∈ ks → t.size ≤ sizes ks
  | x :: ks, t, h => by
    simp only [sizes]
    rcases List.mem_cons.1 h with rfl | h
    · omega
    · have := Tr.size_mem h; omega
theorem Tr.size_kid {t k : Tr} (h : k ∈ t.kids) : k.size < t.size := by
  cases t
  simp only [Tr.kids] at h
  have := Tr.size_mem h
  simp only [Tr.size]
  omega
theorem Tr.eta (t : Tr) : Tr.mk t.k t.s t.lo t.hi t.mn t.mx t.full t.kids = t := by cases t; rfl

/-- Bytes of names, of quoted texts. -/
def lowC (c : UInt8) : Bool := decide (97 ≤ c.toNat ∧ c.toNat ≤ 122)
def nmC (c : UInt8) : Bool := lowC c || digC c || c == 45
def prC (c : UInt8) : Bool := okC c && c != 34
def namedP : List UInt8 → Bool
  | [] => false
  | c :: l => lowC c && l.all nmC
/-- Is a tree right, whatever its kids are? -/
def aloneP (t : Tr) : Bool :=
  if t.k = 1 then namedP t.s && (t.kids.isEmpty && (t.lo == 0 && t.hi == 0 && t.mn == 0 && t.mx == 0))
  else if t.k = 2 then t.s.all prC && (t.kids.isEmpty && (t.lo == 0 && t.hi == 0 && t.mn == 0 && t.mx == 0))
  else if t.k = 3 then !t.s.isEmpty && (t.kids.isEmpty && (t.lo == 0 && t.hi == 0 && t.mn == 0 && t.mx == 0))
  else if t.k = 4 then decide (t.lo.toNat ≤ t.hi.toNat) && (t.kids.isEmpty && (t.s.isEmpty && t.mn == 0 && t.mx == 0))
  else if t.k = 5 ∨ t.k = 6 then decide (2 ≤ t.kids.length) && (t.s.isEmpty && t.lo == 0 && t.hi == 0 && t.mn == 0 && t.mx == 0)
  else if t.k = 7 then decide (t.kids.length = 1 ∧ 0 ≤ t.mn ∧ t.mn ≤ 9999 ∧ (t.mx = -1 ∨ t.mn ≤ t.mx ∧ t.mx ≤ 9999)) && (t.s.isEmpty && t.lo == 0 && t.hi == 0)
  else false
def fitsP : Nat → Tr → Bool
  | 0, _ => false
  | d + 1, t => aloneP t && t.kids.all (fitsP d)
end Go.Proofs.YtmmapbhhkmchcaaDoor
