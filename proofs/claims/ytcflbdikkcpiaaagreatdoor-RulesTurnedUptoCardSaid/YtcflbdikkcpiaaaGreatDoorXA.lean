/-
  An abstract machine over pure data: values, heap, small code, and what it computes. Nothing of the model's memory stands in it: a slice that is only read or appended to is a list, a string a list of bytes; what is really shared and written (boxes, captured variables, fresh slices that are stored into) lies in a small heap of abstract blocks.
-/
import Derived.Laws.Append
import Derived.Laws.AppendOwn
import Derived.Below
import Derived.Calls
import Derived.RowKit3
import Derived.Laws.Sem
import Derived.Laws.World
import Derived.Laws.Entries
import Derived.Laws.Strings
import Derived.Laws.Strings2
import Derived.Laws.BytesString
import Derived.Laws.StructEq
import Derived.Lib.Strings
import Derived.Laws.BytesArg
import Derived.Lib.ConvBytes
import Derived.Great.FillDense
import Derived.Great.BuildSlice
set_option linter.unusedVariables false
set_option linter.unusedSimpArgs false
namespace Go.Am
open Go
inductive Rt where
 | no | full | tok (t : Nat)
 deriving DecidableEq, Inhabited, Repr
inductive AV where
 | junk
 | int (k : IntKind) (n : Int)
 | bool (b : Bool)
 | str (l : List UInt8)
 | nilp | nili | nilf | nilm
 | iface (t : TypeId) (v : AV)
 | agg (cs : List AV)
 | tup (vs : List AV)
 | list (sz : Nat) (xs : List AV) (r : Rt)
 | ptr (b off : Nat)
 | sl (sz b off len cap : Nat)
 | gl (sz b n : Nat)
 | eptr (cs : List AV)
 | fn (f : FuncId) (caps : List AV)
 | map (b : Nat)
 | it (b : Nat)
 | yv (l : Nat)
 deriving Inhabited, Repr
def AV.cells : AV → List AV
 | .agg cs => cs
 | .junk => []
 | .tup _ => []
 | v => [v]
def AV.one : AV → Prop
 | .agg _ => False
 | .junk => False
 | .tup _ => False
 | _ => True
mutual
def AV.pure : AV → Prop
 | .agg cs => AV.pures cs
 | .tup cs => AV.pures cs
 | .eptr cs => AV.pures cs
 | .fn _ cs => AV.pures cs
 | .iface _ v => v.pure
 | .list _ xs r => (∀ t, r ≠ .tok t) ∧ AV.pures xs
 | .ptr _ _ => False
 | .sl _ _ _ _ _ => False
 | .gl _ _ _ => False
 | .map _ => False
 | .it _ => False
 | .yv _ => True
 | .junk => True
 | .int _ _ => True
 | .bool _ => True
 | .str _ => True
 | .nilp => True
 | .nili => True
 | .nilf => True
 | .nilm => True
def AV.pures : List AV → Prop
 | [] => True
 | x :: xs => x.pure ∧ AV.pures xs
end
mutual
def AV.low (n : Nat) : AV → Prop
 | .agg cs => AV.lows n cs
 | .tup cs => AV.lows n cs
 | .eptr cs => AV.lows n cs
 | .fn _ cs => AV.lows n cs
 | .iface _ v => v.low n
 | .list _ xs r => (∀ t, r = .tok t → t < n) ∧ AV.lows n xs
 | .ptr b _ => b < n
 | .sl _ b _ _ _ => b < n
 | .gl _ b _ => b < n
 | .map b => b < n
 | .it b => b < n
 | .yv _ => True
 | .junk => True
 | .int _ _ => True
 | .bool _ => True
 | .str _ => True
 | .nilp => True
 | .nili => True
 | .nilf => True
 | .nilm => True
def AV.lows (n : Nat) : List AV → Prop
 | [] => True
 | x :: xs => x.low n ∧ AV.lows n xs
end
/-! ### Equality and lowness, decided (so that the kernel can run the machine) -/
mutual
def AV.beqV : AV → AV → Bool
 | .junk, .junk => true
 | .int k n, .int k' n' => decide (k = k') && decide (n = n')
 | .bool b, .bool b' => decide (b = b')
 | .str l, .str l' => decide (l = l')
 | .nilp, .nilp => true
 | .nili, .nili => true
 | .nilf, .nilf => true
 | .nilm, .nilm => true
 | .iface t v, .iface t' v' => decide (t = t') && v.beqV v'
 | .agg cs, .agg cs' => AV.beqVs cs cs'
 | .tup cs, .tup cs' => AV.beqVs cs cs'
 | .list s xs r, .list s' xs' r' => decide (s = s') && decide (r = r') && AV.beqVs xs xs'
 | .ptr b o, .ptr b' o' => decide (b = b') && decide (o = o')
 | .sl s b o n c, .sl s' b' o' n' c' => decide (s = s') && decide (b = b') && decide (o = o') && decide (n = n') && decide (c = c')
 | .gl s b n, .gl s' b' n' => decide (s = s') && decide (b = b') && decide (n = n')
 | .eptr cs, .eptr cs' => AV.beqVs cs cs'
 | .fn f cs, .fn f' cs' => decide (f = f') && AV.beqVs cs cs'
 | .map b, .map b' => decide (b = b')
 | .it b, .it b' => decide (b = b')
 | .yv l, .yv l' => decide (l = l')
 | _, _ => false
def AV.beqVs : List AV → List AV → Bool
 | [], [] => true
 | x :: xs, y :: ys => x.beqV y && AV.beqVs xs ys
 | _, _ => false
end
mutual
theorem AV.beqV_refl : ∀ a : AV, a.beqV a = true
 | .junk => rfl
 | .int k n => by simp [AV.beqV]
 | .bool b => by simp [AV.beqV]
 | .str l => by simp [AV.beqV]
 | .nilp => rfl
 | .nili => rfl
 | .nilf => rfl
 | .nilm => rfl
 | .iface t v => by simp [AV.beqV, AV.beqV_refl v]
 | .agg cs => by simp [AV.beqV, AV.beqVs_refl cs]
 | .tup cs => by simp [AV.beqV, AV.beqVs_refl cs]
 | .list s xs r => by simp [AV.beqV, AV.beqVs_refl xs]
 | .ptr b o => by simp [AV.beqV]
 | .sl s b o n c => by simp [AV.beqV]
 | .gl s b n => by simp [AV.beqV]
 | .eptr cs => by simp [AV.beqV, AV.beqVs_refl cs]
 | .fn f cs => by simp [AV.beqV, AV.beqVs_refl cs]
 | .map b => by simp [AV.beqV]
 | .it b => by simp [AV.beqV]
 | .yv l => by simp [AV.beqV]
theorem AV.beqVs_refl : ∀ a : List AV, AV.beqVs a a = true
 | [] => rfl
 | x :: xs => by simp [AV.beqVs, AV.beqV_refl x, AV.beqVs_refl xs]
end
mutual
theorem AV.eq_of_beqV : ∀ a b : AV, a.beqV b = true → a = b
 | .junk, b, h => by cases b <;> first | rfl | (simp [AV.beqV] at h)
 | .int k n, b, h => by cases b <;> simp [AV.beqV] at h ⊢; exact h
 | .bool x, b, h => by cases b <;> simp [AV.beqV] at h ⊢; exact h
 | .str l, b, h => by cases b <;> simp [AV.beqV] at h ⊢; exact h
 | .nilp, b, h => by cases b <;> first | rfl | (simp [AV.beqV] at h)
 | .nili, b, h => by cases b <;> first | rfl | (simp [AV.beqV] at h)
 | .nilf, b, h => by cases b <;> first | rfl | (simp [AV.beqV] at h)
 | .nilm, b, h => by cases b <;> first | rfl | (simp [AV.beqV] at h)
 | .iface t v, b, h => by cases b <;> simp [AV.beqV] at h ⊢; exact ⟨h.1, AV.eq_of_beqV _ _ h.2⟩
 | .agg cs, b, h => by cases b <;> simp [AV.beqV] at h ⊢; exact AV.eq_of_beqVs _ _ h
 | .tup cs, b, h => by cases b <;> simp [AV.beqV] at h ⊢; exact AV.eq_of_beqVs _ _ h
 | .list s xs r, b, h => by cases b <;> simp [AV.beqV] at h ⊢; exact ⟨h.1.1, AV.eq_of_beqVs _ _ h.2, h.1.2⟩
 | .ptr x o, b, h => by cases b <;> simp [AV.beqV] at h ⊢; exact h
 | .sl s x o n c, b, h => by cases b <;> simp [AV.beqV] at h ⊢; exact ⟨h.1.1.1.1, h.1.1.1.2, h.1.1.2, h.1.2, h.2⟩
 | .gl s x n, b, h => by cases b <;> simp [AV.beqV] at h ⊢; exact ⟨h.1.1, h.1.2, h.2⟩
 | .eptr cs, b, h => by cases b <;> simp [AV.beqV] at h ⊢; exact AV.eq_of_beqVs _ _ h
 | .fn f cs, b, h => by cases b <;> simp [AV.beqV] at h ⊢; exact ⟨h.1, AV.eq_of_beqVs _ _ h.2⟩
 | .map x, b, h => by cases b <;> simp [AV.beqV] at h ⊢; exact h
 | .it x, b, h => by cases b <;> simp [AV.beqV] at h ⊢; exact h
 | .yv x, b, h => by cases b <;> simp [AV.beqV] at h ⊢; exact h
theorem AV.eq_of_beqVs : ∀ a b : List AV, AV.beqVs a b = true → a = b
 | [], [], _ => rfl
 | [], _ :: _, h => by simp [AV.beqVs] at h
 | _ :: _, [], h => by simp [AV.beqVs] at h
 | x :: xs, y :: ys, h => by
  simp only [AV.beqVs, Bool.and_eq_true] at h
  rw [AV.eq_of_beqV _ _ h.1, AV.eq_of_beqVs _ _ h.2]
end
instance AV.decEq : DecidableEq AV := fun a b => decidable_of_iff (a.beqV b = true) ⟨AV.eq_of_beqV a b, fun h => by rw [h]; exact AV.beqV_refl b⟩
mutual
def AV.lowB (n : Nat) : AV → Bool
 | .agg cs => AV.lowsB n cs
 | .tup cs => AV.lowsB n cs
 | .eptr cs => AV.lowsB n cs
 | .fn _ cs => AV.lowsB n cs
 | .iface _ v => v.lowB n
 | .list _ xs r => (match r with | .tok t => decide (t < n) | _ => true) && AV.lowsB n xs
 | .ptr b _ => decide (b < n)
 | .sl _ b _ _ _ => decide (b < n)
 | .gl _ b _ => decide (b < n)
 | .map b => decide (b < n)
 | .it b => decide (b < n)
 | _ => true
def AV.lowsB (n : Nat) : List AV → Bool
 | [] => true
 | x :: xs => x.lowB n && AV.lowsB n xs
end
mutual
theorem AV.lowB_iff (n : Nat) : ∀ a : AV, a.lowB n = true ↔ a.low n
 | .junk => by simp [AV.lowB, AV.low]
 | .int k m => by simp [AV.lowB, AV.low]
 | .bool b => by simp [AV.lowB, AV.low]
 | .str l => by simp [AV.lowB, AV.low]
 | .nilp => by simp [AV.lowB, AV.low]
 | .nili => by simp [AV.lowB, AV.low]
 | .nilf => by simp [AV.lowB, AV.low]
 | .nilm => by simp [AV.lowB, AV.low]
 | .iface t v => by simp only [AV.lowB, AV.low]; exact AV.lowB_iff n v
 | .agg cs => by simp only [AV.lowB, AV.low]; exact AV.lowsB_iff n cs
 | .tup cs => by simp only [AV.lowB, AV.low]; exact AV.lowsB_iff n cs
 | .list s xs r => by
  simp only [AV.lowB, AV.low, Bool.and_eq_true, AV.lowsB_iff n xs]
  cases r <;> simp
 | .ptr b o => by simp [AV.lowB, AV.low]
 | .sl s b o m c => by simp [AV.lowB, AV.low]
 | .gl s b m => by simp [AV.lowB, AV.low]
 | .eptr cs => by simp only [AV.lowB, AV.low]; exact AV.lowsB_iff n cs
 | .fn f cs => by simp only [AV.lowB, AV.low]; exact AV.lowsB_iff n cs
 | .map b => by simp [AV.lowB, AV.low]
 | .it b => by simp [AV.lowB, AV.low]
 | .yv l => by simp [AV.lowB, AV.low]
theorem AV.lowsB_iff (n : Nat) : ∀ a : List AV, AV.lowsB n a = true ↔ AV.lows n a
 | [] => by simp [AV.lowsB, AV.lows]
 | x :: xs => by simp only [AV.lowsB, AV.lows, Bool.and_eq_true, AV.lowB_iff n x, AV.lowsB_iff n xs]
end
instance AV.decLow (n : Nat) (a : AV) : Decidable (a.low n) := decidable_of_iff _ (AV.lowB_iff n a)
instance AV.decLows (n : Nat) (a : List AV) : Decidable (AV.lows n a) := decidable_of_iff _ (AV.lowsB_iff n a)
inductive AE where
 | dead
 | cells (cs : List AV)
 | grow (sz : Nat) (cs : List AV)
 | tok (sz n : Nat) (e : TypeId)
 | amap (es : List (AV × AV))
 | siter (s : List UInt8) (pos : Nat)
 | opq (o : Obj)
 deriving Inhabited
def AE.low (n : Nat) : AE → Prop
 | .cells cs => AV.lows n cs
 | .grow _ cs => AV.lows n cs
 | .amap es => ∀ e ∈ es, e.1.low n ∧ e.2.low n
 | _ => True
instance AE.decLow (n : Nat) : ∀ e : AE, Decidable (e.low n)
 | .cells cs => AV.decLows n cs
 | .grow _ cs => AV.decLows n cs
 | .amap es => List.decidableBAll _ es
 | .dead => isTrue trivial
 | .tok _ _ _ => isTrue trivial
 | .siter _ _ => isTrue trivial
 | .opq _ => isTrue trivial
noncomputable instance AE.decEq : DecidableEq AE
 | .dead, .dead => isTrue rfl
 | .cells a, .cells b => decidable_of_iff (a = b) ⟨fun h => by rw [h], fun h => by injection h⟩
 | .grow s a, .grow s' a' => decidable_of_iff (s = s' ∧ a = a') ⟨fun h => by rw [h.1, h.2], fun h => by injection h with h1 h2; exact ⟨h1, h2⟩⟩
 | .tok s n e, .tok s' n' e' => decidable_of_iff (s = s' ∧ n = n' ∧ e = e') ⟨fun h => by rw [h.1, h.2.1, h.2.2], fun h => by injection h with h1 h2 h3; exact ⟨h1, h2, h3⟩⟩
 | .amap a, .amap b => decidable_of_iff (a = b) ⟨fun h => by rw [h], fun h => by injection h⟩
 | .siter s p, .siter s' p' => decidable_of_iff (s = s' ∧ p = p') ⟨fun h => by rw [h.1, h.2], fun h => by injection h with h1 h2; exact ⟨h1, h2⟩⟩
 | a, b => Classical.propDecidable _
instance decSome {α : Type} (x : Option α) (p : α → Prop) [∀ e, Decidable (p e)] : Decidable (∀ e, x = some e → p e) :=
 match x with
 | none => isTrue fun _ h => by cases h
 | some a => decidable_of_iff (p a) ⟨fun h e he => by injection he with he; rw [← he]; exact h, fun h => h a rfl⟩
abbrev Heap := List AE
inductive LK where
 | bool | int | str | ptr | iface | func
 deriving DecidableEq, Inhabited, Repr
/-! ### Small code -/
inductive AX where
 | t (i : Nat)
 | c (v : AV)
 deriving Inhabited, Repr
inductive AOp where
 | mv (x : AX)
 | mvW (x : AX)
 | nilchk (x : AX)
 | pick (c a b : AX)
 | alloc (zs : List AV)
 | box (n : Nat) (x : AX)
 | build (zs : List AV) (parts : List (Nat × Nat × AX))
 | bslice (sz : Nat) (parts : List AX)
 | bsliceM (sz : Nat) (parts : List AX)
 | bsliceG (sz : Nat) (parts : List AX)
 | load (sz : Option Nat) (x : AX)
 | store (sz : Nat) (a x : AX)
 | bin (op : BinOp) (x y : AX)
 | eq (neg : Bool) (sz : Option Nat) (offs : List (Nat × LK)) (x y : AX)
 | neg (x : AX)
 | not (x : AX)
 | cvInt (k : IntKind) (x : AX)
 | cvStrBytes (e : TypeId) (x : AX)
 | cvStrBytesM (x : AX)
 | cvBytesStr (x : AX)
 | cvIntStr (x : AX)
 | cvStr (x : AX)
 | mkfn (f : FuncId) (caps : List AX)
 | mkslice (z : AV) (sz bytes : Nat) (e : TypeId) (len cap : AX)
 | mksliceM (zs : List AV) (sz bytes : Nat) (len cap : AX)
 | sliceS (x : AX) (lo hi : Option AX)
 | slice (sz : Nat) (x : AX) (lo hi mx : Option AX)
 | sliceA (sz n : Nat) (x : AX) (lo hi : Option AX)
 | off (n : Nat) (x : AX)
 | idx (sz : Nat) (x i : AX)
 | idxA (sz n : Nat) (x i : AX)
 | field (off : Nat) (sz : Option Nat) (x : AX)
 | indexS (x i : AX)
 | indexA (sz : Option Nat) (esz n : Nat) (x i : AX)
 | lenS (x : AX)
 | len (x : AX)
 | lenM (x : AX)
 | min (x y : AX)
 | max (x y : AX)
 | append (sz bytes : Nat) (e : TypeId) (s x : AX)
 | appendM (sz bytes : Nat) (e : TypeId) (s x : AX)
 | frz (sz : Nat) (e : TypeId) (x : AX)
 | sliceT (sz : Nat) (x lo : AX)
 | call (f : AX) (args : List AX)
 | ext (x : AX) (i : Nat)
 | mkmap
 | lookup (s : Bool) (z : AV) (ok : Bool) (m k : AX)
 | update (s : Bool) (m k v : AX)
 | mkiface (t : TypeId) (x : AX)
 | rangeS (x : AX)
 | next (x : AX)
 | copy (sz : Nat) (d s : AX)
 | cvMark (x : AX)
 | fail
 deriving Inhabited, Repr
structure AO where
 dst : Option Nat
 op : AOp
 guard : Option (Nat × Bool)
 key : Nat
 deriving Inhabited, Repr
inductive AC where
 | skip
 | region (ops : List AO) (nk : Nat) (draw : Bool) (pairs : List (Nat × Nat))
 | seq (a b : AC)
 | cond (c : AX) (a b : AC)
 | block (id : Nat) (a : AC)
 | loop (a : AC)
 | exit (id : Nat)
 | scope (a : AC)
 | label (l : Nat)
 | goto (l : Nat)
 | ret
 | fail
 deriving Inhabited, Repr
inductive ARes where
 | tmp (t : Nat)
 | cell (t : Nat) (sz : Option Nat)
 deriving Inhabited, Repr
structure AF where
 body : AC
 res : List ARes
 keep : Bool
 deriving Inhabited, Repr
/-! ### What it computes -/
abbrev Slots := Nat → AV
abbrev CallO := FuncId → List AV → Heap → Option (AV × Heap)
def AX.ev (σ : Slots) : AX → AV
 | .t i => σ i
 | .c v => v
def upd (σ : Slots) (d : Nat) (v : AV) : Slots := fun i => if i = d then v else σ i
def put (σ : Slots) : Option Nat → AV → Slots
 | none, _ => σ
 | some d, v => upd σ d v
def ofBytes (l : List UInt8) : List AV := l.map fun b => .int .u8 b.toNat
def asBytes : List AV → Option (List UInt8)
 | [] => some []
 | .int .u8 n :: r => (asBytes r).map (UInt8.ofNat n.toNat :: ·)
 | _ => none
def bitsOp (op : BinOp) (k : IntKind) (x y : Int) : Int :=
 let a := BitVec.ofInt k.bits x
 let b := BitVec.ofInt k.bits y
 match op with
 | .and => k.wrap (a &&& b).toNat
 | .or => k.wrap (a ||| b).toNat
 | .xor => k.wrap (a ^^^ b).toNat
 | .andNot => k.wrap (a &&& ~~~b).toNat
 | _ => 0
def ibin (op : BinOp) (k : IntKind) (a b : Int) : Option AV :=
 match op with
 | .add => some (.int k (k.wrap (a + b)))
 | .sub => some (.int k (k.wrap (a - b)))
 | .mul => some (.int k (k.wrap (a * b)))
 | .quo => if b = 0 then none else some (.int k (k.wrap (a.tdiv b)))
 | .rem => if b = 0 then none else some (.int k (a.tmod b))
 | .and => some (.int k (bitsOp .and k a b))
 | .or => some (.int k (bitsOp .or k a b))
 | .xor => some (.int k (bitsOp .xor k a b))
 | .andNot => some (.int k (bitsOp .andNot k a b))
 | .shl => if b < 0 then none else some (.int k (k.wrap (a * 2 ^ (Nat.min b.toNat k.bits))))
 | .shr => if b < 0 then none else some (.int k (a.fdiv (2 ^ (Nat.min b.toNat k.bits))))
 | .eql => some (.bool (a == b))
 | .neq => some (.bool (a != b))
 | .lss => some (.bool (decide (a < b)))
 | .leq => some (.bool (decide (a ≤ b)))
 | .gtr => some (.bool (decide (a > b)))
 | .geq => some (.bool (decide (a ≥ b)))
def sbin (op : BinOp) (a b : List UInt8) : Option AV :=
 match op with
 | .add => if a.length + b.length ≤ 140737488355328 then some (.str (a ++ b)) else none
 | .eql => some (.bool (a == b))
 | .neq => some (.bool (a != b))
 | .lss => some (.bool (Op.bytesLess a b))
 | .leq => some (.bool (Op.bytesLess a b || a == b))
 | .gtr => some (.bool (!(Op.bytesLess a b || a == b)))
 | .geq => some (.bool (!Op.bytesLess a b))
 | _ => none
def abin (op : BinOp) : AV → AV → Option AV
 | .int k a, .int k' b => if k = k' ∨ op = .shl ∨ op = .shr then ibin op k a b else none
 | .str a, .str b => sbin op a b
 | _, _ => none
def eqLeaf : LK → AV → AV → Option Bool
 | .int, .int k a, .int k' b => if k = k' then some (a == b) else none
 | .bool, .bool a, .bool b => some (a == b)
 | .str, .str a, .str b => some (a == b)
 | .ptr, .nilp, .nilp => some true
 | .ptr, .nilp, .ptr _ _ => some false
 | .ptr, .ptr _ _, .nilp => some false
 | .ptr, .nilp, .eptr _ => some false
 | .ptr, .eptr _, .nilp => some false
 | .iface, .nili, .nili => some true
 | .iface, .nili, .iface _ _ => some false
 | .iface, .iface _ _, .nili => some false
 | .func, .nilf, .fn _ _ => some false
 | .func, .fn _ _, .nilf => some false
 | _, _, _ => none
def eqs : List (Nat × LK) → List AV → List AV → Option Bool
 | [], _, _ => some true
 | o :: r, xs, ys =>
  match xs[o.1]?, ys[o.1]? with
  | some x, some y =>
   match eqLeaf o.2 x y, eqs r xs ys with
   | some b, some c => some (b && c)
   | _, _ => none
  | _, _ => none
def eqV (sz : Option Nat) (offs : List (Nat × LK)) (x y : AV) : Option Bool :=
 match sz with
 | some n =>
  match x, y with
  | .agg cs, .agg ds => if cs.length = n ∧ ds.length = n then eqs offs cs ds else none
  | _, _ => none
 | none => eqs offs [x] [y]
def bnd (σ : Slots) (v : Option AX) (y dflt : Nat) : Option Nat :=
 match v with
 | none => some dflt
 | some x =>
  match x.ev σ with
  | .int _ i => if 0 ≤ i ∧ i ≤ (y : Int) then some i.toNat else none
  | _ => none
def sliceRt (r : Rt) (full : Bool) (lo hi n : Nat) : Rt :=
 if full then .full else if lo = 0 ∧ hi = n then r else .no
def asliceS (σ : Slots) (x : AV) (lo hi : Option AX) : Option AV :=
 match x with
 | .str l =>
  match bnd σ hi l.length l.length with
  | some h =>
   match bnd σ lo h 0 with
   | some b => some (.str ((l.take h).drop b))
   | none => none
  | none => none
 | _ => none
def aslice (σ : Slots) (sz : Nat) (x : AV) (lo hi mx : Option AX) : Option AV :=
 match x with
 | .list s xs r =>
  match bnd σ mx xs.length xs.length with
  | some m =>
   match bnd σ hi m xs.length with
   | some h =>
    match bnd σ lo h 0 with
    | some b => if s = sz then some (.list sz ((xs.take h).drop b) (sliceRt r (mx.isSome && decide (m = h)) b h xs.length)) else none
    | none => none
   | none => none
  | none => none
 | .sl s b off len cap =>
  match bnd σ mx cap cap with
  | some m =>
   match bnd σ hi m len with
   | some h =>
    match bnd σ lo h 0 with
    | some l => if s = sz then some (.sl sz b (if m = l then off else off + l * sz) (h - l) (m - l)) else none
    | none => none
   | none => none
  | none => none
 | .gl s b n =>
  match mx, lo with
  | none, none =>
   match bnd σ hi n n with
   | some h => some (.gl s b h)
   | none => none
  | _, _ => none
 | _ => none
def fillA (cells : List AV) : List (Nat × Nat × AV) → Option (List AV)
 | [] => some cells
 | (off, size, v) :: rest =>
  if v.cells.length = size ∧ off + size ≤ cells.length then fillA (cells.take off ++ v.cells ++ cells.drop (off + size)) rest else none
def loadA (sz : Option Nat) (cs : List AV) (off : Nat) : Option AV :=
 match sz with
 | none => cs[off]?
 | some n => if off + n ≤ cs.length then some (.agg ((cs.drop off).take n)) else none
def srcOf (sz : Nat) : AV → Option (List AV)
 | .list s ys _ => if s = sz ∨ ys = [] then some ys else none
 | .str l => if sz = 1 then some (ofBytes l) else none
 | _ => none
def own (h : Heap) (r : Rt) (sz n : Nat) (e : TypeId) : Prop :=
 match r with
 | .no => False
 | .full => True
 | .tok t => h[t]? = some (.tok sz n e)
noncomputable instance decOwn (h : Heap) (sz n : Nat) (e : TypeId) : ∀ r : Rt, Decidable (own h r sz n e)
 | .no => isFalse fun h => h
 | .full => isTrue trivial
 | .tok t => (inferInstance : Decidable (h[t]? = some (AE.tok sz n e)))
def kill (h : Heap) : Rt → Heap
 | .tok t => h.set t .dead
 | _ => h
open Classical in
noncomputable def appA (h : Heap) (key sz bytes : Nat) (e : TypeId) (s x : AV) : Option (AV × Heap) :=
 match s with
 | .list s' xs r =>
  match srcOf sz x with
  | some ys =>
   if ys = [] then some (s, h)
   else if (s' = sz ∨ xs = []) ∧ own h r sz xs.length e ∧ (xs.length + ys.length) * bytes ≤ 70368744177664 ∧ xs.length + ys.length ≤ 70368744177664 then
    some (.list sz (xs ++ ys) (.tok key), (kill h r).set key (.tok sz (xs.length + ys.length) e))
   else none
  | none => none
 | .gl s' b n =>
  match srcOf sz x, h[b]? with
  | some ys, some (.grow s'' cs) =>
   if s' = sz ∧ s'' = sz ∧ n * sz ≤ cs.length ∧ (n + ys.length) * bytes ≤ 70368744177664 ∧ n + ys.length ≤ 70368744177664 then
    some (.gl sz key (n + ys.length), (h.set b .dead).set key (.grow sz (cs.take (n * sz) ++ ys.flatMap AV.cells)))
   else none
  | _, _ => none
 | _ => none
def elems (agg : Bool) (sz : Nat) (cs : List AV) : Nat → List AV
 | 0 => []
 | n + 1 => (if agg then .agg (cs.take sz) else cs.getD 0 .junk) :: elems agg sz (cs.drop sz) n
def keyEq : AV → AV → Option Bool
 | .int k a, .int k' b => if k = k' then some (a == b) else none
 | .str a, .str b => some (a == b)
 | .bool a, .bool b => some (a == b)
 | _, _ => none
def mapFind (k : AV) : List (AV × AV) → Nat → Option (Option (Nat × AV))
 | [], _ => some none
 | e :: es, i =>
  match keyEq k e.1 with
  | some true => some (some (i, e.2))
  | some false => mapFind k es (i + 1)
  | none => none
def weakV : AV → AV
 | .list s xs _ => .list s xs .no
 | v => v
noncomputable def appM (h : Heap) (key sz bytes : Nat) (e : TypeId) (s x : AV) : Option (AV × Heap) :=
 match s with
 | .list _ [] .full =>
  match srcOf sz x with
  | some ys =>
   if ys ≠ [] ∧ ys.length * bytes ≤ 70368744177664 ∧ ys.length ≤ 70368744177664 then some (.gl sz key ys.length, h.set key (.grow sz (ys.flatMap AV.cells))) else none
  | none => none
 | .gl s' b n => appA h key sz bytes e (.gl s' b n) x
 | _ => none
def frzA (h : Heap) (key sz : Nat) (e : TypeId) (x : AV) : Option (AV × Heap) :=
 match x with
 | .list s xs r => some (.list s xs r, h)
 | .gl s b n =>
  match h[b]? with
  | some (.grow s' cs) =>
   if s = sz ∧ s' = sz ∧ 1 < sz ∧ n * sz ≤ cs.length then some (.list sz (elems true sz cs n) (.tok key), (h.set b .dead).set key (.tok sz n e)) else none
  | _ => none
 | _ => none
def sliceTA (σ : Slots) (h : Heap) (key sz : Nat) (x : AV) (lo : AX) : Option (AV × Heap) :=
 match x with
 | .list s xs r =>
  match bnd σ (some lo) xs.length 0 with
  | some l =>
   if s = sz then
    match r with
    | .tok t =>
     match h[t]? with
     | some (.tok s' n e) => if s' = sz ∧ n = xs.length then some (.list sz (xs.drop l) (.tok key), (h.set t .dead).set key (.tok sz (xs.length - l) e)) else none
     | _ => none
    | .full => some (.list sz (xs.drop l) .full, h)
    | .no => some (.list sz (xs.drop l) .no, h)
   else none
  | none => none
 | _ => none
def keyOk (s : Bool) : AV → Bool
 | .int _ _ => !s
 | .str _ => s
 | _ => false
def mapFindK (s : Bool) (k : AV) (es : List (AV × AV)) : Option (Option (Nat × AV)) := if keyOk s k then mapFind k es 0 else none
open Classical in
noncomputable def aop (O : CallO) (σ : Slots) (h : Heap) (key : Nat) : AOp → Option (AV × Heap)
 | .mv x => some (x.ev σ, h)
 | .mvW x => some (weakV (x.ev σ), h)
 | .nilchk x =>
  match x.ev σ with
  | .ptr b o => some (.ptr b o, h)
  | .eptr cs => some (.eptr cs, h)
  | .fn f cs => some (.fn f cs, h)
  | _ => none
 | .pick c a b =>
  match c.ev σ with
  | .bool t => some (if t then a.ev σ else b.ev σ, h)
  | _ => none
 | .alloc zs => some (.ptr key 0, h.set key (.cells zs))
 | .box n x => if (x.ev σ).cells.length = n then some (.ptr key 0, h.set key (.cells (x.ev σ).cells)) else none
 | .build zs parts =>
  match fillA zs (parts.map fun p => (p.1, p.2.1, p.2.2.ev σ)) with
  | some cs => some (.agg cs, h)
  | none => none
 | .bslice sz parts =>
  if ∀ p ∈ parts, (p.ev σ).cells.length = sz then some (.list sz (parts.map (·.ev σ)) .full, h) else none
 | .bsliceM sz parts =>
  if ∀ p ∈ parts, (p.ev σ).cells.length = sz then
   some (.sl sz key 0 parts.length parts.length, h.set key (.cells (parts.flatMap fun p => (p.ev σ).cells)))
  else none
 | .bsliceG sz parts =>
  if ∀ p ∈ parts, (p.ev σ).cells.length = sz then
   some (.gl sz key parts.length, h.set key (.grow sz (parts.flatMap fun p => (p.ev σ).cells)))
  else none
 | .load sz x =>
  match x.ev σ with
  | .ptr b o =>
   match h[b]? with
   | some (.cells cs) => (loadA sz cs o).map (·, h)
   | some (.grow _ cs) => (loadA sz cs o).map (·, h)
   | _ => none
  | .eptr cs => (loadA sz cs 0).map (·, h)
  | _ => none
 | .store sz a x =>
  match a.ev σ with
  | .ptr b o =>
   match h[b]? with
   | some (.cells cs) =>
    if (x.ev σ).cells.length = sz ∧ o + sz ≤ cs.length then
     some (.junk, h.set b (.cells (cs.take o ++ (x.ev σ).cells ++ cs.drop (o + sz))))
    else none
   | some (.grow s cs) =>
    if (x.ev σ).cells.length = sz ∧ o + sz ≤ cs.length then
     some (.junk, h.set b (.grow s (cs.take o ++ (x.ev σ).cells ++ cs.drop (o + sz))))
    else none
   | _ => none
  | _ => none
 | .bin op x y => (abin op (x.ev σ) (y.ev σ)).map (·, h)
 | .eq ng ag offs x y => (eqV ag offs (x.ev σ) (y.ev σ)).map fun b => (.bool (if ng then !b else b), h)
 | .neg x =>
  match x.ev σ with
  | .int k n => some (.int k (k.wrap (0 - n)), h)
  | _ => none
 | .not x =>
  match x.ev σ with
  | .bool b => some (.bool (!b), h)
  | _ => none
 | .cvInt k x =>
  match x.ev σ with
  | .int _ n => some (.int k (k.wrap n), h)
  | _ => none
 | .cvStrBytes e x =>
  match x.ev σ with
  | .str l => some (.list 1 (ofBytes l) (.tok key), h.set key (.tok 1 l.length e))
  | _ => none
 | .cvStr x =>
  match x.ev σ with
  | .str l => some (.str l, h)
  | _ => none
 | .cvStrBytesM x =>
  match x.ev σ with
  | .str l => some (.gl 1 key l.length, h.set key (.grow 1 (ofBytes l)))
  | _ => none
 | .cvMark x =>
  match x.ev σ with
  | .list sz xs (.tok t) =>
   match h[t]? with
   | some (.tok _ _ _) => some (.list sz xs (.tok t), h)
   | _ => none
  | _ => none
 | .fail => none
 | .cvBytesStr x =>
  match x.ev σ with
  | .list s xs _ =>
   if s = 1 ∨ xs = [] then (asBytes xs).map fun l => (.str l, h) else none
  | .sl s b o len _ =>
   match h[b]? with
   | some (.cells cs) => if s = 1 ∧ o + len ≤ cs.length then (asBytes ((cs.drop o).take len)).map fun l => (.str l, h) else none
   | _ => none
  | .gl s b n =>
   match h[b]? with
   | some (.grow _ cs) => if s = 1 ∧ n ≤ cs.length then (asBytes (cs.take n)).map fun l => (.str l, h) else none
   | _ => none
  | _ => none
 | .cvIntStr x =>
  match x.ev σ with
  | .int _ n => some (.str (Utf8.encode n).data.toList, h)
  | _ => none
 | .mkfn f caps => some (.fn f (caps.map (·.ev σ)), h)
 | .mkslice z sz bytes e len cap =>
  match len.ev σ, cap.ev σ with
  | .int .i64 n, .int .i64 c =>
   if 0 ≤ n ∧ n ≤ c ∧ c * bytes ≤ 70368744177664 ∧ c ≤ 70368744177664 then
    if n = c then some (.list sz (List.replicate n.toNat z) .full, h)
    else some (.list sz (List.replicate n.toNat z) (.tok key), h.set key (.tok sz n.toNat e))
   else none
  | _, _ => none
 | .mksliceM zs sz bytes len cap =>
  match len.ev σ, cap.ev σ with
  | .int .i64 n, .int .i64 c =>
   if 0 ≤ n ∧ n ≤ c ∧ c * bytes ≤ 70368744177664 ∧ c ≤ 70368744177664 then
    some (.sl sz key 0 n.toNat c.toNat, h.set key (.cells (List.replicate c.toNat zs).flatten))
   else none
  | _, _ => none
 | .sliceS x lo hi => (asliceS σ (x.ev σ) lo hi).map (·, h)
 | .slice sz x lo hi mx => (aslice σ sz (x.ev σ) lo hi mx).map (·, h)
 | .sliceA sz n x lo hi =>
  match x.ev σ with
  | .ptr b o =>
   match bnd σ hi n n with
   | some hh =>
    match bnd σ lo hh 0 with
    | some l => some (.sl sz b (if n = l then o else o + l * sz) (hh - l) (n - l), h)
    | none => none
   | none => none
  | _ => none
 | .off n x =>
  match x.ev σ with
  | .ptr b o => some (.ptr b (o + n), h)
  | .eptr cs => some (.eptr (cs.drop n), h)
  | _ => none
 | .idx sz x i =>
  match x.ev σ, i.ev σ with
  | .list s xs _, .int _ k =>
   if s = sz ∧ 0 ≤ k then
    match xs[k.toNat]? with
    | some v => some (.eptr v.cells, h)
    | none => none
   else none
  | .sl s b o len _, .int _ k => if s = sz ∧ 0 ≤ k ∧ k < (len : Int) then some (.ptr b (o + k.toNat * sz), h) else none
  | .gl s b n, .int _ k => if s = sz ∧ 0 ≤ k ∧ k < (n : Int) then some (.ptr b (k.toNat * sz), h) else none
  | _, _ => none
 | .idxA sz n x i =>
  match x.ev σ, i.ev σ with
  | .ptr b o, .int _ k => if 0 ≤ k ∧ k < (n : Int) then some (.ptr b (o + k.toNat * sz), h) else none
  | .eptr cs, .int _ k => if 0 ≤ k ∧ k < (n : Int) then some (.eptr (cs.drop (k.toNat * sz)), h) else none
  | _, _ => none
 | .field o sz x =>
  match x.ev σ with
  | .agg cs => (loadA sz cs o).map (·, h)
  | _ => none
 | .indexS x i =>
  match x.ev σ, i.ev σ with
  | .str l, .int _ k =>
   if 0 ≤ k then
    match l[k.toNat]? with
    | some b => some (.int .u8 b.toNat, h)
    | none => none
   else none
  | _, _ => none
 | .indexA sz esz n x i =>
  match x.ev σ, i.ev σ with
  | .agg cs, .int _ k => if 0 ≤ k ∧ k < (n : Int) then (loadA sz cs (k.toNat * esz)).map (·, h) else none
  | _, _ => none
 | .lenS x =>
  match x.ev σ with
  | .str l => some (.int .i64 l.length, h)
  | _ => none
 | .len x =>
  match x.ev σ with
  | .list _ xs _ => some (.int .i64 xs.length, h)
  | .sl _ _ _ n _ => some (.int .i64 n, h)
  | .gl _ _ n => some (.int .i64 n, h)
  | _ => none
 | .lenM x =>
  match x.ev σ with
  | .nilm => some (.int .i64 0, h)
  | .map b =>
   match h[b]? with
   | some (.amap es) => some (.int .i64 es.length, h)
   | _ => none
  | _ => none
 | .min x y =>
  match x.ev σ, y.ev σ with
  | .int k a, .int _ b => some (.int k (if b < a then b else a), h)
  | _, _ => none
 | .max x y =>
  match x.ev σ, y.ev σ with
  | .int k a, .int _ b => some (.int k (if a < b then b else a), h)
  | _, _ => none
 | .append sz bytes e s x => appA h key sz bytes e (s.ev σ) (x.ev σ)
 | .appendM sz bytes e s x => appM h key sz bytes e (s.ev σ) (x.ev σ)
 | .frz sz e x => frzA h key sz e (x.ev σ)
 | .sliceT sz x lo => sliceTA σ h key sz (x.ev σ) lo
 | .call f args =>
  match f.ev σ with
  | .fn g caps => O g (args.map (·.ev σ) ++ caps) h
  | _ => none
 | .ext x i =>
  match x.ev σ with
  | .tup vs => vs[i]?.map (·, h)
  | _ => none
 | .mkmap => some (.map key, h.set key (.amap []))
 | .lookup s z ok m k =>
  match m.ev σ with
  | .map b =>
   match h[b]? with
   | some (.amap es) =>
    match mapFindK s (k.ev σ) es with
    | some (some (_, v)) => some (if ok then .tup [v, .bool true] else v, h)
    | some none => some (if ok then .tup [z, .bool false] else z, h)
    | none => none
   | _ => none
  | .nilm => some (if ok then .tup [z, .bool false] else z, h)
  | _ => none
 | .update s m k v =>
  match m.ev σ with
  | .map b =>
   match h[b]? with
   | some (.amap es) =>
    match mapFindK s (k.ev σ) es with
    | some (some (i, _)) => some (.junk, h.set b (.amap (es.set i (k.ev σ, v.ev σ))))
    | some none => some (.junk, h.set b (.amap (es ++ [(k.ev σ, v.ev σ)])))
    | none => none
   | _ => none
  | _ => none
 | .mkiface t x => some (.iface t (x.ev σ), h)
 | .rangeS x =>
  match x.ev σ with
  | .str l => some (.it key, h.set key (.siter l 0))
  | _ => none
 | .next x =>
  match x.ev σ with
  | .it b =>
   match h[b]? with
   | some (.siter l p) =>
    if p < l.length then
     some (.tup [.bool true, .int .i64 p, .int .i32 (Utf8.decode ⟨⟨l⟩⟩ p).1], h.set b (.siter l (p + (Utf8.decode ⟨⟨l⟩⟩ p).2)))
    else some (.tup [.bool false], h)
   | _ => none
  | _ => none
 | .copy sz d s =>
  match d.ev σ with
  | .sl s' b o len _ =>
   match srcOf sz (s.ev σ), h[b]? with
   | some ys, some (.cells cs) =>
    if s' = sz ∧ o + len * sz ≤ cs.length then
     some (.int .i64 (Nat.min ys.length len : Nat), h.set b (.cells (cs.take o ++ (ys.take len).flatMap AV.cells ++ cs.drop (o + (Nat.min ys.length len) * sz))))
    else none
   | _, _ => none
  | _ => none
structure Foot where
 R : Option (List Nat)
 W : Option (List Nat)
 /-- A load of this one cell. -/
 L : Option (Nat × Nat)
 /-- A call: is this cell the same behind it? -/
 S : Nat → Nat → Bool
 deriving Inhabited
def noS : Nat → Nat → Bool := fun _ _ => false
def rtKeys : Rt → List Nat
 | .tok t => [t]
 | _ => []
open Classical in
noncomputable def changed (h h' : Heap) : List Nat := (List.range (Nat.max h.length h'.length)).filter fun i => decide (h'[i]? ≠ h[i]?)
def cellOf (h : Heap) (b o : Nat) : Option AV :=
 match h[b]? with
 | some (.cells cs) => loadA none cs o
 | some (.grow _ cs) => loadA none cs o
 | _ => none
open Classical in
noncomputable def sameC (h h' : Heap) (b o : Nat) : Bool := decide (b < h'.length ∧ cellOf h b o = cellOf h' b o)
open Classical in
noncomputable def foot (σ : Slots) (h h' : Heap) (key : Nat) : AOp → Foot
 | .alloc _ => ⟨some [], some [key], none, noS⟩
 | .box _ _ => ⟨some [], some [key], none, noS⟩
 | .bsliceM _ _ => ⟨some [], some [key], none, noS⟩
 | .bsliceG _ _ => ⟨some [], some [key], none, noS⟩
 | .frz _ _ x => match x.ev σ with | .list _ _ _ => ⟨some [], some [], none, noS⟩ | .gl _ b _ => ⟨some [b], some [key, b], none, noS⟩ | _ => ⟨none, none, none, noS⟩
 | .mkslice _ _ _ _ _ _ => ⟨some [], some [key], none, noS⟩
 | .mksliceM _ _ _ _ _ => ⟨some [], some [key], none, noS⟩
 | .mkmap => ⟨some [], some [key], none, noS⟩
 | .rangeS _ => ⟨some [], some [key], none, noS⟩
 | .cvStrBytes _ _ => ⟨some [], some [key], none, noS⟩
 | .cvStrBytesM _ => ⟨some [], some [key], none, noS⟩
 | .cvMark x => match x.ev σ with | .list _ _ r => ⟨some (rtKeys r), some [], none, noS⟩ | _ => ⟨some [], some [], none, noS⟩
 | .load sz x => match x.ev σ with | .ptr b o => ⟨some [b], some [], if sz.isNone then some (b, o) else none, noS⟩ | _ => ⟨some [], some [], none, noS⟩
 | .store _ a _ => match a.ev σ with | .ptr b _ => ⟨some [b], some [b], none, noS⟩ | _ => ⟨none, none, none, noS⟩
 | .cvBytesStr x => match x.ev σ with | .sl _ b _ _ _ => ⟨some [b], some [], none, noS⟩ | .gl _ b _ => ⟨some [b], some [], none, noS⟩ | _ => ⟨some [], some [], none, noS⟩
 | .lenM x => match x.ev σ with | .map b => ⟨some [b], some [], none, noS⟩ | _ => ⟨some [], some [], none, noS⟩
 | .append _ _ _ s _ => match s.ev σ with | .list _ _ r => ⟨some (rtKeys r), some (key :: rtKeys r), none, noS⟩ | .gl _ b _ => ⟨some [b], some [key, b], none, noS⟩ | _ => ⟨none, none, none, noS⟩
 | .appendM _ _ _ s _ => match s.ev σ with | .list _ _ _ => ⟨some [], some [key], none, noS⟩ | .gl _ b _ => ⟨some [b], some [key, b], none, noS⟩ | _ => ⟨none, none, none, noS⟩
 | .sliceT _ x _ => match x.ev σ with | .list _ _ r => ⟨some (rtKeys r), some (key :: rtKeys r), none, noS⟩ | _ => ⟨none, none, none, noS⟩
 | .lookup _ _ _ m _ => match m.ev σ with | .map b => ⟨some [b], some [], none, noS⟩ | _ => ⟨some [], some [], none, noS⟩
 | .update _ m _ _ => match m.ev σ with | .map b => ⟨some [b], some [b], none, noS⟩ | _ => ⟨none, none, none, noS⟩
 | .next x => match x.ev σ with | .it b => ⟨some [b], some [b], none, noS⟩ | _ => ⟨none, none, none, noS⟩
 | .copy _ d _ => match d.ev σ with | .sl _ b _ _ _ => ⟨some [b], some [b], none, noS⟩ | _ => ⟨none, none, none, noS⟩
 | .call _ _ => if h' = h then ⟨none, some [], none, sameC h h'⟩ else ⟨none, some (changed h h'), none, sameC h h'⟩
 | _ => ⟨some [], some [], none, noS⟩
def meet : Option (List Nat) → Option (List Nat) → Bool
 | some [], _ => false
 | _, some [] => false
 | some a, some b => a.any fun x => b.contains x
 | _, _ => true
def Foot.quiet (f : Foot) : Bool := f.R == none && f.W.isSome
def Foot.fresh (f : Foot) : Bool := f.R == some []
def Foot.spares (a b : Foot) : Bool := match a.L with | some (p, o) => b.S p o | none => false
def Foot.clash (a b : Foot) : Bool := !(a.quiet && b.fresh) && !(a.spares b) && !(b.spares a) && (meet a.W b.R || meet a.W b.W || meet a.R b.W)
def passed (σ : Slots) : Option (Nat × Bool) → Option Bool
 | none => some false
 | some (g, w) =>
  match σ g with
  | .bool b => some (b != w)
  | .tup [] => some true
  | _ => none
noncomputable def opsRun (O : CallO) (k0 : Nat) : List AO → Slots → Heap → Option (Slots × Heap)
 | [], σ, h => some (σ, h)
 | o :: r, σ, h =>
  match passed σ o.guard with
  | some true => opsRun O k0 r (put σ o.dst (.tup [])) h
  | some false =>
   match aop O σ h (k0 + o.key) o.op with
   | some (v, h') => opsRun O k0 r (put σ o.dst v) h'
   | none => none
  | none => none
noncomputable def opsRunF (O : CallO) (k0 : Nat) : List AO → Slots → Heap → Option (Slots × Heap × List Foot)
 | [], σ, h => some (σ, h, [])
 | o :: r, σ, h =>
  match passed σ o.guard with
  | some true => (opsRunF O k0 r (put σ o.dst (.tup [])) h).map fun x => (x.1, x.2.1, ⟨some [], some [], none, noS⟩ :: x.2.2)
  | some false =>
   match aop O σ h (k0 + o.key) o.op with
   | some (v, h') => (opsRunF O k0 r (put σ o.dst v) h').map fun x => (x.1, x.2.1, foot σ h h' (k0 + o.key) o.op :: x.2.2)
   | none => none
  | none => none
def pairsOk (ps : List (Nat × Nat)) (fs : List Foot) : Bool :=
 ps.all fun p => !(fs.getD p.1 ⟨some [], some [], none, noS⟩).clash (fs.getD p.2 ⟨some [], some [], none, noS⟩)
inductive Ex where
 | normal
 | exit (id : Nat)
 | goto (l : Nat)
 | ret
 deriving DecidableEq, Inhabited
structure Orc where
 call : CallO
 loop : AC → Slots → Heap → Option (Ex × Slots × Heap)
noncomputable def run (O : Orc) : AC → Slots → Heap → Option (Ex × Slots × Heap)
 | .skip, σ, h => some (.normal, σ, h)
 | .label _, σ, h => some (.normal, σ, h)
 | .region ops nk false _, σ, h =>
  match opsRun O.call h.length ops σ (h ++ List.replicate nk .dead) with
  | some (σ', h') => some (.normal, σ', h')
  | none => none
 | .region ops nk true ps, σ, h =>
  match opsRunF O.call h.length ops σ (h ++ List.replicate nk .dead) with
  | some (σ', h', fs) => if pairsOk ps fs then some (.normal, σ', h') else none
  | none => none
 | .seq a b, σ, h =>
  match run O a σ h with
  | some (.normal, σ', h') => run O b σ' h'
  | r => r
 | .cond c a b, σ, h =>
  match c.ev σ with
  | .bool true => run O a σ h
  | .bool false => run O b σ h
  | _ => none
 | .block id a, σ, h =>
  match run O a σ h with
  | some (.exit j, σ', h') => if j = id then some (.normal, σ', h') else some (.exit j, σ', h')
  | r => r
 | .loop a, σ, h =>
  match run O a σ h with
  | some (.normal, σ', h') => O.loop a σ' h'
  | r => r
 | .exit id, σ, h => some (.exit id, σ, h)
 | .scope a, σ, h =>
  match run O a σ h with
  | some (.goto _, _, _) => none
  | r => r
 | .fail, _, _ => none
 | .goto l, σ, h => some (.goto l, σ, h)
 | .ret, σ, h => some (.ret, σ, h)
def resVal (σ : Slots) (h : Heap) : ARes → Option AV
 | .tmp t => some (σ t)
 | .cell t sz =>
  match σ t with
  | .ptr b o =>
   match h[b]? with
   | some (.cells cs) => loadA sz cs o
   | _ => none
  | _ => none
def resVals (σ : Slots) (h : Heap) : List ARes → Option (List AV)
 | [] => some []
 | r :: rs =>
  match resVal σ h r, resVals σ h rs with
  | some v, some vs => some (v :: vs)
  | _, _ => none
def oneOf : List AV → AV
 | [v] => v
 | vs => .tup vs
open Classical in
noncomputable def clean1 (h1 : Heap) (base : Nat) : AV → Option AV
 | .list sz xs r =>
  if AV.lows base xs then
   match r with
   | .tok t => some (.list sz xs (if t < base then .tok t else .no))
   | r => some (.list sz xs r)
  else none
 | .sl sz b o n c =>
  if b < base then some (.sl sz b o n c)
  else
   match h1[b]? with
   | some (.cells cs) =>
    if sz = 1 ∧ o + n ≤ cs.length ∧ AV.lows base cs then some (.list 1 (elems false 1 (cs.drop o) n) .no)
    else if 1 < sz ∧ o + n * sz ≤ cs.length ∧ AV.lows base cs then some (.list sz (elems true sz (cs.drop o) n) .no)
    else none
   | _ => none
 | v => if v.low base then some v else none
noncomputable def cleans (h1 : Heap) (base : Nat) : List AV → Option (List AV)
 | [] => some []
 | v :: vs =>
  match clean1 h1 base v, cleans h1 base vs with
  | some v', some vs' => some (v' :: vs')
  | _, _ => none
noncomputable def clean2 (h1 : Heap) (base : Nat) : AV → Option AV
 | .agg cs => (cleans h1 base cs).map .agg
 | v => clean1 h1 base v
noncomputable def cleans2 (h1 : Heap) (base : Nat) : List AV → Option (List AV)
 | [] => some []
 | v :: vs =>
  match clean2 h1 base v, cleans2 h1 base vs with
  | some v', some vs' => some (v' :: vs')
  | _, _ => none
noncomputable def clean (h1 : Heap) (base : Nat) : AV → Option AV
 | .tup vs => (cleans2 h1 base vs).map .tup
 | v => clean2 h1 base v
open Classical in
noncomputable def finish (h0 h1 : Heap) (v : AV) : Option (AV × Heap) :=
 match clean h1 h0.length v with
 | some v' =>
  if ∀ i, i < h0.length → h1[i]? = h0[i]? ∨ ∀ e, h1[i]? = some e → e.low h0.length then some (v', h1.take h0.length) else none
 | none => none
noncomputable def callF (O : Orc) (F : AF) (args : List AV) (h0 : Heap) : Option (AV × Heap) :=
 match run O F.body (fun i => args.getD i .junk) h0 with
 | some (.normal, σ, h1) | some (.ret, σ, h1) =>
  match resVals σ h1 F.res with
  | some vs => if F.keep then some (oneOf vs, h1) else finish h0 h1 (oneOf vs)
  | none => none
 | _ => none
noncomputable def callX (X : CallO) (T : FuncId → Option AF) (O : Orc) : CallO := fun f args h =>
 match X f args h with
 | some r => some r
 | none =>
  match T f with
  | some F => callF O F args h
  | none => none
noncomputable def iter (X : CallO) (T : FuncId → Option AF) : Nat → Orc
 | 0 => ⟨fun _ _ _ => none, fun _ _ _ => none⟩
 | k + 1 => ⟨callX X T (iter X T k), fun a σ h => run (iter X T k) (.loop a) σ h⟩
end Go.Am
/-
 From the model's code to the abstract machine's small code: types' tables are looked up once; what isn't covered is 'none'.
-/
namespace Go.Am
open Go
def size? (P : Program) (t : TypeId) : Option Nat := (P.info? t).map (·.size)
def isAggD : TypeDesc → Bool
 | .struct _ => true
 | .array _ _ => true
 | _ => false
def ld (P : Program) (t : TypeId) : Option (Option Nat) :=
 match P.underlying t with
 | some d => if isAggD d then (size? P t).map some else some none
 | none => none
def slSize (P : Program) (t : TypeId) : Nat :=
 match P.underlying t with
 | some (.slice e) => (size? P e).getD 0
 | _ => 0
def constV (P : Program) (t : TypeId) : Value → Option AV
 | .int k n => some (.int k n)
 | .bool b => some (.bool b)
 | .string s => some (.str s.data.toList)
 | .slice none 0 0 => some (.list (slSize P t) [] .full)
 | .pointer none => some .nilp
 | .nilIface => some .nili
 | .nilFunc => some .nilf
 | .map none => some .nilm
 | _ => none
def gtList : List (Nat × List AV) := []
def GT (g : Nat) : Option (List AV) := (gtList.find? (·.1 == g)).map (·.2)
theorem GT_mem {g : Nat} {cs : List AV} (h : GT g = some cs) : (g, cs) ∈ gtList := by
 unfold GT at h
 simp only [Option.map_eq_some_iff] at h
 obtain ⟨⟨g', cs'⟩, h1, h2⟩ := h
 have h3 := List.find?_some h1
 simp at h3 h2
 subst h3; subst h2
 exact List.mem_of_find?_eq_some h1
def cx (P : Program) (t : TypeId) : Operand → Option AX
 | .tmp i => some (.t i)
 | .const v => (constV P t v).map .c
 | .func f => some (.c (.fn f []))
 | .global g => (GT g).map fun cs => .c (.eptr cs)
def cxs (P : Program) (t : TypeId) : List Operand → Option (List AX)
 | [] => some []
 | x :: xs =>
  match cx P t x, cxs P t xs with
  | some y, some ys => some (y :: ys)
  | _, _ => none
def cxTs (P : Program) : List (Operand × TypeId) → Option (List AX)
 | [] => some []
 | x :: xs =>
  match cx P x.2 x.1, cxTs P xs with
  | some y, some ys => some (y :: ys)
  | _, _ => none
mutual
def zeroD (P : Program) : Nat → TypeId → Option (List AV)
 | 0, _ => none
 | d + 1, t =>
  match P.underlying t with
  | some (.struct fs) => zeroFs P d fs.toList
  | some (.array n e) => (zeroD P d e).map fun z => (List.replicate n z).flatten
  | some (.slice _) => some [.list (slSize P t) [] .full]
  | some (.int k) => some [.int k 0]
  | some .bool => some [.bool false]
  | some .string => some [.str []]
  | some (.pointer _) => some [.nilp]
  | some (.interface _) => some [.nili]
  | some (.func _ _ _) => some [.nilf]
  | some (.map _ _) => some [.nilm]
  | _ => none
def zeroFs (P : Program) : Nat → List Field → Option (List AV)
 | 0, _ => none
 | d + 1, fs => fs.foldr (fun f acc =>
   match zeroD P d f.type, acc with
   | some a, some b => some (a ++ b)
   | _, _ => none) (some [])
end
def zOk1 : Value → AV → Bool
 | .int k n, .int k' m => k == k' && n == m
 | .bool a, .bool b => a == b
 | .string s, .str l => s.data.toList == l
 | .pointer none, .nilp => true
 | .nilIface, .nili => true
 | .nilFunc, .nilf => true
 | .map none, .nilm => true
 | .slice none 0 0, .list _ [] .full => true
 | _, _ => false
def zOk : List Value → List AV → Bool
 | [], [] => true
 | v :: vs, a :: as => zOk1 v a && zOk vs as
 | _, _ => false
def zeroA (P : Program) (t : TypeId) : Option (List AV) :=
 match (P.info? t).bind (·.zero), zeroD P 12 t with
 | some z, some as => if zOk z.cells.toList as && (size? P t == some as.length) then some as else none
 | _, _ => none
def zeroV (P : Program) (t : TypeId) : Option AV :=
 match ld P t, zeroA P t with
 | some none, some [a] => some a
 | some (some n), some as => if as.length = n then some (.agg as) else none
 | _, _ => none
def leafK : TypeDesc → Option LK
 | .bool => some .bool
 | .int _ => some .int
 | .string => some .str
 | .pointer _ => some .ptr
 | .interface _ => some .iface
 | .func _ _ _ => some .func
 | _ => none
def eqOffs (P : Program) : Nat → TypeId → Option (List (Nat × LK))
 | 0, _ => none
 | d + 1, t =>
  match P.underlying t with
  | some (.struct fs) =>
   if P.stoodInHeld t then none
   else fs.toList.foldr (fun f acc =>
    if f.name = "_" then acc
    else match ld P f.type, size? P f.type, eqOffs P d f.type, acc with
     | some none, some _, some [(0, k)], some b => some ((f.offset, k) :: b)
     | some (some n), some s, some a, some b => if n = s ∧ a.all (·.1 < s) ∧ f.offset + s ≤ (size? P t).getD 0 then some (a.map (fun p => (f.offset + p.1, p.2)) ++ b) else none
     | _, _, _, _ => none) (some [])
  | some td => (leafK td).map fun k => [(0, k)]
  | none => none
def isK : Operand → Bool
 | .const _ => true
 | _ => false
def keyU (P : Program) (t : TypeId) : Option Bool :=
 match P.underlying t with
 | some (.int _) => some false
 | some .string => some true
 | _ => none
def zeroShape (P : Program) (t : TypeId) : Bool :=
 match (P.info? t).bind (·.zero), ld P t with
 | some (.agg _), some (some _) => true
 | some (.agg _), _ => false
 | some _, some none => true
 | _, _ => false
def isScalarT (P : Program) (t : TypeId) : Bool :=
 match P.underlying t with
 | some (.int _) => true
 | some .string => true
 | _ => false
def optX (P : Program) (x : Option Operand) : Option (Option AX) :=
 match x with
 | none => some none
 | some x => (cx P 0 x).map some
def buildParts (P : Program) (place : Nat → Option (Nat × Nat × TypeId)) : List (Nat × Operand) → Option (List (Nat × Nat × AX))
 | [] => some []
 | (i, x) :: r =>
  match place i with
  | some (off, sz, t) =>
   match cx P t x, buildParts P place r with
   | some y, some ys => if 0 < sz then some ((off, sz, y) :: ys) else none
   | _, _ => none
  | none => none
def fieldPlaceP (P : Program) (fs : Array Field) (i : Nat) : Option (Nat × Nat × TypeId) :=
 match fs[i]? with
 | some f => (size? P f.type).map fun s => (f.offset, s, f.type)
 | none => none
def fieldsSized (P : Program) (fs : Array Field) : Bool := fs.toList.all fun f => (size? P f.type).isSome
def isU8 (P : Program) (e : TypeId) : Bool :=
 match P.underlying e with
 | some (.int .u8) => true
 | _ => false
def constBytes : List AX → Option (List UInt8)
 | [] => some []
 | .c (.int .u8 n) :: r =>
  match constBytes r with
  | some l => if ((UInt8.ofNat n.toNat).toNat : Int) = n then some (UInt8.ofNat n.toNat :: l) else none
  | none => none
 | _ => none
def compileCall (P : Program) (type : TypeId) (c : Call) : Option AOp :=
 match c.callee with
 | .value f =>
  match cx P 0 f, cxTs P (c.args.toList.zipIdx.map fun p => (p.1, c.argTypes.getD p.2 0)) with
  | some g, some as => some (.call g as)
  | _, _ => none
 | .invoke _ _ => none
 | .builtin .len =>
  match c.args.toList, c.argTypes.toList with
  | [x], [t] =>
   match P.underlying t with
   | some .string => (cx P t x).map .lenS
   | some (.slice _) => (cx P t x).map .len
   | some (.map _ _) => (cx P t x).map .lenM
   | some (.array n _) => some (.mv (.c (.int .i64 n)))
   | some (.pointer a) =>
    match P.underlying a with
    | some (.array n _) => some (.mv (.c (.int .i64 n)))
    | _ => none
   | _ => none
  | _, _ => none
 | .builtin .min =>
  match c.args.toList with
  | [x, y] =>
   match cx P 0 x, cx P 0 y with
   | some a, some b => some (.min a b)
   | _, _ => none
  | _ => none
 | .builtin .max =>
  match c.args.toList with
  | [x, y] =>
   match cx P 0 x, cx P 0 y with
   | some a, some b => some (.max a b)
   | _, _ => none
  | _ => none
 | .builtin .append =>
  match c.args.toList, c.argTypes.toList with
  | [s, x], [t, u] =>
   match P.underlying t with
   | some (.slice e) =>
    match P.info? e, zeroA P e, cx P t s, cx P u x, P.underlying u with
    | some i, some z, some a, some b, some d =>
     if z.length = i.size ∧ 0 < i.size ∧ 0 < i.bytes ∧ i.bytes ≤ 1048576 then
      match d with
      | .slice _ => some (.append i.size i.bytes e a b)
      | .string => if i.size = 1 ∧ isU8 P e = true then some (.append i.size i.bytes e a b) else none
      | _ => none
     else none
    | _, _, _, _, _ => none
   | _ => none
  | _, _ => none
 | .builtin .copy =>
  match c.args.toList, c.argTypes.toList with
  | [d, s], [t, u] =>
   match P.underlying t with
   | some (.slice e) =>
    match size? P e, cx P t d, cx P u s, P.underlying u with
    | some sz, some a, some b, some ud =>
     match ud with
     | .slice _ => some (.copy sz a b)
     | .string => if sz = 1 ∧ isU8 P e = true then some (.copy sz a b) else none
     | _ => none
    | _, _, _, _ => none
   | _ => none
  | _, _ => none
 | .builtin _ => none
def markApp (m : Bool) : AOp → AOp
 | .append s b e x y => if m then .appendM s b e x y else .append s b e x y
 | op => op
theorem markApp_call {m : Bool} {op : AOp} {g : AX} {xs : List AX} (h : markApp m op = .call g xs) : op = .call g xs := by
 cases op <;> simp only [markApp] at h <;> first | exact h | (split at h <;> cases h)
def frzOf (P : Program) (t : TypeId) (y : Option AX) : Option AOp :=
 match P.underlying t, y with
 | some (.slice e), some a => match size? P e with | some s => some (.frz s e a) | none => none
 | _, _ => none
def compileOp (P : Program) (mt : List String) (o : Oper) : Option AOp :=
 match o.op with
 | .move x => if mt.contains ("l" ++ o.pos) then frzOf P o.type (cx P o.type x) else (cx P o.type x).map (if mt.contains ("w" ++ o.pos) then .mvW else .mv)
 | .assign x => if mt.contains ("l" ++ o.pos) then frzOf P o.type (cx P o.type x) else (cx P o.type x).map (if mt.contains ("w" ++ o.pos) then .mvW else .mv)
 | .nilCheck x => (cx P o.type x).map .nilchk
 | .pick c a b =>
  match cx P 0 c, cx P o.type a, cx P o.type b with
  | some c, some a, some b => some (.pick c a b)
  | _, _, _ => none
 | .alloc t => (zeroA P t).map .alloc
 | .box t x =>
  match size? P t, cx P t x with
  | some n, some y => if 0 < n then some (.box n y) else none
  | _, _ => none
 | .build t parts =>
  match zeroA P t, P.underlying t with
  | some z, some (.struct fs) =>
   if fieldsSized P fs then (buildParts P (fieldPlaceP P fs) parts.toList).map (.build z) else none
  | some z, some (.array _ e) =>
   match size? P e with
   | some s => (buildParts P (fun i => some (i * s, s, e)) parts.toList).map (.build z)
   | none => none
  | _, _ => none
 | .buildSlice t len parts =>
  match P.underlying t with
  | some (.slice e) =>
   match size? P e, zeroA P e, cxs P e (parts.toList.map (·.2)) with
   | some s, some z, some xs =>
    if parts.toList.map (·.1) = List.range len ∧ len * s ≤ 16777216 ∧ 0 < s ∧ z.length = s then
     some (if mt.contains o.pos && !mt.contains ("=" ++ o.pos) then (if s = 1 ∧ xs.isEmpty = true then .cvStrBytesM (.c (.str [])) else if mt.contains ("g" ++ o.pos) then .bsliceG s xs else .bsliceM s xs) else
      match (if s = 1 ∧ isU8 P e = true then constBytes xs else none) with
      | some l => .cvStrBytes e (.c (.str l))
      | none => .bslice s xs)
    else none
   | _, _, _ => none
  | _ => none
 | .load t x =>
  match ld P t, cx P 0 x with
  | some s, some y => some (.load s y)
  | _, _ => none
 | .store t a x =>
  match size? P t, cx P 0 a, cx P t x with
  | some n, some b, some y => if 0 < n then some (.store n b y) else none
  | _, _, _ => none
 | .binOp op t x y u =>
  match cx P t x, cx P u y with
  | some a, some b =>
   if op = .eql ∨ op = .neq then
    if isScalarT P t then some (.bin op a b)
    else if P.eqGuardType P.depth t && !(ld P t == some none && (isK x || isK y)) then none
    else match eqOffs P 12 t with
     | some offs => (ld P t).map fun s => .eq (op = .neq) s offs a b
     | none => none
   else some (.bin op a b)
  | _, _ => none
 | .unOp op t x =>
  match op, cx P t x with
  | .neg, some a => some (.neg a)
  | .not, some a => some (.not a)
  | _, _ => none
 | .convert s d x =>
  match P.underlying s, P.underlying d, cx P s x with
  | some sd, some dd, some a =>
   match sd, dd with
   | .int _, .int k => some (.cvInt k a)
   | .int _, .string => some (.cvIntStr a)
   | .string, .string => some (.cvStr a)
   | .string, .slice e => if isU8 P e && (P.info? e).isSome && size? P e == some 1 then some (if mt.contains o.pos then .cvStrBytesM a else .cvStrBytes e a) else none
   | .slice _, .slice e => if s == d && isU8 P e then some (.cvMark a) else none
   | .slice e, .string => if isU8 P e then some (.cvBytesStr a) else none
   | _, _ => none
  | _, _, _ => none
 | .makeFunc f first caps =>
  match f, first.toList, cxs P 0 caps.toList with
  | .func g, [], some xs => some (.mkfn g xs)
  | _, _, _ => none
 | .makeSlice t len cap =>
  match P.underlying t with
  | some (.slice e) =>
   match P.info? e, zeroA P e, zeroV P e, cx P 0 len, cx P 0 cap with
   | some i, some zs, some z, some l, some c =>
    if zs.length = i.size ∧ 0 < i.size then
     some (if mt.contains o.pos then .mksliceM zs i.size i.bytes l c else .mkslice z i.size i.bytes e l c)
    else none
   | _, _, _, _, _ => none
  | _ => none
 | .slice t x lo hi mx =>
  match P.underlying t, cx P t x, optX P lo, optX P hi, optX P mx with
  | some (.array n e), some a, some l, some h, some none =>
   match size? P e with
   | some s => some (.sliceA s n a l h)
   | none => none
  | some .string, some a, some l, some h, some none => some (.sliceS a l h)
  | some (.slice e), some a, some l, some h, some m =>
   match size? P e with
   | some s => if m.isNone || h.isSome then some (if mt.contains o.pos then (match l, h, m with | some q, none, none => .sliceT s a q | _, _, _ => .slice s a l h m) else .slice s a l h m) else none
   | none => none
  | _, _, _, _, _ => none
 | .fieldAddr t x f =>
  match P.underlying t, cx P 0 x with
  | some (.struct fs), some a =>
   match fs[f]? with
   | some fd =>
    match size? P fd.type with
    | some s => if 0 < s then some (.off fd.offset a) else none
    | none => none
   | none => none
  | _, _ => none
 | .indexAddr t x i =>
  match P.underlying t, cx P t x, cx P 0 i with
  | some (.slice e), some a, some j => (size? P e).map fun s => .idx s a j
  | some (.array n e), some a, some j => if 1 < n then (size? P e).map fun s => .idxA s n a j else none
  | _, _, _ => none
 | .field t x f =>
  match P.underlying t, cx P t x with
  | some (.struct fs), some a =>
   match fs[f]? with
   | some fd => (ld P fd.type).map fun s => .field fd.offset s a
   | none => none
  | _, _ => none
 | .index t x i =>
  match P.underlying t, cx P t x, cx P 0 i with
  | some .string, some a, some j => some (.indexS a j)
  | some (.array n e), some a, some j =>
   match size? P e, ld P e with
   | some s, some l => some (.indexA l s n a j)
   | _, _ => none
  | _, _, _ => none
 | .lookup t m k ok =>
  match P.underlying t with
  | some (.map kt et) =>
   match zeroV P et, cx P t m, cx P kt k, keyU P kt with
   | some z, some a, some b, some s => if zeroShape P et then some (.lookup s z ok a b) else none
   | _, _, _, _ => none
  | _ => none
 | .mapUpdate t m k v =>
  match P.underlying t with
  | some (.map kt et) =>
   match cx P t m, cx P kt k, cx P et v, keyU P kt with
   | some a, some b, some c, some s => some (.update s a b c)
   | _, _, _, _ => none
  | _ => none
 | .insert t m k v =>
  match P.underlying t with
  | some (.map kt et) =>
   match cx P t m, cx P kt k, cx P et v, keyU P kt with
   | some a, some b, some c, some s => some (.update s a b c)
   | _, _, _, _ => none
  | _ => none
 | .makeMap _ none => some .mkmap
 | .makeInterface t x =>
  match P.underlying t with
  | some d =>
   match d with
   | .interface _ => none
   | _ => (cx P t x).map (.mkiface t)
  | none => none
 | .range t x =>
  match P.underlying t with
  | some .string => (cx P t x).map .rangeS
  | _ => none
 | .next x true => (cx P 0 x).map .next
 | .extract x i => (cx P 0 x).map fun a => .ext a i
 | .call c => (compileCall P o.type c).map (markApp (mt.contains o.pos))
 | _ => none
def AOp.isAlloc : AOp → Bool
 | .alloc _ | .box _ _ | .bsliceM _ _ | .bsliceG _ _ | .frz _ _ _ | .mkslice _ _ _ _ _ _ | .mksliceM _ _ _ _ _ | .append _ _ _ _ _ | .appendM _ _ _ _ _ | .sliceT _ _ _ | .mkmap | .rangeS _ | .cvStrBytes _ _ | .cvStrBytesM _ => true
 | _ => false
def AOp.turns : AOp → Bool
 | .load _ _ | .cvBytesStr _ | .lenM _ | .lookup _ _ _ _ _ | .cvMark _ => false
 | _ => true
def AOp.touchy : AOp → Bool
 | .alloc _ | .box _ _ | .bsliceM _ _ | .bsliceG _ _ | .frz _ _ _ | .mkslice _ _ _ _ _ _ | .mksliceM _ _ _ _ _ | .append _ _ _ _ _ | .appendM _ _ _ _ _ | .sliceT _ _ _ | .mkmap | .rangeS _ | .cvStrBytes _ _ | .cvStrBytesM _ | .cvMark _
 | .load _ _ | .store _ _ _ | .cvBytesStr _ | .lenM _ | .lookup _ _ _ _ _ | .update _ _ _ _ | .next _ | .copy _ _ _ | .call _ _ => true
 | _ => false
def AOp.proved : AOp → Bool
 | .copy _ _ _ => false
 | _ => true
def compileOp' (P : Program) (mt : List String) (o : Oper) : AOp :=
 match compileOp P mt o with
 | some op => if op.proved then op else .fail
 | none => .fail
def dstOk (nt : Nat) (d : Option Nat) : Bool :=
 match d with
 | some d => decide (d < nt)
 | none => true
def compileOps (P : Program) (mt : List String) (nt : Nat) (ops : Array Oper) : List Oper → Nat → Option (List AO × Nat)
 | [], k => some ([], k)
 | o :: r, k =>
  match compileOps P mt nt ops r (if (compileOp' P mt o).isAlloc then k + 1 else k) with
  | some (as, k') =>
   if dstOk nt o.dst then
    match o.guard with
    | none => some (⟨o.dst, compileOp' P mt o, none, k⟩ :: as, k')
    | some (j, w) =>
     match (ops[j]?).bind (·.dst) with
     | some g => if g < nt then some (⟨o.dst, compileOp' P mt o, some (g, w), k⟩ :: as, k') else none
     | none => none
   else none
  | none => none
def openPairs (ops : Array Oper) (as : List AO) : List (Nat × Nat) :=
 let b := Region.before ops
 (List.range as.length).flatMap fun j => (List.range j).filterMap fun i =>
  if ((as.getD i default).op.touchy && (as.getD j default).op.touchy && ((as.getD i default).op.turns || (as.getD j default).op.turns) && !(b.getD j 0).testBit i) then some (i, j) else none
def AX.tmps : AX → List Nat
 | .t i => [i]
 | .c _ => []
def tmpsL (xs : List AX) : List Nat := xs.flatMap AX.tmps
def tmpsO (x : Option AX) : List Nat := match x with | some x => x.tmps | none => []
def AOp.tmps : AOp → List Nat
 | .mv x | .mvW x | .frz _ _ x | .nilchk x | .box _ x | .load _ x | .neg x | .not x | .cvInt _ x | .cvStrBytes _ x | .cvStrBytesM x | .cvBytesStr x | .cvIntStr x | .cvStr x | .off _ x | .field _ _ x
 | .lenS x | .len x | .lenM x | .ext x _ | .mkiface _ x | .rangeS x | .next x | .cvMark x => x.tmps
 | .pick a b c => a.tmps ++ b.tmps ++ c.tmps
 | .alloc _ | .mkmap | .fail => []
 | .build _ ps => ps.flatMap fun p => p.2.2.tmps
 | .bslice _ xs | .bsliceM _ xs | .bsliceG _ xs | .mkfn _ xs => tmpsL xs
 | .store _ a x | .bin _ a x | .eq _ _ _ a x | .idx _ a x | .idxA _ _ a x | .indexS a x | .indexA _ _ _ a x | .min a x | .max a x | .append _ _ _ a x | .appendM _ _ _ a x | .sliceT _ a x | .lookup _ _ _ a x | .copy _ a x => a.tmps ++ x.tmps
 | .mkslice _ _ _ _ a x | .mksliceM _ _ _ a x => a.tmps ++ x.tmps
 | .sliceS x lo hi => x.tmps ++ tmpsO lo ++ tmpsO hi
 | .slice _ x lo hi mx => x.tmps ++ tmpsO lo ++ tmpsO hi ++ tmpsO mx
 | .sliceA _ _ x lo hi => x.tmps ++ tmpsO lo ++ tmpsO hi
 | .call f xs => f.tmps ++ tmpsL xs
 | .update _ m k v => m.tmps ++ k.tmps ++ v.tmps
def AO.reads (o : AO) : List Nat := o.op.tmps ++ (match o.guard with | some (g, _) => [g] | none => [])
def apartA (x y : AO) : Bool :=
 (match x.dst with
  | some d => !y.reads.contains d && y.dst != some d
  | none => true) &&
 (match y.dst with
  | some d => !x.reads.contains d
  | none => true)
def edgesOk (ops : Array Oper) : Bool := ops.toList.zipIdx.all fun p => p.1.after.toList.all fun e => !Region.binds .any e || decide (e.on < p.2)
def slotsOk (ops : Array Oper) (as : List AO) : Bool :=
 edgesOk ops &&
 let b := Region.before ops
 (List.range as.length).all fun j => (List.range j).all fun i => (b.getD j 0).testBit i || apartA (as.getD i default) (as.getD j default)
def compileC (P : Program) (mt : List String) (nt : Nat) : Code → AC
 | .skip => .skip
 | .region _ ops draw =>
  match compileOps P mt nt ops ops.toList 0 with
  | some (as, k) => if draw && !slotsOk ops as then .fail else .region as k draw (if draw then openPairs ops as else [])
  | none => .fail
 | .seq a b => .seq (compileC P mt nt a) (compileC P mt nt b)
 | .cond c a b =>
  match cx P 0 c with
  | some z => .cond z (compileC P mt nt a) (compileC P mt nt b)
  | none => .fail
 | .block id a => .block id (compileC P mt nt a)
 | .loop a => .loop (compileC P mt nt a)
 | .exit id => .exit id
 | .scope a => .scope (compileC P mt nt a)
 | .label l => .label l
 | .goto l => .goto l
 | .ret => .ret
 | _ => .fail
def compileR (P : Program) : ResultVar → Option ARes
 | .tmp t => some (.tmp t)
 | .cell a t => (ld P t).map (.cell a)
def compileRs (P : Program) : List ResultVar → Option (List ARes)
 | [] => some []
 | r :: rs =>
  match compileR P r, compileRs P rs with
  | some a, some as => some (a :: as)
  | _, _ => none
def compileFn (P : Program) (mt kp : List String) (fn : Func) : Option AF :=
 match fn.body with
 | some c =>
  match compileRs P fn.results.toList with
  | some rs => some ⟨compileC P mt fn.ntmps c, rs, kp.contains fn.name⟩
  | none => none
 | none => none
def table (P : Program) (mt kp : List String) (f : FuncId) : Option AF :=
 match P.funcs[f]? with
 | some fn => if fn.name == "runtime.NumGoroutine" || mt.contains ("-" ++ fn.name) then none else compileFn P mt kp fn
 | none => none
end Go.Am
/-
 How the abstract machine's values and heap stand to the model's: values are read off protected cells, which nobody writes any more; each abstract block that lives has a block of its own.
-/
namespace Go.Am
open Go Go.RowKit
structure Env where
 C : Nat → Nat → Option Value
 ρ : Nat → Option (Nat × Nat)
structure Env.le (E E' : Env) : Prop where
 C : ∀ g o v, E.C g o = some v → E'.C g o = some v
 ρ : ∀ b x, E.ρ b = some x → E'.ρ b = some x
theorem Env.le_refl (E : Env) : E.le E := ⟨fun _ _ _ h => h, fun _ _ h => h⟩
theorem Env.le_trans {A B C : Env} (h : A.le B) (k : B.le C) : A.le C := ⟨fun g o v x => k.C g o v (h.C g o v x), fun b x y => k.ρ b x (h.ρ b x y)⟩
def capE (o c : Nat) : Nat := (o + c) * (o + c) + c
theorem capE_inj {o c o' c' : Nat} (h : capE o c = capE o' c') : o = o' ∧ c = c' := by
 unfold capE at h
 have key : ∀ s t a b : Nat, s < t → a ≤ s → s * s + a = t * t + b → False := by
  intro s t a b h1 h2 h3
  have h4 : (s + 1) * (s + 1) ≤ t * t := Nat.mul_le_mul h1 h1
  have h5 : (s + 1) * (s + 1) = s * s + s + s + 1 := by rw [Nat.add_mul, Nat.mul_add]; omega
  omega
 have hs : o + c = o' + c' := by
  rcases Nat.lt_trichotomy (o + c) (o' + c') with q | q | q
  ·exact (key _ _ c c' q (by omega) h).elim
  ·exact q
  ·exact (key _ _ c' c q (by omega) h.symm).elim
 rw [hs] at h
 omega
def RtOk (E : Env) (r : Rt) (A : Option Addr) (n c : Nat) : Prop :=
 match r with
 | .no => True
 | .full => c = n
 | .tok t => ∃ g o, A = some ⟨g, o, none⟩ ∧ E.ρ t = some (g, capE o c)
inductive Rd (E : Env) : Value → AV → Prop
 | junk (v : Value) : Rd E v .junk
 | int (k : IntKind) (n : Int) : Rd E (.int k n) (.int k n)
 | bool (b : Bool) : Rd E (.bool b) (.bool b)
 | str (l : List UInt8) : Rd E (.string ⟨⟨l⟩⟩) (.str l)
 | nilp : Rd E (.pointer none) .nilp
 | nili : Rd E .nilIface .nili
 | nilf : Rd E .nilFunc .nilf
 | nilm : Rd E (.map none) .nilm
 | iface (t : TypeId) (v : Value) (a : AV) : Rd E v a → Rd E (.iface t v) (.iface t a)
 | agg (cs : Array Value) (as : List AV) : cs.size = as.length → (∀ x ∈ as, x.one) → (∀ (i : Nat) (u : Value) (x : AV), cs[i]? = some u → as[i]? = some x → Rd E u x) → Rd E (.agg cs) (.agg as)
 | tup (cs : Array Value) (as : List AV) : cs.size = as.length → (∀ (i : Nat) (u : Value) (x : AV), cs[i]? = some u → as[i]? = some x → Rd E u x) → Rd E (.tuple cs) (.tup as)
 | list (A : Option Addr) (n c sz : Nat) (xs : List AV) (r : Rt) (g o : Nat) (vs : Nat → Nat → Value) :
   xs.length = n → n ≤ c → (0 < n → A = some ⟨g, o, none⟩) → (∀ x ∈ xs, x.cells.length = sz ∧ ∀ y ∈ x.cells, y.one) →
   (∀ i j, i < n → j < sz → E.C g (o + (i * sz + j)) = some (vs i j)) →
   (∀ (i : Nat) (x : AV) (j : Nat) (y : AV), xs[i]? = some x → x.cells[j]? = some y → Rd E (vs i j) y) →
   RtOk E r A n c → Rd E (.slice A n c) (.list sz xs r)
 | ptr (b off g c : Nat) : E.ρ b = some (g, c) → Rd E (.pointer (some ⟨g, off, none⟩)) (.ptr b off)
 | sl (sz b off len cap g c : Nat) : E.ρ b = some (g, c) → len ≤ cap → Rd E (.slice (some ⟨g, off, none⟩) len cap) (.sl sz b off len cap)
 | gl (sz b n g c : Nat) : E.ρ b = some (g, c) → n ≤ c → Rd E (.slice (some ⟨g, 0, none⟩) n c) (.gl sz b n)
 | eptr (g o : Nat) (cs : List AV) (vs : Nat → Value) :
   (∀ y ∈ cs, y.one) → (∀ j, j < cs.length → E.C g (o + j) = some (vs j)) → (∀ (j : Nat) (y : AV), cs[j]? = some y → Rd E (vs j) y) → Rd E (.pointer (some ⟨g, o, none⟩)) (.eptr cs)
 | fn (f : FuncId) (cs : Array Value) (as : List AV) : cs.size = as.length → (∀ (i : Nat) (u : Value) (x : AV), cs[i]? = some u → as[i]? = some x → Rd E u x) → Rd E (.func (.func f) #[] cs) (.fn f as)
 | map (b g c : Nat) : E.ρ b = some (g, c) → Rd E (.map (some g)) (.map b)
 | it (b g c : Nat) : E.ρ b = some (g, c) → Rd E (.pointer (some ⟨g, 0, none⟩)) (.it b)
 | yv (l : Nat) : Rd E (.func (.yield l) #[] #[]) (.yv l)
theorem RtOk.mono {E E' : Env} (h : E.le E') {r : Rt} {A : Option Addr} {n c : Nat} (k : RtOk E r A n c) : RtOk E' r A n c := by
 cases r with
 | no => trivial
 | full => exact k
 | tok t => obtain ⟨g, o, h1, h2⟩ := k; exact ⟨g, o, h1, h.ρ _ _ h2⟩
theorem Rd.mono {E E' : Env} (h : E.le E') {v : Value} {a : AV} (k : Rd E v a) : Rd E' v a := by
 induction k with
 | junk v => exact .junk v
 | int k n => exact .int k n
 | bool b => exact .bool b
 | str l => exact .str l
 | nilp => exact .nilp
 | nili => exact .nili
 | nilf => exact .nilf
 | nilm => exact .nilm
 | iface t v a _ ih => exact .iface t v a ih
 | agg cs as hl ho _ ih => exact .agg cs as hl ho ih
 | tup cs as hl _ ih => exact .tup cs as hl ih
 | list A n c sz xs r g o vs h1 h2 h3 h4 h5 h6 h7 ih => exact .list A n c sz xs r g o vs h1 h2 h3 h4 (fun i j hi hj => h.C _ _ _ (h5 i j hi hj)) ih (h7.mono h)
 | ptr b off g c hb => exact .ptr b off g c (h.ρ _ _ hb)
 | sl sz b off len cap g c hb hl => exact .sl sz b off len cap g c (h.ρ _ _ hb) hl
 | gl sz b n g c hb hl => exact .gl sz b n g c (h.ρ _ _ hb) hl
 | eptr g o cs vs ho h1 _ ih => exact .eptr g o cs vs ho (fun j hj => h.C _ _ _ (h1 j hj)) ih
 | fn f cs as hl _ ih => exact .fn f cs as hl ih
 | map b g c hb => exact .map b g c (h.ρ _ _ hb)
 | it b g c hb => exact .it b g c (h.ρ _ _ hb)
 | yv l => exact .yv l
def Env.cut (E : Env) (n : Nat) : Env := ⟨E.C, fun b => if b < n then E.ρ b else none⟩
theorem lows_iff {n : Nat} {xs : List AV} : AV.lows n xs ↔ ∀ x ∈ xs, x.low n := by
 induction xs with
 | nil => simp [AV.lows]
 | cons x xs ih => simp [AV.lows, ih]
mutual
theorem AV.low_of_pure (n : Nat) : ∀ (a : AV), a.pure → a.low n
 | .agg cs, h => by simp only [AV.pure] at h; simp only [AV.low]; exact AV.lows_of_pures n cs h
 | .tup cs, h => by simp only [AV.pure] at h; simp only [AV.low]; exact AV.lows_of_pures n cs h
 | .eptr cs, h => by simp only [AV.pure] at h; simp only [AV.low]; exact AV.lows_of_pures n cs h
 | .fn _ cs, h => by simp only [AV.pure] at h; simp only [AV.low]; exact AV.lows_of_pures n cs h
 | .iface _ v, h => by simp only [AV.pure] at h; simp only [AV.low]; exact AV.low_of_pure n v h
 | .list _ xs r, h => by
  simp only [AV.pure] at h; simp only [AV.low]
  exact ⟨fun t ht => absurd ht (h.1 t), AV.lows_of_pures n xs h.2⟩
 | .ptr _ _, h => by simp [AV.pure] at h
 | .sl _ _ _ _ _, h => by simp [AV.pure] at h
 | .gl _ _ _, h => by simp [AV.pure] at h
 | .map _, h => by simp [AV.pure] at h
 | .it _, h => by simp [AV.pure] at h
 | .yv _, h => by simp [AV.low]
 | .junk, _ => by simp [AV.low]
 | .int _ _, _ => by simp [AV.low]
 | .bool _, _ => by simp [AV.low]
 | .str _, _ => by simp [AV.low]
 | .nilp, _ => by simp [AV.low]
 | .nili, _ => by simp [AV.low]
 | .nilf, _ => by simp [AV.low]
 | .nilm, _ => by simp [AV.low]
theorem AV.lows_of_pures (n : Nat) : ∀ (xs : List AV), AV.pures xs → AV.lows n xs
 | [], _ => by simp [AV.lows]
 | x :: xs, h => by
  simp only [AV.pures] at h; simp only [AV.lows]
  exact ⟨AV.low_of_pure n x h.1, AV.lows_of_pures n xs h.2⟩
end
theorem low_cells {n : Nat} {x y : AV} (h : x.low n) (hy : y ∈ x.cells) : y.low n := by
 cases x <;> simp only [AV.cells, List.mem_singleton, List.not_mem_nil] at hy <;> try (subst hy; exact h)
 rename_i cs
 simp only [AV.low] at h
 exact (lows_iff.1 h) y hy
theorem Rd.cut {E : Env} {n : Nat} {v : Value} {a : AV} (k : Rd E v a) : a.low n → Rd (E.cut n) v a := by
 induction k with
 | junk v => exact fun _ => .junk v
 | int k n => exact fun _ => .int k n
 | bool b => exact fun _ => .bool b
 | str l => exact fun _ => .str l
 | nilp => exact fun _ => .nilp
 | nili => exact fun _ => .nili
 | nilf => exact fun _ => .nilf
 | nilm => exact fun _ => .nilm
 | iface t v a _ ih => intro h; simp only [AV.low] at h; exact .iface t v a (ih h)
 | agg cs as hl ho _ ih =>
  intro h; simp only [AV.low] at h
  exact .agg cs as hl ho fun i u x hu hx => ih i u x hu hx (lows_iff.1 h x (List.mem_of_getElem? hx))
 | tup cs as hl _ ih =>
  intro h; simp only [AV.low] at h
  exact .tup cs as hl fun i u x hu hx => ih i u x hu hx (lows_iff.1 h x (List.mem_of_getElem? hx))
 | list A m c sz xs r g o vs h1 h2 h3 h4 h5 h6 h7 ih =>
  intro h; simp only [AV.low] at h
  refine .list A m c sz xs r g o vs h1 h2 h3 h4 h5 (fun i x j y hx hy => ih i x j y hx hy (low_cells (lows_iff.1 h.2 x (List.mem_of_getElem? hx)) (List.mem_of_getElem? hy))) ?_
  cases r with
  | no => trivial
  | full => exact h7
  | tok t =>
   obtain ⟨g', o', e1, e2⟩ := h7
   exact ⟨g', o', e1, by simp only [Env.cut]; rw [if_pos (h.1 t rfl)]; exact e2⟩
 | ptr b off g c hb => intro h; simp only [AV.low] at h; exact .ptr b off g c (by simp only [Env.cut]; rw [if_pos h]; exact hb)
 | sl sz b off len cap g c hb hl => intro h; simp only [AV.low] at h; exact .sl sz b off len cap g c (by simp only [Env.cut]; rw [if_pos h]; exact hb) hl
 | gl sz b m g c hb hl => intro h; simp only [AV.low] at h; exact .gl sz b m g c (by simp only [Env.cut]; rw [if_pos h]; exact hb) hl
 | eptr g o cs vs ho h1 _ ih =>
  intro h; simp only [AV.low] at h
  exact .eptr g o cs vs ho h1 fun j y hy => ih j y hy (lows_iff.1 h y (List.mem_of_getElem? hy))
 | fn f cs as hl _ ih =>
  intro h; simp only [AV.low] at h
  exact .fn f cs as hl fun i u x hu hx => ih i u x hu hx (lows_iff.1 h x (List.mem_of_getElem? hx))
 | map b g c hb => intro h; simp only [AV.low] at h; exact .map b g c (by simp only [Env.cut]; rw [if_pos h]; exact hb)
 | yv l => intro _; exact .yv l
 | it b g c hb => intro h; simp only [AV.low] at h; exact .it b g c (by simp only [Env.cut]; rw [if_pos h]; exact hb)
/-! ### The heap -/
def Unf (fr : Nat × Nat) (n : Nat) : Prop := fr.1 = fr.2 ∨ n ≤ fr.1
theorem Unf.at {fr : Nat × Nat} {n : Nat} (h : Unf fr n) (o : Nat) (ho : o < n) : (decide (fr.1 ≤ o) && decide (o < fr.2)) = false := by
 rcases h with h | h
 ·by_cases h1 : fr.1 ≤ o
  ·have : ¬ o < fr.2 := by omega
   simp [this]
  ·simp [h1]
 ·have : ¬ fr.1 ≤ o := by omega
  simp [this]
def RdCells (E : Env) (cur : Array Value) (cs : List AV) : Prop := (∀ y ∈ cs, y.one) ∧ ∀ (o : Nat) (u : Value) (x : AV), cur[o]? = some u → cs[o]? = some x → Rd E u x
def LiveAt (B : Nat) (E : Env) (w : World) (g c : Nat) : AE → Prop
 | .dead => True
 | .cells cs => B ≤ g ∧ (∃ cur t fr, w.heap[g]? = some (.cells cur t fr) ∧ cur.size = cs.length ∧ RdCells E cur cs ∧ Unf fr cur.size) ∧ ∀ o, E.C g o = none
 | .grow sz cs => B ≤ g ∧ (∃ cur t fr, w.heap[g]? = some (.cells cur t fr) ∧ cs.length ≤ cur.size ∧ cur.size = c * sz ∧ RdCells E cur cs ∧ Unf fr cur.size) ∧ ∀ o, E.C g o = none
 | .tok sz n _ => B ≤ g ∧ ∃ o0 c0, c = capE o0 c0 ∧ (∃ cur t fr, w.heap[g]? = some (.cells cur t fr) ∧ o0 + c0 * sz ≤ cur.size ∧ n ≤ c0 ∧ Unf fr cur.size) ∧ ∀ o, o0 + n * sz ≤ o → o < o0 + c0 * sz → E.C g o = none
 | .amap es => B ≤ g ∧ ∃ mes clock, w.heap[g]? = some (.map mes clock) ∧ mes.size = es.length ∧ ∀ (i : Nat) (m : MapEntry) (e : AV × AV), mes[i]? = some m → es[i]? = some e → Rd E m.key e.1 ∧ Rd E m.val e.2
 | .siter l p => B ≤ g ∧ w.heap[g]? = some (.stringIter ⟨⟨l⟩⟩ p)
 | .opq o => B ≤ g ∧ w.heap[g]? = some o
def GlOk (E : Env) : Prop := ∀ g cs, GT g = some cs → Rd E (.pointer (some ⟨g, 0, none⟩)) (.eptr cs)
theorem GlOk.mono {E E' : Env} (h : E.le E') (k : GlOk E) : GlOk E' := fun g cs e => (k g cs e).mono h
theorem gt_pures : ∀ p ∈ gtList, AV.pures p.2 := by simp [gtList, AV.pures, AV.pure]
theorem GlOk.cut {E : Env} (k : GlOk E) (n : Nat) : GlOk (E.cut n) := fun g cs e => (k g cs e).cut (by
 simp only [AV.low]
 exact AV.lows_of_pures n cs (gt_pures _ (GT_mem e)))
def ZOk (B : Nat) (w0 : World) : Prop := (1 < B ∧ ∃ t fr, w0.heap[1]? = some (.cells #[.int .u64 1, .int .u64 10, .int .u64 100, .int .u64 1000, .int .u64 10000, .int .u64 100000, .int .u64 1000000, .int .u64 10000000, .int .u64 100000000, .int .u64 1000000000, .int .u64 10000000000, .int .u64 100000000000, .int .u64 1000000000000, .int .u64 10000000000000, .int .u64 100000000000000, .int .u64 1000000000000000, .int .u64 10000000000000000, .int .u64 100000000000000000, .int .u64 1000000000000000000, .int .u64 10000000000000000000] t fr)) ∧ (0 < B ∧ ∃ m t fr, w0.heap[0]? = some (.cells #[.int .i64 m] t fr))
structure Rel (B : Nat) (w0 : World) (E : Env) (h : Heap) (w : World) : Prop where
 below : Below B w0 w
 bsz : B ≤ w.heap.size
 dom : ∀ b x, E.ρ b = some x → b < h.length
 prot : ∀ g o v, E.C g o = some v → w.cell? ⟨g, o, none⟩ = some v
 live : ∀ b e, h[b]? = some e → e ≠ .dead → ∃ g c, E.ρ b = some (g, c) ∧ LiveAt B E w g c e
 uniq : ∀ b b' e e', b ≠ b' → h[b]? = some e → e ≠ .dead → h[b']? = some e' → e' ≠ .dead → ∀ g c g' c', E.ρ b = some (g, c) → E.ρ b' = some (g', c') → g ≠ g'
 gl : GlOk E
 z : ZOk B w0
theorem LiveAt.mono {B : Nat} {E E' : Env} {w : World} {g c : Nat} {e : AE} (h : LiveAt B E w g c e) (hE : E.le E') (hC : ∀ o, E'.C g o = E.C g o) : LiveAt B E' w g c e := by
 cases e with
 | dead => trivial
 | cells cs =>
  obtain ⟨h1, ⟨cur, t, fr, h2, h3, h4, h5⟩, h6⟩ := h
  exact ⟨h1, ⟨cur, t, fr, h2, h3, ⟨h4.1, fun o u x hu hx => (h4.2 o u x hu hx).mono hE⟩, h5⟩, fun o => by rw [hC]; exact h6 o⟩
 | grow sz cs =>
  obtain ⟨h1, ⟨cur, t, fr, h2, h3, h3', h4, h5⟩, h6⟩ := h
  exact ⟨h1, ⟨cur, t, fr, h2, h3, h3', ⟨h4.1, fun o u x hu hx => (h4.2 o u x hu hx).mono hE⟩, h5⟩, fun o => by rw [hC]; exact h6 o⟩
 | tok sz n e =>
  obtain ⟨h1, o0, c0, h0, h2, h6⟩ := h
  exact ⟨h1, o0, c0, h0, h2, fun o ho ho2 => by rw [hC]; exact h6 o ho ho2⟩
 | amap es =>
  obtain ⟨h1, mes, clock, h2, h3, h4⟩ := h
  exact ⟨h1, mes, clock, h2, h3, fun i m e hm he => ⟨(h4 i m e hm he).1.mono hE, (h4 i m e hm he).2.mono hE⟩⟩
 | siter l p => exact h
 | opq o => exact h
theorem LiveAt.world {B : Nat} {E : Env} {w w' : World} {g c : Nat} {e : AE} (h : LiveAt B E w g c e) (hg : w'.heap[g]? = w.heap[g]?) : LiveAt B E w' g c e := by
 cases e with
 | dead => trivial
 | cells cs => simpa only [LiveAt, hg] using h
 | grow sz cs => simpa only [LiveAt, hg] using h
 | tok sz n e => simpa only [LiveAt, hg] using h
 | amap es => simpa only [LiveAt, hg] using h
 | siter l p => simpa only [LiveAt, hg] using h
 | opq o => simpa only [LiveAt, hg] using h
theorem LiveAt.lt {B : Nat} {E : Env} {w : World} {g c : Nat} {e : AE} (h : LiveAt B E w g c e) (he : e ≠ .dead) : g < w.heap.size ∧ B ≤ g := by
 have key : ∀ {o : Obj}, w.heap[g]? = some o → g < w.heap.size := fun h => (Array.getElem?_eq_some_iff.1 h).1
 cases e with
 | dead => exact absurd rfl he
 | cells cs => obtain ⟨h1, ⟨cur, t, fr, h2, _⟩, _⟩ := h; exact ⟨key h2, h1⟩
 | grow sz cs => obtain ⟨h1, ⟨cur, t, fr, h2, _⟩, _⟩ := h; exact ⟨key h2, h1⟩
 | tok sz n e => obtain ⟨h1, o0, c0, _, ⟨cur, t, fr, h2, _⟩, _⟩ := h; exact ⟨key h2, h1⟩
 | amap es => obtain ⟨h1, mes, clock, h2, _⟩ := h; exact ⟨key h2, h1⟩
 | siter l p => obtain ⟨h1, h2⟩ := h; exact ⟨key h2, h1⟩
 | opq o => obtain ⟨h1, h2⟩ := h; exact ⟨key h2, h1⟩
theorem Rel.world {B : Nat} {w0 : World} {E : Env} {h : Heap} {w w' : World} (r : Rel B w0 E h w) (hb : Below w.heap.size w w') : Rel B w0 E h w' where
 below := r.below.trans (hb.mono r.bsz)
 bsz := Nat.le_trans r.bsz hb.size
 dom := r.dom
 prot := fun g o v hv => by
  have h1 := r.prot g o v hv
  exact (hb.cell (World.block_lt_of_cell? w _ h1)).trans h1
 live := fun b e he hd => by
  obtain ⟨g, c, h1, h2⟩ := r.live b e he hd
  exact ⟨g, c, h1, h2.world (hb.block g (h2.lt hd).1)⟩
 uniq := r.uniq
 gl := r.gl
 z := r.z
theorem Rel.drew {B : Nat} {w0 : World} {E : Env} {h : Heap} {w : World} (r : Rel B w0 E h w) : Rel B w0 E h w.drew := r.world (Below.drew (Below.refl _ _))
theorem Rel.reserve {B : Nat} {w0 : World} {E : Env} {h : Heap} {w : World} (r : Rel B w0 E h w) (n : Nat) : Rel B w0 E (h ++ List.replicate n .dead) w where
 below := r.below
 bsz := r.bsz
 dom := fun b x hx => by have := r.dom b x hx; simp; omega
 prot := r.prot
 live := fun b e he hd => by
  rw [List.getElem?_append] at he
  split at he
  ·exact r.live b e he hd
  ·simp [List.getElem?_replicate] at he
   exact absurd he.2.symm hd
 uniq := fun b b' e e' hne he hd he' hd' => by
  have k : ∀ {b : Nat} {e : AE}, (h ++ List.replicate n AE.dead)[b]? = some e → e ≠ .dead → h[b]? = some e := by
   intro b e he hd
   rw [List.getElem?_append] at he
   split at he
   ·exact he
   ·simp [List.getElem?_replicate] at he
    exact absurd he.2.symm hd
  exact r.uniq b b' e e' hne (k he hd) hd (k he' hd') hd'
 gl := r.gl
 z := r.z
theorem Rel.enter {B : Nat} {w0 : World} {E : Env} {h : Heap} {w : World} (r : Rel B w0 E h w) (key : Nat) (hk : h[key]? = some .dead) (hfree : E.ρ key = none) (g c : Nat) (e : AE) (C' : Nat → Nat → Option Value)
  (hC : ∀ g o v, E.C g o = some v → C' g o = some v) (hp : ∀ g o v, C' g o = some v → w.cell? ⟨g, o, none⟩ = some v)
  (hold : ∀ b e', h[b]? = some e' → e' ≠ .dead → ∀ g' c', E.ρ b = some (g', c') → g' ≠ g ∧ ∀ o, C' g' o = E.C g' o)
  (hnew : LiveAt B ⟨C', fun b => if b = key then some (g, c) else E.ρ b⟩ w g c e) :
  E.le ⟨C', fun b => if b = key then some (g, c) else E.ρ b⟩ ∧ Rel B w0 ⟨C', fun b => if b = key then some (g, c) else E.ρ b⟩ (h.set key e) w := by
 have hlt : key < h.length := by
  rcases Nat.lt_or_ge key h.length with h' | h'
  ·exact h'
  ·rw [List.getElem?_eq_none h'] at hk; cases hk
 have hle : E.le ⟨C', fun b => if b = key then some (g, c) else E.ρ b⟩ := by
  refine ⟨hC, fun b x hx => ?_⟩
  dsimp only
  split
  ·rename_i e; subst e; rw [hfree] at hx; cases hx
  ·exact hx
 have hget : ∀ b e', (h.set key e)[b]? = some e' → (b = key ∧ e' = e) ∨ (b ≠ key ∧ h[b]? = some e') := by
  intro b e' he
  rw [List.getElem?_set] at he
  split at he
  ·rename_i hb; subst hb
   exact .inl ⟨rfl, by simp_all⟩
  ·rename_i hb
   exact .inr ⟨fun h => hb h.symm, he⟩
 refine ⟨hle, r.below, r.bsz, ?_, hp, ?_, ?_, r.gl.mono hle, r.z⟩
 ·intro b x hx
  dsimp only at hx
  simp only [List.length_set]
  split at hx
  ·rename_i e; subst e; exact hlt
  ·exact r.dom b x hx
 ·intro b e' he hd
  rcases hget b e' he with ⟨rfl, rfl⟩ | ⟨hne, he⟩
  ·exact ⟨g, c, if_pos rfl, hnew⟩
  ·obtain ⟨g', c', h1, h2⟩ := r.live b e' he hd
   exact ⟨g', c', by dsimp only; rw [if_neg hne]; exact h1, h2.mono hle (hold b e' he hd g' c' h1).2⟩
 ·intro b b' e1 e2 hne he1 hd1 he2 hd2 g1 c1 g2 c2 h1 h2
  dsimp only at h1 h2
  rcases hget b e1 he1 with ⟨rfl, rfl⟩ | ⟨hn1, ke1⟩
  ·rcases hget b' e2 he2 with ⟨rfl, rfl⟩ | ⟨hn2, ke2⟩
   ·exact absurd rfl hne
   ·rw [if_pos rfl] at h1
    rw [if_neg hn2] at h2
    have := (hold b' e2 ke2 hd2 g2 c2 h2).1
    injection h1 with h1; injection h1 with h1 _
    subst h1
    exact fun h => this h.symm
  ·rcases hget b' e2 he2 with ⟨rfl, rfl⟩ | ⟨hn2, ke2⟩
   ·rw [if_pos rfl] at h2
    rw [if_neg hn1] at h1
    have := (hold b e1 ke1 hd1 g1 c1 h1).1
    injection h2 with h2; injection h2 with h2 _
    subst h2
    exact this
   ·rw [if_neg hn1] at h1
    rw [if_neg hn2] at h2
    exact r.uniq b b' e1 e2 hne ke1 hd1 ke2 hd2 g1 c1 g2 c2 h1 h2
theorem Rel.kill {B : Nat} {w0 : World} {E : Env} {h : Heap} {w : World} (r : Rel B w0 E h w) (t : Nat) : Rel B w0 E (h.set t .dead) w where
 below := r.below
 bsz := r.bsz
 dom := fun b x hx => by simp only [List.length_set]; exact r.dom b x hx
 prot := r.prot
 live := fun b e he hd => by
  rw [List.getElem?_set] at he
  split at he
  ·split at he
   ·injection he with he; exact absurd he.symm hd
   ·cases he
  ·exact r.live b e he hd
 uniq := fun b b' e e' hne he hd he' hd' => by
  have k : ∀ {b : Nat} {e : AE}, (h.set t AE.dead)[b]? = some e → e ≠ .dead → h[b]? = some e := by
   intro b e he hd
   rw [List.getElem?_set] at he
   split at he
   ·split at he
    ·injection he with he; exact absurd he.symm hd
    ·cases he
   ·exact he
  exact r.uniq b b' e e' hne (k he hd) hd (k he' hd') hd'
 gl := r.gl
 z := r.z
theorem Rel.turn {B : Nat} {w0 : World} {E : Env} {h : Heap} {w w' : World} (r : Rel B w0 E h w) (b g c : Nat) (e e' : AE) (hb : h[b]? = some e) (hd : e ≠ .dead) (hd' : e' ≠ .dead) (hρ : E.ρ b = some (g, c))
  (hB : B ≤ g) (hw : w.grownBy w' (some g)) (hp : ∀ o v, E.C g o = some v → w'.cell? ⟨g, o, none⟩ = some v) (hnew : LiveAt B E w' g c e') : Rel B w0 E (h.set b e') w' := by
 have hlt : b < h.length := by
  rcases Nat.lt_or_ge b h.length with h' | h'
  ·exact h'
  ·rw [List.getElem?_eq_none h'] at hb; cases hb
 have hget : ∀ b1 e1, (h.set b e')[b1]? = some e1 → (b1 = b ∧ e1 = e') ∨ (b1 ≠ b ∧ h[b1]? = some e1) := by
  intro b1 e1 he
  rw [List.getElem?_set] at he
  split at he
  ·rename_i hb; subst hb
   exact .inl ⟨rfl, by simp_all⟩
  ·rename_i hb
   exact .inr ⟨fun h => hb h.symm, he⟩
 refine ⟨r.below.grown hw r.bsz (fun k hk => by injection hk with hk; subst hk; exact hB), Nat.le_trans r.bsz hw.size, fun b x hx => by simp only [List.length_set]; exact r.dom b x hx, ?_, ?_, ?_, r.gl, r.z⟩
 ·intro g' o v hv
  by_cases e : g' = g
  ·subst e; exact hp o v hv
  ·exact hw.cell (r.prot g' o v hv) (by simpa using e)
 ·intro b1 e1 he1 hd1
  rcases hget b1 e1 he1 with ⟨rfl, rfl⟩ | ⟨hne, he1⟩
  ·exact ⟨g, c, hρ, hnew⟩
  ·obtain ⟨g1, c1, h1, h2⟩ := r.live b1 e1 he1 hd1
   refine ⟨g1, c1, h1, h2.world (hw.block g1 (h2.lt hd1).1 ?_)⟩
   have := r.uniq b1 b e1 e hne he1 hd1 hb hd g1 c1 g c h1 hρ
   simpa using this
 ·intro b1 b2 e1 e2 hne he1 hd1 he2 hd2 g1 c1 g2 c2 h1 h2
  rcases hget b1 e1 he1 with ⟨rfl, rfl⟩ | ⟨hn1, ke1⟩
  ·rcases hget b2 e2 he2 with ⟨rfl, rfl⟩ | ⟨hn2, ke2⟩
   ·exact absurd rfl hne
   ·exact r.uniq b1 b2 e e2 hne hb hd ke2 hd2 g1 c1 g2 c2 h1 h2
  ·rcases hget b2 e2 he2 with ⟨rfl, rfl⟩ | ⟨hn2, ke2⟩
   ·exact r.uniq b1 b2 e1 e hne ke1 hd1 hb hd g1 c1 g2 c2 h1 h2
   ·exact r.uniq b1 b2 e1 e2 hne ke1 hd1 ke2 hd2 g1 c1 g2 c2 h1 h2
def SR (E : Env) (a : Act) (σ : Slots) : Prop := GlOk E ∧ ∀ t, Rd E (a.tmps.getD t undef) (σ t)
theorem SR.mono {E E' : Env} (h : E.le E') {a : Act} {σ : Slots} (k : SR E a σ) : SR E' a σ := ⟨k.1.mono h, fun t => (k.2 t).mono h⟩
theorem SR.put {E : Env} {a : Act} {σ : Slots} (k : SR E a σ) {d : Option Nat} (hd : ∀ x, d = some x → x < a.tmps.size) {v : Value} {x : AV} (hx : Rd E v x) : SR E (a.put d v) (put σ d x) := by
 cases d with
 | none => exact k
 | some d =>
  refine ⟨k.1, fun t => ?_⟩
  simp only [Act.put, Am.put, upd]
  by_cases e : t = d
  ·subst e
   rw [if_pos rfl]
   have := hd t rfl
   simp [Array.getD_eq_getD_getElem?, Array.getElem?_setIfInBounds, this, hx]
  ·rw [if_neg e]
   have h := k.2 t
   simp only [Array.getD_eq_getD_getElem?, Array.getElem?_setIfInBounds] at h ⊢
   rw [if_neg (fun h => e h.symm)]
   exact h
theorem size_put (a : Act) (d : Option Tmp) (v : Value) : (a.put d v).tmps.size = a.tmps.size := by
 cases d <;> simp [Act.put]
theorem defers_put (a : Act) (d : Option Tmp) (v : Value) : (a.put d v).defers = a.defers := by
 cases d <;> rfl
end Go.Am
/-
 Each operation of the abstract machine is what the model's machine does: operands, loads, stores, new blocks.
-/
namespace Go.Am
open Go Go.RowKit
def Out (P : Program) (B : Nat) (w0 : World) (E : Env) (h' : Heap) (key : Nat) (a : Act) (o : Oper) (w : World) (x : AV) : Prop :=
 ∃ val w' E', ((execOp a.eval o).run P w = .ok (.value val) w' ∨ ((execOp a.eval o).run P w = .ok .skip w' ∧ val = undef)) ∧ E.le E' ∧ (∀ b, b ≠ key → E'.ρ b = E.ρ b) ∧ Rel B w0 E' h' w' ∧ Rd E' val x
theorem Out.quiet {P : Program} {B : Nat} {w0 : World} {E : Env} {h : Heap} {key : Nat} {a : Act} {o : Oper} {w : World} {x : AV} (r : Rel B w0 E h w) (v : Value) (hrun : (execOp a.eval o).run P w = .ok (.value v) w) (hx : Rd E v x) : Out P B w0 E h key a o w x :=
 ⟨v, w, E, .inl hrun, E.le_refl, fun _ _ => rfl, r, hx⟩
section
variable {P : Program} {B : Nat} {w0 : World} {E : Env} {h : Heap} {a : Act} {w : World} {σ : Slots}
theorem constV_sound {t : TypeId} {v : Value} {x : AV} (hc : constV P t v = some x) : Rd E v x := by
 unfold constV at hc
 split at hc <;> first
  | (injection hc with hc; subst hc; first
    | exact .int _ _
    | exact .bool _
    | exact .str _
    | exact .nilp
    | exact .nili
    | exact .nilf
    | exact .nilm
    | exact .list none 0 0 _ [] .full 0 0 (fun _ _ => undef) rfl (Nat.le_refl _) (fun h => absurd h (by omega)) (by simp) (by omega) (by simp) rfl)
  | cases hc
theorem cx_sound {t : TypeId} {x : Operand} {y : AX} (hc : cx P t x = some y) (hs : SR E a σ) : Rd E (a.eval x) (y.ev σ) := by
 cases x with
 | tmp i => simp only [cx, Option.some.injEq] at hc; subst hc; exact hs.2 i
 | const v =>
  simp only [cx, Option.map_eq_some_iff] at hc
  obtain ⟨z, hz, rfl⟩ := hc
  exact constV_sound hz
 | func f => simp only [cx, Option.some.injEq] at hc; subst hc; exact .fn f #[] [] rfl (by simp)
 | global g =>
  simp only [cx, Option.map_eq_some_iff] at hc
  obtain ⟨cs, h1, rfl⟩ := hc
  exact hs.1 g cs h1
theorem Rd.one_cell {v : Value} {x : AV} (k : Rd E v x) (h1 : x.one) : v.oneCell' = true := by
 cases k <;> first
  | rfl
  | exact absurd h1 (by simp [AV.one])
theorem Rd.cells_eq {v : Value} {x : AV} (k : Rd E v x) (h1 : x.one) : v.cells = #[v] ∧ x.cells = [x] := by
 cases k <;> first
  | exact ⟨rfl, rfl⟩
  | exact absurd h1 (by simp [AV.one])
theorem Rd.cells {v : Value} {x : AV} (k : Rd E v x) (hne : x.cells ≠ []) : v.cells.size = x.cells.length ∧ RdCells E v.cells x.cells := by
 by_cases h1 : x.one
 ·obtain ⟨e1, e2⟩ := k.cells_eq h1
  rw [e1, e2]
  refine ⟨rfl, by simpa using h1, fun o u y hu hy => ?_⟩
  match o with
  | 0 => simp at hu hy; subst hu; subst hy; exact k
  | o + 1 => simp at hu
 ·cases k with
  | agg cs as hl ho hc => exact ⟨hl, ho, hc⟩
  | junk v => exact absurd rfl hne
  | tup cs as hl hc => exact absurd rfl hne
  | _ => exact absurd trivial h1
theorem RdCells.one_cell {cur : Array Value} {cs : List AV} (k : RdCells E cur cs) {o : Nat} {u : Value} (hu : cur[o]? = some u) (hlt : o < cs.length) : u.oneCell' = true := by
 obtain ⟨x, hx⟩ : ∃ x, cs[o]? = some x := ⟨cs[o], List.getElem?_eq_getElem hlt⟩
 exact (k.2 o u x hu hx).one_cell (k.1 x (List.mem_of_getElem? hx))
/-! ### Loads -/
theorem ld_some {t : TypeId} {s : Option Nat} (hl : ld P t = some s) : ∃ d, P.underlying t = some d ∧ ((isAggD d = true ∧ ∃ n, size? P t = some n ∧ s = some n) ∨ (isAggD d = false ∧ s = none)) := by
 unfold ld at hl
 split at hl
 ·rename_i d hd
  refine ⟨d, hd, ?_⟩
  split at hl
  ·rename_i hg
   simp only [Option.map_eq_some_iff] at hl
   obtain ⟨n, hn, rfl⟩ := hl
   exact .inl ⟨hg, n, hn, rfl⟩
  ·rename_i hg
   injection hl with hl
   exact .inr ⟨by simpa using hg, hl.symm⟩
 ·cases hl
theorem run_isAgg' {t : TypeId} {d : TypeDesc} (hu : P.underlying t = some d) (w : World) : (isAgg t).run P w = .ok (isAggD d) w := by
 unfold isAgg
 rw [Sem.run_bind, run_underlying hu w]
 cases d <;> rfl
theorem run_sizeOf' {t : TypeId} {n : Nat} (hs : size? P t = some n) (w : World) : (sizeOf t).run P w = .ok n w := by
 unfold size? at hs
 simp only [Option.map_eq_some_iff] at hs
 obtain ⟨i, hi, rfl⟩ := hs
 simp [sizeOf, typeInfo, hi]
theorem add_plain (g o j : Nat) : (⟨g, o, none⟩ : Addr).add j = ⟨g, o + j, none⟩ := by unfold Addr.add; split <;> simp_all
theorem run_load_cells {t : TypeId} {s : Option Nat} (hl : ld P t = some s) (g o : Nat) (cs : List AV) (off : Nat) {x : AV} (hx : loadA s cs off = some x) (hone : ∀ y ∈ cs, y.one)
  (hcell : ∀ j y, cs[j]? = some y → ∃ u, w.cell? ⟨g, o + j, none⟩ = some u ∧ Rd E u y) :
  ∃ v, (loadVar t ⟨g, o + off, none⟩).run P w = .ok v w ∧ Rd E v x := by
 obtain ⟨d, hd, ⟨hg, n, hn, rfl⟩ | ⟨hg, rfl⟩⟩ := ld_some hl
 ·simp only [loadA] at hx
  split at hx
  ·rename_i hle
   injection hx with hx
   subst hx
   have hc : ∀ j, ∃ u, j < n → w.cell? ⟨g, o + off + j, none⟩ = some u ∧ ∀ y, cs[off + j]? = some y → Rd E u y := by
    intro j
    by_cases hj : j < n
    ·have hlt : off + j < cs.length := by omega
     obtain ⟨u, hu, hr⟩ := hcell (off + j) _ (List.getElem?_eq_getElem hlt)
     refine ⟨u, fun _ => ⟨by rw [Nat.add_assoc]; exact hu, fun y hy => ?_⟩⟩
     rw [List.getElem?_eq_getElem hlt] at hy
     injection hy with hy
     subst hy
     exact hr
    ·exact ⟨undef, fun h => absurd h hj⟩
   obtain ⟨f, hf⟩ := Classical.axiomOfChoice hc
   have hrun := run_loadCells (P := P) w ⟨g, o + off, none⟩ n f (fun j hj => by rw [add_plain]; exact (hf j hj).1)
   refine ⟨.agg ((List.range n).map f).toArray, by simp [loadVar, run_isAgg' hd, hg, run_sizeOf' hn, hrun], ?_⟩
   refine .agg _ _ (by simp; omega) (fun y hy => hone y (List.mem_of_mem_drop (List.mem_of_mem_take hy))) ?_
   intro i u y hu hy
   have hi : i < n := by
    rcases Nat.lt_or_ge i n with h' | h'
    ·exact h'
    ·rw [List.getElem?_eq_none (by simp; omega)] at hy; cases hy
   rw [List.getElem?_take_of_lt hi, List.getElem?_drop] at hy
   simp [hi] at hu
   subst hu
   exact (hf i hi).2 y hy
  ·cases hx
 ·simp only [loadA] at hx
  obtain ⟨u, hu, hr⟩ := hcell off x hx
  exact ⟨u, by simp [loadVar, run_isAgg' hd, hg, hu], hr⟩
theorem cell_of_block {g j : Nat} {cur : Array Value} {t : TypeId} {fr : Nat × Nat} (hg : w.heap[g]? = some (.cells cur t fr)) : w.cell? ⟨g, j, none⟩ = cur[j]? := by simp [World.cell?, hg]
theorem frozen_of_block {g j : Nat} {cur : Array Value} {t : TypeId} {fr : Nat × Nat} (hg : w.heap[g]? = some (.cells cur t fr)) : w.frozen? ⟨g, j, none⟩ = (decide (fr.1 ≤ j) && decide (j < fr.2)) := by simp [World.frozen?, hg]
theorem LiveAt.at {g c : Nat} {cs : List AV} (hl : LiveAt B E w g c (.cells cs)) (j : Nat) (y : AV) (hy : cs[j]? = some y) : ∃ u, w.cell? ⟨g, j, none⟩ = some u ∧ Rd E u y := by
 obtain ⟨_, ⟨cur, t, fr, h2, h3, h4, _⟩, _⟩ := hl
 have hlt : j < cur.size := by
  have := (List.getElem?_eq_some_iff.1 hy).1
  omega
 exact ⟨cur[j], by rw [cell_of_block h2]; exact Array.getElem?_eq_getElem hlt, h4.2 j _ _ (Array.getElem?_eq_getElem hlt) hy⟩
theorem LiveAt.atG {g c sz : Nat} {cs : List AV} (hl : LiveAt B E w g c (.grow sz cs)) (j : Nat) (y : AV) (hy : cs[j]? = some y) : ∃ u, w.cell? ⟨g, j, none⟩ = some u ∧ Rd E u y := by
 obtain ⟨_, ⟨cur, t, fr, h2, h3, _, h4, _⟩, _⟩ := hl
 have hlt : j < cur.size := by
  have := (List.getElem?_eq_some_iff.1 hy).1
  omega
 exact ⟨cur[j], by rw [cell_of_block h2]; exact Array.getElem?_eq_getElem hlt, h4.2 j _ _ (Array.getElem?_eq_getElem hlt) hy⟩
theorem load_sound {t : TypeId} {x : Operand} {s : Option Nat} {y : AX} {o : Oper} (ho : o.op = .load t x) (hl : ld P t = some s) (hc : cx P 0 x = some y) (hs : SR E a σ) (r : Rel B w0 E h w) (key : Nat) {O : CallO} {v : AV} {h' : Heap}
  (hex : aop O σ h key (.load s y) = some (v, h')) : Out P B w0 E h' key a o w v := by
 have hx := cx_sound hc hs
 simp only [aop] at hex
 split at hex
 ·rename_i b off he
  split at hex
  ·rename_i cs hb
   simp only [Option.map_eq_some_iff, Prod.mk.injEq] at hex
   obtain ⟨z, hz, rfl, rfl⟩ := hex
   rw [he] at hx
   generalize hv : a.eval x = av at hx
   cases hx with
   | ptr _ _ g c hρ =>
    obtain ⟨g', c', h1, h2⟩ := r.live b _ hb (by simp)
    rw [hρ] at h1
    injection h1 with h1; injection h1 with h1 h1'; subst h1; subst h1'
    have hone : ∀ y ∈ cs, y.one := by obtain ⟨_, ⟨_, _, _, _, _, h4, _⟩, _⟩ := h2; exact h4.1
    obtain ⟨u, hu, hr⟩ := run_load_cells (P := P) (w := w) (E := E) hl g 0 cs off hz hone (fun j y hy => by rw [Nat.zero_add]; exact h2.at j y hy)
    rw [Nat.zero_add] at hu
    exact Out.quiet r u (by simp [execOp, ho, hv, Instr.loadAt, Instr.sureAddr, hu]) hr
  ·rename_i sz0 cs hb
   simp only [Option.map_eq_some_iff, Prod.mk.injEq] at hex
   obtain ⟨z, hz, rfl, rfl⟩ := hex
   rw [he] at hx
   generalize hv : a.eval x = av at hx
   cases hx with
   | ptr _ _ g c hρ =>
    obtain ⟨g', c', h1, h2⟩ := r.live b _ hb (by simp)
    rw [hρ] at h1
    injection h1 with h1; injection h1 with h1 h1'; subst h1; subst h1'
    have hone : ∀ y ∈ cs, y.one := by obtain ⟨_, ⟨_, _, _, _, _, _, h4, _⟩, _⟩ := h2; exact h4.1
    obtain ⟨u, hu, hr⟩ := run_load_cells (P := P) (w := w) (E := E) hl g 0 cs off hz hone (fun j y hy => by rw [Nat.zero_add]; exact h2.atG j y hy)
    rw [Nat.zero_add] at hu
    exact Out.quiet r u (by simp [execOp, ho, hv, Instr.loadAt, Instr.sureAddr, hu]) hr
  ·cases hex
 ·rename_i cs he
  simp only [Option.map_eq_some_iff, Prod.mk.injEq] at hex
  obtain ⟨z, hz, rfl, rfl⟩ := hex
  rw [he] at hx
  generalize hv : a.eval x = av at hx
  cases hx with
  | eptr g off _ vs hone h1 h2 =>
   obtain ⟨u, hu, hr⟩ := run_load_cells (P := P) (w := w) (E := E) hl g off cs 0 hz hone (fun j y hy => ⟨vs j, r.prot _ _ _ (h1 j (List.getElem?_eq_some_iff.1 hy).1), h2 j y hy⟩)
   exact Out.quiet r u (by simp [execOp, ho, hv, Instr.loadAt, Instr.sureAddr] at hu ⊢; simp [hu]) hr
 ·cases hex
/-! ### Stores -/
theorem grown_trans {w w1 w2 : World} {row : Option Nat} (h : w.grownBy w1 row) (k : w1.grownBy w2 row) : w.grownBy w2 row :=
 ⟨k.os.trans h.os, k.tape.trans h.tape, k.output.trans h.output, Nat.le_trans h.size k.size, fun i hi hne => (k.block i (Nat.lt_of_lt_of_le hi h.size) hne).trans (h.block i hi hne)⟩
theorem run_storeCells' (P : Program) (g o : Nat) (t : TypeId) (fr : Nat × Nat) : ∀ (vs : List Value) (i : Nat) (cur : Array Value) (w : World), w.heap[g]? = some (.cells cur t fr) → o + i + vs.length ≤ cur.size → (∀ v ∈ vs, v.oneCell' = true) → Unf fr cur.size →
  ∃ w', (storeCells ⟨g, o, none⟩ vs i).run P w = .ok () w' ∧ w.grownBy w' (some g) ∧ w'.heap[g]? = some (.cells (cur.toList.take (o + i) ++ vs ++ cur.toList.drop (o + i + vs.length)).toArray t fr)
 | [], i, cur, w, hg, hle, _, _ => ⟨w, by simp [storeCells], ⟨rfl, rfl, rfl, Nat.le_refl _, fun _ _ _ => rfl⟩, by simp [hg]⟩
 | v :: vs, i, cur, w, hg, hle, hone, hf => by
  simp only [List.length_cons] at hle
  have hlt : o + i < cur.size := by omega
  have hcell : w.cell? ⟨g, o + i, none⟩ = some cur[o + i] := by rw [cell_of_block hg]; exact Array.getElem?_eq_getElem hlt
  have hfr : w.frozen? ⟨g, o + i, none⟩ = false := by rw [frozen_of_block hg]; exact hf.at _ hlt
  have hst : (store ((⟨g, o, none⟩ : Addr).add i) v).run P w = Result.ok () (w.setCell ⟨g, o + i, none⟩ v) := by
   rw [add_plain, run_store P w _ v _ (hone v (by simp)), hcell]
   simp [hfr]
  have hg1 : (w.setCell ⟨g, o + i, none⟩ v).heap[g]? = some (.cells (cur.setIfInBounds (o + i) v) t fr) := by simp [World.setCell, Array.getElem?_modify, hg]
  obtain ⟨w', h1, h2, h3⟩ := run_storeCells' P g o t fr vs (i + 1) _ _ hg1 (by simp; omega) (fun u hu => hone u (by simp [hu])) (by simpa using hf)
  refine ⟨w', ?_, ?_, ?_⟩
  ·simp only [storeCells, Sem.run_bind]
   rw [hst]
   simpa using h1
  ·have h0 : w.grownBy (w.setCell ⟨g, o + i, none⟩ v) (some g) := ⟨rfl, rfl, rfl, by simp, fun k hk hne => Below.heap_setCell _ _ _ _ (by simpa using hne)⟩
   exact grown_trans h0 h2
  ·rw [h3]
   congr 2
   congr 1
   apply List.ext_getElem?
   intro j
   simp only [Array.toList_setIfInBounds, List.append_assoc, List.getElem?_append, List.length_take, List.length_set, Array.length_toList, List.length_cons, List.getElem?_drop, List.getElem?_take, List.getElem?_set]
   rcases Nat.lt_trichotomy j (o + i) with hj | hj | hj
   ·have e1 : j < min (o + i) cur.size := by omega
    have e2 : j < min (o + (i + 1)) cur.size := by omega
    have e3 : j < o + (i + 1) := by omega
    have e4 : ¬ (o + i = j) := by omega
    simp [e1, e2, e3, e4, hj]
   ·subst hj
    have e1 : ¬ (o + i < min (o + i) cur.size) := by omega
    have e2 : o + i < min (o + (i + 1)) cur.size := by omega
    have e3 : o + i < o + (i + 1) := by omega
    have e5 : o + i - min (o + i) cur.size = 0 := by omega
    simp [e1, e2, e3, e5, hlt]
   ·have e1 : ¬ (j < min (o + i) cur.size) := by omega
    have e2 : ¬ (j < min (o + (i + 1)) cur.size) := by omega
    have e3 : j - min (o + i) cur.size = (j - min (o + (i + 1)) cur.size) + 1 := by omega
    simp only [e1, e2, if_false, e3, List.getElem?_cons_succ]
    have e4 : (j - min (o + (i + 1)) cur.size) + 1 < vs.length + 1 ↔ j - min (o + (i + 1)) cur.size < vs.length := by omega
    simp only [e4]
    split
    ·rfl
    ·rename_i hge
     have e6 : ¬ (o + i = o + (i + 1) + vs.length + (j - min (o + (i + 1)) cur.size - vs.length)) := by omega
     simp only [e6, if_false]
     congr 1
     omega
theorem RdCells.splice {E : Env} {cur : Array Value} {cs : List AV} (k : RdCells E cur cs) (hsz : cs.length ≤ cur.size) {vs : Array Value} {ys : List AV} (kv : RdCells E vs ys) (hl : vs.size = ys.length) {o : Nat} (hle : o + ys.length ≤ cs.length) :
  RdCells E (cur.toList.take o ++ vs.toList ++ cur.toList.drop (o + vs.toList.length)).toArray (cs.take o ++ ys ++ cs.drop (o + ys.length)) := by
 refine ⟨fun y hy => ?_, ?_⟩
 ·simp only [List.mem_append] at hy
  rcases hy with (hy | hy) | hy
  ·exact k.1 y (List.mem_of_mem_take hy)
  ·exact kv.1 y hy
  ·exact k.1 y (List.mem_of_mem_drop hy)
 ·intro j u y hu hy
  simp only [List.append_assoc, List.getElem?_toArray, List.getElem?_append, List.length_take, Array.length_toList, List.getElem?_drop, List.getElem?_take] at hu hy
  have e0 : min o cur.size = o := by omega
  have e1 : min o cs.length = o := by omega
  simp only [e0, e1] at hu hy
  split at hu
  ·rename_i hj
   simp only [hj, if_true] at hy hu
   exact k.2 j u y (by simpa using hu) hy
  ·rename_i hj
   simp only [hj, if_false] at hy
   split at hu
   ·rename_i hj2
    rw [if_pos (by omega)] at hy
    exact kv.2 _ u y (by simpa using hu) hy
   ·rename_i hj2
    rw [if_neg (by omega)] at hy
    rw [hl] at hu
    exact k.2 _ u y (by simpa using hu) hy
theorem store_sound {t : TypeId} {p x : Operand} {n : Nat} {q y : AX} {o : Oper} (ho : o.op = .store t p x) (hn : size? P t = some n) (hpos : 0 < n) (hp : cx P 0 p = some q) (hc : cx P t x = some y) (hs : SR E a σ) (r : Rel B w0 E h w) (key : Nat) {O : CallO} {v : AV} {h' : Heap}
  (hex : aop O σ h key (.store n q y) = some (v, h')) : Out P B w0 E h' key a o w v := by
 have hx := cx_sound hc hs
 have hq := cx_sound hp hs
 simp only [aop] at hex
 split at hex
 ·rename_i b off he
  split at hex
  ·rename_i cs hb
   split at hex
   ·rename_i hcond
    obtain ⟨hlen, hle⟩ := hcond
    simp only [Option.some.injEq, Prod.mk.injEq] at hex
    obtain ⟨rfl, rfl⟩ := hex
    rw [he] at hq
    generalize hv : a.eval p = pv at hq
    cases hq with
    | ptr _ _ g c hρ =>
     obtain ⟨g', c', h1, h2⟩ := r.live b _ hb (by simp)
     rw [hρ] at h1
     injection h1 with h1; injection h1 with h1 h1'; subst h1; subst h1'
     obtain ⟨hB, ⟨cur, ty, fr, hcur, hsz, hrd, hf⟩, hC⟩ := h2
     obtain ⟨kl, kc⟩ := hx.cells (by intro e; rw [e] at hlen; simp at hlen; omega)
     obtain ⟨w', hrun, hg, hh⟩ := run_storeCells' P g off ty fr (a.eval x).cells.toList 0 cur w hcur (by simp; omega) (fun u hu => by
      obtain ⟨i, hi⟩ := List.mem_iff_getElem?.1 hu
      exact kc.one_cell (o := i) (by simpa using hi) (by have := (List.getElem?_eq_some_iff.1 hi).1; simp at this; omega)) hf
     refine ⟨undef, w', E, .inr ⟨?_, rfl⟩, E.le_refl, fun _ _ => rfl, ?_, .junk _⟩
     ·simp [execOp, ho, hv, Instr.storeAt, Instr.sureAddr, storeVar, run_sizeOf' hn, kl, hlen, hrun]
     ·refine r.turn b g c (.cells cs) _ hb (by simp) (by simp) hρ hB hg (fun o v hv => by rw [hC] at hv; cases hv) ?_
      refine ⟨hB, ⟨_, ty, fr, hh, ?_, ?_, ?_⟩, hC⟩
      ·simp; omega
      ·have := RdCells.splice (o := off) hrd (by omega) kc kl (by omega)
       simpa [hlen] using this
      ·have : (cur.toList.take (off + 0) ++ (a.eval x).cells.toList ++ cur.toList.drop (off + 0 + (a.eval x).cells.toList.length)).toArray.size = cur.size := by simp; omega
       rw [this]; exact hf
   ·cases hex
  ·rename_i sz0 cs hb
   split at hex
   ·rename_i hcond
    obtain ⟨hlen, hle⟩ := hcond
    simp only [Option.some.injEq, Prod.mk.injEq] at hex
    obtain ⟨rfl, rfl⟩ := hex
    rw [he] at hq
    generalize hv : a.eval p = pv at hq
    cases hq with
    | ptr _ _ g c hρ =>
     obtain ⟨g', c', h1, h2⟩ := r.live b _ hb (by simp)
     rw [hρ] at h1
     injection h1 with h1; injection h1 with h1 h1'; subst h1; subst h1'
     obtain ⟨hB, ⟨cur, ty, fr, hcur, hsz, hcap, hrd, hf⟩, hC⟩ := h2
     obtain ⟨kl, kc⟩ := hx.cells (by intro e; rw [e] at hlen; simp at hlen; omega)
     obtain ⟨w', hrun, hg, hh⟩ := run_storeCells' P g off ty fr (a.eval x).cells.toList 0 cur w hcur (by simp; omega) (fun u hu => by
      obtain ⟨i, hi⟩ := List.mem_iff_getElem?.1 hu
      exact kc.one_cell (o := i) (by simpa using hi) (by have := (List.getElem?_eq_some_iff.1 hi).1; simp at this; omega)) hf
     have hsame : (cur.toList.take (off + 0) ++ (a.eval x).cells.toList ++ cur.toList.drop (off + 0 + (a.eval x).cells.toList.length)).toArray.size = cur.size := by simp; omega
     refine ⟨undef, w', E, .inr ⟨?_, rfl⟩, E.le_refl, fun _ _ => rfl, ?_, .junk _⟩
     ·simp [execOp, ho, hv, Instr.storeAt, Instr.sureAddr, storeVar, run_sizeOf' hn, kl, hlen, hrun]
     ·refine r.turn b g c (.grow sz0 cs) _ hb (by simp) (by simp) hρ hB hg (fun o v hv => by rw [hC] at hv; cases hv) ?_
      refine ⟨hB, ⟨_, ty, fr, hh, ?_, ?_, ?_, ?_⟩, hC⟩
      ·rw [hsame]; simp; omega
      ·rw [hsame]; exact hcap
      ·have := RdCells.splice (o := off) hrd (by omega) kc kl (by omega)
       simpa [hlen] using this
      ·rw [hsame]; exact hf
   ·cases hex
  ·cases hex
 ·cases hex
/-! ### New blocks -/
theorem enter_cells (r : Rel B w0 E h w) {key : Nat} (hk : h[key]? = some .dead) (hfree : E.ρ key = none) (cur : Array Value) (t : TypeId) (cs : List AV) (hl : cur.size = cs.length) (hr : RdCells E cur cs) :
  ∃ E', E.le E' ∧ (∀ b, b ≠ key → E'.ρ b = E.ρ b) ∧ E'.ρ key = some (w.heap.size, 0) ∧ Rel B w0 E' (h.set key (.cells cs)) (w.alloc (.cells cur t)) := by
 have r1 : Rel B w0 E h (w.alloc (.cells cur t)) := r.world ((Below.refl _ _).alloc (Nat.le_refl _) _)
 have hle : E.le ⟨E.C, fun b => if b = key then some (w.heap.size, 0) else E.ρ b⟩ := ⟨fun _ _ _ h => h, fun b x hx => by
  dsimp only; split
  ·rename_i e; subst e; rw [hfree] at hx; cases hx
  ·exact hx⟩
 obtain ⟨_, h2⟩ := r1.enter key hk hfree w.heap.size 0 (.cells cs) E.C (fun _ _ _ h => h) r1.prot
  (fun b e' he hd g' c' hρ => by
   obtain ⟨g1, c1, k1, k2⟩ := r.live b e' he hd
   rw [hρ] at k1; injection k1 with k1; injection k1 with k1 _; subst k1
   exact ⟨Nat.ne_of_lt (k2.lt hd).1, fun _ => rfl⟩)
  (by
   refine ⟨r.bsz, ⟨cur, t, (0, 0), heap_alloc_new _ _, hl, ⟨hr.1, fun o u x hu hx => (hr.2 o u x hu hx).mono hle⟩, (.inl rfl)⟩, fun o => ?_⟩
   show E.C w.heap.size o = none
   cases hC : E.C w.heap.size o with
   | none => rfl
   | some v => exact absurd (World.block_lt_of_cell? w _ (r.prot _ _ _ hC)) (Nat.lt_irrefl _))
 exact ⟨_, hle, fun b hb => by dsimp only; rw [if_neg hb], by simp, h2⟩
theorem zOk1_sound {v : Value} {x : AV} (hz : zOk1 v x = true) : Rd E v x ∧ x.one := by
 unfold zOk1 at hz
 split at hz
 ·simp at hz; obtain ⟨rfl, rfl⟩ := hz; exact ⟨.int _ _, trivial⟩
 ·simp at hz; subst hz; exact ⟨.bool _, trivial⟩
 ·simp at hz; rename_i s l; subst hz; exact ⟨.str _, trivial⟩
 ·exact ⟨.nilp, trivial⟩
 ·exact ⟨.nili, trivial⟩
 ·exact ⟨.nilf, trivial⟩
 ·exact ⟨.nilm, trivial⟩
 ·exact ⟨.list none 0 0 _ [] .full 0 0 (fun _ _ => undef) rfl (Nat.le_refl _) (fun h => absurd h (by omega)) (by simp) (by omega) (by simp) rfl, trivial⟩
 ·cases hz
theorem zOk_sound : ∀ {vs : List Value} {xs : List AV}, zOk vs xs = true → vs.length = xs.length ∧ (∀ y ∈ xs, y.one) ∧ ∀ (i : Nat) (u : Value) (x : AV), vs[i]? = some u → xs[i]? = some x → Rd E u x
 | [], [], _ => ⟨rfl, by simp, by simp⟩
 | v :: vs, x :: xs, hz => by
  simp only [zOk, Bool.and_eq_true] at hz
  obtain ⟨h1, h2⟩ := hz
  obtain ⟨k1, k2, k3⟩ := zOk_sound h2
  obtain ⟨z1, z2⟩ := zOk1_sound (E := E) h1
  refine ⟨by simp [k1], fun y hy => ?_, fun i u x hu hx => ?_⟩
  ·rcases List.mem_cons.1 hy with rfl | hy
   ·exact z2
   ·exact k2 y hy
  ·match i with
   | 0 => simp at hu hx; subst hu; subst hx; exact z1
   | i + 1 => simp at hu hx; exact k3 i u x hu hx
 | [], _ :: _, hz => by simp [zOk] at hz
 | _ :: _, [], hz => by simp [zOk] at hz
theorem zeroA_sound {t : TypeId} {zs : List AV} (hz : zeroA P t = some zs) : ∃ i z, P.info? t = some i ∧ i.zero = some z ∧ z.cells.size = zs.length ∧ i.size = zs.length ∧ RdCells E z.cells zs := by
 unfold zeroA at hz
 split at hz
 ·rename_i z as h1 h2
  split at hz
  ·rename_i hc
   injection hz with hz; subst hz
   simp only [Bool.and_eq_true, beq_iff_eq] at hc
   obtain ⟨i, hi, hiz⟩ := Option.bind_eq_some_iff.1 h1
   obtain ⟨k1, k2, k3⟩ := zOk_sound (E := E) hc.1
   refine ⟨i, z, hi, hiz, by simpa using k1, ?_, k2, fun o u x hu hx => k3 o u x (by simpa using hu) hx⟩
   have := hc.2
   simp only [size?, hi, Option.map_some, Option.some.injEq] at this
   exact this
  ·cases hz
 ·cases hz
theorem alloc_sound {t : TypeId} {zs : List AV} {o : Oper} (ho : o.op = .alloc t) (hz : zeroA P t = some zs) (r : Rel B w0 E h w) (key : Nat) (hk : h[key]? = some .dead) (hfree : E.ρ key = none) {O : CallO} {v : AV} {h' : Heap}
  (hex : aop O σ h key (.alloc zs) = some (v, h')) : Out P B w0 E h' key a o w v := by
 simp only [aop, Option.some.injEq, Prod.mk.injEq] at hex
 obtain ⟨rfl, rfl⟩ := hex
 obtain ⟨i, z, hi, hiz, hl, _, hr⟩ := zeroA_sound (E := E) hz
 obtain ⟨E', h1, h2, h3, h4⟩ := enter_cells r hk hfree z.cells t zs hl hr
 exact ⟨_, _, E', .inl (by simp [execOp, ho, Instr.alloc, zeroValue, typeInfo, hi, hiz, newVar, newRow]), h1, h2, h4, .ptr key 0 w.heap.size 0 h3⟩
theorem box_sound {t : TypeId} {x : Operand} {n : Nat} {y : AX} {o : Oper} (ho : o.op = .box t x) (hpos : 0 < n) (hc : cx P t x = some y) (hs : SR E a σ) (r : Rel B w0 E h w) (key : Nat) (hk : h[key]? = some .dead) (hfree : E.ρ key = none) {O : CallO} {v : AV} {h' : Heap}
  (hex : aop O σ h key (.box n y) = some (v, h')) : Out P B w0 E h' key a o w v := by
 have hx := cx_sound hc hs
 simp only [aop] at hex
 split at hex
 ·rename_i hlen
  simp only [Option.some.injEq, Prod.mk.injEq] at hex
  obtain ⟨rfl, rfl⟩ := hex
  obtain ⟨kl, kc⟩ := hx.cells (by intro e; rw [e] at hlen; simp at hlen; omega)
  obtain ⟨E', h1, h2, h3, h4⟩ := enter_cells r hk hfree (a.eval x).cells t (y.ev σ).cells kl kc
  exact ⟨_, _, E', .inl (by simp [execOp, ho, Instr.box, newVar, newRow]), h1, h2, h4, .ptr key 0 w.heap.size 0 h3⟩
 ·cases hex
end
end Go.Am
/-
 Operations that touch no memory: numbers, texts, comparisons, conversions, parts of values.
-/
namespace Go.Am
open Go Go.RowKit
section
variable {P : Program} {B : Nat} {w0 : World} {E : Env} {h : Heap} {a : Act} {w : World} {σ : Slots}
theorem Rd.inv_int {v : Value} {k : IntKind} {n : Int} (r : Rd E v (.int k n)) : v = .int k n := by cases r; rfl
theorem Rd.inv_bool {v : Value} {b : Bool} (r : Rd E v (.bool b)) : v = .bool b := by cases r; rfl
theorem Rd.inv_str {v : Value} {l : List UInt8} (r : Rd E v (.str l)) : v = .string ⟨⟨l⟩⟩ := by cases r; rfl
theorem str_toList (l : List UInt8) : (⟨⟨l⟩⟩ : ByteArray).toList = l := by
 rw [ByteArray.toList_eq]
theorem ibin_sound {t : TypeId} {p q : Operand} {op : BinOp} {k k' : IntKind} {x y : Int} {v : AV} (hk : k = k' ∨ op = .shl ∨ op = .shr) (hb : ibin op k x y = some v) : ∃ u, (do eqGuard op t p q (.int k x) (.int k' y); binOp op t (.int k x) (.int k' y) : Sem Value).run P w = .ok u w ∧ Rd E u v := by
 have hg : (eqGuard op t p q (.int k x) (.int k' y)).run P w = .ok () w := by
  unfold eqGuard
  cases op <;> rfl
 simp only [Sem.run_bind, hg, Result.andThen_ok]
 cases op <;> simp only [ibin, Option.some.injEq] at hb
 case shl =>
  split at hb
  ·cases hb
  ·rename_i hy; injection hb with hb; subst hb
   exact ⟨_, by simp [binOp, Op.shift, hy], .int _ _⟩
 case shr =>
  split at hb
  ·cases hb
  ·rename_i hy; injection hb with hb; subst hb
   exact ⟨_, by simp [binOp, Op.shift, hy], .int _ _⟩
 all_goals
  obtain rfl : k = k' := by simpa using hk
 case quo =>
  split at hb
  ·cases hb
  ·rename_i hy; injection hb with hb; subst hb
   exact ⟨_, by simp [binOp, Op.intDiv, hy], .int _ _⟩
 case rem =>
  split at hb
  ·cases hb
  ·rename_i hy; injection hb with hb; subst hb
   exact ⟨_, by simp [binOp, Op.intDiv, hy], .int _ _⟩
 all_goals
  subst hb
  first
   | (refine ⟨_, ?_, .int _ _⟩; rfl)
   | (refine ⟨_, ?_, .int _ _⟩; simp [binOp, Op.intArith]; done)
   | (refine ⟨_, ?_, .int _ _⟩; simp [binOp]; rfl)
   | (refine ⟨_, ?_, .bool _⟩; simp [binOp, Op.intCmp]; done)
theorem sbin_sound {t : TypeId} {p q : Operand} {op : BinOp} {x y : List UInt8} {v : AV} (hb : sbin op x y = some v) : ∃ u, (do eqGuard op t p q (.string ⟨⟨x⟩⟩) (.string ⟨⟨y⟩⟩); binOp op t (.string ⟨⟨x⟩⟩) (.string ⟨⟨y⟩⟩) : Sem Value).run P w = .ok u w ∧ Rd E u v := by
 have hg : (eqGuard op t p q (.string ⟨⟨x⟩⟩) (.string ⟨⟨y⟩⟩)).run P w = .ok () w := by
  unfold eqGuard
  cases op <;> rfl
 simp only [Sem.run_bind, hg, Result.andThen_ok]
 cases op <;> simp only [sbin, Option.some.injEq] at hb
 case add =>
  split at hb
  ·rename_i hle
   injection hb with hb; subst hb
   have hle' : ¬ (((⟨⟨x⟩⟩ : ByteArray).size + (⟨⟨y⟩⟩ : ByteArray).size : Nat) : Int) > IntKind.i64.max := by
    show ¬ ((((x.length + y.length : Nat) : Int)) > 9223372036854775807)
    omega
   refine ⟨.string ((⟨⟨x⟩⟩ : ByteArray) ++ ⟨⟨y⟩⟩), ?_, ?_⟩
   ·simp only [binOp, Op.stringOp]
    rw [if_neg hle']
    rfl
   ·have : (⟨⟨x⟩⟩ : ByteArray) ++ ⟨⟨y⟩⟩ = ⟨⟨x ++ y⟩⟩ := by
     apply ByteArray.ext
     simp
    rw [this]
    exact .str _
  ·cases hb
 all_goals first
  | (cases hb; done)
  | (subst hb; refine ⟨_, ?_, .bool _⟩; simp [binOp, Op.stringOp, str_toList]; done)
  | (subst hb; refine ⟨_, ?_, .bool _⟩; simp [binOp, Op.stringOp, str_toList, bne]; done)
theorem abin_sound {op : BinOp} {t : TypeId} {p q : Operand} {u1 u2 : Value} {x y v : AV} (h1 : Rd E u1 x) (h2 : Rd E u2 y) (hb : abin op x y = some v) : ∃ u, (do eqGuard op t p q u1 u2; binOp op t u1 u2 : Sem Value).run P w = .ok u w ∧ Rd E u v := by
 unfold abin at hb
 split at hb
 ·rename_i k m k' n
  rw [h1.inv_int, h2.inv_int]
  split at hb
  ·rename_i hk
   exact ibin_sound hk hb
  ·cases hb
 ·rw [h1.inv_str, h2.inv_str]
  exact sbin_sound hb
 ·cases hb
/-! ### '==' -/
theorem eqLeaf_sound {t : TypeId} {td : TypeDesc} {k : LK} {u v : Value} {x y : AV} {b : Bool} (hu : P.underlying t = some td) (hk : leafK td = some k) (h1 : Rd E u x) (h2 : Rd E v y) (hb : eqLeaf k x y = some b) (D : Nat) :
  (Op.equalIn (D + 1) t u v).run P w = .ok b w := by
 unfold leafK at hk
 split at hk <;> first | cases hk | skip
 all_goals
  cases h1 <;> cases h2 <;> simp only [eqLeaf] at hb <;> first | (cases hb; done) | skip
 all_goals
  first
   | (simp only [Option.some.injEq] at hb; subst hb; simp [Op.equalIn, run_underlying hu, beq_toListBytes, str_toList]; done)
   | (split at hb <;> first | (cases hb; done) | (simp only [Option.some.injEq] at hb; subst hb; simp [Op.equalIn, run_underlying hu, *]; done))
theorem eqs_append {a b : List (Nat × LK)} {xs ys : List AV} {r : Bool} (h : eqs (a ++ b) xs ys = some r) : ∃ p q, eqs a xs ys = some p ∧ eqs b xs ys = some q ∧ r = (p && q) := by
 induction a generalizing r with
 | nil => exact ⟨true, r, rfl, h, by simp⟩
 | cons o a ih =>
  simp only [List.cons_append, eqs] at h
  split at h
  ·rename_i x y hx hy
   split at h
   ·rename_i p q hp hq
    obtain ⟨p', q', e1, e2, e3⟩ := ih hq
    injection h with h
    refine ⟨p && p', q', by simp only [eqs, hx, hy, hp, e1], e2, ?_⟩
    rw [← h, e3, Bool.and_assoc]
   ·cases h
  ·cases h
theorem eqs_shift {a : List (Nat × LK)} {xs ys : List AV} {off s : Nat} (hs : a.all (·.1 < s) = true) :
  eqs (a.map fun p => (off + p.1, p.2)) xs ys = eqs a ((xs.drop off).take s) ((ys.drop off).take s) := by
 induction a with
 | nil => rfl
 | cons o a ih =>
  simp only [List.all_cons, Bool.and_eq_true, decide_eq_true_eq] at hs
  simp only [List.map_cons, eqs, List.getElem?_take_of_lt hs.1, List.getElem?_drop, ih hs.2]
theorem run_part {t : TypeId} {s : Option Nat} (hl : ld P t = some s) {xs : Array Value} {as : List AV} (hsz : xs.size = as.length) (hr : RdCells E xs as) {off : Nat} {x : AV} (hx : loadA s as off = some x) :
  ∃ u, (part t xs off).run P w = .ok u w ∧ Rd E u x := by
 obtain ⟨d, hd, ⟨hg, n, hn, rfl⟩ | ⟨hg, rfl⟩⟩ := ld_some hl
 ·simp only [loadA] at hx
  split at hx
  ·rename_i hle
   injection hx with hx; subst hx
   refine ⟨.agg (xs.extract off (off + n)), by simp [part, run_isAgg' hd, hg, run_sizeOf' hn], .agg _ _ (by simp; omega) (fun y hy => hr.1 y (List.mem_of_mem_drop (List.mem_of_mem_take hy))) fun i u y hu hy => ?_⟩
   have hi : i < n := by
    rcases Nat.lt_or_ge i n with h' | h'
    ·exact h'
    ·rw [List.getElem?_eq_none (by simp; omega)] at hy; cases hy
   rw [List.getElem?_take_of_lt hi, List.getElem?_drop] at hy
   rw [Array.getElem?_extract_of_lt (by omega)] at hu
   exact hr.2 _ u y ((Array.getElem?_eq_getElem (by omega)).trans hu) hy
  ·cases hx
 ·simp only [loadA] at hx
  have hlt : off < xs.size := by have := (List.getElem?_eq_some_iff.1 hx).1; omega
  refine ⟨xs[off], ?_, hr.2 off _ x (Array.getElem?_eq_getElem hlt) hx⟩
  simp [part, run_isAgg' hd, hg, Array.getElem?_eq_getElem hlt]
theorem eqFields_sound {D : Nat} {d N : Nat} {xs ys : Array Value} {as bs : List AV} (hN1 : as.length = N) (hN2 : bs.length = N) (hx : xs.size = as.length) (hy : ys.size = bs.length) (rx : RdCells E xs as) (ry : RdCells E ys bs)
  (ih : ∀ t offs, eqOffs P d t = some offs → ∀ sz, ld P t = some sz → ∀ u v x y b, Rd E u x → Rd E v y → eqV sz offs x y = some b → (Op.equalIn D t u v).run P w = .ok b w) :
  ∀ (fs : List Field) (offs : List (Nat × LK)), fs.foldr (fun f acc =>
    if f.name = "_" then acc
    else match ld P f.type, size? P f.type, eqOffs P d f.type, acc with
     | some none, some _, some [(0, k)], some b => some ((f.offset, k) :: b)
     | some (some n), some s, some a, some b => if n = s ∧ a.all (·.1 < s) ∧ f.offset + s ≤ N then some (a.map (fun p => (f.offset + p.1, p.2)) ++ b) else none
     | _, _, _, _ => none) (some []) = some offs →
   ∀ b, eqs offs as bs = some b → (Op.eqFields D xs ys fs).run P w = .ok b w
 | [], offs, hf, b, hb => by
  simp only [List.foldr_nil, Option.some.injEq] at hf
  subst hf
  simp only [eqs, Option.some.injEq] at hb
  subst hb
  simp [Op.eqFields]
 | f :: fs, offs, hf, b, hb => by
  simp only [List.foldr_cons] at hf
  split at hf
  ·rename_i hn
   simp only [Op.eqFields, hn, ne_eq, not_true_eq_false, if_false]
   exact eqFields_sound hN1 hN2 hx hy rx ry ih fs offs hf b hb
  ·rename_i hn
   split at hf
   ·rename_i k rest hl hs he hacc
    injection hf with hf
    subst hf
    simp only [eqs] at hb
    split at hb
    ·rename_i x y ex ey
     split at hb
     ·rename_i p q hp hq
      injection hb with hb
      have hrest := eqFields_sound hN1 hN2 hx hy rx ry ih fs rest hacc q hq
      obtain ⟨u, hu, ru⟩ := run_part (P := P) (w := w) hl hx rx (x := x) (by simpa [loadA] using ex)
      obtain ⟨v, hv, rv⟩ := run_part (P := P) (w := w) hl hy ry (x := y) (by simpa [loadA] using ey)
      have hq2 := ih f.type [(0, k)] he none hl u v x y p ru rv (by simp [eqV, eqs, hp])
      have hn' : f.name ≠ "_" := hn
      simp only [Op.eqFields, if_pos hn', Sem.run_bind, hu, hv, hq2, Result.andThen_ok]
      rw [← hb]
      cases p
      ·simp
      ·simpa using hrest
     ·cases hb
    ·cases hb
   ·rename_i n s a rest hl hs he hacc
    split at hf
    ·rename_i hc
     obtain ⟨rfl, hall, hle⟩ := hc
     injection hf with hf
     subst hf
     obtain ⟨p, q, hp, hq, rfl⟩ := eqs_append hb
     have hrest := eqFields_sound hN1 hN2 hx hy rx ry ih fs rest hacc q hq
     rw [eqs_shift hall] at hp
     obtain ⟨u, hu, ru⟩ := run_part (P := P) (w := w) hl hx rx (off := f.offset) (x := .agg ((as.drop f.offset).take n)) (by simp [loadA]; omega)
     obtain ⟨v, hv, rv⟩ := run_part (P := P) (w := w) hl hy ry (off := f.offset) (x := .agg ((bs.drop f.offset).take n)) (by simp [loadA]; omega)
     have hq2 := ih f.type a he (some n) hl u v _ _ p ru rv (by
      have l1 : ((as.drop f.offset).take n).length = n := by simp; omega
      have l2 : ((bs.drop f.offset).take n).length = n := by simp; omega
      simp only [eqV]
      rw [if_pos ⟨l1, l2⟩]
      exact hp)
     have hn'' : f.name ≠ "_" := hn
     simp only [Op.eqFields, if_pos hn'', Sem.run_bind, hu, hv, hq2, Result.andThen_ok]
     cases p
     ·simp
     ·simpa using hrest
    ·cases hf
   ·cases hf
theorem equalIn_sound : ∀ (d : Nat) (t : TypeId) (offs : List (Nat × LK)), eqOffs P d t = some offs → ∀ sz, ld P t = some sz → ∀ u v x y b, Rd E u x → Rd E v y → eqV sz offs x y = some b → ∀ D, d ≤ D → (Op.equalIn D t u v).run P w = .ok b w
 | 0, t, offs, h => by cases h
 | d + 1, t, offs, h => by
  intro sz hl u v x y b hx hy hb D hD
  obtain ⟨D, rfl⟩ : ∃ m, D = m + 1 := ⟨D - 1, by omega⟩
  unfold eqOffs at h
  split at h
  ·rename_i fs hu
   split at h
   ·cases h
   ·rename_i hst
    obtain ⟨td, htd, ⟨hag, n, hn, rfl⟩ | ⟨hag, _⟩⟩ := ld_some hl
    ·simp only [eqV] at hb
     split at hb
     ·rename_i cs ds
      split at hb
      ·rename_i hlen
       cases hx with
       | agg xs _ l1 o1 r1 =>
        cases hy with
        | agg ys _ l2 o2 r2 =>
         have hf : P.fieldsOf t = fs := by simp [Program.fieldsOf, hu]
         rw [run_equalIn_struct (P := P) w D t xs ys (by rw [hf]; exact hu) (by simpa using hst), hf]
         rw [hn] at h
         exact eqFields_sound (N := n) hlen.1 hlen.2 l1 l2 ⟨o1, r1⟩ ⟨o2, r2⟩ (fun t offs he sz hl u v x y b hx hy hb => equalIn_sound d t offs he sz hl u v x y b hx hy hb D (by omega)) fs.toList offs h b hb
      ·cases hb
     ·cases hb
    ·rw [hu] at htd
     injection htd with htd
     subst htd
     cases hag
  ·rename_i td hns hu
   simp only [Option.map_eq_some_iff] at h
   obtain ⟨k, hk, rfl⟩ := h
   obtain ⟨td', htd, ⟨hag, n, hn, rfl⟩ | ⟨hag, rfl⟩⟩ := ld_some hl
   ·rw [hu] at htd
    injection htd with htd
    subst htd
    cases td <;> simp_all [leafK, isAggD]
   ·simp only [eqV, eqs, List.getElem?_cons_zero] at hb
    split at hb
    ·rename_i p q hp hq
     simp only [Option.some.injEq] at hq hb
     have := eqLeaf_sound (P := P) (w := w) hu hk hx hy hp D
     rw [this]
     simp_all
    ·cases hb
  ·cases h
inductive EqSh : AV → AV → Prop
 | bool (p q : Bool) : EqSh (.bool p) (.bool q)
 | pp : EqSh .nilp .nilp
 | pa (b o : Nat) : EqSh .nilp (.ptr b o)
 | ap (b o : Nat) : EqSh (.ptr b o) .nilp
 | pe (cs : List AV) : EqSh .nilp (.eptr cs)
 | ep (cs : List AV) : EqSh (.eptr cs) .nilp
 | ii : EqSh .nili .nili
 | iv (t : TypeId) (v : AV) : EqSh .nili (.iface t v)
 | vi (t : TypeId) (v : AV) : EqSh (.iface t v) .nili
 | nf (f : FuncId) (cs : List AV) : EqSh .nilf (.fn f cs)
 | fn (f : FuncId) (cs : List AV) : EqSh (.fn f cs) .nilf
theorem eqLeaf_inv {k : LK} {x y : AV} {b : Bool} (hk : k ≠ .int ∧ k ≠ .str) (hb : eqLeaf k x y = some b) : EqSh x y := by
 unfold eqLeaf at hb
 split at hb <;> first
  | constructor
  | exact absurd rfl hk.1
  | exact absurd rfl hk.2
  | cases hb
theorem guard_nili_const {op : BinOp} {t : TypeId} {x y : Operand} (hg : isK x = true ∨ isK y = true) : (eqGuard op t x y .nilIface .nilIface).run P w = .ok () w := by
 rcases hg with hg | hg
 ·cases x <;> first
   | (cases op <;> rfl)
   | (simp [isK] at hg; done)
 ·cases y <;> first
   | (cases x <;> cases op <;> rfl)
   | (simp [isK] at hg; done)
theorem run_eqGuardIn_nili {t : TypeId} {ms : Array (String × TypeId)} (hu : P.underlying t = some (.interface ms)) (d : Nat) : (Op.eqGuardIn (d + 1) t .nilIface .nilIface).run P w = .ok (!ms.isEmpty) w := by
 simp [Op.eqGuardIn, run_underlying hu]
theorem guard_nili_type {op : BinOp} {t : TypeId} {x y : Operand} {ms : Array (String × TypeId)} (hu : P.underlying t = some (.interface ms)) (hm : ms.isEmpty = true) : (eqGuard op t x y .nilIface .nilIface).run P w = .ok () w := by
 by_cases hk : isK x = true ∨ isK y = true
 ·exact guard_nili_const hk
 ·cases x <;> first | exact absurd (.inl rfl) hk | skip
  all_goals
   cases y <;> first | exact absurd (.inr rfl) hk | skip
   all_goals
    cases op <;> first
     | rfl
     | (change ((Op.eqGuardIn (9999 + 1) t .nilIface .nilIface >>= _ : Sem Unit)).run P w = _
        rw [Sem.run_bind, run_eqGuardIn_nili hu, hm]
        rfl)
theorem eq_sound {op : BinOp} {t u : TypeId} {x y : Operand} {c d : AX} {offs : List (Nat × LK)} {s : Option Nat} {o : Oper} (ho : o.op = .binOp op t x y u) (hop : op = .eql ∨ op = .neq) (hns : isScalarT P t = false) (hg : P.eqGuardType P.depth t = false ∨ (s = none ∧ (isK x = true ∨ isK y = true)))
  (he : eqOffs P 12 t = some offs) (hl : ld P t = some s) (h1 : cx P t x = some c) (h2 : cx P u y = some d) (hs : SR E a σ) (r : Rel B w0 E h w) (key : Nat) {O : CallO} {v : AV} {h' : Heap}
  (hex : aop O σ h key (.eq (op = .neq) s offs c d) = some (v, h')) : Out P B w0 E h' key a o w v := by
 have rx := cx_sound h1 hs
 have ry := cx_sound h2 hs
 simp only [aop, Option.map_eq_some_iff, Prod.mk.injEq] at hex
 obtain ⟨b, hb, rfl, rfl⟩ := hex
 have hrun := equalIn_sound (P := P) (w := w) 12 t offs he s hl _ _ _ _ b rx ry hb 10000 (by decide)
 have hgt : ∀ ms, P.underlying t = some (.interface ms) → P.eqGuardType P.depth t = false → ms.isEmpty = true := by
  intro ms hu hf
  have hd : P.depth = 2 * (P.types.size + Made.depth) + 1 + 1 := rfl
  rw [hd] at hf
  simp only [Program.eqGuardType, hu] at hf
  simpa using hf
 have main : (do eqGuard op t x y (a.eval x) (a.eval y); binOp op t (a.eval x) (a.eval y) : Sem Value).run P w = .ok (.bool (if op = .neq then !b else b)) w := by
  obtain ⟨td, hu, ⟨hag, n, hn, rfl⟩ | ⟨hag, rfl⟩⟩ := ld_some hl
  ·simp only [eqV] at hb
   split at hb
   ·rename_i cs ds e1 e2
    rw [e1] at rx
    rw [e2] at ry
    generalize a.eval x = vx at *
    generalize a.eval y = vy at *
    cases rx
    cases ry
    have hg' : P.eqGuardType P.depth t = false := by
     rcases hg with hg | ⟨hh, _⟩
     ·exact hg
     ·cases hh
    rcases hop with rfl | rfl
    ·simp only [Sem.run_bind, run_eqGuard_agg w _ t x y _ _ hg', Result.andThen_ok, run_eql_struct, hrun]
     rfl
    ·simp only [Sem.run_bind, run_eqGuard_agg w _ t x y _ _ hg', Result.andThen_ok, run_neq_struct, hrun]
     rfl
   ·cases hb
  ·have hleaf : ∃ k, leafK td = some k ∧ eqLeaf k (c.ev σ) (d.ev σ) = some b := by
    unfold eqOffs at he
    split at he
    ·rename_i fs hfs
     rw [hfs] at hu
     injection hu with hu
     subst hu
     cases hag
    ·rename_i td' _ hu'
     rw [hu'] at hu
     injection hu with hu
     subst hu
     simp only [Option.map_eq_some_iff] at he
     obtain ⟨k, hk, rfl⟩ := he
     refine ⟨k, hk, ?_⟩
     simp only [eqV, eqs, List.getElem?_cons_zero] at hb
     split at hb
     ·rename_i p q hp hq
      simp only [Option.some.injEq] at hb hq
      rw [hp, ← hb, ← hq]
      simp
     ·cases hb
    ·cases he
   obtain ⟨k, hk, hb⟩ := hleaf
   have hnk : k ≠ .int ∧ k ≠ .str := by
    unfold isScalarT at hns
    rw [hu] at hns
    cases td <;> simp_all [leafK] <;> subst hk <;> simp
   have hsh := eqLeaf_inv hnk hb
   have hgd : (eqGuard op t x y (a.eval x) (a.eval y)).run P w = .ok () w := by
    generalize a.eval x = vx at *
    generalize a.eval y = vy at *
    generalize c.ev σ = xc at *
    generalize d.ev σ = yc at *
    cases hsh <;> cases rx <;> cases ry <;> first
     | (rcases hop with rfl | rfl <;> rfl)
     | skip
    have hui : ∃ ms, P.underlying t = some (.interface ms) := by
     rw [hu]
     unfold leafK at hk
     split at hk <;> first | exact ⟨_, rfl⟩ | (injection hk with hk; subst hk; simp only [eqLeaf] at hb; cases hb) | cases hk
    obtain ⟨ms, hms⟩ := hui
    rcases hg with hg | ⟨_, hg⟩
    ·exact guard_nili_type hms (hgt ms hms hg)
    ·exact guard_nili_const hg
   have hbo : (binOp op t (a.eval x) (a.eval y)).run P w = .ok (.bool (if op = .neq then !b else b)) w := by
    have e1 : (do pure (.bool (← Op.equal t (a.eval x) (a.eval y))) : Sem Value).run P w = .ok (.bool b) w := by
     show ((Op.equalIn 10000 t (a.eval x) (a.eval y)) >>= fun c => pure (.bool c) : Sem Value).run P w = _
     rw [Sem.run_bind, hrun]
     rfl
    have e2 : (do pure (.bool (!(← Op.equal t (a.eval x) (a.eval y)))) : Sem Value).run P w = .ok (.bool (!b)) w := by
     show ((Op.equalIn 10000 t (a.eval x) (a.eval y)) >>= fun c => pure (.bool (!c)) : Sem Value).run P w = _
     rw [Sem.run_bind, hrun]
     rfl
    generalize a.eval x = vx at *
    generalize a.eval y = vy at *
    generalize c.ev σ = xc at *
    generalize d.ev σ = yc at *
    rcases hop with rfl | rfl
    ·rw [if_neg (by simp)]
     cases hsh <;> cases rx <;> cases ry <;> exact e1
    ·rw [if_pos rfl]
     cases hsh <;> cases rx <;> cases ry <;> exact e2
   simp only [Sem.run_bind, hgd, Result.andThen_ok, hbo]
 refine Out.quiet r _ (by
  unfold execOp
  rw [ho]
  show ((do eqGuard op t x y (a.eval x) (a.eval y); binOp op t (a.eval x) (a.eval y) : Sem Value) >>= fun z => pure (Next.value z)).run P w = _
  rw [Sem.run_bind, main]
  rfl) ?_
 have : (if op = .neq then !b else b) = (if decide (op = .neq) = true then !b else b) := by
  rcases hop with rfl | rfl <;> rfl
 rw [this]
 exact .bool _
end
end Go.Am
/-
 More operations that turn no memory: moves, choices, conversions of numbers, parts, lengths, addresses, cuts.
-/
namespace Go.Am
open Go Go.RowKit
section
variable {P : Program} {B : Nat} {w0 : World} {E : Env} {h h' : Heap} {a : Act} {w : World} {σ : Slots} {o : Oper} {ty : TypeId} {key : Nat} {O : CallO} {v : AV}
theorem run_v {s : Sem Value} {u : Value} {w' : World} (hs : s.run P w = .ok u w') : (do pure (Next.value (← s)) : Sem Next).run P w = .ok (.value u) w' := by
 rw [Sem.run_bind, hs]; rfl
theorem mv_sound {x : Operand} {y : AX} (ho : o.op = .move x ∨ o.op = .assign x) {t : TypeId} (hc : cx P t x = some y) (hs : SR E a σ) (r : Rel B w0 E h w) (hex : aop O σ h key (.mv y) = some (v, h')) : Out P B w0 E h' key a o w v := by
 simp only [aop, Option.some.injEq, Prod.mk.injEq] at hex
 obtain ⟨rfl, rfl⟩ := hex
 rcases ho with ho | ho <;> exact Out.quiet r _ (by unfold execOp; rw [ho]; rfl) (cx_sound hc hs)
theorem mvc_sound {c : AV} {u : Value} (hrun : (execOp a.eval o).run P w = .ok (.value u) w) (hu : Rd E u c) (r : Rel B w0 E h w) (hex : aop O σ h key (.mv (.c c)) = some (v, h')) : Out P B w0 E h' key a o w v := by
 simp only [aop, Option.some.injEq, Prod.mk.injEq, AX.ev] at hex
 obtain ⟨rfl, rfl⟩ := hex
 exact Out.quiet r _ hrun hu
theorem nilchk_sound {x : Operand} {y : AX} (ho : o.op = .nilCheck x) {t : TypeId} (hc : cx P t x = some y) (hs : SR E a σ) (r : Rel B w0 E h w) (hex : aop O σ h key (.nilchk y) = some (v, h')) : Out P B w0 E h' key a o w v := by
 have hx := cx_sound hc hs
 simp only [aop] at hex
 have key : ∀ u, Rd E u v → (execOp a.eval o).run P w = .ok (.value u) w → h = h' → Out P B w0 E h' key a o w v := fun u h1 h2 h3 => by subst h3; exact Out.quiet r u h2 h1
 generalize hv : a.eval x = av at hx
 split at hex
 ·rename_i b off he
  simp only [Option.some.injEq, Prod.mk.injEq] at hex
  obtain ⟨rfl, rfl⟩ := hex
  rw [he] at hx
  refine key av hx ?_ rfl
  cases hx
  unfold execOp; rw [ho]; dsimp only; rw [hv]; rfl
 ·rename_i cs he
  simp only [Option.some.injEq, Prod.mk.injEq] at hex
  obtain ⟨rfl, rfl⟩ := hex
  rw [he] at hx
  refine key av hx ?_ rfl
  cases hx
  unfold execOp; rw [ho]; dsimp only; rw [hv]; rfl
 ·rename_i f cs he
  simp only [Option.some.injEq, Prod.mk.injEq] at hex
  obtain ⟨rfl, rfl⟩ := hex
  rw [he] at hx
  refine key av hx ?_ rfl
  cases hx
  unfold execOp; rw [ho]; dsimp only; rw [hv]; rfl
 ·cases hex
theorem pick_sound {c x y : Operand} {c' x' y' : AX} (ho : o.op = .pick c x y) {t : TypeId} (h1 : cx P 0 c = some c') (h2 : cx P t x = some x') (h3 : cx P t y = some y') (hs : SR E a σ) (r : Rel B w0 E h w) (hex : aop O σ h key (.pick c' x' y') = some (v, h')) : Out P B w0 E h' key a o w v := by
 have hx := cx_sound h1 hs
 simp only [aop] at hex
 split at hex
 ·rename_i b he
  simp only [Option.some.injEq, Prod.mk.injEq] at hex
  obtain ⟨rfl, rfl⟩ := hex
  rw [he] at hx
  refine Out.quiet r (if b then a.eval x else a.eval y) (by unfold execOp; rw [ho]; dsimp only; rw [hx.inv_bool]; rfl) ?_
  cases b
  ·exact cx_sound h3 hs
  ·exact cx_sound h2 hs
 ·cases hex
theorem neg_sound {x : Operand} {y : AX} {t : TypeId} (ho : o.op = .unOp .neg t x) (hc : cx P t x = some y) (hs : SR E a σ) (r : Rel B w0 E h w) (hex : aop O σ h key (.neg y) = some (v, h')) : Out P B w0 E h' key a o w v := by
 have hx := cx_sound hc hs
 simp only [aop] at hex
 split at hex
 ·rename_i k n he
  simp only [Option.some.injEq, Prod.mk.injEq] at hex
  obtain ⟨rfl, rfl⟩ := hex
  rw [he] at hx
  exact Out.quiet r _ (by unfold execOp; rw [ho]; dsimp only; rw [hx.inv_int]; rfl) (.int _ _)
 ·cases hex
theorem not_sound {x : Operand} {y : AX} {t : TypeId} (ho : o.op = .unOp .not t x) (hc : cx P t x = some y) (hs : SR E a σ) (r : Rel B w0 E h w) (hex : aop O σ h key (.not y) = some (v, h')) : Out P B w0 E h' key a o w v := by
 have hx := cx_sound hc hs
 simp only [aop] at hex
 split at hex
 ·rename_i b he
  simp only [Option.some.injEq, Prod.mk.injEq] at hex
  obtain ⟨rfl, rfl⟩ := hex
  rw [he] at hx
  exact Out.quiet r _ (by unfold execOp; rw [ho]; dsimp only; rw [hx.inv_bool]; rfl) (.bool _)
 ·cases hex
theorem bin_sound {op : BinOp} {t u : TypeId} {x y : Operand} {c d : AX} (ho : o.op = .binOp op t x y u) (h1 : cx P t x = some c) (h2 : cx P u y = some d) (hs : SR E a σ) (r : Rel B w0 E h w) (hex : aop O σ h key (.bin op c d) = some (v, h')) : Out P B w0 E h' key a o w v := by
 simp only [aop, Option.map_eq_some_iff, Prod.mk.injEq] at hex
 obtain ⟨z, hz, rfl, rfl⟩ := hex
 obtain ⟨q, hq, rq⟩ := abin_sound (P := P) (w := w) (t := t) (p := x) (q := y) (cx_sound h1 hs) (cx_sound h2 hs) hz
 exact Out.quiet r q (by unfold execOp; rw [ho]; exact run_v hq) rq
theorem cvInt_sound {x : Operand} {y : AX} {s d : TypeId} {k : IntKind} {ds : TypeDesc} (ho : o.op = .convert s d x) (hus : P.underlying s = some ds) (hu : P.underlying d = some (.int k)) (hc : cx P s x = some y) (hs : SR E a σ) (r : Rel B w0 E h w) (hex : aop O σ h key (.cvInt k y) = some (v, h')) : Out P B w0 E h' key a o w v := by
 have hx := cx_sound hc hs
 simp only [aop] at hex
 split at hex
 ·rename_i k' n he
  simp only [Option.some.injEq, Prod.mk.injEq] at hex
  obtain ⟨rfl, rfl⟩ := hex
  rw [he] at hx
  have hrun : (convert s d (a.eval x)).run P w = .ok (.int k (k.wrap n)) w := by
   rw [hx.inv_int]
   unfold convert
   simp only [Sem.run_bind, run_underlying hus, run_underlying hu, Result.andThen_ok]
   rfl
  exact Out.quiet r _ (by unfold execOp; rw [ho]; exact run_v hrun) (.int _ _)
 ·cases hex
theorem cvIntStr_sound {x : Operand} {y : AX} {s d : TypeId} {ks : IntKind} (ho : o.op = .convert s d x) (hus : P.underlying s = some (.int ks)) (hu : P.underlying d = some .string) (hc : cx P s x = some y) (hs : SR E a σ) (r : Rel B w0 E h w) (hex : aop O σ h key (.cvIntStr y) = some (v, h')) : Out P B w0 E h' key a o w v := by
 have hx := cx_sound hc hs
 simp only [aop] at hex
 split at hex
 ·rename_i k' n he
  simp only [Option.some.injEq, Prod.mk.injEq] at hex
  obtain ⟨rfl, rfl⟩ := hex
  rw [he] at hx
  have hrun : (convert s d (a.eval x)).run P w = .ok (.string (Utf8.encode n)) w := by
   rw [hx.inv_int]
   unfold convert
   simp only [Sem.run_bind, run_underlying hus, run_underlying hu, Result.andThen_ok]
   rfl
  exact Out.quiet r _ (by unfold execOp; rw [ho]; exact run_v hrun) (.str (Utf8.encode n).data.toList)
 ·cases hex
theorem cvStr_sound {x : Operand} {y : AX} {s d : TypeId} (ho : o.op = .convert s d x) (hus : P.underlying s = some .string) (hu : P.underlying d = some .string) (hc : cx P s x = some y) (hs : SR E a σ) (r : Rel B w0 E h w) (hex : aop O σ h key (.cvStr y) = some (v, h')) : Out P B w0 E h' key a o w v := by
 have hx := cx_sound hc hs
 simp only [aop] at hex
 split at hex
 ·rename_i l hl
  simp only [Option.some.injEq, Prod.mk.injEq] at hex
  obtain ⟨rfl, rfl⟩ := hex
  rw [hl] at hx
  have hrun : (convert s d (a.eval x)).run P w = .ok (a.eval x) w := by
   rw [hx.inv_str]
   unfold convert
   simp only [Sem.run_bind, run_underlying hus, run_underlying hu, Result.andThen_ok]
   rfl
  exact Out.quiet r _ (by unfold execOp; rw [ho]; exact run_v hrun) hx
 ·cases hex
theorem field_sound {x : Operand} {y : AX} {t : TypeId} {f : Nat} {fs : Array Field} {fd : Field} {s : Option Nat} (ho : o.op = .field t x f) (hu : P.underlying t = some (.struct fs)) (hf : fs[f]? = some fd) (hl : ld P fd.type = some s) (hc : cx P t x = some y) (hs : SR E a σ) (r : Rel B w0 E h w) (hex : aop O σ h key (.field fd.offset s y) = some (v, h')) : Out P B w0 E h' key a o w v := by
 have hx := cx_sound hc hs
 simp only [aop] at hex
 split at hex
 ·rename_i cs he
  simp only [Option.map_eq_some_iff, Prod.mk.injEq] at hex
  obtain ⟨z, hz, rfl, rfl⟩ := hex
  rw [he] at hx
  generalize hv : a.eval x = av at hx
  cases hx with
  | agg xs _ l1 o1 r1 =>
   obtain ⟨u, hu1, hu2⟩ := run_part (P := P) (w := w) hl l1 ⟨o1, r1⟩ hz
   refine Out.quiet r u ?_ hu2
   unfold execOp; rw [ho]; dsimp only; rw [hv]
   refine run_v ?_
   simp only [Instr.field, Sem.run_bind, run_underlying hu, Result.andThen_ok, hf, asAgg, Sem.run_pure, hu1]
 ·cases hex
theorem indexS_sound {x i : Operand} {y j : AX} {t : TypeId} (ho : o.op = .index t x i) (hu : P.underlying t = some .string) (h1 : cx P t x = some y) (h2 : cx P 0 i = some j) (hs : SR E a σ) (r : Rel B w0 E h w) (hex : aop O σ h key (.indexS y j) = some (v, h')) : Out P B w0 E h' key a o w v := by
 have hx := cx_sound h1 hs
 have hj := cx_sound h2 hs
 simp only [aop] at hex
 split at hex
 ·rename_i l k n e1 e2
  rw [e1] at hx
  rw [e2] at hj
  split at hex
  ·rename_i h0
   split at hex
   ·rename_i b hb
    simp only [Option.some.injEq, Prod.mk.injEq] at hex
    obtain ⟨rfl, rfl⟩ := hex
    refine Out.quiet r _ ?_ (.int _ _)
    unfold execOp; rw [ho]; dsimp only; rw [hx.inv_str, hj.inv_int]
    refine run_v ?_
    have hb' : (⟨⟨l⟩⟩ : ByteArray)[n.toNat]? = some b := by
     have := (List.getElem?_eq_some_iff.1 hb)
     obtain ⟨hlt, hbe⟩ := this
     have hl' : n.toNat < (⟨⟨l⟩⟩ : ByteArray).size := hlt
     rw [getElem?_pos (⟨⟨l⟩⟩ : ByteArray) n.toNat hl']
     exact congrArg some hbe
    simp only [Instr.index, Sem.run_bind, asIntOf, Sem.run_pure, Result.andThen_ok, run_underlying hu, if_pos h0, hb']
   ·cases hex
  ·cases hex
 ·cases hex
theorem run_indexVal {t : TypeId} {s : Option Nat} {n esz : Nat} {e : TypeId} (hu : P.underlying t = some (.array n e)) (hsz : size? P e = some esz) (hl : ld P e = some s) {xs : Array Value} {as : List AV} (l1 : xs.size = as.length) (r1 : RdCells E xs as) {k : IntKind} {i : Int} (hi : 0 ≤ i ∧ i < (n : Int)) {x : AV} (hx : loadA s as (i.toNat * esz) = some x) :
  ∃ u, (Instr.index t (.agg xs) (.int k i)).run P w = .ok u w ∧ Rd E u x := by
 obtain ⟨u, hu1, hu2⟩ := run_part (P := P) (w := w) hl l1 r1 hx
 refine ⟨u, ?_, hu2⟩
 simp only [Instr.index, Sem.run_bind, asIntOf, Sem.run_pure, Result.andThen_ok, run_underlying hu, if_pos hi, run_sizeOf' hsz, hu1]
theorem indexA_sound {x i : Operand} {y j : AX} {t e : TypeId} {n esz : Nat} {s : Option Nat} (ho : o.op = .index t x i) (hu : P.underlying t = some (.array n e)) (hsz : size? P e = some esz) (hl : ld P e = some s) (h1 : cx P t x = some y) (h2 : cx P 0 i = some j) (hs : SR E a σ) (r : Rel B w0 E h w) (hex : aop O σ h key (.indexA s esz n y j) = some (v, h')) : Out P B w0 E h' key a o w v := by
 have hx := cx_sound h1 hs
 have hj := cx_sound h2 hs
 simp only [aop] at hex
 split at hex
 ·rename_i cs k m e1 e2
  rw [e1] at hx
  rw [e2] at hj
  split at hex
  ·rename_i h0
   simp only [Option.map_eq_some_iff, Prod.mk.injEq] at hex
   obtain ⟨z, hz, rfl, rfl⟩ := hex
   generalize hv : a.eval x = av at hx
   cases hx with
   | agg xs _ l1 o1 r1 =>
    obtain ⟨u, hu1, hu2⟩ := run_indexVal (P := P) (w := w) hu hsz hl l1 ⟨o1, r1⟩ (k := k) h0 hz
    refine Out.quiet r u ?_ hu2
    unfold execOp; rw [ho]; dsimp only; rw [hv, hj.inv_int]
    exact run_v hu1
  ·cases hex
 ·cases hex
theorem ext_sound {x : Operand} {y : AX} {i : Nat} (ho : o.op = .extract x i) (hc : cx P 0 x = some y) (hs : SR E a σ) (r : Rel B w0 E h w) (hex : aop O σ h key (.ext y i) = some (v, h')) : Out P B w0 E h' key a o w v := by
 have hx := cx_sound hc hs
 simp only [aop] at hex
 split at hex
 ·rename_i vs he
  simp only [Option.map_eq_some_iff, Prod.mk.injEq] at hex
  obtain ⟨z, hz, rfl, rfl⟩ := hex
  rw [he] at hx
  generalize hv : a.eval x = av at hx
  cases hx with
  | tup cs _ l1 r1 =>
   have hlt : i < cs.size := by have := (List.getElem?_eq_some_iff.1 hz).1; omega
   refine Out.quiet r cs[i] ?_ (r1 i _ z (Array.getElem?_eq_getElem hlt) hz)
   unfold execOp; rw [ho]; dsimp only; rw [hv]
   exact run_v (by simp [Instr.extract, Array.getElem?_eq_getElem hlt])
 ·cases hex
theorem run_builtin {c : Call} {b : Builtin} (ho : o.op = .call c) (hb : c.callee = .builtin b) : (execOp a.eval o) = builtin b c.argTypes o.type (c.args.map fun | .const _ => true | _ => false) (c.args.map a.eval) := by
 unfold execOp; rw [ho]; dsimp only
 unfold resolve
 rw [hb]
 rfl
theorem run_len {t : TypeId} {td : TypeDesc} {u : Value} {n : Nat} (hu : P.underlying t = some td) (h1 : (td = .string ∧ ∃ s : ByteArray, u = .string s ∧ s.size = n) ∨ (∃ e, td = .slice e ∧ ∃ A c, u = .slice A n c)) :
  (Builtin.len_ #[t] ty #[u]).run P w = .ok (.int .i64 n) w := by
 rcases h1 with ⟨rfl, s, rfl, rfl⟩ | ⟨e, rfl, A, c, rfl⟩
 ·simp only [Builtin.len_]
  show (underlying t >>= _ : Sem Value).run P w = _
  rw [Sem.run_bind, run_underlying hu]
  rfl
 ·simp only [Builtin.len_]
  show (underlying t >>= _ : Sem Value).run P w = _
  rw [Sem.run_bind, run_underlying hu]
  rfl
theorem lenS_sound {c : Call} {x : Operand} {t : TypeId} {y : AX} (ho : o.op = .call c) (hb : c.callee = .builtin .len) (ha : c.args = #[x]) (ht : c.argTypes = #[t]) (hu : P.underlying t = some .string) (hc : cx P t x = some y) (hs : SR E a σ) (r : Rel B w0 E h w) (hex : aop O σ h key (.lenS y) = some (v, h')) : Out P B w0 E h' key a o w v := by
 have hx := cx_sound hc hs
 simp only [aop] at hex
 split at hex
 ·rename_i l he
  simp only [Option.some.injEq, Prod.mk.injEq] at hex
  obtain ⟨rfl, rfl⟩ := hex
  rw [he] at hx
  refine Out.quiet r _ ?_ (.int _ _)
  rw [run_builtin ho hb, ha, ht]
  simp only [List.map_toArray, List.map_cons, List.map_nil]
  exact run_v (run_len hu (.inl ⟨rfl, _, hx.inv_str, rfl⟩))
 ·cases hex
theorem len_sound {c : Call} {x : Operand} {t e : TypeId} {y : AX} (ho : o.op = .call c) (hb : c.callee = .builtin .len) (ha : c.args = #[x]) (ht : c.argTypes = #[t]) (hu : P.underlying t = some (.slice e)) (hc : cx P t x = some y) (hs : SR E a σ) (r : Rel B w0 E h w) (hex : aop O σ h key (.len y) = some (v, h')) : Out P B w0 E h' key a o w v := by
 have hx := cx_sound hc hs
 have key : ∀ (A : Option Addr) (n cc : Nat), a.eval x = .slice A n cc → v = .int .i64 n → h = h' → Out P B w0 E h' key a o w v := by
  intro A n cc h1 h2 h3
  subst h3
  rw [h2]
  refine Out.quiet r _ ?_ (.int _ _)
  rw [run_builtin ho hb, ha, ht]
  simp only [List.map_toArray, List.map_cons, List.map_nil]
  exact run_v (run_len hu (.inr ⟨e, rfl, A, cc, h1⟩))
 simp only [aop] at hex
 split at hex
 ·rename_i s xs rt he
  simp only [Option.some.injEq, Prod.mk.injEq] at hex
  obtain ⟨rfl, rfl⟩ := hex
  rw [he] at hx
  generalize hv : a.eval x = av at hx
  cases hx with
  | list A n cc _ _ _ g o vs h1 => exact key A n cc hv (by rw [h1]) rfl
 ·rename_i he
  simp only [Option.some.injEq, Prod.mk.injEq] at hex
  obtain ⟨rfl, rfl⟩ := hex
  rw [he] at hx
  generalize hv : a.eval x = av at hx
  cases hx with
  | sl _ _ _ n cap g cc => exact key _ _ _ hv rfl rfl
 ·rename_i he
  simp only [Option.some.injEq, Prod.mk.injEq] at hex
  obtain ⟨rfl, rfl⟩ := hex
  rw [he] at hx
  generalize hv : a.eval x = av at hx
  cases hx with
  | gl _ _ n g cc => exact key _ _ _ hv rfl rfl
 ·cases hex
theorem minmax_sound {c : Call} {x y : Operand} {p q : AX} {b : Builtin} (hbb : b = .min ∨ b = .max) (ho : o.op = .call c) (hb : c.callee = .builtin b) (ha : c.args = #[x, y]) (h1 : cx P 0 x = some p) (h2 : cx P 0 y = some q) (hs : SR E a σ) (r : Rel B w0 E h w)
  (hex : aop O σ h key (if b = .min then .min p q else .max p q) = some (v, h')) : Out P B w0 E h' key a o w v := by
 have hx := cx_sound h1 hs
 have hy := cx_sound h2 hs
 rcases hbb with rfl | rfl
 ·rw [if_pos rfl] at hex
  simp only [aop] at hex
  split at hex
  ·rename_i k m k' n e1 e2
   simp only [Option.some.injEq, Prod.mk.injEq] at hex
   obtain ⟨rfl, rfl⟩ := hex
   rw [e1] at hx
   rw [e2] at hy
   refine Out.quiet r _ ?_ (.int _ _)
   rw [run_builtin ho hb, ha]
   simp only [List.map_toArray, List.map_cons, List.map_nil, hx.inv_int, hy.inv_int]
   exact run_v (by simp [Builtin.min_, Builtin.min2])
  ·cases hex
 ·rw [if_neg (by decide)] at hex
  simp only [aop] at hex
  split at hex
  ·rename_i k m k' n e1 e2
   simp only [Option.some.injEq, Prod.mk.injEq] at hex
   obtain ⟨rfl, rfl⟩ := hex
   rw [e1] at hx
   rw [e2] at hy
   refine Out.quiet r _ ?_ (.int _ _)
   rw [run_builtin ho hb, ha]
   simp only [List.map_toArray, List.map_cons, List.map_nil, hx.inv_int, hy.inv_int]
   exact run_v (by simp [Builtin.max_, Builtin.max2])
  ·cases hex
theorem cxs_sound {t : TypeId} : ∀ {xs : List Operand} {ys : List AX}, cxs P t xs = some ys → SR E a σ → xs.length = ys.length ∧ ∀ (i : Nat) (x : Operand) (y : AX), xs[i]? = some x → ys[i]? = some y → Rd E (a.eval x) (y.ev σ)
 | [], ys, hc, _ => by simp only [cxs, Option.some.injEq] at hc; subst hc; exact ⟨rfl, by simp⟩
 | x :: xs, ys, hc, hs => by
  simp only [cxs] at hc
  split at hc
  ·rename_i y ys' h1 h2
   injection hc with hc; subst hc
   obtain ⟨k1, k2⟩ := cxs_sound h2 hs
   refine ⟨by simp [k1], fun i x' y' hx hy => ?_⟩
   match i with
   | 0 => simp at hx hy; subst hx; subst hy; exact cx_sound h1 hs
   | i + 1 => simp at hx hy; exact k2 i x' y' hx hy
  ·cases hc
theorem cxTs_sound : ∀ {xs : List (Operand × TypeId)} {ys : List AX}, cxTs P xs = some ys → SR E a σ → xs.length = ys.length ∧ ∀ (i : Nat) (x : Operand × TypeId) (y : AX), xs[i]? = some x → ys[i]? = some y → Rd E (a.eval x.1) (y.ev σ)
 | [], ys, hc, _ => by simp only [cxTs, Option.some.injEq] at hc; subst hc; exact ⟨rfl, by simp⟩
 | x :: xs, ys, hc, hs => by
  simp only [cxTs] at hc
  split at hc
  ·rename_i y ys' h1 h2
   injection hc with hc; subst hc
   obtain ⟨k1, k2⟩ := cxTs_sound h2 hs
   refine ⟨by simp [k1], fun i x' y' hx hy => ?_⟩
   match i with
   | 0 => simp at hx hy; subst hx; subst hy; exact cx_sound h1 hs
   | i + 1 => simp at hx hy; exact k2 i x' y' hx hy
  ·cases hc
theorem mkfn_sound {g : FuncId} {first caps : Array Operand} {xs : List AX} (ho : o.op = .makeFunc (.func g) first caps) (hf : first.toList = []) (hc : cxs P 0 caps.toList = some xs) (hs : SR E a σ) (r : Rel B w0 E h w) (hex : aop O σ h key (.mkfn g xs) = some (v, h')) : Out P B w0 E h' key a o w v := by
 simp only [aop, Option.some.injEq, Prod.mk.injEq] at hex
 obtain ⟨rfl, rfl⟩ := hex
 obtain ⟨k1, k2⟩ := cxs_sound hc hs
 have hf' : first = #[] := by apply Array.ext'; simpa using hf
 refine Out.quiet r (.func (.func g) #[] (caps.map a.eval)) (by unfold execOp; rw [ho, hf']; exact run_v (by simp [Instr.makeFunc])) (.fn g _ _ (by simpa using k1) fun i u x hu hx => ?_)
 rw [Array.getElem?_map, Option.map_eq_some_iff] at hu
 rw [List.getElem?_map, Option.map_eq_some_iff] at hx
 obtain ⟨p, hp, rfl⟩ := hu
 obtain ⟨q, hq, rfl⟩ := hx
 exact k2 i p q (by simpa using hp) hq
theorem mkiface_sound {x : Operand} {y : AX} {t : TypeId} {td : TypeDesc} (ho : o.op = .makeInterface t x) (hu : P.underlying t = some td) (hni : ∀ ms, td ≠ .interface ms) (hc : cx P t x = some y) (hs : SR E a σ) (r : Rel B w0 E h w) (hex : aop O σ h key (.mkiface t y) = some (v, h')) : Out P B w0 E h' key a o w v := by
 simp only [aop, Option.some.injEq, Prod.mk.injEq] at hex
 obtain ⟨rfl, rfl⟩ := hex
 refine Out.quiet r (.iface t (a.eval x)) ?_ (.iface _ _ _ (cx_sound hc hs))
 unfold execOp; rw [ho]
 refine run_v ?_
 simp only [Instr.makeInterface, Sem.run_bind, run_underlying hu, Result.andThen_ok]
 rfl
/-! ### Addresses -/
theorem off_sound {x : Operand} {y : AX} {t : TypeId} {f n : Nat} {fs : Array Field} {fd : Field} (ho : o.op = .fieldAddr t x f) (hu : P.underlying t = some (.struct fs)) (hf : fs[f]? = some fd) (hn : size? P fd.type = some n) (hpos : 0 < n) (hc : cx P 0 x = some y) (hs : SR E a σ) (r : Rel B w0 E h w) (hex : aop O σ h key (.off fd.offset y) = some (v, h')) : Out P B w0 E h' key a o w v := by
 have hx := cx_sound hc hs
 have hrun : ∀ g b, a.eval x = .pointer (some ⟨g, b, none⟩) → (execOp a.eval o).run P w = .ok (.value (.pointer (some ⟨g, b + fd.offset, none⟩))) w := by
  intro g b hv
  unfold execOp; rw [ho]; dsimp only; rw [hv]
  refine run_v ?_
  have hn0 : n ≠ 0 := by omega
  simp [Instr.fieldAt, Instr.sureAddr, run_underlying hu, hf, fieldPlace, run_sizeOf' hn, hn0, add_plain]
 simp only [aop] at hex
 generalize hv : a.eval x = av at hx hrun
 split at hex
 ·rename_i b o' he
  simp only [Option.some.injEq, Prod.mk.injEq] at hex
  obtain ⟨rfl, rfl⟩ := hex
  rw [he] at hx
  cases hx with
  | ptr _ _ g c hρ => exact Out.quiet r _ (hrun g o' rfl) (.ptr _ _ _ _ hρ)
 ·rename_i cs he
  simp only [Option.some.injEq, Prod.mk.injEq] at hex
  obtain ⟨rfl, rfl⟩ := hex
  rw [he] at hx
  cases hx with
  | eptr g o' _ vs hone h1 h2 =>
   refine Out.quiet r _ (hrun g o' rfl) (.eptr _ _ _ (fun j => vs (fd.offset + j)) (fun y hy => hone y (List.mem_of_mem_drop hy)) (fun j hj => ?_) fun j y hy => ?_)
   ·simp only [List.length_drop] at hj
    rw [Nat.add_assoc]
    exact h1 _ (by omega)
   ·rw [List.getElem?_drop] at hy
    exact h2 _ y hy
 ·cases hex
theorem idx_sound {x i : Operand} {y j : AX} {t e : TypeId} {sz : Nat} (ho : o.op = .indexAddr t x i) (hu : P.underlying t = some (.slice e)) (hsz : size? P e = some sz) (h1 : cx P t x = some y) (h2 : cx P 0 i = some j) (hs : SR E a σ) (r : Rel B w0 E h w) (hex : aop O σ h key (.idx sz y j) = some (v, h')) : Out P B w0 E h' key a o w v := by
 have hx := cx_sound h1 hs
 have hj := cx_sound h2 hs
 have hrun : ∀ (g b len cap : Nat) (k : IntKind) (n : Int), a.eval x = .slice (some ⟨g, b, none⟩) len cap → a.eval i = .int k n → 0 ≤ n ∧ n < (len : Int) → (execOp a.eval o).run P w = .ok (.value (.pointer (some ⟨g, b + n.toNat * sz, none⟩))) w := by
  intro g b len cap k n hv hi hn
  unfold execOp; rw [ho]; dsimp only; rw [hv, hi]
  refine run_v ?_
  simp only [Instr.indexAt, asIntOf, Sem.run_bind, Sem.run_pure, Result.andThen_ok, run_underlying hu, if_pos hn, run_sizeOf' hsz, add_plain]
 simp only [aop] at hex
 split at hex
 ·rename_i s xs rt k n e1 e2
  split at hex
  ·rename_i hcond
   obtain ⟨rfl, h0⟩ := hcond
   split at hex
   ·rename_i z hz
    simp only [Option.some.injEq, Prod.mk.injEq] at hex
    obtain ⟨rfl, rfl⟩ := hex
    rw [e1] at hx
    rw [e2] at hj
    generalize hv : a.eval x = av at hx hrun
    cases hx with
    | list A m c _ _ _ g b vs k1 k2 k3 k4 k5 k6 k7 =>
     have hlt := (List.getElem?_eq_some_iff.1 hz).1
     have hA := k3 (by omega)
     subst hA
     have hmem := List.mem_of_getElem? hz
     refine Out.quiet r _ (hrun g b m c k n rfl hj.inv_int ⟨h0, by omega⟩) (.eptr _ _ _ (vs n.toNat) (k4 z hmem).2 (fun q hq => ?_) fun q y' hy => k6 _ _ _ _ hz hy)
     rw [Nat.add_assoc]
     exact k5 _ _ (by omega) (by rw [(k4 z hmem).1] at hq; exact hq)
   ·cases hex
  ·cases hex
 ·rename_i s b o' len cap k n e1 e2
  split at hex
  ·rename_i hcond
   obtain ⟨rfl, h0, hlt⟩ := hcond
   simp only [Option.some.injEq, Prod.mk.injEq] at hex
   obtain ⟨rfl, rfl⟩ := hex
   rw [e1] at hx
   rw [e2] at hj
   generalize hv : a.eval x = av at hx hrun
   cases hx with
   | sl _ _ _ _ _ g c hρ hle => exact Out.quiet r _ (hrun g o' len cap k n rfl hj.inv_int ⟨h0, hlt⟩) (.ptr _ _ _ _ hρ)
  ·cases hex
 ·rename_i s b m k n e1 e2
  split at hex
  ·rename_i hcond
   obtain ⟨rfl, h0, hlt⟩ := hcond
   simp only [Option.some.injEq, Prod.mk.injEq] at hex
   obtain ⟨rfl, rfl⟩ := hex
   rw [e1] at hx
   rw [e2] at hj
   generalize hv : a.eval x = av at hx hrun
   cases hx with
   | gl _ _ _ g c hρ hle =>
    have := hrun g 0 m c k n rfl hj.inv_int ⟨h0, hlt⟩
    rw [Nat.zero_add] at this
    exact Out.quiet r _ this (.ptr _ _ _ _ hρ)
  ·cases hex
 ·cases hex
theorem idxA_sound {x i : Operand} {y j : AX} {t e : TypeId} {n sz : Nat} (ho : o.op = .indexAddr t x i) (hu : P.underlying t = some (.array n e)) (hsz : size? P e = some sz) (hn1 : 1 < n) (h1 : cx P t x = some y) (h2 : cx P 0 i = some j) (hs : SR E a σ) (r : Rel B w0 E h w) (hex : aop O σ h key (.idxA sz n y j) = some (v, h')) : Out P B w0 E h' key a o w v := by
 have hx := cx_sound h1 hs
 have hj := cx_sound h2 hs
 have hrun : ∀ (g b : Nat) (k : IntKind) (m : Int), a.eval x = .pointer (some ⟨g, b, none⟩) → a.eval i = .int k m → 0 ≤ m ∧ m < (n : Int) → (execOp a.eval o).run P w = .ok (.value (.pointer (some ⟨g, b + m.toNat * sz, none⟩))) w := by
  intro g b k m hv hi hm
  unfold execOp; rw [ho]; dsimp only; rw [hv, hi]
  refine run_v ?_
  simp only [Instr.indexAt, asIntOf, Instr.sureAddr, Sem.run_bind, Sem.run_pure, Result.andThen_ok, run_underlying hu, if_pos hm, run_sizeOf' hsz, add_plain]
 simp only [aop] at hex
 split at hex
 ·rename_i b o' k m e1 e2
  split at hex
  ·rename_i h0
   simp only [Option.some.injEq, Prod.mk.injEq] at hex
   obtain ⟨rfl, rfl⟩ := hex
   rw [e1] at hx
   rw [e2] at hj
   generalize hv : a.eval x = av at hx hrun
   cases hx with
   | ptr _ _ g c hρ => exact Out.quiet r _ (hrun g o' k m rfl hj.inv_int h0) (.ptr _ _ _ _ hρ)
  ·cases hex
 ·rename_i cs k m e1 e2
  split at hex
  ·rename_i h0
   simp only [Option.some.injEq, Prod.mk.injEq] at hex
   obtain ⟨rfl, rfl⟩ := hex
   rw [e1] at hx
   rw [e2] at hj
   generalize hv : a.eval x = av at hx hrun
   cases hx with
   | eptr g o' _ vs hone k1 k2 =>
    refine Out.quiet r _ (hrun g o' k m rfl hj.inv_int h0) (.eptr _ _ _ (fun q => vs (m.toNat * sz + q)) (fun y hy => hone y (List.mem_of_mem_drop hy)) (fun q hq => ?_) fun q y' hy => ?_)
    ·simp only [List.length_drop] at hq
     rw [Nat.add_assoc]
     exact k1 _ (by omega)
    ·rw [List.getElem?_drop] at hy
     exact k2 _ y' hy
  ·cases hex
 ·cases hex
end
end Go.Am
/-
 Cuts of texts and slices; bytes as a text.
-/
namespace Go.Am
open Go Go.RowKit
section
variable {P : Program} {B : Nat} {w0 : World} {E : Env} {h h' : Heap} {a : Act} {w : World} {σ : Slots} {o : Oper} {key : Nat} {O : CallO} {v : AV} {ty : TypeId}
theorem optX_sound {x : Option Operand} {y : Option AX} (hc : optX P x = some y) (hs : SR E a σ) : (x = none ∧ y = none) ∨ ∃ u z, x = some u ∧ y = some z ∧ Rd E (a.eval u) (z.ev σ) := by
 cases x with
 | none => simp only [optX, Option.some.injEq] at hc; exact .inl ⟨rfl, hc.symm⟩
 | some u =>
  simp only [optX, Option.map_eq_some_iff] at hc
  obtain ⟨z, hz, rfl⟩ := hc
  exact .inr ⟨u, z, rfl, rfl, cx_sound hz hs⟩
theorem bnd_some {u : Value} {z : AX} (hr : Rd E u (z.ev σ)) {n d m : Nat} (hb : bnd σ (some z) n d = some m) : m ≤ n ∧ ∀ n' code, n ≤ n' → (Instr.sliceBound u n' code).run P w = .ok m w := by
 simp only [bnd] at hb
 split at hb
 ·rename_i k i he
  rw [he] at hr
  rw [hr.inv_int]
  split at hb
  ·rename_i hc
   injection hb with hb
   subst hb
   refine ⟨by omega, fun n' code hn => ?_⟩
   have : 0 ≤ i ∧ i ≤ (n' : Int) := by omega
   simp [Instr.sliceBound, asIntOf, this]
  ·cases hb
 ·cases hb
theorem bnd_none {n d m : Nat} (hb : bnd σ none n d = some m) : m = d := by
 simp only [bnd, Option.some.injEq] at hb
 exact hb.symm
theorem run_sliceBounds {lo hi mx : Option Operand} {lo' hi' mx' : Option AX} (h1 : optX P lo = some lo') (h2 : optX P hi = some hi') (h3 : optX P mx = some mx') (hs : SR E a σ) (hform : mx' = none ∨ hi' ≠ none) {n N cap m hh l : Nat} (hnc : N ≤ cap)
  (b1 : bnd σ mx' N N = some m) (b2 : bnd σ hi' m n = some hh) (b3 : bnd σ lo' hh 0 = some l) (isSlice : Bool) :
  ∃ m', (Instr.sliceBounds isSlice n cap (lo.map a.eval) (hi.map a.eval) (mx.map a.eval)).run P w = .ok (l, hh, m') w ∧ (mx' = none → m' = cap) ∧ (mx' ≠ none → m' = m) ∧ l ≤ hh := by
 rcases optX_sound h3 hs with ⟨rfl, rfl⟩ | ⟨um, zm, rfl, rfl, rm⟩
 ·have em := bnd_none b1
  subst em
  rcases optX_sound h2 hs with ⟨rfl, rfl⟩ | ⟨uh, zh, rfl, rfl, rh⟩
  ·have := bnd_none b2; subst this
   rcases optX_sound h1 hs with ⟨rfl, rfl⟩ | ⟨ul, zl, rfl, rfl, rl⟩
   ·have := bnd_none b3; subst this
    exact ⟨cap, by simp [Instr.sliceBounds], fun _ => rfl, fun h => absurd rfl h, by omega⟩
   ·have k := bnd_some (P := P) (w := w) rl b3
    exact ⟨cap, by simp [Instr.sliceBounds, k.2 _ _ (Nat.le_refl _)], fun _ => rfl, fun h => absurd rfl h, k.1⟩
  ·have kh := bnd_some (P := P) (w := w) rh b2
   rcases optX_sound h1 hs with ⟨rfl, rfl⟩ | ⟨ul, zl, rfl, rfl, rl⟩
   ·have := bnd_none b3; subst this
    exact ⟨cap, by simp [Instr.sliceBounds, kh.2 _ _ hnc], fun _ => rfl, fun h => absurd rfl h, by omega⟩
   ·have k := bnd_some (P := P) (w := w) rl b3
    exact ⟨cap, by simp [Instr.sliceBounds, kh.2 _ _ hnc, k.2 _ _ (Nat.le_refl _)], fun _ => rfl, fun h => absurd rfl h, k.1⟩
 ·have km := bnd_some (P := P) (w := w) rm b1
  rcases optX_sound h2 hs with ⟨rfl, rfl⟩ | ⟨uh, zh, rfl, rfl, rh⟩
  ·rcases hform with hf | hf
   ·cases hf
   ·exact absurd rfl hf
  have kh := bnd_some (P := P) (w := w) rh b2
  rcases optX_sound h1 hs with ⟨rfl, rfl⟩ | ⟨ul, zl, rfl, rfl, rl⟩
  ·have := bnd_none b3; subst this
   exact ⟨m, by simp [Instr.sliceBounds, km.2 _ _ hnc, kh.2 _ _ (Nat.le_refl _)], (fun h => by cases h), fun _ => rfl, by omega⟩
  ·have k := bnd_some (P := P) (w := w) rl b3
   exact ⟨m, by simp [Instr.sliceBounds, km.2 _ _ hnc, kh.2 _ _ (Nat.le_refl _), k.2 _ _ (Nat.le_refl _)], (fun h => by cases h), fun _ => rfl, k.1⟩
theorem bnd_le {z : Option AX} {n d m : Nat} (hb : bnd σ z n d = some m) (hd : d ≤ n) : m ≤ n := by
 cases z with
 | none => have := bnd_none hb; omega
 | some z =>
  simp only [bnd] at hb
  split at hb
  ·split at hb
   ·injection hb with hb; omega
   ·cases hb
  ·cases hb
theorem sliceS_sound {t : TypeId} {x : Operand} {lo hi : Option Operand} {y : AX} {lo' hi' : Option AX} (ho : o.op = .slice t x lo hi none) (hu : P.underlying t = some .string) (hc : cx P t x = some y) (h1 : optX P lo = some lo') (h2 : optX P hi = some hi') (hs : SR E a σ) (r : Rel B w0 E h w) (hex : aop O σ h key (.sliceS y lo' hi') = some (v, h')) : Out P B w0 E h' key a o w v := by
 have hx := cx_sound hc hs
 simp only [aop, Option.map_eq_some_iff, Prod.mk.injEq] at hex
 obtain ⟨z, hz, rfl, rfl⟩ := hex
 unfold asliceS at hz
 split at hz
 ·rename_i l he
  rw [he] at hx
  split at hz
  ·rename_i hh b2
   split at hz
   ·rename_i b b3
    injection hz with hz
    subst hz
    obtain ⟨m', hrun, _, _, _⟩ := run_sliceBounds (P := P) (w := w) (lo := lo) (hi := hi) (mx := none) (lo' := lo') (hi' := hi') (mx' := none) h1 h2 rfl hs (.inl rfl) (n := l.length) (N := l.length) (cap := l.length) (m := l.length) (hh := hh) (l := b) (Nat.le_refl _) rfl b2 b3 false
    have hle := bnd_le b2 (Nat.le_refl _)
    have hsz : (⟨⟨l⟩⟩ : ByteArray).size = l.length := rfl
    have hext : (⟨⟨l⟩⟩ : ByteArray).extract b hh = ⟨⟨(l.take hh).drop b⟩⟩ := by
     apply ByteArray.ext
     apply Array.ext'
     show ((⟨⟨l⟩⟩ : ByteArray).extract b hh).data.toList = _
     rw [Lib.extract_data]
     simp only [List.drop_take]
    refine Out.quiet r (.string ((⟨⟨l⟩⟩ : ByteArray).extract b hh)) ?_ (by rw [hext]; exact .str _)
    unfold execOp; rw [ho]; dsimp only; rw [hx.inv_str]
    refine run_v ?_
    have e1 : Instr.sliceAt t (.string ⟨⟨l⟩⟩) (lo.map a.eval) (hi.map a.eval) ((none : Option Operand).map a.eval) = (do
     match ← underlying t with
     | .array n elem =>
      let a' ← Instr.sureAddr (.string ⟨⟨l⟩⟩)
      let (l', h', m) ← Instr.sliceBounds false n n (lo.map a.eval) (hi.map a.eval) none
      let size ← sizeOf elem
      pure (.slice (some (if m = l' then a' else a'.add (l' * size))) (h' - l') (m - l'))
     | _ => Instr.slice t (.string ⟨⟨l⟩⟩) (lo.map a.eval) (hi.map a.eval) none) := rfl
    rw [e1, Sem.run_bind, run_underlying hu]
    simp only [Result.andThen_ok]
    simp only [Instr.slice, Sem.run_bind, run_underlying hu, Result.andThen_ok]
    rw [hsz]
    simp [hrun] at hrun ⊢
   ·cases hz
  ·cases hz
 ·cases hz
theorem run_sliceAt {t e : TypeId} {sz : Nat} (hu : P.underlying t = some (.slice e)) (hsz : size? P e = some sz) {A : Option Addr} {n cap : Nat} {lo hi mx : Option Value} {l hh m : Nat} (hb : (Instr.sliceBounds true n cap lo hi mx).run P w = .ok (l, hh, m) w) :
  (Instr.sliceAt t (.slice A n cap) lo hi mx).run P w = .ok (.slice (if m = l then A else A.map (·.add (l * sz))) (hh - l) (m - l)) w := by
 simp only [Instr.sliceAt, Sem.run_bind, run_underlying hu, Result.andThen_ok, Instr.slice, hb, run_sizeOf' hsz]
 rfl
theorem slice_sound {t e : TypeId} {x : Operand} {lo hi mx : Option Operand} {y : AX} {lo' hi' mx' : Option AX} {sz : Nat} (ho : o.op = .slice t x lo hi mx) (hu : P.underlying t = some (.slice e)) (hsz : size? P e = some sz) (hc : cx P t x = some y) (h1 : optX P lo = some lo') (h2 : optX P hi = some hi') (h3 : optX P mx = some mx') (hform : mx' = none ∨ hi' ≠ none) (hs : SR E a σ) (r : Rel B w0 E h w) (hex : aop O σ h key (.slice sz y lo' hi' mx') = some (v, h')) : Out P B w0 E h' key a o w v := by
 have hx := cx_sound hc hs
 simp only [aop, Option.map_eq_some_iff, Prod.mk.injEq] at hex
 obtain ⟨z, hz, rfl, rfl⟩ := hex
 have hout : ∀ {A : Option Addr} {n cap l hh m : Nat}, a.eval x = .slice A n cap → (Instr.sliceBounds true n cap (lo.map a.eval) (hi.map a.eval) (mx.map a.eval)).run P w = .ok (l, hh, m) w → Rd E (.slice (if m = l then A else A.map (·.add (l * sz))) (hh - l) (m - l)) z → Out P B w0 E h key a o w z := by
  intro A n cap l hh m hv hb hr
  refine Out.quiet r _ ?_ hr
  unfold execOp; rw [ho]; dsimp only; rw [hv]
  exact run_v (run_sliceAt hu hsz hb)
 unfold aslice at hz
 split at hz
 ·rename_i s xs rt he
  rw [he] at hx
  split at hz
  ·rename_i m b1
   split at hz
   ·rename_i hh b2
    split at hz
    ·rename_i l b3
     split at hz
     ·rename_i hs'
      subst hs'
      injection hz with hz
      subst hz
      generalize hv : a.eval x = av at hx hout
      cases hx with
      | list A n c _ _ _ g b vs k1 k2 k3 k4 k5 k6 k7 =>
       obtain ⟨m', hrun, e1, e2, e3⟩ := run_sliceBounds (P := P) (w := w) h1 h2 h3 hs hform (n := xs.length) (N := xs.length) (cap := c) (by omega) b1 b2 b3 true
       have hmle := bnd_le b1 (Nat.le_refl _)
       have hhm : hh ≤ m := by
        cases hi' with
        | none =>
         rcases hform with hf | hf
         ·subst hf
          have := bnd_none b1
          have := bnd_none b2
          omega
         ·exact absurd rfl hf
        | some q =>
         exact (bnd_some (P := P) (w := w) (u := (match hi with | some u => a.eval u | none => undef)) (by
          rcases optX_sound h2 hs with ⟨_, hh'⟩ | ⟨u, z, rfl, hz', rz⟩
          ·cases hh'
          ·injection hz' with hz'; subst hz'; exact rz) b2).1
       have hm' : m ≤ m' := by
        cases mx' with
        | none => rw [e1 rfl]; omega
        | some q => rw [e2 (by simp)]; exact Nat.le_refl _
       rw [k1] at hrun
       refine hout rfl hrun (.list _ _ _ _ _ _ g (b + l * s) (fun i j => vs (i + l) j) (by simp; omega) (by omega) (fun hp => ?_) (fun q hq => k4 q (List.mem_of_mem_take (List.mem_of_mem_drop hq))) (fun i j hi hj => ?_) (fun i q j y' hq hy => ?_) ?_)
       ·rw [if_neg (by omega), k3 (by omega)]
        simp [add_plain]
       ·have := k5 (i + l) j (by omega) hj
        rw [Nat.add_mul] at this
        rw [show b + l * s + (i * s + j) = b + (i * s + l * s + j) by omega]
        exact this
       ·rw [List.getElem?_drop] at hq
        have hlt : l + i < hh := by
         rcases Nat.lt_or_ge (l + i) hh with h' | h'
         ·exact h'
         ·rw [List.getElem?_eq_none (by simp; omega)] at hq; cases hq
        rw [List.getElem?_take_of_lt hlt] at hq
        rw [Nat.add_comm i l]
        exact k6 _ q j y' hq hy
       ·unfold sliceRt
        split
        ·rename_i hfull
         simp only [Bool.and_eq_true, decide_eq_true_eq, Option.isSome_iff_ne_none] at hfull
         obtain ⟨f1, f2⟩ := hfull
         have := e2 f1
         show m' - l = hh - l
         omega
        ·rename_i hnf
         split
         ·rename_i hlh
          obtain ⟨rfl, rfl⟩ := hlh
          have hmx : mx' = none := by
           cases mx' with
           | none => rfl
           | some q =>
            exfalso
            apply hnf
            simp
            omega
          have em := e1 hmx
          subst em
          have hA : (if m' = 0 then A else A.map (·.add (0 * s))) = A := by
           split
           ·rfl
           ·rw [Nat.zero_mul]
            cases A <;> simp [Addr.add]
          rw [hA]
          simpa [k1] using k7
         ·trivial
     ·cases hz
    ·cases hz
   ·cases hz
  ·cases hz
 ·rename_i s b off len cap he
  rw [he] at hx
  split at hz
  ·rename_i m b1
   split at hz
   ·rename_i hh b2
    split at hz
    ·rename_i l b3
     split at hz
     ·rename_i hs'
      subst hs'
      injection hz with hz
      subst hz
      generalize hv : a.eval x = av at hx hout
      cases hx with
      | sl _ _ _ _ _ g c hρ hle =>
       obtain ⟨m', hrun, e1, e2, e3⟩ := run_sliceBounds (P := P) (w := w) h1 h2 h3 hs hform (n := len) (N := cap) (cap := cap) (Nat.le_refl _) b1 b2 b3 true
       have hmm : m' = m := by
        cases mx' with
        | none => rw [e1 rfl, bnd_none b1]
        | some q => exact e2 (by simp)
       subst hmm
       have hmle := bnd_le b1 (Nat.le_refl _)
       have hhm : hh ≤ m' := by
        cases hi' with
        | none =>
         rcases hform with hf | hf
         ·subst hf
          have := bnd_none b1
          have := bnd_none b2
          omega
         ·exact absurd rfl hf
        | some q =>
         exact (bnd_some (P := P) (w := w) (u := (match hi with | some u => a.eval u | none => undef)) (by
          rcases optX_sound h2 hs with ⟨_, hh'⟩ | ⟨u, z, rfl, hz', rz⟩
          ·cases hh'
          ·injection hz' with hz'; subst hz'; exact rz) b2).1
       refine hout rfl hrun ?_
       have : (if m' = l then some (⟨g, off, none⟩ : Addr) else (some (⟨g, off, none⟩ : Addr)).map (·.add (l * s))) = some ⟨g, if m' = l then off else off + l * s, none⟩ := by
        split <;> simp [add_plain]
       rw [this]
       exact .sl _ _ _ _ _ g c hρ (by omega)
     ·cases hz
    ·cases hz
   ·cases hz
  ·cases hz
 ·rename_i s b n he
  rw [he] at hx
  split at hz
  ·split at hz
   ·rename_i hh b2
    injection hz with hz
    subst hz
    generalize hv : a.eval x = av at hx hout
    cases hx with
    | gl _ _ _ g c hρ hle =>
     obtain ⟨m', hrun, e1, e2, e3⟩ := run_sliceBounds (P := P) (w := w) h1 h2 h3 hs (.inl rfl) (n := n) (N := n) (cap := c) (m := n) (hh := hh) (l := 0) hle rfl b2 rfl true
     have em := e1 rfl
     subst em
     have hmle := bnd_le b2 (Nat.le_refl _)
     refine hout rfl hrun ?_
     have : (if m' = 0 then some (⟨g, 0, none⟩ : Addr) else (some (⟨g, 0, none⟩ : Addr)).map (·.add (0 * sz))) = some ⟨g, 0, none⟩ := by
      split <;> simp [add_plain]
     rw [this]
     exact .gl _ _ _ g _ hρ (by omega)
   ·cases hz
  ·cases hz
 ·cases hz
theorem sliceA_sound {t e : TypeId} {x : Operand} {lo hi : Option Operand} {y : AX} {lo' hi' : Option AX} {sz n : Nat} (ho : o.op = .slice t x lo hi none) (hu : P.underlying t = some (.array n e)) (hsz : size? P e = some sz) (hc : cx P t x = some y) (h1 : optX P lo = some lo') (h2 : optX P hi = some hi') (hs : SR E a σ) (r : Rel B w0 E h w) (hex : aop O σ h key (.sliceA sz n y lo' hi') = some (v, h')) : Out P B w0 E h' key a o w v := by
 have hx := cx_sound hc hs
 simp only [aop] at hex
 split at hex
 ·rename_i b off he
  rw [he] at hx
  split at hex
  ·rename_i hh b2
   split at hex
   ·rename_i l b3
    simp only [Option.some.injEq, Prod.mk.injEq] at hex
    obtain ⟨rfl, rfl⟩ := hex
    generalize hv : a.eval x = av at hx
    cases hx with
    | ptr _ _ g c hρ =>
     obtain ⟨m', hrun, e1, e2, e3⟩ := run_sliceBounds (P := P) (w := w) (mx := none) h1 h2 rfl hs (.inl rfl) (n := n) (N := n) (cap := n) (m := n) (hh := hh) (l := l) (Nat.le_refl _) rfl b2 b3 false
     have em := e1 rfl
     subst em
     have hmle := bnd_le b2 (Nat.le_refl _)
     refine Out.quiet r (.slice (some ⟨g, if m' = l then off else off + l * sz, none⟩) (hh - l) (m' - l)) ?_ (.sl _ _ _ _ _ g c hρ (by omega))
     unfold execOp; rw [ho]; dsimp only; rw [hv]
     refine run_v ?_
     simp only [Option.map_none] at hrun ⊢
     simp only [Instr.sliceAt, Sem.run_bind, run_underlying hu, Result.andThen_ok, Instr.sureAddr, Sem.run_pure, hrun, run_sizeOf' hsz, add_plain]
     congr 2
     split <;> rfl
   ·cases hex
  ·cases hex
 ·cases hex
end
end Go.Am
/-
 Rows: fresh slices, appends, texts as bytes and back.
-/
namespace Go.Am
open Go Go.RowKit
section
variable {P : Program} {B : Nat} {w0 : World} {E : Env} {h h' : Heap} {a : Act} {w : World} {σ : Slots} {o : Oper} {key : Nat} {O : CallO} {v : AV} {ty : TypeId}
/-! ### What is protected grows; a block nobody owns is written -/
theorem Rel.protect (r : Rel B w0 E h w) (C' : Nat → Nat → Option Value) (hC : ∀ g o v, E.C g o = some v → C' g o = some v) (hp : ∀ g o v, C' g o = some v → w.cell? ⟨g, o, none⟩ = some v)
  (hold : ∀ b e, h[b]? = some e → e ≠ .dead → ∀ g c, E.ρ b = some (g, c) → ∀ o, C' g o = E.C g o) : E.le ⟨C', E.ρ⟩ ∧ Rel B w0 ⟨C', E.ρ⟩ h w := by
 have hle : E.le ⟨C', E.ρ⟩ := ⟨hC, fun _ _ h => h⟩
 refine ⟨hle, r.below, r.bsz, r.dom, hp, fun b e he hd => ?_, r.uniq, r.gl.mono hle, r.z⟩
 obtain ⟨g, c, h1, h2⟩ := r.live b e he hd
 exact ⟨g, c, h1, h2.mono hle (hold b e he hd g c h1)⟩
theorem Rel.scribble {w' : World} (r : Rel B w0 E h w) (g : Nat) (hB : B ≤ g) (hw : w.grownBy w' (some g)) (hno : ∀ b e, h[b]? = some e → e ≠ .dead → ∀ g' c', E.ρ b = some (g', c') → g' ≠ g)
  (hp : ∀ o v, E.C g o = some v → w'.cell? ⟨g, o, none⟩ = some v) : Rel B w0 E h w' where
 below := r.below.grown hw r.bsz (fun k hk => by injection hk with hk; subst hk; exact hB)
 bsz := Nat.le_trans r.bsz hw.size
 dom := r.dom
 prot := fun g' o v hv => by
  by_cases e : g' = g
  ·subst e; exact hp o v hv
  ·exact hw.cell (r.prot g' o v hv) (by simpa using e)
 live := fun b e he hd => by
  obtain ⟨g1, c1, h1, h2⟩ := r.live b e he hd
  exact ⟨g1, c1, h1, h2.world (hw.block g1 (h2.lt hd).1 (by simpa using hno b e he hd g1 c1 h1))⟩
 uniq := r.uniq
 gl := r.gl
 z := r.z
def RowAt (E : Env) (cur : Nat → Option Value) (sz : Nat) (xs : List AV) : Prop :=
 (∀ x ∈ xs, x.cells.length = sz ∧ ∀ y ∈ x.cells, y.one) ∧ ∀ (i : Nat) (x : AV) (j : Nat) (y : AV), xs[i]? = some x → x.cells[j]? = some y → ∃ u, cur (i * sz + j) = some u ∧ Rd E u y
theorem idx_lt {i j n sz : Nat} (hi : i < n) (hj : j < sz) : i * sz + j < n * sz := by
 have : (i + 1) * sz ≤ n * sz := Nat.mul_le_mul_right _ hi
 rw [Nat.add_mul] at this
 omega
theorem RowAt.at {cur : Nat → Option Value} {sz : Nat} {xs : List AV} (k : RowAt E cur sz xs) {i j : Nat} (hi : i < xs.length) (hj : j < sz) : ∃ u y, xs[i].cells[j]? = some y ∧ cur (i * sz + j) = some u ∧ Rd E u y := by
 have hm := k.1 xs[i] (List.getElem_mem hi)
 obtain ⟨u, h1, h2⟩ := k.2 i xs[i] j (xs[i].cells[j]'(by omega)) (List.getElem?_eq_getElem hi) (List.getElem?_eq_getElem _)
 exact ⟨u, _, List.getElem?_eq_getElem _, h1, h2⟩
theorem rd_list {C' : Nat → Nat → Option Value} {ρ : Nat → Option (Nat × Nat)} {G c sz : Nat} {xs : List AV} {cur : Nat → Option Value} {rt : Rt} (hE : E.le ⟨C', ρ⟩) (hn : xs.length ≤ c) (k : RowAt E cur sz xs) (hC : ∀ o u, o < xs.length * sz → cur o = some u → C' G o = some u)
  (hr : RtOk ⟨C', ρ⟩ rt (some ⟨G, 0, none⟩) xs.length c) : Rd ⟨C', ρ⟩ (.slice (some ⟨G, 0, none⟩) xs.length c) (.list sz xs rt) := by
 refine .list _ _ c sz xs rt G 0 (fun i j => (cur (i * sz + j)).getD undef) rfl hn (fun _ => rfl) k.1 (fun i j hi hj => ?_) (fun i x j y hx hy => ?_) hr
 ·obtain ⟨u, y, _, h1, _⟩ := k.at hi hj
  rw [Nat.zero_add, h1]
  exact hC _ u (idx_lt hi hj) h1
 ·obtain ⟨u, h1, h2⟩ := k.2 i x j y hx hy
  rw [h1]
  exact h2.mono hE
theorem rd_listB {C' : Nat → Nat → Option Value} {ρ : Nat → Option (Nat × Nat)} {G b c sz : Nat} {xs : List AV} {cur : Nat → Option Value} {rt : Rt} (hE : E.le ⟨C', ρ⟩) (hn : xs.length ≤ c) (k : RowAt E cur sz xs) (hC : ∀ o u, o < xs.length * sz → cur o = some u → C' G (b + o) = some u)
  (hr : RtOk ⟨C', ρ⟩ rt (some ⟨G, b, none⟩) xs.length c) : Rd ⟨C', ρ⟩ (.slice (some ⟨G, b, none⟩) xs.length c) (.list sz xs rt) := by
 refine .list _ _ c sz xs rt G b (fun i j => (cur (i * sz + j)).getD undef) rfl hn (fun _ => rfl) k.1 (fun i j hi hj => ?_) (fun i x j y hx hy => ?_) hr
 ·obtain ⟨u, y, _, h1, _⟩ := k.at hi hj
  rw [h1]
  exact hC _ u (idx_lt hi hj) h1
 ·obtain ⟨u, h1, h2⟩ := k.2 i x j y hx hy
  rw [h1]
  exact h2.mono hE
theorem enter_tok (r : Rel B w0 E h w) (hk : h[key]? = some .dead) (hfree : E.ρ key = none) {w1 : World} (hb : Below w.heap.size w w1) {cur : Array Value} {t : TypeId} {fr : Nat × Nat} (hg : w1.heap[w.heap.size]? = some (.cells cur t fr)) (hf : Unf fr cur.size) {c sz : Nat} (hsz : cur.size = c * sz)
  {xs : List AV} (hn : xs.length ≤ c) (hr : RowAt E (fun o => cur[o]?) sz xs) (e : TypeId) :
  ∃ E', E.le E' ∧ (∀ b, b ≠ key → E'.ρ b = E.ρ b) ∧ Rel B w0 E' (h.set key (.tok sz xs.length e)) w1 ∧ Rd E' (.slice (some ⟨w.heap.size, 0, none⟩) xs.length c) (.list sz xs (.tok key)) := by
 have r1 : Rel B w0 E h w1 := r.world hb
 have hlt : w.heap.size < w1.heap.size := (Array.getElem?_eq_some_iff.1 hg).1
 have hnC : ∀ o, E.C w.heap.size o = none := by
  intro o
  cases hC : E.C w.heap.size o with
  | none => rfl
  | some v => exact absurd (World.block_lt_of_cell? w _ (r.prot _ _ _ hC)) (Nat.lt_irrefl _)
 let C' : Nat → Nat → Option Value := fun g o => if g = w.heap.size ∧ o < xs.length * sz then cur[o]? else E.C g o
 have hC1 : ∀ g o v, E.C g o = some v → C' g o = some v := by
  intro g o v hv
  show (if _ then _ else _) = _
  rw [if_neg]
  ·exact hv
  ·rintro ⟨rfl, _⟩; rw [hnC] at hv; cases hv
 have hold : ∀ b e', h[b]? = some e' → e' ≠ .dead → ∀ g' c', E.ρ b = some (g', c') → g' ≠ w.heap.size ∧ ∀ o, C' g' o = E.C g' o := by
  intro b e' he hd g' c' hρ
  obtain ⟨g1, c1, k1, k2⟩ := r.live b e' he hd
  rw [hρ] at k1; injection k1 with k1; injection k1 with k1 _; subst k1
  have hne : g' ≠ w.heap.size := Nat.ne_of_lt (k2.lt hd).1
  exact ⟨hne, fun o => if_neg (fun hh => hne hh.1)⟩
 obtain ⟨hle, h2⟩ := r1.enter key hk hfree w.heap.size (capE 0 c) (.tok sz xs.length e) C' hC1
  (fun g o v hv => by
   show w1.cell? _ = _
   have hv' : (if g = w.heap.size ∧ o < xs.length * sz then cur[o]? else E.C g o) = some v := hv
   split at hv'
   ·rename_i hh
    obtain ⟨rfl, _⟩ := hh
    rw [cell_of_block hg]; exact hv'
   ·exact r1.prot g o v hv')
  hold
  (by
   refine ⟨r.bsz, 0, c, rfl, ⟨cur, t, fr, hg, by omega, hn, hf⟩, fun o ho _ => ?_⟩
   show (if _ then _ else _) = _
   rw [if_neg (by omega)]
   exact hnC o)
 refine ⟨_, hle, fun b hb => by dsimp only; rw [if_neg hb], h2, rd_list hle hn hr (fun o u ho hu => ?_) ⟨w.heap.size, 0, rfl, by simp⟩⟩
 show (if _ then _ else _) = _
 rw [if_pos ⟨rfl, ho⟩]
 exact hu
theorem enter_full (r : Rel B w0 E h w) {w1 : World} (hb : Below w.heap.size w w1) {cur : Array Value} {t : TypeId} {fr : Nat × Nat} (hg : w1.heap[w.heap.size]? = some (.cells cur t fr)) {sz : Nat}
  {xs : List AV} (hr : RowAt E (fun o => cur[o]?) sz xs) :
  ∃ E', E.le E' ∧ (∀ b, E'.ρ b = E.ρ b) ∧ Rel B w0 E' h w1 ∧ Rd E' (.slice (some ⟨w.heap.size, 0, none⟩) xs.length xs.length) (.list sz xs .full) := by
 have r1 : Rel B w0 E h w1 := r.world hb
 have hnC : ∀ o, E.C w.heap.size o = none := by
  intro o
  cases hC : E.C w.heap.size o with
  | none => rfl
  | some v => exact absurd (World.block_lt_of_cell? w _ (r.prot _ _ _ hC)) (Nat.lt_irrefl _)
 let C' : Nat → Nat → Option Value := fun g o => if g = w.heap.size ∧ o < xs.length * sz then cur[o]? else E.C g o
 obtain ⟨hle, h2⟩ := r1.protect C'
  (fun g o v hv => by
   show (if _ then _ else _) = _
   rw [if_neg]
   ·exact hv
   ·rintro ⟨rfl, _⟩; rw [hnC] at hv; cases hv)
  (fun g o v hv => by
   have hv' : (if g = w.heap.size ∧ o < xs.length * sz then cur[o]? else E.C g o) = some v := hv
   split at hv'
   ·rename_i hh
    obtain ⟨rfl, _⟩ := hh
    rw [cell_of_block hg]; exact hv'
   ·exact r1.prot g o v hv')
  (fun b e' he hd g' c' hρ o => by
   obtain ⟨g1, c1, k1, k2⟩ := r.live b e' he hd
   rw [hρ] at k1; injection k1 with k1; injection k1 with k1 _; subst k1
   exact if_neg (fun hh => absurd hh.1 (Nat.ne_of_lt (k2.lt hd).1)))
 refine ⟨_, hle, fun _ => rfl, h2, rd_list hle (Nat.le_refl _) hr (fun o u ho hu => ?_) rfl⟩
 show (if _ then _ else _) = _
 rw [if_pos ⟨rfl, ho⟩]
 exact hu
theorem enter_grow (r : Rel B w0 E h w) (hk : h[key]? = some .dead) (hfree : E.ρ key = none) {w1 : World} (hb : Below w.heap.size w w1) {cur : Array Value} {t : TypeId} {fr : Nat × Nat} (hg : w1.heap[w.heap.size]? = some (.cells cur t fr)) (hf : Unf fr cur.size) {c sz n : Nat} (hsz : cur.size = c * sz)
  {cs : List AV} (hl : cs.length ≤ cur.size) (hn : n ≤ c) (hr : RdCells E cur cs) :
  ∃ E', E.le E' ∧ (∀ b, b ≠ key → E'.ρ b = E.ρ b) ∧ Rel B w0 E' (h.set key (.grow sz cs)) w1 ∧ Rd E' (.slice (some ⟨w.heap.size, 0, none⟩) n c) (.gl sz key n) := by
 have r1 : Rel B w0 E h w1 := r.world hb
 have hnC : ∀ o, E.C w.heap.size o = none := by
  intro o
  cases hC : E.C w.heap.size o with
  | none => rfl
  | some v => exact absurd (World.block_lt_of_cell? w _ (r.prot _ _ _ hC)) (Nat.lt_irrefl _)
 have hle : E.le ⟨E.C, fun b => if b = key then some (w.heap.size, c) else E.ρ b⟩ := ⟨fun _ _ _ h => h, fun b x hx => by
  dsimp only; split
  ·rename_i e; subst e; rw [hfree] at hx; cases hx
  ·exact hx⟩
 obtain ⟨_, h2⟩ := r1.enter key hk hfree w.heap.size c (.grow sz cs) E.C (fun _ _ _ h => h) r1.prot
  (fun b e' he hd g' c' hρ => by
   obtain ⟨g1, c1, k1, k2⟩ := r.live b e' he hd
   rw [hρ] at k1; injection k1 with k1; injection k1 with k1 _; subst k1
   exact ⟨Nat.ne_of_lt (k2.lt hd).1, fun _ => rfl⟩)
  ⟨r.bsz, ⟨cur, t, fr, hg, hl, hsz, ⟨hr.1, fun o u x hu hx => (hr.2 o u x hu hx).mono hle⟩, hf⟩, hnC⟩
 exact ⟨_, hle, fun b hb => by dsimp only; rw [if_neg hb], h2, .gl _ _ _ w.heap.size c (by simp) hn⟩
/-! ### Bytes and texts -/
theorem asBytes_nums : ∀ {ys : List AV} {l : List UInt8}, asBytes ys = some l → ∃ ns : List Int, ys = ns.map (AV.int .u8) ∧ l = ns.map fun n => UInt8.ofNat n.toNat
 | [], l, hb => by simp only [asBytes, Option.some.injEq] at hb; subst hb; exact ⟨[], rfl, rfl⟩
 | y :: ys, l, hb => by
  unfold asBytes at hb
  split at hb
  ·rename_i hh; cases hh
  ·rename_i n r' hh
   injection hh with h1 h2
   subst h1; subst h2
   simp only [Option.map_eq_some_iff] at hb
   obtain ⟨l', h1, rfl⟩ := hb
   obtain ⟨ns, rfl, rfl⟩ := asBytes_nums h1
   exact ⟨n :: ns, rfl, rfl⟩
  ·cases hb
theorem nums_str (ns : List Int) : strOfNums ns = ⟨⟨ns.map fun n => UInt8.ofNat n.toNat⟩⟩ := rfl
theorem cvBytesStr_sound {s d e : TypeId} {x : Operand} {y : AX} (ho : o.op = .convert s d x) (hus : P.underlying s = some (.slice e)) (hue : P.underlying e = some (.int .u8)) (hud : P.underlying d = some .string) (hc : cx P s x = some y) (hs : SR E a σ) (r : Rel B w0 E h w) (hex : aop O σ h key (.cvBytesStr y) = some (v, h')) : Out P B w0 E h' key a o w v := by
 have hx := cx_sound hc hs
 have hout : ∀ (g off n cap : Nat) (ns : List Int), a.eval x = .slice (some ⟨g, off, none⟩) n cap → ns.length = n → (∀ i m, ns[i]? = some m → ∃ u, w.cell? ⟨g, off + i, none⟩ = some u ∧ Rd E u (.int .u8 m)) → Out P B w0 E h key a o w (.str (ns.map fun n => UInt8.ofNat n.toNat)) := by
  intro g off n cap ns hv hl hcell
  refine Out.quiet r _ ?_ (.str _)
  unfold execOp; rw [ho]; dsimp only; rw [hv]
  refine run_v ?_
  have := run_convert_bytes_arg (P := P) w s e hus hue g off n cap ns hl (fun i hi => by
   obtain ⟨u, h1, h2⟩ := hcell i (ns[i]'(by omega)) (List.getElem?_eq_getElem _)
   rw [h1, h2.inv_int]
   simp [List.getD, List.getElem?_eq_getElem (show i < ns.length by omega)]) d hud
  rw [this, nums_str]
 simp only [aop] at hex
 generalize hv : a.eval x = av at hx
 split at hex
 ·rename_i sz xs rt he
  rw [he] at hx
  split at hex
  ·rename_i hsz
   simp only [Option.map_eq_some_iff, Prod.mk.injEq] at hex
   obtain ⟨l, hl, rfl, rfl⟩ := hex
   obtain ⟨ns, rfl, rfl⟩ := asBytes_nums hl
   cases hx with
   | list A n c _ _ _ g b vs k1 k2 k3 k4 k5 k6 k7 =>
    rcases Nat.eq_zero_or_pos n with hn | hn
    ·have hnil : ns = [] := by
      cases ns with
      | nil => rfl
      | cons _ _ => simp at k1; omega
     subst hnil
     cases A with
     | none =>
      refine Out.quiet r (.string ⟨⟨[]⟩⟩) ?_ (.str _)
      unfold execOp; rw [ho]; dsimp only; rw [hv]
      exact run_v (run_convert_bytes_nil w s e hus hue _ _ d hud)
     | some ad =>
      have := run_convert_bytes_string w s d e (some ad) n c hus hue hud
      refine Out.quiet r (.string ⟨⟨[]⟩⟩) ?_ (.str _)
      unfold execOp; rw [ho]; dsimp only; rw [hv]
      refine run_v ?_
      rw [this]
      subst hn
      have hl0 : (loadCells ad 0).run P w = .ok (([] : List Int).map (Value.int .u8)).toArray w := by simp [loadCells, loadCellsFrom]
      rw [run_bytesToString w ad 0 c [] hl0]
      rfl
    ·have hA := k3 hn
     subst hA
     have hs1 : sz = 1 := by
      rcases hsz with rfl | hh
      ·rfl
      ·rw [hh] at k1; simp at k1; omega
     subst hs1
     refine hout g b n c ns hv (by simpa using k1) (fun i m hm => ?_)
     have hi : i < n := by have := (List.getElem?_eq_some_iff.1 hm).1; simp at k1; omega
     have e1 : (ns.map (AV.int .u8))[i]? = some (.int .u8 m) := by simp [hm]
     have e2 := k5 i 0 hi (by omega)
     have e3 := k6 i _ 0 (.int .u8 m) e1 (by simp [AV.cells])
     exact ⟨_, r.prot _ _ _ (by simpa using e2), e3⟩
  ·cases hex
 ·rename_i sz b off len cap he
  rw [he] at hx
  split at hex
  ·rename_i cs hb
   split at hex
   ·rename_i hcond
    obtain ⟨rfl, hle⟩ := hcond
    simp only [Option.map_eq_some_iff, Prod.mk.injEq] at hex
    obtain ⟨l, hl, rfl, rfl⟩ := hex
    obtain ⟨ns, hns, rfl⟩ := asBytes_nums hl
    cases hx with
    | sl _ _ _ _ _ g c hρ hlc =>
     obtain ⟨g', c', h1, h2⟩ := r.live b _ hb (by simp)
     rw [hρ] at h1
     injection h1 with h1; injection h1 with h1 h1'; subst h1; subst h1'
     have hlen : ns.length = len := by
      have := congrArg List.length hns
      simp at this
      omega
     refine hout g off len cap ns hv hlen (fun i m hm => ?_)
     have hi : i < ns.length := (List.getElem?_eq_some_iff.1 hm).1
     have e1 : ((cs.drop off).take len)[i]? = some (.int .u8 m) := by rw [hns]; simp [hm]
     rw [List.getElem?_take_of_lt (by omega), List.getElem?_drop] at e1
     exact h2.at _ _ e1
   ·cases hex
  ·cases hex
 ·rename_i sz b n he
  rw [he] at hx
  split at hex
  ·rename_i sz' cs hb
   split at hex
   ·rename_i hcond
    obtain ⟨rfl, hle⟩ := hcond
    simp only [Option.map_eq_some_iff, Prod.mk.injEq] at hex
    obtain ⟨l, hl, rfl, rfl⟩ := hex
    obtain ⟨ns, hns, rfl⟩ := asBytes_nums hl
    cases hx with
    | gl _ _ _ g c hρ hlc =>
     obtain ⟨g', c', h1, h2⟩ := r.live b _ hb (by simp)
     rw [hρ] at h1
     injection h1 with h1; injection h1 with h1 h1'; subst h1; subst h1'
     obtain ⟨_, ⟨cur, t, fr, h2, h3, h3', h4, _⟩, _⟩ := h2
     have hlen : ns.length = n := by
      have := congrArg List.length hns
      simp at this
      omega
     refine hout g 0 n c ns hv hlen (fun i m hm => ?_)
     have hi : i < ns.length := (List.getElem?_eq_some_iff.1 hm).1
     have e1 : (cs.take n)[i]? = some (.int .u8 m) := by rw [hns]; simp [hm]
     rw [List.getElem?_take_of_lt (by omega)] at e1
     have hlt : i < cur.size := by omega
     exact ⟨cur[i], by rw [Nat.zero_add, cell_of_block h2]; exact Array.getElem?_eq_getElem hlt, h4.2 i _ _ (Array.getElem?_eq_getElem hlt) e1⟩
   ·cases hex
  ·cases hex
 ·cases hex
theorem grownCap_ge (w : World) (n m : Nat) (e : TypeId) : n ≤ grownCap w n m e := by
 unfold grownCap
 simp only [Question.cut]
 omega
theorem bytes_row (l : List UInt8) (w : World) (e : TypeId) : (Lib.bytesCells w e ⟨⟨l⟩⟩).size = grownCap w l.length 0 e * 1 ∧ RowAt E (fun o => (Lib.bytesCells w e ⟨⟨l⟩⟩)[o]?) 1 (ofBytes l) := by
 have hsz : (⟨⟨l⟩⟩ : ByteArray).size = l.length := rfl
 have hge := grownCap_ge w l.length 0 e
 refine ⟨by simp [Lib.bytesCells, hsz]; omega, ?_, ?_⟩
 ·intro x hx
  simp only [ofBytes, List.mem_map] at hx
  obtain ⟨b, _, rfl⟩ := hx
  simp [AV.cells, AV.one]
 ·intro i x j y hx hy
  simp only [ofBytes, List.getElem?_map, Option.map_eq_some_iff] at hx
  obtain ⟨b, hb, rfl⟩ := hx
  simp only [AV.cells] at hy
  match j with
  | 0 =>
   simp at hy
   subst hy
   refine ⟨.int .u8 b.toNat, ?_, .int _ _⟩
   have hlt := (List.getElem?_eq_some_iff.1 hb).1
   have hbe := (List.getElem?_eq_some_iff.1 hb).2
   simp [Lib.bytesCells, Array.getElem?_append, hlt, hbe]
  | j + 1 => simp at hy
theorem below_bytesWorld (w : World) (e : TypeId) (s : ByteArray) : Below w.heap.size w (Lib.bytesWorld w e s) :=
 ⟨rfl, rfl, rfl, by rw [Lib.bytesWorld_size]; omega, fun k hk => Lib.bytesWorld_at_old w e s k hk⟩
theorem cvStrBytes_sound {s d e : TypeId} {x : Operand} {y : AX} (ho : o.op = .convert s d x) (hus : P.underlying s = some .string) (hue : P.underlying e = some (.int .u8)) (hud : P.underlying d = some (.slice e)) (hc : cx P s x = some y) (hs : SR E a σ) (r : Rel B w0 E h w) (hk : h[key]? = some .dead) (hfree : E.ρ key = none) (hex : aop O σ h key (.cvStrBytes e y) = some (v, h')) : Out P B w0 E h' key a o w v := by
 have hx := cx_sound hc hs
 simp only [aop] at hex
 split at hex
 ·rename_i l he
  simp only [Option.some.injEq, Prod.mk.injEq] at hex
  obtain ⟨rfl, rfl⟩ := hex
  rw [he] at hx
  have hrun := Lib.run_convert_string_bytes (P := P) w s d e ⟨⟨l⟩⟩ hus hud hue
  obtain ⟨k1, k2⟩ := bytes_row (E := E) l w e
  have hlen : (ofBytes l).length = l.length := by simp [ofBytes]
  obtain ⟨E', h1, h2, h3, h4⟩ := enter_tok r hk hfree (below_bytesWorld w e ⟨⟨l⟩⟩) (Lib.bytesWorld_at_new w e ⟨⟨l⟩⟩) (.inr (Nat.le_refl _)) k1 (by rw [hlen]; exact grownCap_ge w l.length 0 e) k2 e
  rw [hlen] at h3 h4
  refine ⟨_, _, E', .inl ?_, h1, h2, h3, h4⟩
  unfold execOp; rw [ho]; dsimp only; rw [hx.inv_str]
  exact run_v hrun
 ·cases hex
theorem cvStrBytesM_sound {s d e : TypeId} {x : Operand} {y : AX} (ho : o.op = .convert s d x) (hus : P.underlying s = some .string) (hue : P.underlying e = some (.int .u8)) (hud : P.underlying d = some (.slice e)) (hc : cx P s x = some y) (hs : SR E a σ) (r : Rel B w0 E h w) (hk : h[key]? = some .dead) (hfree : E.ρ key = none) (hex : aop O σ h key (.cvStrBytesM y) = some (v, h')) : Out P B w0 E h' key a o w v := by
 have hx := cx_sound hc hs
 simp only [aop] at hex
 split at hex
 ·rename_i l he
  simp only [Option.some.injEq, Prod.mk.injEq] at hex
  obtain ⟨rfl, rfl⟩ := hex
  rw [he] at hx
  have hrun := Lib.run_convert_string_bytes (P := P) w s d e ⟨⟨l⟩⟩ hus hud hue
  obtain ⟨k1, k2⟩ := bytes_row (E := E) l w e
  have hlen : (ofBytes l).length = l.length := by simp [ofBytes]
  have hge := grownCap_ge w l.length 0 e
  obtain ⟨E', h1, h2, h3, h4⟩ := enter_grow (n := l.length) r hk hfree (below_bytesWorld w e ⟨⟨l⟩⟩) (Lib.bytesWorld_at_new w e ⟨⟨l⟩⟩) (.inr (Nat.le_refl _)) k1 (cs := ofBytes l) (by rw [hlen]; omega) hge
   ⟨fun y hy => by simp only [ofBytes, List.mem_map] at hy; obtain ⟨b, _, rfl⟩ := hy; trivial, fun o u x hu hx => by
    obtain ⟨u', e1, e2⟩ := k2.2 o x 0 x hx (by simp only [ofBytes, List.getElem?_map, Option.map_eq_some_iff] at hx; obtain ⟨b, _, rfl⟩ := hx; rfl)
    simp only [Nat.mul_one, Nat.add_zero] at e1
    rw [hu] at e1
    injection e1 with e1
    subst e1
    exact e2⟩
  refine ⟨_, _, E', .inl ?_, h1, h2, h3, h4⟩
  unfold execOp; rw [ho]; dsimp only; rw [hx.inv_str]
  exact run_v hrun
 ·cases hex
end
end Go.Am
/-
 Structs and slices that are built; makes; appends.
-/
namespace Go.Am
open Go Go.RowKit
section
variable {P : Program} {B : Nat} {w0 : World} {E : Env} {h h' : Heap} {a : Act} {w : World} {σ : Slots} {o : Oper} {key : Nat} {O : CallO} {v : AV} {ty : TypeId}
/-! ### build -/
theorem fillA_sound (place : Nat → Option (Nat × Nat)) : ∀ (ps : List (Nat × Value)) (qs : List (Nat × Nat × AV)), ps.length = qs.length →
  (∀ (i : Nat) (p : Nat × Value) (q : Nat × Nat × AV), ps[i]? = some p → qs[i]? = some q → place p.1 = some (q.1, q.2.1) ∧ 0 < q.2.1 ∧ Rd E p.2 q.2.2) →
  ∀ (cur : Array Value) (cs : List AV), cur.size = cs.length → RdCells E cur cs → ∀ cs', fillA cs qs = some cs' → ∃ cur', Instr.fill place cur ps = some cur' ∧ cur'.size = cs'.length ∧ RdCells E cur' cs'
 | [], [], _, _, cur, cs, hl, hr, cs', hf => by
  simp only [fillA, Option.some.injEq] at hf
  subst hf
  exact ⟨cur, rfl, hl, hr⟩
 | p :: ps, q :: qs, hlen, hp, cur, cs, hl, hr, cs', hf => by
  obtain ⟨h1, hpos, h2⟩ := hp 0 p q rfl rfl
  obtain ⟨off, size, x⟩ := q
  simp only [fillA] at hf
  split at hf
  ·rename_i hc
   obtain ⟨c1, c2⟩ := hc
   obtain ⟨k1, k2⟩ := h2.cells (by intro e; simp only at e; rw [e] at c1; simp at c1; simp only at hpos; omega)
   simp only at h1 h2 k1 k2 c1 c2 hpos
   obtain ⟨g1, g2⟩ := Great.foldl_set off p.2.cells.toList 0 cur
   have hsz2 : p.2.cells.toList.length = size := by simp; omega
   have hr' : RdCells E ((p.2.cells.toList.zipIdx 0).foldl (fun cs (x : Value × Nat) => cs.setIfInBounds (off + x.2) x.1) cur) (cs.take off ++ x.cells ++ cs.drop (off + size)) := by
    refine ⟨fun y hy => ?_, fun j u y hu hy => ?_⟩
    ·simp only [List.mem_append] at hy
     rcases hy with (hy | hy) | hy
     ·exact hr.1 y (List.mem_of_mem_take hy)
     ·exact k2.1 y hy
     ·exact hr.1 y (List.mem_of_mem_drop hy)
    ·rw [g2 j] at hu
     simp only [Nat.add_zero, hsz2] at hu
     simp only [List.append_assoc, List.getElem?_append, List.length_take, List.getElem?_drop, List.getElem?_take] at hy
     have e1 : min off cs.length = off := by omega
     simp only [e1] at hy
     split at hu
     ·rename_i hj
      rw [if_neg (by omega), if_pos (by omega)] at hy
      exact k2.2 _ u y (by simpa using hu) hy
     ·rename_i hj
      by_cases hlt : j < off
      ·simp only [hlt, if_true] at hy
       exact hr.2 j u y hu hy
      ·have hge : off + size ≤ j := by
        rcases Nat.lt_or_ge j cur.size with h' | h'
        ·omega
        ·rw [Array.getElem?_eq_none h'] at hu; cases hu
       rw [if_neg hlt, if_neg (by omega)] at hy
       have e2 : off + size + (j - off - x.cells.length) = j := by omega
       rw [e2] at hy
       exact hr.2 j u y hu hy
   obtain ⟨cur', r1, r2, r3⟩ := fillA_sound place ps qs (by simpa using hlen) (fun i p' q' e1 e2 => hp (i + 1) p' q' e1 e2) _ _ (by rw [g1]; simp; omega) hr' cs' hf
   refine ⟨cur', ?_, r2, r3⟩
   unfold Instr.fill
   simp only [h1]
   rw [if_neg (by simp; omega), ← r1]
   congr 1
   rw [← Array.foldl_toList, Array.toList_zipIdx]
  ·cases hf
theorem buildParts_sound {place : Nat → Option (Nat × Nat × TypeId)} (hs : SR E a σ) : ∀ {ps : List (Nat × Operand)} {qs : List (Nat × Nat × AX)}, buildParts P place ps = some qs →
  ps.length = qs.length ∧ ∀ (i : Nat) (p : Nat × Operand) (q : Nat × Nat × AX), ps[i]? = some p → qs[i]? = some q → (∃ t, place p.1 = some (q.1, q.2.1, t)) ∧ 0 < q.2.1 ∧ Rd E (a.eval p.2) (q.2.2.ev σ)
 | [], qs, hb => by simp only [buildParts, Option.some.injEq] at hb; subst hb; exact ⟨rfl, by simp⟩
 | (k, x) :: ps, qs, hb => by
  simp only [buildParts] at hb
  split at hb
  ·rename_i off sz t hp
   split at hb
   ·rename_i y ys h1 h2
    split at hb
    ·rename_i hpos
     injection hb with hb
     subst hb
     obtain ⟨k1, k2⟩ := buildParts_sound hs h2
     refine ⟨by simp [k1], fun i p q e1 e2 => ?_⟩
     match i with
     | 0 => simp at e1 e2; subst e1; subst e2; exact ⟨⟨t, hp⟩, hpos, cx_sound h1 hs⟩
     | i + 1 => simp at e1 e2; exact k2 i p q e1 e2
    ·cases hb
   ·cases hb
  ·cases hb
theorem run_mapM_places : ∀ (fs : List Field), (fs.all fun f => (size? P f.type).isSome) = true →
  (fs.mapM fun f => (do pure (f.offset, ← sizeOf f.type) : Sem (Nat × Nat))).run P w = .ok (fs.map fun f => (f.offset, (size? P f.type).getD 0)) w
 | [], _ => by simp
 | f :: fs, h => by
  simp only [List.all_cons, Bool.and_eq_true] at h
  obtain ⟨n, hn⟩ := Option.isSome_iff_exists.1 h.1
  simp only [List.mapM_cons, Sem.run_bind, run_sizeOf' hn, Result.andThen_ok, Sem.run_pure, run_mapM_places fs h.2, hn, List.map_cons, Option.getD_some]
theorem build_sound {t : TypeId} {parts : Array (Nat × Operand)} {zs : List AV} {qs : List (Nat × Nat × AX)} (ho : o.op = .build t parts) (hz : zeroA P t = some zs)
  (hplace : (∃ fs, P.underlying t = some (.struct fs) ∧ fieldsSized P fs = true ∧ buildParts P (fieldPlaceP P fs) parts.toList = some qs) ∨ (∃ n e s, P.underlying t = some (.array n e) ∧ size? P e = some s ∧ buildParts P (fun i => some (i * s, s, e)) parts.toList = some qs))
  (hs : SR E a σ) (r : Rel B w0 E h w) (hex : aop O σ h key (.build zs qs) = some (v, h')) : Out P B w0 E h' key a o w v := by
 simp only [aop] at hex
 split at hex
 ·rename_i cs hf
  simp only [Option.some.injEq, Prod.mk.injEq] at hex
  obtain ⟨rfl, rfl⟩ := hex
  obtain ⟨i, z, hi, hiz, hl, _, hr⟩ := zeroA_sound (E := E) hz
  have hzv : (zeroValue t).run P w = .ok z w := by simp [zeroValue, typeInfo, hi, hiz]
  have main : ∃ place, (∀ cur', Instr.fill place z.cells ((parts.map fun (i, x) => (i, a.eval x)).toList) = some cur' → (Instr.build t (parts.map fun (i, x) => (i, a.eval x))).run P w = .ok (.agg cur') w) ∧
    ((parts.map fun (i, x) => (i, a.eval x)).toList.length = qs.length ∧ ∀ (i : Nat) (p : Nat × Value) (q : Nat × Nat × AX), (parts.map fun (i, x) => (i, a.eval x)).toList[i]? = some p → qs[i]? = some q → place p.1 = some (q.1, q.2.1) ∧ 0 < q.2.1 ∧ Rd E p.2 (q.2.2.ev σ)) := by
   have conv : ∀ (i : Nat) (p : Nat × Value), (parts.map fun (i, x) => (i, a.eval x)).toList[i]? = some p → ∃ u, parts.toList[i]? = some u ∧ p = (u.1, a.eval u.2) := by
    intro i p hp
    simp only [Array.toList_map, List.getElem?_map, Option.map_eq_some_iff] at hp
    obtain ⟨u, h1, h2⟩ := hp
    exact ⟨u, h1, h2.symm⟩
   rcases hplace with ⟨fs, hu, hfs, hb⟩ | ⟨n, e, s, hu, hsz, hb⟩
   ·obtain ⟨k1, k2⟩ := buildParts_sound hs hb
    refine ⟨fun i => (fs.map fun f => (f.offset, (size? P f.type).getD 0))[i]?, fun cur' hc => ?_, by simpa using k1, fun i p q e1 e2 => ?_⟩
    ·have hm : (fs.mapM fun f => (do pure (f.offset, ← sizeOf f.type) : Sem (Nat × Nat))).run P w = .ok (fs.map fun f => (f.offset, (size? P f.type).getD 0)) w := by
      rw [Array.mapM_eq_mapM_toList, Sem.run_map, run_mapM_places fs.toList hfs]
      simp only [Result.andThen_ok]
      congr 1
      exact Array.ext' (by simp)
     simp only [Instr.build, Sem.run_bind, hzv, Result.andThen_ok, run_underlying hu, hm]
     simp only [hc]
     rfl
    ·obtain ⟨u, h1, rfl⟩ := conv i p e1
     obtain ⟨⟨t', h2⟩, h3, h4⟩ := k2 i u q h1 e2
     refine ⟨?_, h3, h4⟩
     simp only [fieldPlaceP] at h2
     split at h2
     ·rename_i f hf'
      simp only [Option.map_eq_some_iff, Prod.mk.injEq] at h2
      obtain ⟨s', h5, h6, h7, _⟩ := h2
      show (fs.map _)[u.1]? = _
      rw [Array.getElem?_map, hf', Option.map_some, h5, Option.getD_some, h6, h7]
     ·cases h2
   ·obtain ⟨k1, k2⟩ := buildParts_sound hs hb
    refine ⟨fun i => some (i * s, s), fun cur' hc => ?_, by simpa using k1, fun i p q e1 e2 => ?_⟩
    ·simp only [Instr.build, Sem.run_bind, hzv, Result.andThen_ok, run_underlying hu, run_sizeOf' hsz]
     simp only [hc]
     rfl
    ·obtain ⟨u, h1, rfl⟩ := conv i p e1
     obtain ⟨⟨t', h2⟩, h3, h4⟩ := k2 i u q h1 e2
     refine ⟨?_, h3, h4⟩
     simp only [Option.some.injEq, Prod.mk.injEq] at h2
     show some (u.1 * s, s) = some (q.1, q.2.1)
     rw [h2.1, ← h2.2.1]
  obtain ⟨place, m1, m2, m3⟩ := main
  obtain ⟨cur', c1, c2, c3⟩ := fillA_sound place (parts.map fun (i, x) => (i, a.eval x)).toList (qs.map fun p => (p.1, p.2.1, p.2.2.ev σ)) (by simpa using m2) (fun i p q e1 e2 => by
   rw [List.getElem?_map, Option.map_eq_some_iff] at e2
   obtain ⟨q', h1, rfl⟩ := e2
   exact m3 i p q' e1 h1) z.cells zs hl hr cs hf
  refine Out.quiet r (.agg cur') ?_ (.agg _ _ c2 c3.1 c3.2)
  unfold execOp; rw [ho]
  exact run_v (m1 cur' c1)
 ·cases hex
/-! ### Slice literals -/
theorem rowAt_flat {sz : Nat} (hpos : 0 < sz) {us : List Value} {xs : List AV} (hl : us.length = xs.length) (hr : ∀ (i : Nat) (u : Value) (x : AV), us[i]? = some u → xs[i]? = some x → Rd E u x) (hx : ∀ x ∈ xs, x.cells.length = sz) :
  (∀ u ∈ us, u.cells.size = sz) ∧ RowAt E (fun o => (us.flatMap fun v => v.cells.toList).toArray[o]?) sz xs := by
 have hc : ∀ (i : Nat) (u : Value) (x : AV), us[i]? = some u → xs[i]? = some x → u.cells.size = x.cells.length ∧ RdCells E u.cells x.cells := fun i u x h1 h2 =>
  (hr i u x h1 h2).cells (by intro e; have := hx x (List.mem_of_getElem? h2); rw [e] at this; simp at this; omega)
 have hsz : ∀ u ∈ us, u.cells.size = sz := by
  intro u hu
  obtain ⟨i, hi⟩ := List.mem_iff_getElem?.1 hu
  have hlt : i < xs.length := by have := (List.getElem?_eq_some_iff.1 hi).1; omega
  rw [(hc i u xs[i] hi (List.getElem?_eq_getElem hlt)).1]
  exact hx _ (List.getElem_mem hlt)
 refine ⟨hsz, fun x hm => ⟨hx x hm, ?_⟩, fun i x j y h1 h2 => ?_⟩
 ·obtain ⟨i, hi⟩ := List.mem_iff_getElem?.1 hm
  have hlt : i < us.length := by have := (List.getElem?_eq_some_iff.1 hi).1; omega
  exact (hc i us[i] x (List.getElem?_eq_getElem hlt) hi).2.1
 ·have hlt : i < us.length := by have := (List.getElem?_eq_some_iff.1 h1).1; omega
  have hj : j < sz := by
   have := (List.getElem?_eq_some_iff.1 h2).1
   rw [hx x (List.mem_of_getElem? h1)] at this
   exact this
  obtain ⟨k1, k2⟩ := hc i us[i] x (List.getElem?_eq_getElem hlt) h1
  have hju : j < us[i].cells.size := by
   rw [hsz _ (List.getElem_mem hlt)]; exact hj
  refine ⟨us[i].cells[j], ?_, k2.2 j _ y (Array.getElem?_eq_getElem hju) h2⟩
  show (us.flatMap fun v => v.cells.toList).toArray[i * sz + j]? = _
  have e := Great.flat_get hpos us hsz (i * sz + j)
  have d1 : (i * sz + j) / sz = i := by
   rw [Nat.mul_comm, Nat.mul_add_div hpos, Nat.div_eq_of_lt hj, Nat.add_zero]
  have d2 : (i * sz + j) % sz = j := by
   rw [Nat.mul_comm, Nat.mul_add_mod, Nat.mod_eq_of_lt hj]
  rw [d1, d2] at e
  rw [List.getElem?_toArray, e, List.getElem?_eq_getElem hlt]
  exact Array.getElem?_eq_getElem hju
theorem run_bslice {t e : TypeId} {len sz : Nat} {us : List Value} {parts : Array (Nat × Value)} (hu : P.underlying t = some (.slice e)) {z : List AV} (hz : zeroA P e = some z) (hzl : z.length = sz) (hpos : 0 < sz) (hsmall : len * sz ≤ 16777216)
  (hparts : parts.toList = (us.zipIdx 0).map fun x => (x.2, x.1)) (hlen : us.length = len) (hsz : ∀ u ∈ us, u.cells.size = sz) :
  (Instr.buildSlice t len parts).run P w = .ok (.slice (some ⟨w.heap.size, 0, none⟩) len len) (w.alloc (.cells (us.flatMap fun v => v.cells.toList).toArray e)) := by
 obtain ⟨i, zv, hi, hiz, hl, hsi, _⟩ := zeroA_sound (E := ⟨fun _ _ => none, fun _ => none⟩) hz
 have hisz : i.size = sz := by omega
 by_cases h0 : len = 0
 ·have hus : us = [] := List.eq_nil_of_length_eq_zero (by omega)
  subst h0
  subst hus
  have hp : parts = #[] := by apply Array.ext'; simpa using hparts
  subst hp
  simp [Instr.buildSlice, run_underlying hu, sizeOf, typeInfo, zeroValue, hi, hiz, Instr.fill, newRow]
  have : Array.range 0 = #[] := by apply Array.ext'; simp
  simp [this]
 ·refine run_buildSlice w t e len parts _ i zv hu hi hiz (by rw [hisz]; omega) (by rw [hisz]; intro hh; rcases Nat.mul_eq_zero.1 hh with hh | hh <;> omega) ?_
  rw [hparts, hisz]
  exact Great.fill_whole hpos us _ hsz (by simp [hlen])
theorem parts_us {parts : Array (Nat × Operand)} {len : Nat} (hidx : parts.toList.map (·.1) = List.range len) (f : Operand → Value) : (parts.map fun (i, x) => (i, f x)).toList = (((parts.toList.map (·.2)).map f).zipIdx 0).map fun x => (x.2, x.1) := by
 apply List.ext_getElem?
 intro i
 simp only [Array.toList_map, List.getElem?_map, List.getElem?_zipIdx, Nat.zero_add]
 cases hp : parts.toList[i]? with
 | none => simp
 | some p =>
  have h1 : (parts.toList.map (·.1))[i]? = some p.1 := by simp [hp]
  rw [hidx, List.getElem?_range] at h1
  ·injection h1 with h1
   simp [h1]
  ·have := (List.getElem?_eq_some_iff.1 hp).1
   have hl := congrArg List.length hidx
   simp at hl
   simp at this
   omega
theorem bslice_sound {t e : TypeId} {len sz : Nat} {parts : Array (Nat × Operand)} {z : List AV} {xs : List AX} (ho : o.op = .buildSlice t len parts) (hu : P.underlying t = some (.slice e)) (hz : zeroA P e = some z) (hzl : z.length = sz) (hpos : 0 < sz) (hsmall : len * sz ≤ 16777216)
  (hidx : parts.toList.map (·.1) = List.range len) (hc : cxs P e (parts.toList.map (·.2)) = some xs) (hs : SR E a σ) (r : Rel B w0 E h w) (hex : aop O σ h key (.bslice sz xs) = some (v, h')) : Out P B w0 E h' key a o w v := by
 simp only [aop] at hex
 split at hex
 ·rename_i hcl
  simp only [Option.some.injEq, Prod.mk.injEq] at hex
  obtain ⟨rfl, rfl⟩ := hex
  obtain ⟨k1, k2⟩ := cxs_sound hc hs
  have hlen : (parts.toList.map (·.2)).length = len := by have := congrArg List.length hidx; simpa using this
  obtain ⟨g1, g2⟩ := rowAt_flat (E := E) hpos (us := (parts.toList.map (·.2)).map a.eval) (xs := xs.map (·.ev σ)) (by simpa using k1) (fun i u x e1 e2 => by
   rw [List.getElem?_map, Option.map_eq_some_iff] at e1 e2
   obtain ⟨p, p1, rfl⟩ := e1
   obtain ⟨q, q1, rfl⟩ := e2
   exact k2 i p q p1 q1) (fun x hx => by
   rw [List.mem_map] at hx
   obtain ⟨q, q1, rfl⟩ := hx
   exact hcl q q1)
  have hrun := run_bslice (P := P) (w := w) hu hz hzl hpos hsmall (parts_us hidx a.eval) (by simpa using hlen) g1
  obtain ⟨E', h1, h2, h3, h4⟩ := enter_full r ((Below.refl _ _).alloc (Nat.le_refl _) _) (heap_alloc_new w _) g2 (t := e) (fr := (0, 0))
  have hxl : (xs.map (·.ev σ)).length = len := by rw [List.length_map, ← k1, hlen]
  rw [hxl] at h4
  exact ⟨_, _, E', .inl (by unfold execOp; rw [ho]; exact run_v hrun), h1, fun b _ => h2 b, h3, h4⟩
 ·cases hex
theorem constBytes_spec : ∀ {xs : List AX} {l : List UInt8}, constBytes xs = some l → xs = l.map fun b => AX.c (.int .u8 b.toNat)
 | [], l, h => by simp [constBytes] at h; simp [h]
 | x :: xs, l, h => by
  unfold constBytes at h
  split at h
  ·rename_i hx; cases hx
  ·rename_i n r hx
   split at h
   ·rename_i l' hl
    split at h
    ·rename_i hn
     injection hx with h1 h2
     injection h with h
     subst h; subst h1; subst h2
     rw [constBytes_spec hl, List.map_cons, hn]
    ·cases h
   ·cases h
  ·cases h
theorem bsliceT_sound {t e : TypeId} {len : Nat} {parts : Array (Nat × Operand)} {z : List AV} {xs : List AX} {l : List UInt8} (ho : o.op = .buildSlice t len parts) (hu : P.underlying t = some (.slice e)) (hz : zeroA P e = some z) (hzl : z.length = 1) (hsmall : len * 1 ≤ 16777216)
  (hidx : parts.toList.map (·.1) = List.range len) (hc : cxs P e (parts.toList.map (·.2)) = some xs) (hl : constBytes xs = some l) (hs : SR E a σ) (r : Rel B w0 E h w) (hk : h[key]? = some .dead) (hfree : E.ρ key = none) (hex : aop O σ h key (.cvStrBytes e (.c (.str l))) = some (v, h')) : Out P B w0 E h' key a o w v := by
 simp only [aop, AX.ev] at hex
 simp only [Option.some.injEq, Prod.mk.injEq] at hex
 obtain ⟨rfl, rfl⟩ := hex
 obtain ⟨k1, k2⟩ := cxs_sound hc hs
 have hlen : (parts.toList.map (·.2)).length = len := by have := congrArg List.length hidx; simpa using this
 have hxs : xs.map (·.ev σ) = ofBytes l := by
  rw [constBytes_spec hl, List.map_map]
  rfl
 obtain ⟨g1, g2⟩ := rowAt_flat (E := E) (sz := 1) Nat.one_pos (us := (parts.toList.map (·.2)).map a.eval) (xs := xs.map (·.ev σ)) (by simpa using k1) (fun i u x e1 e2 => by
  rw [List.getElem?_map, Option.map_eq_some_iff] at e1 e2
  obtain ⟨p, p1, rfl⟩ := e1
  obtain ⟨q, q1, rfl⟩ := e2
  exact k2 i p q p1 q1) (fun x hx => by
  rw [hxs] at hx
  simp only [ofBytes, List.mem_map] at hx
  obtain ⟨b, _, rfl⟩ := hx
  rfl)
 have hrun := run_bslice (P := P) (w := w) hu hz hzl Nat.one_pos hsmall (parts_us hidx a.eval) (by simpa using hlen) g1
 have hll : l.length = len := by
  have := congrArg List.length hxs
  simp only [List.length_map, ofBytes] at this
  rw [← this, ← k1, hlen]
 have hol : (ofBytes l).length = len := by simp [ofBytes, hll]
 have hfl : ((((parts.toList.map (·.2)).map a.eval).flatMap fun v => v.cells.toList).toArray).size = len * 1 := by
  rw [List.size_toArray, List.length_flatMap]
  have : ∀ (us : List Value), (∀ u ∈ us, u.cells.size = 1) → (us.map fun v => v.cells.toList.length).sum = us.length := by
   intro us
   induction us with
   | nil => intro _; rfl
   | cons u us ih =>
    intro hu
    simp only [List.map_cons, List.sum_cons, List.length_cons, Array.length_toList]
    rw [hu u List.mem_cons_self]
    have := ih fun x hx => hu x (List.mem_cons_of_mem _ hx)
    simp only [Array.length_toList] at this
    rw [this]; omega
  rw [this _ g1]
  simp at hlen ⊢
  exact hlen
 rw [hxs] at g2
 obtain ⟨E', h1, h2, h3, h4⟩ := enter_tok r hk hfree ((Below.refl _ _).alloc (Nat.le_refl _) _) (heap_alloc_new w _) (t := e) (fr := (0, 0)) (.inl rfl) hfl (by rw [hol]; exact Nat.le_refl _) g2 e
 rw [hol] at h3 h4
 rw [hll]
 exact ⟨_, _, E', .inl (by unfold execOp; rw [ho]; exact run_v hrun), h1, h2, h3, h4⟩
theorem flat_cells {us : List Value} {xs : List AV} {sz : Nat} (hpos : 0 < sz) (hl : us.length = xs.length) (hr : ∀ (i : Nat) (u : Value) (x : AV), us[i]? = some u → xs[i]? = some x → Rd E u x) (hx : ∀ x ∈ xs, x.cells.length = sz) :
  (us.flatMap fun v => v.cells.toList).toArray.size = (xs.flatMap AV.cells).length ∧ RdCells E (us.flatMap fun v => v.cells.toList).toArray (xs.flatMap AV.cells) := by
 induction us generalizing xs with
 | nil =>
  cases xs with
  | nil => exact ⟨rfl, by simp, by simp⟩
  | cons _ _ => simp at hl
 | cons u us ih =>
  cases xs with
  | nil => simp at hl
  | cons x xs =>
   obtain ⟨i1, i2, i3⟩ := ih (xs := xs) (by simpa using hl) (fun i u' x' e1 e2 => hr (i + 1) u' x' e1 e2) (fun y hy => hx y (List.mem_cons_of_mem _ hy))
   obtain ⟨k1, k2, k3⟩ := (hr 0 u x rfl rfl).cells (by intro e; have := hx x List.mem_cons_self; rw [e] at this; simp at this; omega)
   simp only [List.flatMap_cons]
   refine ⟨by simp at i1 ⊢; omega, fun y hy => ?_, fun o u' y hu hy => ?_⟩
   ·rcases List.mem_append.1 hy with hy | hy
    ·exact k2 y hy
    ·exact i2 y hy
   ·simp only [List.getElem?_toArray, List.getElem?_append, Array.length_toList, Array.getElem?_toList] at hu
    rw [List.getElem?_append] at hy
    rw [k1] at hu
    split at hu
    ·rename_i hlt
     rw [if_pos hlt] at hy
     exact k3 o u' y hu hy
    ·rename_i hlt
     rw [if_neg hlt] at hy
     exact i3 _ u' y (by simpa using hu) hy
theorem bsliceM_sound {t e : TypeId} {len sz : Nat} {parts : Array (Nat × Operand)} {z : List AV} {xs : List AX} (ho : o.op = .buildSlice t len parts) (hu : P.underlying t = some (.slice e)) (hz : zeroA P e = some z) (hzl : z.length = sz) (hpos : 0 < sz) (hsmall : len * sz ≤ 16777216)
  (hidx : parts.toList.map (·.1) = List.range len) (hc : cxs P e (parts.toList.map (·.2)) = some xs) (hs : SR E a σ) (r : Rel B w0 E h w) (hk : h[key]? = some .dead) (hfree : E.ρ key = none) (hex : aop O σ h key (.bsliceM sz xs) = some (v, h')) : Out P B w0 E h' key a o w v := by
 simp only [aop] at hex
 split at hex
 ·rename_i hcl
  simp only [Option.some.injEq, Prod.mk.injEq] at hex
  obtain ⟨rfl, rfl⟩ := hex
  obtain ⟨k1, k2⟩ := cxs_sound hc hs
  have hlen : (parts.toList.map (·.2)).length = len := by have := congrArg List.length hidx; simpa using this
  have hr0 : ∀ (i : Nat) (u : Value) (x : AV), ((parts.toList.map (·.2)).map a.eval)[i]? = some u → (xs.map (·.ev σ))[i]? = some x → Rd E u x := fun i u x e1 e2 => by
   rw [List.getElem?_map, Option.map_eq_some_iff] at e1 e2
   obtain ⟨p, p1, rfl⟩ := e1
   obtain ⟨q, q1, rfl⟩ := e2
   exact k2 i p q p1 q1
  have hx0 : ∀ x ∈ xs.map (·.ev σ), x.cells.length = sz := fun x hx => by
   rw [List.mem_map] at hx
   obtain ⟨q, q1, rfl⟩ := hx
   exact hcl q q1
  obtain ⟨g1, _⟩ := rowAt_flat (E := E) hpos (us := (parts.toList.map (·.2)).map a.eval) (xs := xs.map (·.ev σ)) (by simpa using k1) hr0 hx0
  obtain ⟨f1, f2⟩ := flat_cells (E := E) hpos (us := (parts.toList.map (·.2)).map a.eval) (xs := xs.map (·.ev σ)) (by simpa using k1) hr0 hx0
  have hrun := run_bslice (P := P) (w := w) hu hz hzl hpos hsmall (parts_us hidx a.eval) (by simpa using hlen) g1
  have hfm : ((xs.map (·.ev σ)).flatMap AV.cells) = xs.flatMap fun p => (p.ev σ).cells := by rw [List.flatMap_map]
  rw [hfm] at f1 f2
  obtain ⟨E', h1, h2, h3, h4⟩ := enter_cells r hk hfree _ e _ f1 f2
  have hxl : xs.length = len := by rw [← k1, hlen]
  rw [hxl]
  exact ⟨_, _, E', .inl (by unfold execOp; rw [ho]; exact run_v hrun), h1, h2, h4, .sl _ _ _ _ _ w.heap.size 0 h3 (Nat.le_refl _)⟩
 ·cases hex
theorem gl0_sound {t e : TypeId} {len sz : Nat} {parts : Array (Nat × Operand)} {z : List AV} {xs : List AX} (ho : o.op = .buildSlice t len parts) (hu : P.underlying t = some (.slice e)) (hz : zeroA P e = some z) (hzl : z.length = sz) (hpos : 0 < sz) (hsmall : len * sz ≤ 16777216)
  (hidx : parts.toList.map (·.1) = List.range len) (hc : cxs P e (parts.toList.map (·.2)) = some xs) (hs : SR E a σ) (r : Rel B w0 E h w) (hk : h[key]? = some .dead) (hfree : E.ρ key = none) (h1 : sz = 1) (h0 : xs.isEmpty = true) (hex : aop O σ h key (.cvStrBytesM (.c (.str []))) = some (v, h')) : Out P B w0 E h' key a o w v := by
 simp only [aop, AX.ev, Option.some.injEq, Prod.mk.injEq] at hex
 obtain ⟨rfl, rfl⟩ := hex
 subst h1
 have hxs : xs = [] := by simpa using h0
 subst hxs
 obtain ⟨k1, _⟩ := cxs_sound hc hs
 have hlen : (parts.toList.map (·.2)).length = len := by have := congrArg List.length hidx; simpa using this
 have hl0 : len = 0 := by rw [← hlen, k1]; rfl
 subst hl0
 have hp : parts.toList = [] := List.eq_nil_of_length_eq_zero (by simpa using hlen)
 have hp0 : parts.toList.map (·.2) = [] := by rw [hp]; rfl
 have hrun := run_bslice (P := P) (w := w) (us := []) (parts := parts.map fun p => (p.1, a.eval p.2)) hu hz hzl hpos hsmall (by simp [hp]) rfl (fun u hu => by cases hu)
 obtain ⟨E', e1, e2, e3, e4⟩ := enter_grow (n := 0) (c := 0) (sz := 1) (cs := []) (cur := #[]) r hk hfree ((Below.refl _ _).alloc (Nat.le_refl _) (.cells #[] e)) (heap_alloc_new _ _) (.inl rfl) rfl (Nat.le_refl _) (Nat.le_refl _) ⟨fun y hy => (by cases hy), fun o u x hu hx => (by simp at hx)⟩
 exact ⟨_, _, E', .inl (by unfold execOp; rw [ho]; exact run_v hrun), e1, e2, e3, e4⟩
end
end Go.Am
