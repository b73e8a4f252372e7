/-
  An abstract machine over pure data: values, heap, small code, and what it computes. Nothing of the model's memory stands in it: a slice that is only read or appended to is a list, a string a list of bytes; what is really shared and written (boxes, captured variables, fresh slices that are stored into) lies in a small heap of abstract blocks.
-/
import Derived.Laws.Append
import Derived.Laws.AppendOwn
import Derived.Below
import Derived.Calls
import Derived.RowKit3
set_option linter.unusedVariables false
set_option linter.unusedSimpArgs false
namespace Go.Am
open Go

/-- The right to append in place: none; the list fills its array (an append makes a new one); a token. -/
inductive Rt where
  | no | full | tok (t : Nat)
  deriving DecidableEq, Inhabited, Repr

inductive AV where
  | junk
  | int (k : IntKind) (n : Int)
  | bool (b : Bool)
  | str (l : List UInt8)
  | nilp | nili | nilf | nilm
  | iface (t : TypeId) (v : AV)
  | agg (cs : List AV)
  | tup (vs : List AV)
  | list (sz : Nat) (xs : List AV) (r : Rt)
  | ptr (b off : Nat)
  | sl (sz b off len cap : Nat)
  | gl (sz b n : Nat)
  | eptr (cs : List AV)
  | fn (f : FuncId) (caps : List AV)
  | map (b : Nat)
  | it (b : Nat)
  deriving Inhabited, Repr

/-- The cells of a variable that holds it. -/
def AV.cells : AV → List AV
  | .agg cs => cs
  | .junk => []
  | .tup _ => []
  | v => [v]
/-- One cell. -/
def AV.one : AV → Prop
  | .agg _ => False
  | .junk => False
  | .tup _ => False
  | _ => True

mutual
/-- No address of the abstract heap in it, and no token. -/
def AV.pure : AV → Prop
  | .agg cs => AV.pures cs
  | .tup cs => AV.pures cs
  | .eptr cs => AV.pures cs
  | .fn _ cs => AV.pures cs
  | .iface _ v => v.pure
  | .list _ xs r => (∀ t, r ≠ .tok t) ∧ AV.pures xs
  | .ptr _ _ => False
  | .sl _ _ _ _ _ => False
  | .gl _ _ _ => False
  | .map _ => False
  | .it _ => False
  | .junk => True
  | .int _ _ => True
  | .bool _ => True
  | .str _ => True
  | .nilp => True
  | .nili => True
  | .nilf => True
  | .nilm => True
def AV.pures : List AV → Prop
  | [] => True
  | x :: xs => x.pure ∧ AV.pures xs
end

mutual
/-- All addresses and tokens in it are below n. -/
def AV.low (n : Nat) : AV → Prop
  | .agg cs => AV.lows n cs
  | .tup cs => AV.lows n cs
  | .eptr cs => AV.lows n cs
  | .fn _ cs => AV.lows n cs
  | .iface _ v => v.low n
  | .list _ xs r => (∀ t, r = .tok t → t < n) ∧ AV.lows n xs
  | .ptr b _ => b < n
  | .sl _ b _ _ _ => b < n
  | .gl _ b _ => b < n
  | .map b => b < n
  | .it b => b < n
  | .junk => True
  | .int _ _ => True
  | .bool _ => True
  | .str _ => True
  | .nilp => True
  | .nili => True
  | .nilf => True
  | .nilm => True
def AV.lows (n : Nat) : List AV → Prop
  | [] => True
  | x :: xs => x.low n ∧ AV.lows n xs
end

/-- What lies at a place of the abstract heap. -/
inductive AE where
  | dead
  | cells (cs : List AV)
  | grow (sz : Nat) (cs : List AV)
  | tok (sz n : Nat) (e : TypeId)
  | amap (es : List (AV × AV))
  | siter (s : List UInt8) (pos : Nat)
  deriving Inhabited, Repr

def AE.low (n : Nat) : AE → Prop
  | .cells cs => AV.lows n cs
  | .grow _ cs => AV.lows n cs
  | .amap es => ∀ e ∈ es, e.1.low n ∧ e.2.low n
  | _ => True

abbrev Heap := List AE

/-- Kinds of cells that '==' tells. -/
inductive LK where
  | bool | int | str | ptr | iface | func
  deriving DecidableEq, Inhabited, Repr

/-! ### Small code -/
inductive AX where
  | t (i : Nat)
  | c (v : AV)
  deriving Inhabited, Repr

inductive AOp where
  | mv (x : AX)
  | nilchk (x : AX)
  | pick (c a b : AX)
  | alloc (zs : List AV)
  | box (n : Nat) (x : AX)
  | build (zs : List AV) (parts : List (Nat × Nat × AX))
  | bslice (sz : Nat) (parts : List AX)
  | bsliceM (sz : Nat) (parts : List AX)
  | load (sz : Option Nat) (x : AX)
  | store (sz : Nat) (a x : AX)
  | bin (op : BinOp) (x y : AX)
  | eq (neg : Bool) (sz : Option Nat) (offs : List (Nat × LK)) (x y : AX)
  | neg (x : AX)
  | not (x : AX)
  | cvInt (k : IntKind) (x : AX)
  | cvStrBytes (e : TypeId) (x : AX)
  | cvStrBytesM (x : AX)
  | cvBytesStr (x : AX)
  | cvIntStr (x : AX)
  | cvStr (x : AX)
  | mkfn (f : FuncId) (caps : List AX)
  | mkslice (z : AV) (sz bytes : Nat) (e : TypeId) (len cap : AX)
  | mksliceM (zs : List AV) (sz bytes : Nat) (len cap : AX)
  | sliceS (x : AX) (lo hi : Option AX)
  | slice (sz : Nat) (x : AX) (lo hi mx : Option AX)
  | sliceA (sz n : Nat) (x : AX) (lo hi : Option AX)
  | off (n : Nat) (x : AX)
  | idx (sz : Nat) (x i : AX)
  | idxA (sz n : Nat) (x i : AX)
  | field (off : Nat) (sz : Option Nat) (x : AX)
  | indexS (x i : AX)
  | indexA (sz : Option Nat) (esz n : Nat) (x i : AX)
  | lenS (x : AX)
  | len (x : AX)
  | lenM (x : AX)
  | min (x y : AX)
  | max (x y : AX)
  | append (sz bytes : Nat) (e : TypeId) (s x : AX)
  | call (f : AX) (args : List AX)
  | ext (x : AX) (i : Nat)
  | mkmap
  | lookup (z : AV) (ok : Bool) (m k : AX)
  | update (m k v : AX)
  | mkiface (t : TypeId) (x : AX)
  | rangeS (x : AX)
  | next (x : AX)
  | copy (sz : Nat) (d s : AX)
  | cvMark (x : AX)
  | fail
  deriving Inhabited, Repr

structure AO where
  dst : Option Nat
  op : AOp
  guard : Option (Nat × Bool)
  key : Nat
  deriving Inhabited, Repr

inductive AC where
  | skip
  | region (ops : List AO) (nk : Nat) (draw : Bool) (pairs : List (Nat × Nat))
  | seq (a b : AC)
  | cond (c : AX) (a b : AC)
  | block (id : Nat) (a : AC)
  | loop (a : AC)
  | exit (id : Nat)
  | scope (a : AC)
  | label (l : Nat)
  | goto (l : Nat)
  | ret
  | fail
  deriving Inhabited, Repr

inductive ARes where
  | tmp (t : Nat)
  | cell (t : Nat) (sz : Option Nat)
  deriving Inhabited, Repr

structure AF where
  body : AC
  res : List ARes
  keep : Bool
  deriving Inhabited, Repr

/-! ### What it computes -/
abbrev Slots := Nat → AV
abbrev CallO := FuncId → List AV → Heap → Option (AV × Heap)

def AX.ev (σ : Slots) : AX → AV
  | .t i => σ i
  | .c v => v

def upd (σ : Slots) (d : Nat) (v : AV) : Slots := fun i => if i = d then v else σ i
def put (σ : Slots) : Option Nat → AV → Slots
  | none, _ => σ
  | some d, v => upd σ d v

def ofBytes (l : List UInt8) : List AV := l.map fun b => .int .u8 b.toNat
def asBytes : List AV → Option (List UInt8)
  | [] => some []
  | .int .u8 n :: r => (asBytes r).map (UInt8.ofNat n.toNat :: ·)
  | _ => none

def bitsOp (op : BinOp) (k : IntKind) (x y : Int) : Int :=
  let a := BitVec.ofInt k.bits x
  let b := BitVec.ofInt k.bits y
  match op with
  | .and => k.wrap (a &&& b).toNat
  | .or => k.wrap (a ||| b).toNat
  | .xor => k.wrap (a ^^^ b).toNat
  | .andNot => k.wrap (a &&& ~~~b).toNat
  | _ => 0

def ibin (op : BinOp) (k : IntKind) (a b : Int) : Option AV :=
  match op with
  | .add => some (.int k (k.wrap (a + b)))
  | .sub => some (.int k (k.wrap (a - b)))
  | .mul => some (.int k (k.wrap (a * b)))
  | .quo => if b = 0 then none else some (.int k (k.wrap (a.tdiv b)))
  | .rem => if b = 0 then none else some (.int k (a.tmod b))
  | .and => some (.int k (bitsOp .and k a b))
  | .or => some (.int k (bitsOp .or k a b))
  | .xor => some (.int k (bitsOp .xor k a b))
  | .andNot => some (.int k (bitsOp .andNot k a b))
  | .shl => if b < 0 then none else some (.int k (k.wrap (a * 2 ^ (Nat.min b.toNat k.bits))))
  | .shr => if b < 0 then none else some (.int k (a.fdiv (2 ^ (Nat.min b.toNat k.bits))))
  | .eql => some (.bool (a == b))
  | .neq => some (.bool (a != b))
  | .lss => some (.bool (decide (a < b)))
  | .leq => some (.bool (decide (a ≤ b)))
  | .gtr => some (.bool (decide (a > b)))
  | .geq => some (.bool (decide (a ≥ b)))

def sbin (op : BinOp) (a b : List UInt8) : Option AV :=
  match op with
  | .add => if a.length + b.length ≤ 140737488355328 then some (.str (a ++ b)) else none
  | .eql => some (.bool (a == b))
  | .neq => some (.bool (a != b))
  | .lss => some (.bool (Op.bytesLess a b))
  | .leq => some (.bool (Op.bytesLess a b || a == b))
  | .gtr => some (.bool (!(Op.bytesLess a b || a == b)))
  | .geq => some (.bool (!Op.bytesLess a b))
  | _ => none

def abin (op : BinOp) : AV → AV → Option AV
  | .int k a, .int k' b => if k = k' ∨ op = .shl ∨ op = .shr then ibin op k a b else none
  | .str a, .str b => sbin op a b
  | _, _ => none

/-- Are two cells equal (where that can be told)? -/
def eqLeaf : LK → AV → AV → Option Bool
  | .int, .int k a, .int k' b => if k = k' then some (a == b) else none
  | .bool, .bool a, .bool b => some (a == b)
  | .str, .str a, .str b => some (a == b)
  | .ptr, .nilp, .nilp => some true
  | .ptr, .nilp, .ptr _ _ => some false
  | .ptr, .ptr _ _, .nilp => some false
  | .ptr, .nilp, .eptr _ => some false
  | .ptr, .eptr _, .nilp => some false
  | .iface, .nili, .nili => some true
  | .iface, .nili, .iface _ _ => some false
  | .iface, .iface _ _, .nili => some false
  | .func, .nilf, .fn _ _ => some false
  | .func, .fn _ _, .nilf => some false
  | _, _, _ => none

def eqs : List (Nat × LK) → List AV → List AV → Option Bool
  | [], _, _ => some true
  | o :: r, xs, ys =>
    match xs[o.1]?, ys[o.1]? with
    | some x, some y =>
      match eqLeaf o.2 x y, eqs r xs ys with
      | some b, some c => some (b && c)
      | _, _ => none
    | _, _ => none

def eqV (sz : Option Nat) (offs : List (Nat × LK)) (x y : AV) : Option Bool :=
  match sz with
  | some n =>
    match x, y with
    | .agg cs, .agg ds => if cs.length = n ∧ ds.length = n then eqs offs cs ds else none
    | _, _ => none
  | none => eqs offs [x] [y]

def bnd (σ : Slots) (v : Option AX) (y dflt : Nat) : Option Nat :=
  match v with
  | none => some dflt
  | some x =>
    match x.ev σ with
    | .int _ i => if 0 ≤ i ∧ i ≤ (y : Int) then some i.toNat else none
    | _ => none

def sliceRt (r : Rt) (full : Bool) (lo hi n : Nat) : Rt :=
  if full then .full else if lo = 0 ∧ hi = n then r else .no

def asliceS (σ : Slots) (x : AV) (lo hi : Option AX) : Option AV :=
  match x with
  | .str l =>
    match bnd σ hi l.length l.length with
    | some h =>
      match bnd σ lo h 0 with
      | some b => some (.str ((l.take h).drop b))
      | none => none
    | none => none
  | _ => none

def aslice (σ : Slots) (sz : Nat) (x : AV) (lo hi mx : Option AX) : Option AV :=
  match x with
  | .list s xs r =>
    match bnd σ mx xs.length xs.length with
    | some m =>
      match bnd σ hi m xs.length with
      | some h =>
        match bnd σ lo h 0 with
        | some b => if s = sz then some (.list sz ((xs.take h).drop b) (sliceRt r (mx.isSome && decide (m = h)) b h xs.length)) else none
        | none => none
      | none => none
    | none => none
  | .sl s b off len cap =>
    match bnd σ mx cap cap with
    | some m =>
      match bnd σ hi m len with
      | some h =>
        match bnd σ lo h 0 with
        | some l => if s = sz then some (.sl sz b (if m = l then off else off + l * sz) (h - l) (m - l)) else none
        | none => none
      | none => none
    | none => none
  | .gl s b n =>
    match mx, lo with
    | none, none =>
      match bnd σ hi n n with
      | some h => some (.gl s b h)
      | none => none
    | _, _ => none
  | _ => none

def fillA (cells : List AV) : List (Nat × Nat × AV) → Option (List AV)
  | [] => some cells
  | (off, size, v) :: rest =>
    if v.cells.length = size ∧ off + size ≤ cells.length then fillA (cells.take off ++ v.cells ++ cells.drop (off + size)) rest else none

def loadA (sz : Option Nat) (cs : List AV) (off : Nat) : Option AV :=
  match sz with
  | none => cs[off]?
  | some n => if off + n ≤ cs.length then some (.agg ((cs.drop off).take n)) else none

/-- What an append (or a copy) takes its cells from. -/
def srcOf (sz : Nat) : AV → Option (List AV)
  | .list s ys _ => if s = sz ∨ ys = [] then some ys else none
  | .str l => if sz = 1 then some (ofBytes l) else none
  | _ => none

def own (h : Heap) (r : Rt) (sz n : Nat) (e : TypeId) : Prop :=
  match r with
  | .no => False
  | .full => True
  | .tok t => h[t]? = some (.tok sz n e)
def kill (h : Heap) : Rt → Heap
  | .tok t => h.set t .dead
  | _ => h

open Classical in
noncomputable def appA (h : Heap) (key sz bytes : Nat) (e : TypeId) (s x : AV) : Option (AV × Heap) :=
  match s with
  | .list s' xs r =>
    match srcOf sz x with
    | some ys =>
      if ys = [] then some (s, h)
      else if (s' = sz ∨ xs = []) ∧ own h r sz xs.length e ∧ (xs.length + ys.length) * bytes ≤ 70368744177664 ∧ xs.length + ys.length ≤ 70368744177664 then
        some (.list sz (xs ++ ys) (.tok key), (kill h r).set key (.tok sz (xs.length + ys.length) e))
      else none
    | none => none
  | .gl s' b n =>
    match srcOf sz x, h[b]? with
    | some ys, some (.grow s'' cs) =>
      if s' = sz ∧ s'' = sz ∧ n * sz ≤ cs.length ∧ (n + ys.length) * bytes ≤ 70368744177664 ∧ n + ys.length ≤ 70368744177664 then
        some (.gl sz key (n + ys.length), (h.set b .dead).set key (.grow sz (cs.take (n * sz) ++ ys.flatMap AV.cells)))
      else none
    | _, _ => none
  | _ => none

def keyEq : AV → AV → Option Bool
  | .int k a, .int k' b => if k = k' then some (a == b) else none
  | .str a, .str b => some (a == b)
  | .bool a, .bool b => some (a == b)
  | _, _ => none

def mapFind (k : AV) : List (AV × AV) → Nat → Option (Option (Nat × AV))
  | [], _ => some none
  | e :: es, i =>
    match keyEq k e.1 with
    | some true => some (some (i, e.2))
    | some false => mapFind k es (i + 1)
    | none => none

open Classical in
noncomputable def aop (O : CallO) (σ : Slots) (h : Heap) (key : Nat) : AOp → Option (AV × Heap)
  | .mv x => some (x.ev σ, h)
  | .nilchk x =>
    match x.ev σ with
    | .ptr b o => some (.ptr b o, h)
    | .eptr cs => some (.eptr cs, h)
    | .fn f cs => some (.fn f cs, h)
    | _ => none
  | .pick c a b =>
    match c.ev σ with
    | .bool t => some (if t then a.ev σ else b.ev σ, h)
    | _ => none
  | .alloc zs => some (.ptr key 0, h.set key (.cells zs))
  | .box n x => if (x.ev σ).cells.length = n then some (.ptr key 0, h.set key (.cells (x.ev σ).cells)) else none
  | .build zs parts =>
    match fillA zs (parts.map fun p => (p.1, p.2.1, p.2.2.ev σ)) with
    | some cs => some (.agg cs, h)
    | none => none
  | .bslice sz parts =>
    if ∀ p ∈ parts, (p.ev σ).cells.length = sz then some (.list sz (parts.map (·.ev σ)) .full, h) else none
  | .bsliceM sz parts =>
    if ∀ p ∈ parts, (p.ev σ).cells.length = sz then
      some (.sl sz key 0 parts.length parts.length, h.set key (.cells (parts.flatMap fun p => (p.ev σ).cells)))
    else none
  | .load sz x =>
    match x.ev σ with
    | .ptr b o =>
      match h[b]? with
      | some (.cells cs) => (loadA sz cs o).map (·, h)
      | _ => none
    | .eptr cs => (loadA sz cs 0).map (·, h)
    | _ => none
  | .store sz a x =>
    match a.ev σ with
    | .ptr b o =>
      match h[b]? with
      | some (.cells cs) =>
        if (x.ev σ).cells.length = sz ∧ o + sz ≤ cs.length then
          some (.junk, h.set b (.cells (cs.take o ++ (x.ev σ).cells ++ cs.drop (o + sz))))
        else none
      | _ => none
    | _ => none
  | .bin op x y => (abin op (x.ev σ) (y.ev σ)).map (·, h)
  | .eq ng ag offs x y => (eqV ag offs (x.ev σ) (y.ev σ)).map fun b => (.bool (if ng then !b else b), h)
  | .neg x =>
    match x.ev σ with
    | .int k n => some (.int k (k.wrap (0 - n)), h)
    | _ => none
  | .not x =>
    match x.ev σ with
    | .bool b => some (.bool (!b), h)
    | _ => none
  | .cvInt k x =>
    match x.ev σ with
    | .int _ n => some (.int k (k.wrap n), h)
    | _ => none
  | .cvStrBytes e x =>
    match x.ev σ with
    | .str l => some (.list 1 (ofBytes l) (.tok key), h.set key (.tok 1 l.length e))
    | _ => none
  | .cvStr x =>
    match x.ev σ with
    | .str l => some (.str l, h)
    | _ => none
  | .cvStrBytesM x =>
    match x.ev σ with
    | .str l => some (.gl 1 key l.length, h.set key (.grow 1 (ofBytes l)))
    | _ => none
  | .cvMark x =>
    match x.ev σ with
    | .list sz xs (.tok t) =>
      match h[t]? with
      | some (.tok _ _ _) => some (.list sz xs (.tok t), h)
      | _ => none
    | _ => none
  | .fail => none
  | .cvBytesStr x =>
    match x.ev σ with
    | .list s xs _ =>
      if s = 1 ∨ xs = [] then (asBytes xs).map fun l => (.str l, h) else none
    | .sl s b o len _ =>
      match h[b]? with
      | some (.cells cs) => if s = 1 ∧ o + len ≤ cs.length then (asBytes ((cs.drop o).take len)).map fun l => (.str l, h) else none
      | _ => none
    | .gl s b n =>
      match h[b]? with
      | some (.grow _ cs) => if s = 1 ∧ n ≤ cs.length then (asBytes (cs.take n)).map fun l => (.str l, h) else none
      | _ => none
    | _ => none
  | .cvIntStr x =>
    match x.ev σ with
    | .int _ n => some (.str (Utf8.encode n).data.toList, h)
    | _ => none
  | .mkfn f caps => some (.fn f (caps.map (·.ev σ)), h)
  | .mkslice z sz bytes e len cap =>
    match len.ev σ, cap.ev σ with
    | .int .i64 n, .int .i64 c =>
      if 0 ≤ n ∧ n ≤ c ∧ c * bytes ≤ 70368744177664 ∧ c ≤ 70368744177664 then
        if n = c then some (.list sz (List.replicate n.toNat z) .full, h)
        else some (.list sz (List.replicate n.toNat z) (.tok key), h.set key (.tok sz n.toNat e))
      else none
    | _, _ => none
  | .mksliceM zs sz bytes len cap =>
    match len.ev σ, cap.ev σ with
    | .int .i64 n, .int .i64 c =>
      if 0 ≤ n ∧ n ≤ c ∧ c * bytes ≤ 70368744177664 ∧ c ≤ 70368744177664 then
        some (.sl sz key 0 n.toNat c.toNat, h.set key (.cells (List.replicate c.toNat zs).flatten))
      else none
    | _, _ => none
  | .sliceS x lo hi => (asliceS σ (x.ev σ) lo hi).map (·, h)
  | .slice sz x lo hi mx => (aslice σ sz (x.ev σ) lo hi mx).map (·, h)
  | .sliceA sz n x lo hi =>
    match x.ev σ with
    | .ptr b o =>
      match bnd σ hi n n with
      | some hh =>
        match bnd σ lo hh 0 with
        | some l => some (.sl sz b (if n = l then o else o + l * sz) (hh - l) (n - l), h)
        | none => none
      | none => none
    | _ => none
  | .off n x =>
    match x.ev σ with
    | .ptr b o => some (.ptr b (o + n), h)
    | .eptr cs => some (.eptr (cs.drop n), h)
    | _ => none
  | .idx sz x i =>
    match x.ev σ, i.ev σ with
    | .list s xs _, .int _ k =>
      if s = sz ∧ 0 ≤ k then
        match xs[k.toNat]? with
        | some v => some (.eptr v.cells, h)
        | none => none
      else none
    | .sl s b o len _, .int _ k => if s = sz ∧ 0 ≤ k ∧ k < (len : Int) then some (.ptr b (o + k.toNat * sz), h) else none
    | _, _ => none
  | .idxA sz n x i =>
    match x.ev σ, i.ev σ with
    | .ptr b o, .int _ k => if 0 ≤ k ∧ k < (n : Int) then some (.ptr b (o + k.toNat * sz), h) else none
    | .eptr cs, .int _ k => if 0 ≤ k ∧ k < (n : Int) then some (.eptr (cs.drop (k.toNat * sz)), h) else none
    | _, _ => none
  | .field o sz x =>
    match x.ev σ with
    | .agg cs => (loadA sz cs o).map (·, h)
    | _ => none
  | .indexS x i =>
    match x.ev σ, i.ev σ with
    | .str l, .int _ k =>
      if 0 ≤ k then
        match l[k.toNat]? with
        | some b => some (.int .u8 b.toNat, h)
        | none => none
      else none
    | _, _ => none
  | .indexA sz esz n x i =>
    match x.ev σ, i.ev σ with
    | .agg cs, .int _ k => if 0 ≤ k ∧ k < (n : Int) then (loadA sz cs (k.toNat * esz)).map (·, h) else none
    | _, _ => none
  | .lenS x =>
    match x.ev σ with
    | .str l => some (.int .i64 l.length, h)
    | _ => none
  | .len x =>
    match x.ev σ with
    | .list _ xs _ => some (.int .i64 xs.length, h)
    | .sl _ _ _ n _ => some (.int .i64 n, h)
    | .gl _ _ n => some (.int .i64 n, h)
    | _ => none
  | .lenM x =>
    match x.ev σ with
    | .nilm => some (.int .i64 0, h)
    | .map b =>
      match h[b]? with
      | some (.amap es) => some (.int .i64 es.length, h)
      | _ => none
    | _ => none
  | .min x y =>
    match x.ev σ, y.ev σ with
    | .int k a, .int _ b => some (.int k (if b < a then b else a), h)
    | _, _ => none
  | .max x y =>
    match x.ev σ, y.ev σ with
    | .int k a, .int _ b => some (.int k (if a < b then b else a), h)
    | _, _ => none
  | .append sz bytes e s x => appA h key sz bytes e (s.ev σ) (x.ev σ)
  | .call f args =>
    match f.ev σ with
    | .fn g caps => O g (args.map (·.ev σ) ++ caps) h
    | _ => none
  | .ext x i =>
    match x.ev σ with
    | .tup vs => vs[i]?.map (·, h)
    | _ => none
  | .mkmap => some (.map key, h.set key (.amap []))
  | .lookup z ok m k =>
    match m.ev σ with
    | .map b =>
      match h[b]? with
      | some (.amap es) =>
        match mapFind (k.ev σ) es 0 with
        | some (some (_, v)) => some (if ok then .tup [v, .bool true] else v, h)
        | some none => some (if ok then .tup [z, .bool false] else z, h)
        | none => none
      | _ => none
    | .nilm => some (if ok then .tup [z, .bool false] else z, h)
    | _ => none
  | .update m k v =>
    match m.ev σ with
    | .map b =>
      match h[b]? with
      | some (.amap es) =>
        match mapFind (k.ev σ) es 0 with
        | some (some (i, _)) => some (.junk, h.set b (.amap (es.set i (k.ev σ, v.ev σ))))
        | some none => some (.junk, h.set b (.amap (es ++ [(k.ev σ, v.ev σ)])))
        | none => none
      | _ => none
    | _ => none
  | .mkiface t x => some (.iface t (x.ev σ), h)
  | .rangeS x =>
    match x.ev σ with
    | .str l => some (.it key, h.set key (.siter l 0))
    | _ => none
  | .next x =>
    match x.ev σ with
    | .it b =>
      match h[b]? with
      | some (.siter l p) =>
        if p < l.length then
          some (.tup [.bool true, .int .i64 p, .int .i32 (Utf8.decode ⟨⟨l⟩⟩ p).1], h.set b (.siter l (p + (Utf8.decode ⟨⟨l⟩⟩ p).2)))
        else some (.tup [.bool false], h)
      | _ => none
    | _ => none
  | .copy sz d s =>
    match d.ev σ with
    | .sl s' b o len _ =>
      match srcOf sz (s.ev σ), h[b]? with
      | some ys, some (.cells cs) =>
        if s' = sz ∧ o + len * sz ≤ cs.length then
          some (.int .i64 (Nat.min ys.length len : Nat), h.set b (.cells (cs.take o ++ (ys.take len).flatMap AV.cells ++ cs.drop (o + (Nat.min ys.length len) * sz))))
        else none
      | _, _ => none
    | _ => none

/-- Which places of the heap an operation looked at, and which it turned (none: all). -/
structure Foot where
  R : Option (List Nat)
  W : Option (List Nat)
  deriving Inhabited

def rtKeys : Rt → List Nat
  | .tok t => [t]
  | _ => []

open Classical in
noncomputable def foot (σ : Slots) (h h' : Heap) (key : Nat) : AOp → Foot
  | .alloc _ => ⟨some [], some [key]⟩
  | .box _ _ => ⟨some [], some [key]⟩
  | .bsliceM _ _ => ⟨some [], some [key]⟩
  | .mkslice _ _ _ _ _ _ => ⟨some [], some [key]⟩
  | .mksliceM _ _ _ _ _ => ⟨some [], some [key]⟩
  | .mkmap => ⟨some [], some [key]⟩
  | .rangeS _ => ⟨some [], some [key]⟩
  | .cvStrBytes _ _ => ⟨some [], some [key]⟩
  | .cvStrBytesM _ => ⟨some [], some [key]⟩
  | .cvMark x => match x.ev σ with | .list _ _ r => ⟨some (rtKeys r), some []⟩ | _ => ⟨some [], some []⟩
  | .load _ x => match x.ev σ with | .ptr b _ => ⟨some [b], some []⟩ | _ => ⟨some [], some []⟩
  | .store _ a _ => match a.ev σ with | .ptr b _ => ⟨some [b], some [b]⟩ | _ => ⟨none, none⟩
  | .cvBytesStr x => match x.ev σ with | .sl _ b _ _ _ => ⟨some [b], some []⟩ | .gl _ b _ => ⟨some [b], some []⟩ | _ => ⟨some [], some []⟩
  | .lenM x => match x.ev σ with | .map b => ⟨some [b], some []⟩ | _ => ⟨some [], some []⟩
  | .append _ _ _ s _ => match s.ev σ with | .list _ _ r => ⟨some (rtKeys r), some (key :: rtKeys r)⟩ | .gl _ b _ => ⟨some [b], some [key, b]⟩ | _ => ⟨none, none⟩
  | .lookup _ _ m _ => match m.ev σ with | .map b => ⟨some [b], some []⟩ | _ => ⟨some [], some []⟩
  | .update m _ _ => match m.ev σ with | .map b => ⟨some [b], some [b]⟩ | _ => ⟨none, none⟩
  | .next x => match x.ev σ with | .it b => ⟨some [b], some [b]⟩ | _ => ⟨none, none⟩
  | .copy _ d _ => match d.ev σ with | .sl _ b _ _ _ => ⟨some [b], some [b]⟩ | _ => ⟨none, none⟩
  | .call _ _ => if h' = h then ⟨none, some []⟩ else ⟨none, none⟩
  | _ => ⟨some [], some []⟩

def meet : Option (List Nat) → Option (List Nat) → Bool
  | some [], _ => false
  | _, some [] => false
  | some a, some b => a.any fun x => b.contains x
  | _, _ => true
/-- A call that leaves the heap as it was. -/
def Foot.quiet (f : Foot) : Bool := f.R == none && f.W == some []
/-- It looks at nothing: what it turns is a place of its own. -/
def Foot.fresh (f : Foot) : Bool := f.R == some []
/-- Do they meet? 'a' is the earlier one in the text. -/
def Foot.clash (a b : Foot) : Bool := !(a.quiet && b.fresh) && (meet a.W b.R || meet a.W b.W || meet a.R b.W)

/-- Is the operation passed over? So it is where its guard was passed over. none: its guard is no bool. -/
def passed (σ : Slots) : Option (Nat × Bool) → Option Bool
  | none => some false
  | some (g, w) =>
    match σ g with
    | .bool b => some (b != w)
    | .tup [] => some true
    | _ => none

noncomputable def opsRun (O : CallO) (k0 : Nat) : List AO → Slots → Heap → Option (Slots × Heap)
  | [], σ, h => some (σ, h)
  | o :: r, σ, h =>
    match passed σ o.guard with
    | some true => opsRun O k0 r (put σ o.dst (.tup [])) h
    | some false =>
      match aop O σ h (k0 + o.key) o.op with
      | some (v, h') => opsRun O k0 r (put σ o.dst v) h'
      | none => none
    | none => none

noncomputable def opsRunF (O : CallO) (k0 : Nat) : List AO → Slots → Heap → Option (Slots × Heap × List Foot)
  | [], σ, h => some (σ, h, [])
  | o :: r, σ, h =>
    match passed σ o.guard with
    | some true => (opsRunF O k0 r (put σ o.dst (.tup [])) h).map fun x => (x.1, x.2.1, ⟨some [], some []⟩ :: x.2.2)
    | some false =>
      match aop O σ h (k0 + o.key) o.op with
      | some (v, h') => (opsRunF O k0 r (put σ o.dst v) h').map fun x => (x.1, x.2.1, foot σ h h' (k0 + o.key) o.op :: x.2.2)
      | none => none
    | none => none

def pairsOk (ps : List (Nat × Nat)) (fs : List Foot) : Bool :=
  ps.all fun p => !(fs.getD p.1 ⟨some [], some []⟩).clash (fs.getD p.2 ⟨some [], some []⟩)

inductive Ex where
  | normal
  | exit (id : Nat)
  | goto (l : Nat)
  | ret
  deriving DecidableEq, Inhabited

structure Orc where
  call : CallO
  loop : AC → Slots → Heap → Option (Ex × Slots × Heap)

noncomputable def run (O : Orc) : AC → Slots → Heap → Option (Ex × Slots × Heap)
  | .skip, σ, h => some (.normal, σ, h)
  | .label _, σ, h => some (.normal, σ, h)
  | .region ops nk false _, σ, h =>
    match opsRun O.call h.length ops σ (h ++ List.replicate nk .dead) with
    | some (σ', h') => some (.normal, σ', h')
    | none => none
  | .region ops nk true ps, σ, h =>
    match opsRunF O.call h.length ops σ (h ++ List.replicate nk .dead) with
    | some (σ', h', fs) => if pairsOk ps fs then some (.normal, σ', h') else none
    | none => none
  | .seq a b, σ, h =>
    match run O a σ h with
    | some (.normal, σ', h') => run O b σ' h'
    | r => r
  | .cond c a b, σ, h =>
    match c.ev σ with
    | .bool true => run O a σ h
    | .bool false => run O b σ h
    | _ => none
  | .block id a, σ, h =>
    match run O a σ h with
    | some (.exit j, σ', h') => if j = id then some (.normal, σ', h') else some (.exit j, σ', h')
    | r => r
  | .loop a, σ, h =>
    match run O a σ h with
    | some (.normal, σ', h') => O.loop a σ' h'
    | r => r
  | .exit id, σ, h => some (.exit id, σ, h)
  | .scope a, σ, h =>
    match run O a σ h with
    | some (.goto _, _, _) => none
    | r => r
  | .fail, _, _ => none
  | .goto l, σ, h => some (.goto l, σ, h)
  | .ret, σ, h => some (.ret, σ, h)

def resVal (σ : Slots) (h : Heap) : ARes → Option AV
  | .tmp t => some (σ t)
  | .cell t sz =>
    match σ t with
    | .ptr b o =>
      match h[b]? with
      | some (.cells cs) => loadA sz cs o
      | _ => none
    | _ => none

def resVals (σ : Slots) (h : Heap) : List ARes → Option (List AV)
  | [] => some []
  | r :: rs =>
    match resVal σ h r, resVals σ h rs with
    | some v, some vs => some (v :: vs)
    | _, _ => none

def oneOf : List AV → AV
  | [v] => v
  | vs => .tup vs

/-- The elements of a row of cells, each of so many cells. -/
def elems (agg : Bool) (sz : Nat) (cs : List AV) : Nat → List AV
  | 0 => []
  | n + 1 => (if agg then .agg (cs.take sz) else cs.getD 0 .junk) :: elems agg sz (cs.drop sz) n

open Classical in
/-- One cell of a result as it goes out of a call: the call's own tokens fall away; its own rows are lists from now on. -/
noncomputable def clean1 (h1 : Heap) (base : Nat) : AV → Option AV
  | .list sz xs r =>
    if AV.lows base xs then
      match r with
      | .tok t => some (.list sz xs (if t < base then .tok t else .no))
      | r => some (.list sz xs r)
    else none
  | .sl sz b o n c =>
    if b < base then some (.sl sz b o n c)
    else
      match h1[b]? with
      | some (.cells cs) =>
        if sz = 1 ∧ o + n ≤ cs.length ∧ AV.lows base cs then some (.list 1 (elems false 1 (cs.drop o) n) .no)
        else if 1 < sz ∧ o + n * sz ≤ cs.length ∧ AV.lows base cs then some (.list sz (elems true sz (cs.drop o) n) .no)
        else none
      | _ => none
  | v => if v.low base then some v else none

noncomputable def cleans (h1 : Heap) (base : Nat) : List AV → Option (List AV)
  | [] => some []
  | v :: vs =>
    match clean1 h1 base v, cleans h1 base vs with
    | some v', some vs' => some (v' :: vs')
    | _, _ => none

noncomputable def clean2 (h1 : Heap) (base : Nat) : AV → Option AV
  | .agg cs => (cleans h1 base cs).map .agg
  | v => clean1 h1 base v

noncomputable def cleans2 (h1 : Heap) (base : Nat) : List AV → Option (List AV)
  | [] => some []
  | v :: vs =>
    match clean2 h1 base v, cleans2 h1 base vs with
    | some v', some vs' => some (v' :: vs')
    | _, _ => none

noncomputable def clean (h1 : Heap) (base : Nat) : AV → Option AV
  | .tup vs => (cleans2 h1 base vs).map .tup
  | v => clean2 h1 base v

open Classical in
noncomputable def finish (h0 h1 : Heap) (v : AV) : Option (AV × Heap) :=
  match clean h1 h0.length v with
  | some v' =>
    if ∀ i, i < h0.length → h1[i]? = h0[i]? ∨ ∀ e, h1[i]? = some e → e.low h0.length then some (v', h1.take h0.length) else none
  | none => none

noncomputable def callF (O : Orc) (F : AF) (args : List AV) (h0 : Heap) : Option (AV × Heap) :=
  match run O F.body (fun i => args.getD i .junk) h0 with
  | some (.normal, σ, h1) | some (.ret, σ, h1) =>
    match resVals σ h1 F.res with
    | some vs => if F.keep then some (oneOf vs, h1) else finish h0 h1 (oneOf vs)
    | none => none
  | _ => none

noncomputable def callX (X : CallO) (T : FuncId → Option AF) (O : Orc) : CallO := fun f args h =>
  match X f args h with
  | some r => some r
  | none =>
    match T f with
    | some F => callF O F args h
    | none => none

noncomputable def iter (X : CallO) (T : FuncId → Option AF) : Nat → Orc
  | 0 => ⟨fun _ _ _ => none, fun _ _ _ => none⟩
  | k + 1 => ⟨callX X T (iter X T k), fun a σ h => run (iter X T k) (.loop a) σ h⟩

end Go.Am
