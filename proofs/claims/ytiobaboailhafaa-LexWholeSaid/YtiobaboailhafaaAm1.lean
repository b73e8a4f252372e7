/-
  From the model's code to the abstract machine's small code: types' tables are looked up once; what isn't covered is 'none'.
-/
import Derived.Test.YtiobaboailhafaaAm0
set_option linter.unusedVariables false
namespace Go.Am
open Go

def size? (P : Program) (t : TypeId) : Option Nat := (P.info? t).map (·.size)
def isAggD : TypeDesc → Bool
  | .struct _ => true
  | .array _ _ => true
  | _ => false
/-- How a variable of a type is loaded: one cell, or so many as an aggregate. -/
def ld (P : Program) (t : TypeId) : Option (Option Nat) :=
  match P.underlying t with
  | some d => if isAggD d then (size? P t).map some else some none
  | none => none

def slSize (P : Program) (t : TypeId) : Nat :=
  match P.underlying t with
  | some (.slice e) => (size? P e).getD 0
  | _ => 0

def constV (P : Program) (t : TypeId) : Value → Option AV
  | .int k n => some (.int k n)
  | .bool b => some (.bool b)
  | .string s => some (.str s.data.toList)
  | .slice none 0 0 => some (.list (slSize P t) [] .full)
  | .pointer none => some .nilp
  | .nilIface => some .nili
  | .nilFunc => some .nilf
  | .map none => some .nilm
  | _ => none

def cx (P : Program) (t : TypeId) : Operand → Option AX
  | .tmp i => some (.t i)
  | .const v => (constV P t v).map .c
  | .func f => some (.c (.fn f []))
  | .global _ => none

def cxs (P : Program) (t : TypeId) : List Operand → Option (List AX)
  | [] => some []
  | x :: xs =>
    match cx P t x, cxs P t xs with
    | some y, some ys => some (y :: ys)
    | _, _ => none

/-- Operands with a type each. -/
def cxTs (P : Program) : List (Operand × TypeId) → Option (List AX)
  | [] => some []
  | x :: xs =>
    match cx P x.2 x.1, cxTs P xs with
    | some y, some ys => some (y :: ys)
    | _, _ => none

mutual
def zeroD (P : Program) : Nat → TypeId → Option (List AV)
  | 0, _ => none
  | d + 1, t =>
    match P.underlying t with
    | some (.struct fs) => zeroFs P d fs.toList
    | some (.array n e) => (zeroD P d e).map fun z => (List.replicate n z).flatten
    | some (.slice _) => some [.list (slSize P t) [] .full]
    | some (.int k) => some [.int k 0]
    | some .bool => some [.bool false]
    | some .string => some [.str []]
    | some (.pointer _) => some [.nilp]
    | some (.interface _) => some [.nili]
    | some (.func _ _ _) => some [.nilf]
    | some (.map _ _) => some [.nilm]
    | _ => none
def zeroFs (P : Program) : Nat → List Field → Option (List AV)
  | 0, _ => none
  | d + 1, fs => fs.foldr (fun f acc =>
      match zeroD P d f.type, acc with
      | some a, some b => some (a ++ b)
      | _, _ => none) (some [])
end

def zOk1 : Value → AV → Bool
  | .int k n, .int k' m => k == k' && n == m
  | .bool a, .bool b => a == b
  | .string s, .str l => s.data.toList == l
  | .pointer none, .nilp => true
  | .nilIface, .nili => true
  | .nilFunc, .nilf => true
  | .map none, .nilm => true
  | .slice none 0 0, .list _ [] .full => true
  | _, _ => false
def zOk : List Value → List AV → Bool
  | [], [] => true
  | v :: vs, a :: as => zOk1 v a && zOk vs as
  | _, _ => false

/-- The cells of a type's zero value. -/
def zeroA (P : Program) (t : TypeId) : Option (List AV) :=
  match (P.info? t).bind (·.zero), zeroD P 12 t with
  | some z, some as => if zOk z.cells.toList as && (size? P t == some as.length) then some as else none
  | _, _ => none
/-- The zero value itself. -/
def zeroV (P : Program) (t : TypeId) : Option AV :=
  match ld P t, zeroA P t with
  | some none, some [a] => some a
  | some (some n), some as => if as.length = n then some (.agg as) else none
  | _, _ => none

/-- The cells that '==' of a type looks at, from its value's first cell on. -/
def leafK : TypeDesc → Option LK
  | .bool => some .bool
  | .int _ => some .int
  | .string => some .str
  | .pointer _ => some .ptr
  | .interface _ => some .iface
  | .func _ _ _ => some .func
  | _ => none
def eqOffs (P : Program) : Nat → TypeId → Option (List (Nat × LK))
  | 0, _ => none
  | d + 1, t =>
    match P.underlying t with
    | some (.struct fs) =>
      if P.stoodInHeld t then none
      else fs.toList.foldr (fun f acc =>
        if f.name = "_" then acc
        else match ld P f.type, size? P f.type, eqOffs P d f.type, acc with
          | some none, some _, some [(0, k)], some b => some ((f.offset, k) :: b)
          | some (some n), some s, some a, some b => if n = s ∧ a.all (·.1 < s) ∧ f.offset + s ≤ (size? P t).getD 0 then some (a.map (fun p => (f.offset + p.1, p.2)) ++ b) else none
          | _, _, _, _ => none) (some [])
    | some td => (leafK td).map fun k => [(0, k)]
    | none => none

def isK : Operand → Bool
  | .const _ => true
  | _ => false
def isScalarT (P : Program) (t : TypeId) : Bool :=
  match P.underlying t with
  | some (.int _) => true
  | some .string => true
  | _ => false

def optX (P : Program) (x : Option Operand) : Option (Option AX) :=
  match x with
  | none => some none
  | some x => (cx P 0 x).map some

def buildParts (P : Program) (place : Nat → Option (Nat × Nat × TypeId)) : List (Nat × Operand) → Option (List (Nat × Nat × AX))
  | [] => some []
  | (i, x) :: r =>
    match place i with
    | some (off, sz, t) =>
      match cx P t x, buildParts P place r with
      | some y, some ys => if 0 < sz then some ((off, sz, y) :: ys) else none
      | _, _ => none
    | none => none

def fieldPlaceP (P : Program) (fs : Array Field) (i : Nat) : Option (Nat × Nat × TypeId) :=
  match fs[i]? with
  | some f => (size? P f.type).map fun s => (f.offset, s, f.type)
  | none => none

/-- All fields have a size (the model looks all of them up). -/
def fieldsSized (P : Program) (fs : Array Field) : Bool := fs.toList.all fun f => (size? P f.type).isSome

def isU8 (P : Program) (e : TypeId) : Bool :=
  match P.underlying e with
  | some (.int .u8) => true
  | _ => false

/-- All of a literal's parts are written-out bytes. -/
def constBytes : List AX → Option (List UInt8)
  | [] => some []
  | .c (.int .u8 n) :: r =>
    match constBytes r with
    | some l => if ((UInt8.ofNat n.toNat).toNat : Int) = n then some (UInt8.ofNat n.toNat :: l) else none
    | none => none
  | _ => none

def compileCall (P : Program) (type : TypeId) (c : Call) : Option AOp :=
  match c.callee with
  | .value f =>
    match cx P 0 f, cxTs P (c.args.toList.zipIdx.map fun p => (p.1, c.argTypes.getD p.2 0)) with
    | some g, some as => some (.call g as)
    | _, _ => none
  | .invoke _ _ => none
  | .builtin .len =>
    match c.args.toList, c.argTypes.toList with
    | [x], [t] =>
      match P.underlying t with
      | some .string => (cx P t x).map .lenS
      | some (.slice _) => (cx P t x).map .len
      | some (.map _ _) => (cx P t x).map .lenM
      | some (.array n _) => some (.mv (.c (.int .i64 n)))
      | some (.pointer a) =>
        match P.underlying a with
        | some (.array n _) => some (.mv (.c (.int .i64 n)))
        | _ => none
      | _ => none
    | _, _ => none
  | .builtin .min =>
    match c.args.toList with
    | [x, y] =>
      match cx P 0 x, cx P 0 y with
      | some a, some b => some (.min a b)
      | _, _ => none
    | _ => none
  | .builtin .max =>
    match c.args.toList with
    | [x, y] =>
      match cx P 0 x, cx P 0 y with
      | some a, some b => some (.max a b)
      | _, _ => none
    | _ => none
  | .builtin .append =>
    match c.args.toList, c.argTypes.toList with
    | [s, x], [t, u] =>
      match P.underlying t with
      | some (.slice e) =>
        match P.info? e, zeroA P e, cx P t s, cx P u x, P.underlying u with
        | some i, some z, some a, some b, some d =>
          if z.length = i.size ∧ 0 < i.size ∧ 0 < i.bytes ∧ i.bytes ≤ 1048576 then
            match d with
            | .slice _ => some (.append i.size i.bytes e a b)
            | .string => if i.size = 1 ∧ isU8 P e = true then some (.append i.size i.bytes e a b) else none
            | _ => none
          else none
        | _, _, _, _, _ => none
      | _ => none
    | _, _ => none
  | .builtin .copy =>
    match c.args.toList, c.argTypes.toList with
    | [d, s], [t, u] =>
      match P.underlying t with
      | some (.slice e) =>
        match size? P e, cx P t d, cx P u s, P.underlying u with
        | some sz, some a, some b, some ud =>
          match ud with
          | .slice _ => some (.copy sz a b)
          | .string => if sz = 1 ∧ isU8 P e = true then some (.copy sz a b) else none
          | _ => none
        | _, _, _, _ => none
      | _ => none
    | _, _ => none
  | .builtin _ => none

/-- An operation; 'mt': the places in the text whose fresh slices are rows that are written. -/
def compileOp (P : Program) (mt : List String) (o : Oper) : Option AOp :=
  match o.op with
  | .move x => (cx P o.type x).map .mv
  | .assign x => (cx P o.type x).map .mv
  | .nilCheck x => (cx P o.type x).map .nilchk
  | .pick c a b =>
    match cx P 0 c, cx P o.type a, cx P o.type b with
    | some c, some a, some b => some (.pick c a b)
    | _, _, _ => none
  | .alloc t => (zeroA P t).map .alloc
  | .box t x =>
    match size? P t, cx P t x with
    | some n, some y => if 0 < n then some (.box n y) else none
    | _, _ => none
  | .build t parts =>
    match zeroA P t, P.underlying t with
    | some z, some (.struct fs) =>
      if fieldsSized P fs then (buildParts P (fieldPlaceP P fs) parts.toList).map (.build z) else none
    | some z, some (.array _ e) =>
      match size? P e with
      | some s => (buildParts P (fun i => some (i * s, s, e)) parts.toList).map (.build z)
      | none => none
    | _, _ => none
  | .buildSlice t len parts =>
    match P.underlying t with
    | some (.slice e) =>
      match size? P e, zeroA P e, cxs P e (parts.toList.map (·.2)) with
      | some s, some z, some xs =>
        if parts.toList.map (·.1) = List.range len ∧ len * s ≤ 16777216 ∧ 0 < s ∧ z.length = s then
          some (if mt.contains o.pos then .bsliceM s xs else
            match (if s = 1 ∧ isU8 P e = true then constBytes xs else none) with
            | some l => .cvStrBytes e (.c (.str l))
            | none => .bslice s xs)
        else none
      | _, _, _ => none
    | _ => none
  | .load t x =>
    match ld P t, cx P 0 x with
    | some s, some y => some (.load s y)
    | _, _ => none
  | .store t a x =>
    match size? P t, cx P 0 a, cx P t x with
    | some n, some b, some y => if 0 < n then some (.store n b y) else none
    | _, _, _ => none
  | .binOp op t x y u =>
    match cx P t x, cx P u y with
    | some a, some b =>
      if op = .eql ∨ op = .neq then
        if isScalarT P t then some (.bin op a b)
        else if P.eqGuardType P.depth t && !(ld P t == some none && (isK x || isK y)) then none
        else match eqOffs P 12 t with
          | some offs => (ld P t).map fun s => .eq (op = .neq) s offs a b
          | none => none
      else some (.bin op a b)
    | _, _ => none
  | .unOp op t x =>
    match op, cx P t x with
    | .neg, some a => some (.neg a)
    | .not, some a => some (.not a)
    | _, _ => none
  | .convert s d x =>
    match P.underlying s, P.underlying d, cx P s x with
    | some sd, some dd, some a =>
      match sd, dd with
      | .int _, .int k => some (.cvInt k a)
      | .int _, .string => some (.cvIntStr a)
      | .string, .string => some (.cvStr a)
      | .string, .slice e => if isU8 P e && (P.info? e).isSome && size? P e == some 1 then some (if mt.contains o.pos then .cvStrBytesM a else .cvStrBytes e a) else none
      | .slice _, .slice e => if s == d && isU8 P e then some (.cvMark a) else none
      | .slice e, .string => if isU8 P e then some (.cvBytesStr a) else none
      | _, _ => none
    | _, _, _ => none
  | .makeFunc f first caps =>
    match f, first.toList, cxs P 0 caps.toList with
    | .func g, [], some xs => some (.mkfn g xs)
    | _, _, _ => none
  | .makeSlice t len cap =>
    match P.underlying t with
    | some (.slice e) =>
      match P.info? e, zeroA P e, zeroV P e, cx P 0 len, cx P 0 cap with
      | some i, some zs, some z, some l, some c =>
        if zs.length = i.size ∧ 0 < i.size then
          some (if mt.contains o.pos then .mksliceM zs i.size i.bytes l c else .mkslice z i.size i.bytes e l c)
        else none
      | _, _, _, _, _ => none
    | _ => none
  | .slice t x lo hi mx =>
    match P.underlying t, cx P t x, optX P lo, optX P hi, optX P mx with
    | some (.array n e), some a, some l, some h, some none =>
      match size? P e with
      | some s => some (.sliceA s n a l h)
      | none => none
    | some .string, some a, some l, some h, some none => some (.sliceS a l h)
    | some (.slice e), some a, some l, some h, some m =>
      match size? P e with
      | some s => if m.isNone || h.isSome then some (.slice s a l h m) else none
      | none => none
    | _, _, _, _, _ => none
  | .fieldAddr t x f =>
    match P.underlying t, cx P 0 x with
    | some (.struct fs), some a =>
      match fs[f]? with
      | some fd =>
        match size? P fd.type with
        | some s => if 0 < s then some (.off fd.offset a) else none
        | none => none
      | none => none
    | _, _ => none
  | .indexAddr t x i =>
    match P.underlying t, cx P t x, cx P 0 i with
    | some (.slice e), some a, some j => (size? P e).map fun s => .idx s a j
    | some (.array n e), some a, some j => if 1 < n then (size? P e).map fun s => .idxA s n a j else none
    | _, _, _ => none
  | .field t x f =>
    match P.underlying t, cx P t x with
    | some (.struct fs), some a =>
      match fs[f]? with
      | some fd => (ld P fd.type).map fun s => .field fd.offset s a
      | none => none
    | _, _ => none
  | .index t x i =>
    match P.underlying t, cx P t x, cx P 0 i with
    | some .string, some a, some j => some (.indexS a j)
    | some (.array n e), some a, some j =>
      match size? P e, ld P e with
      | some s, some l => some (.indexA l s n a j)
      | _, _ => none
    | _, _, _ => none
  | .lookup t m k ok =>
    match P.underlying t with
    | some (.map kt et) =>
      match zeroV P et, cx P t m, cx P kt k, isScalarT P kt with
      | some z, some a, some b, true => some (.lookup z ok a b)
      | _, _, _, _ => none
    | _ => none
  | .mapUpdate t m k v =>
    match P.underlying t with
    | some (.map kt et) =>
      match cx P t m, cx P kt k, cx P et v, isScalarT P kt with
      | some a, some b, some c, true => some (.update a b c)
      | _, _, _, _ => none
    | _ => none
  | .makeMap _ none => some .mkmap
  | .makeInterface t x =>
    match P.underlying t with
    | some d =>
      match d with
      | .interface _ => none
      | _ => (cx P t x).map (.mkiface t)
    | none => none
  | .range t x =>
    match P.underlying t with
    | some .string => (cx P t x).map .rangeS
    | _ => none
  | .next x true => (cx P 0 x).map .next
  | .extract x i => (cx P 0 x).map fun a => .ext a i
  | .call c => compileCall P o.type c
  | _ => none

def AOp.isAlloc : AOp → Bool
  | .alloc _ | .box _ _ | .bsliceM _ _ | .mkslice _ _ _ _ _ _ | .mksliceM _ _ _ _ _ | .append _ _ _ _ _ | .mkmap | .rangeS _ | .cvStrBytes _ _ | .cvStrBytesM _ => true
  | _ => false
/-- Those that may turn the heap. -/
def AOp.turns : AOp → Bool
  | .load _ _ | .cvBytesStr _ | .lenM _ | .lookup _ _ _ _ | .cvMark _ => false
  | _ => true
def AOp.touchy : AOp → Bool
  | .alloc _ | .box _ _ | .bsliceM _ _ | .mkslice _ _ _ _ _ _ | .mksliceM _ _ _ _ _ | .append _ _ _ _ _ | .mkmap | .rangeS _ | .cvStrBytes _ _ | .cvStrBytesM _ | .cvMark _
  | .load _ _ | .store _ _ _ | .cvBytesStr _ | .lenM _ | .lookup _ _ _ _ | .update _ _ _ | .next _ | .copy _ _ _ | .call _ _ => true
  | _ => false

/-- Those whose law is proved. -/
def AOp.proved : AOp → Bool
  | .mkmap | .lookup _ _ _ _ | .update _ _ _ | .lenM _ | .copy _ _ _ => false
  | _ => true
/-- What isn't covered fails when it is run. -/
def compileOp' (P : Program) (mt : List String) (o : Oper) : AOp :=
  match compileOp P mt o with
  | some op => if op.proved then op else .fail
  | none => .fail

def dstOk (nt : Nat) (d : Option Nat) : Bool :=
  match d with
  | some d => decide (d < nt)
  | none => true
/-- The operations of a region, each with its place in the heap. -/
def compileOps (P : Program) (mt : List String) (nt : Nat) (ops : Array Oper) : List Oper → Nat → Option (List AO × Nat)
  | [], k => some ([], k)
  | o :: r, k =>
    match compileOps P mt nt ops r (if (compileOp' P mt o).isAlloc then k + 1 else k) with
    | some (as, k') =>
      if dstOk nt o.dst then
        match o.guard with
        | none => some (⟨o.dst, compileOp' P mt o, none, k⟩ :: as, k')
        | some (j, w) =>
          match (ops[j]?).bind (·.dst) with
          | some g => if g < nt then some (⟨o.dst, compileOp' P mt o, some (g, w), k⟩ :: as, k') else none
          | none => none
      else none
    | none => none

/-- Pairs of operations that look at or turn the heap and whose order is open. -/
def openPairs (ops : Array Oper) (as : List AO) : List (Nat × Nat) :=
  let b := Region.before ops
  (List.range as.length).flatMap fun j => (List.range j).filterMap fun i =>
    if ((as.getD i default).op.touchy && (as.getD j default).op.touchy && ((as.getD i default).op.turns || (as.getD j default).op.turns) && !(b.getD j 0).testBit i) then some (i, j) else none

def AX.tmps : AX → List Nat
  | .t i => [i]
  | .c _ => []
def tmpsL (xs : List AX) : List Nat := xs.flatMap AX.tmps
def tmpsO (x : Option AX) : List Nat := match x with | some x => x.tmps | none => []

def AOp.tmps : AOp → List Nat
  | .mv x | .nilchk x | .box _ x | .load _ x | .neg x | .not x | .cvInt _ x | .cvStrBytes _ x | .cvStrBytesM x | .cvBytesStr x | .cvIntStr x | .cvStr x | .off _ x | .field _ _ x
  | .lenS x | .len x | .lenM x | .ext x _ | .mkiface _ x | .rangeS x | .next x | .cvMark x => x.tmps
  | .pick a b c => a.tmps ++ b.tmps ++ c.tmps
  | .alloc _ | .mkmap | .fail => []
  | .build _ ps => ps.flatMap fun p => p.2.2.tmps
  | .bslice _ xs | .bsliceM _ xs | .mkfn _ xs => tmpsL xs
  | .store _ a x | .bin _ a x | .eq _ _ _ a x | .idx _ a x | .idxA _ _ a x | .indexS a x | .indexA _ _ _ a x | .min a x | .max a x | .append _ _ _ a x | .lookup _ _ a x | .copy _ a x => a.tmps ++ x.tmps
  | .mkslice _ _ _ _ a x | .mksliceM _ _ _ a x => a.tmps ++ x.tmps
  | .sliceS x lo hi => x.tmps ++ tmpsO lo ++ tmpsO hi
  | .slice _ x lo hi mx => x.tmps ++ tmpsO lo ++ tmpsO hi ++ tmpsO mx
  | .sliceA _ _ x lo hi => x.tmps ++ tmpsO lo ++ tmpsO hi
  | .call f xs => f.tmps ++ tmpsL xs
  | .update m k v => m.tmps ++ k.tmps ++ v.tmps

def AO.reads (o : AO) : List Nat := o.op.tmps ++ (match o.guard with | some (g, _) => [g] | none => [])

def apartA (x y : AO) : Bool :=
  (match x.dst with
   | some d => !y.reads.contains d && y.dst != some d
   | none => true) &&
  (match y.dst with
   | some d => !x.reads.contains d
   | none => true)

/-- All that an operation waits for stands before it. -/
def edgesOk (ops : Array Oper) : Bool := ops.toList.zipIdx.all fun p => p.1.after.toList.all fun e => !Region.binds .any e || decide (e.on < p.2)
/-- All pairs whose order is open name different slots. -/
def slotsOk (ops : Array Oper) (as : List AO) : Bool :=
  edgesOk ops &&
  let b := Region.before ops
  (List.range as.length).all fun j => (List.range j).all fun i => (b.getD j 0).testBit i || apartA (as.getD i default) (as.getD j default)

def compileC (P : Program) (mt : List String) (nt : Nat) : Code → AC
  | .skip => .skip
  | .region _ ops draw =>
    match compileOps P mt nt ops ops.toList 0 with
    | some (as, k) => if draw && !slotsOk ops as then .fail else .region as k draw (if draw then openPairs ops as else [])
    | none => .fail
  | .seq a b => .seq (compileC P mt nt a) (compileC P mt nt b)
  | .cond c a b =>
    match cx P 0 c with
    | some z => .cond z (compileC P mt nt a) (compileC P mt nt b)
    | none => .fail
  | .block id a => .block id (compileC P mt nt a)
  | .loop a => .loop (compileC P mt nt a)
  | .exit id => .exit id
  | .scope a => .scope (compileC P mt nt a)
  | .label l => .label l
  | .goto l => .goto l
  | .ret => .ret
  | _ => .fail

def compileR (P : Program) : ResultVar → Option ARes
  | .tmp t => some (.tmp t)
  | .cell a t => (ld P t).map (.cell a)
def compileRs (P : Program) : List ResultVar → Option (List ARes)
  | [] => some []
  | r :: rs =>
    match compileR P r, compileRs P rs with
    | some a, some as => some (a :: as)
    | _, _ => none

def compileFn (P : Program) (mt kp : List String) (fn : Func) : Option AF :=
  match fn.body with
  | some c =>
    match compileRs P fn.results.toList with
    | some rs => some ⟨compileC P mt fn.ntmps c, rs, kp.contains fn.name⟩
    | none => none
  | none => none

/-- The functions of a program, compiled. -/
def table (P : Program) (mt kp : List String) (f : FuncId) : Option AF :=
  match P.funcs[f]? with
  | some fn => if fn.name == "runtime.NumGoroutine" then none else compileFn P mt kp fn
  | none => none

end Go.Am
