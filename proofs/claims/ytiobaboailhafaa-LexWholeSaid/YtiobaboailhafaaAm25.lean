/-
  What each operation computes, as equations that simp applies to values in their shape (no 'match' is left open).
-/
import Derived.Test.YtiobaboailhafaaAm24
set_option linter.unusedVariables false
set_option linter.unusedSimpArgs false
namespace Go.Am
open Go

@[simp] theorem cast_succ_ne (n : Nat) : ((n : Int) + 1 = 0) = False := by
  apply propext
  exact ⟨fun h => by omega, fun h => h.elim⟩
/-! ### Places of rows that are written out -/
@[simp] theorem lget0 {α : Type} (a0 : α) (l : List α) : (a0 :: l)[0]? = some a0 := rfl
@[simp] theorem lget1 {α : Type} (a0 a1 : α) (l : List α) : (a0 :: a1 :: l)[1]? = some a1 := rfl
@[simp] theorem lget2 {α : Type} (a0 a1 a2 : α) (l : List α) : (a0 :: a1 :: a2 :: l)[2]? = some a2 := rfl
@[simp] theorem lget3 {α : Type} (a0 a1 a2 a3 : α) (l : List α) : (a0 :: a1 :: a2 :: a3 :: l)[3]? = some a3 := rfl
@[simp] theorem lget4 {α : Type} (a0 a1 a2 a3 a4 : α) (l : List α) : (a0 :: a1 :: a2 :: a3 :: a4 :: l)[4]? = some a4 := rfl
@[simp] theorem lget5 {α : Type} (a0 a1 a2 a3 a4 a5 : α) (l : List α) : (a0 :: a1 :: a2 :: a3 :: a4 :: a5 :: l)[5]? = some a5 := rfl
@[simp] theorem lget6 {α : Type} (a0 a1 a2 a3 a4 a5 a6 : α) (l : List α) : (a0 :: a1 :: a2 :: a3 :: a4 :: a5 :: a6 :: l)[6]? = some a6 := rfl
@[simp] theorem lget7 {α : Type} (a0 a1 a2 a3 a4 a5 a6 a7 : α) (l : List α) : (a0 :: a1 :: a2 :: a3 :: a4 :: a5 :: a6 :: a7 :: l)[7]? = some a7 := rfl
@[simp] theorem lget8 {α : Type} (a0 a1 a2 a3 a4 a5 a6 a7 a8 : α) (l : List α) : (a0 :: a1 :: a2 :: a3 :: a4 :: a5 :: a6 :: a7 :: a8 :: l)[8]? = some a8 := rfl
@[simp] theorem lget9 {α : Type} (a0 a1 a2 a3 a4 a5 a6 a7 a8 a9 : α) (l : List α) : (a0 :: a1 :: a2 :: a3 :: a4 :: a5 :: a6 :: a7 :: a8 :: a9 :: l)[9]? = some a9 := rfl
@[simp] theorem lget10 {α : Type} (a0 a1 a2 a3 a4 a5 a6 a7 a8 a9 a10 : α) (l : List α) : (a0 :: a1 :: a2 :: a3 :: a4 :: a5 :: a6 :: a7 :: a8 :: a9 :: a10 :: l)[10]? = some a10 := rfl
@[simp] theorem lget11 {α : Type} (a0 a1 a2 a3 a4 a5 a6 a7 a8 a9 a10 a11 : α) (l : List α) : (a0 :: a1 :: a2 :: a3 :: a4 :: a5 :: a6 :: a7 :: a8 :: a9 :: a10 :: a11 :: l)[11]? = some a11 := rfl

abbrev R2 := Option (AV × Heap)
section
variable {α : Type}
def dB (x : AV) (f : Bool → Option α) : Option α := match x with | .bool b => f b | _ => none
def dI (x : AV) (f : IntKind → Int → Option α) : Option α := match x with | .int k n => f k n | _ => none
def dS (x : AV) (f : List UInt8 → Option α) : Option α := match x with | .str l => f l | _ => none
def dG (x : AV) (f : List AV → Option α) : Option α := match x with | .agg cs => f cs | _ => none
def dT (x : AV) (f : List AV → Option α) : Option α := match x with | .tup cs => f cs | _ => none
def dF (x : AV) (f : FuncId → List AV → Option α) : Option α := match x with | .fn g cs => f g cs | _ => none
/-- A pointer: into the heap, or to what is protected. -/
def dP (x : AV) (f : Nat → Nat → Option α) (g : List AV → Option α) : Option α := match x with | .ptr b o => f b o | .eptr cs => g cs | _ => none
/-- The cells of a block. -/
def dC (x : Option AE) (f : List AV → Option α) : Option α := match x with | some (.cells cs) => f cs | _ => none
def dO {β : Type} (x : Option β) (f : β → Option α) : Option α := match x with | some v => f v | none => none
@[simp] theorem dB_bool (b : Bool) (f : Bool → Option α) : dB (.bool b) f = f b := rfl
@[simp] theorem dI_int (k : IntKind) (n : Int) (f : IntKind → Int → Option α) : dI (.int k n) f = f k n := rfl
@[simp] theorem dS_str (l : List UInt8) (f : List UInt8 → Option α) : dS (.str l) f = f l := rfl
@[simp] theorem dG_agg (cs : List AV) (f : List AV → Option α) : dG (.agg cs) f = f cs := rfl
@[simp] theorem dT_tup (cs : List AV) (f : List AV → Option α) : dT (.tup cs) f = f cs := rfl
@[simp] theorem dF_fn (g : FuncId) (cs : List AV) (f : FuncId → List AV → Option α) : dF (.fn g cs) f = f g cs := rfl
@[simp] theorem dP_ptr (b o : Nat) (f : Nat → Nat → Option α) (g : List AV → Option α) : dP (.ptr b o) f g = f b o := rfl
@[simp] theorem dP_eptr (cs : List AV) (f : Nat → Nat → Option α) (g : List AV → Option α) : dP (.eptr cs) f g = g cs := rfl
@[simp] theorem dC_cells (cs : List AV) (f : List AV → Option α) : dC (some (.cells cs)) f = f cs := rfl
@[simp] theorem dO_some {β : Type} (v : β) (f : β → Option α) : dO (some v) f = f v := rfl
@[simp] theorem dO_none {β : Type} (f : β → Option α) : dO none f = none := rfl
@[congr] theorem dB_congr {x y : AV} {f : Bool → Option α} (e : x = y) : dB x f = dB y f := by rw [e]
@[congr] theorem dI_congr {x y : AV} {f : IntKind → Int → Option α} (e : x = y) : dI x f = dI y f := by rw [e]
@[congr] theorem dS_congr {x y : AV} {f : List UInt8 → Option α} (e : x = y) : dS x f = dS y f := by rw [e]
@[congr] theorem dG_congr {x y : AV} {f : List AV → Option α} (e : x = y) : dG x f = dG y f := by rw [e]
@[congr] theorem dT_congr {x y : AV} {f : List AV → Option α} (e : x = y) : dT x f = dT y f := by rw [e]
@[congr] theorem dF_congr {x y : AV} {f : FuncId → List AV → Option α} (e : x = y) : dF x f = dF y f := by rw [e]
@[congr] theorem dP_congr {x y : AV} {f : Nat → Nat → Option α} {g : List AV → Option α} (e : x = y) : dP x f g = dP y f g := by rw [e]
@[congr] theorem dC_congr {x y : Option AE} {f : List AV → Option α} (e : x = y) : dC x f = dC y f := by rw [e]
@[congr] theorem dO_congr {β : Type} {x y : Option β} {f : β → Option α} (e : x = y) : dO x f = dO y f := by rw [e]
end


@[congr] theorem ev_congr {σ : Slots} {x y : AX} (e : x = y) : AX.ev σ x = AX.ev σ y := by rw [e]
@[simp] theorem put_some_apply (σ : Slots) (d : Nat) (v : AV) (i : Nat) : put σ (some d) v i = if i = d then v else σ i := rfl
@[simp] theorem put_none_apply (σ : Slots) (v : AV) (i : Nat) : put σ none v i = σ i := rfl

def nilV (x : AV) (h : Heap) : R2 := match x with | .ptr b o => some (.ptr b o, h) | .eptr cs => some (.eptr cs, h) | .fn f cs => some (.fn f cs, h) | _ => none
@[simp] theorem nilV_ptr (b o : Nat) (h : Heap) : nilV (.ptr b o) h = some (.ptr b o, h) := rfl
@[simp] theorem nilV_eptr (cs : List AV) (h : Heap) : nilV (.eptr cs) h = some (.eptr cs, h) := rfl
@[simp] theorem nilV_fn (f : FuncId) (cs : List AV) (h : Heap) : nilV (.fn f cs) h = some (.fn f cs, h) := rfl
def bytesV (x : AV) (h : Heap) : R2 :=
  match x with
  | .list s xs _ => if s = 1 ∨ xs = [] then (asBytes xs).map fun l => (.str l, h) else none
  | .sl s b o len _ => dC h[b]? fun cs => if s = 1 ∧ o + len ≤ cs.length then (asBytes ((cs.drop o).take len)).map fun l => (.str l, h) else none
  | .gl s b n =>
    match h[b]? with
    | some (.grow _ cs) => if s = 1 ∧ n ≤ cs.length then (asBytes (cs.take n)).map fun l => (.str l, h) else none
    | _ => none
  | _ => none
@[simp] theorem bytesV_list (s : Nat) (xs : List AV) (r : Rt) (h : Heap) : bytesV (.list s xs r) h = if s = 1 ∨ xs = [] then (asBytes xs).map fun l => (.str l, h) else none := rfl
@[simp] theorem bytesV_sl (s b o len c : Nat) (h : Heap) : bytesV (.sl s b o len c) h = dC h[b]? fun cs => if s = 1 ∧ o + len ≤ cs.length then (asBytes ((cs.drop o).take len)).map fun l => (.str l, h) else none := rfl
def dGrow {α : Type} (x : Option AE) (f : Nat → List AV → Option α) : Option α := match x with | some (.grow s cs) => f s cs | _ => none
@[simp] theorem dGrow_grow {α : Type} (s : Nat) (cs : List AV) (f : Nat → List AV → Option α) : dGrow (some (.grow s cs)) f = f s cs := rfl
@[congr] theorem dGrow_congr {α : Type} {x y : Option AE} {f : Nat → List AV → Option α} (e : x = y) : dGrow x f = dGrow y f := by rw [e]
@[simp] theorem bytesV_gl (s b n : Nat) (h : Heap) : bytesV (.gl s b n) h = dGrow h[b]? fun _ cs => if s = 1 ∧ n ≤ cs.length then (asBytes (cs.take n)).map fun l => (.str l, h) else none := rfl
def lenV (x : AV) : Option AV := match x with | .list _ xs _ => some (.int .i64 xs.length) | .sl _ _ _ n _ => some (.int .i64 n) | .gl _ _ n => some (.int .i64 n) | _ => none
@[simp] theorem lenV_list (s : Nat) (xs : List AV) (r : Rt) : lenV (.list s xs r) = some (.int .i64 xs.length) := rfl
@[simp] theorem lenV_sl (s b o n c : Nat) : lenV (.sl s b o n c) = some (.int .i64 n) := rfl
@[simp] theorem lenV_gl (s b n : Nat) : lenV (.gl s b n) = some (.int .i64 n) := rfl
def idxV (sz : Nat) (x : AV) (k : Int) : Option AV :=
  match x with
  | .list s xs _ => if s = sz ∧ 0 ≤ k then dO xs[k.toNat]? fun v => some (.eptr v.cells) else none
  | .sl s b o len _ => if s = sz ∧ 0 ≤ k ∧ k < (len : Int) then some (.ptr b (o + k.toNat * sz)) else none
  | _ => none
@[simp] theorem idxV_list (sz s : Nat) (xs : List AV) (r : Rt) (k : Int) : idxV sz (.list s xs r) k = if s = sz ∧ 0 ≤ k then dO xs[k.toNat]? fun v => some (.eptr v.cells) else none := rfl
@[simp] theorem idxV_sl (sz s b o len c : Nat) (k : Int) : idxV sz (.sl s b o len c) k = if s = sz ∧ 0 ≤ k ∧ k < (len : Int) then some (.ptr b (o + k.toNat * sz)) else none := rfl
@[congr] theorem idxV_congr {sz : Nat} {x y : AV} {j k : Int} (e : x = y) (e2 : j = k) : idxV sz x j = idxV sz y k := by rw [e, e2]

/-- A bound of a slice. -/
def bndV (v : Option AV) (y dflt : Nat) : Option Nat :=
  match v with
  | none => some dflt
  | some (.int _ i) => if 0 ≤ i ∧ i ≤ (y : Int) then some i.toNat else none
  | _ => none
theorem bnd_eq (σ : Slots) (v : Option AX) (y d : Nat) : bnd σ v y d = bndV (v.map (AX.ev σ)) y d := by
  cases v with
  | none => rfl
  | some x =>
    simp only [bnd, Option.map_some]
    cases x.ev σ <;> rfl
@[simp] theorem bndV_none (y d : Nat) : bndV none y d = some d := rfl
@[simp] theorem bndV_int (k : IntKind) (i : Int) (y d : Nat) : bndV (some (.int k i)) y d = if 0 ≤ i ∧ i ≤ (y : Int) then some i.toNat else none := rfl
def sliceV (sz : Nat) (x : AV) (lo hi mx : Option AV) : Option AV :=
  match x with
  | .list s xs r => dO (bndV mx xs.length xs.length) fun m => dO (bndV hi m xs.length) fun h => dO (bndV lo h 0) fun b => if s = sz then some (.list sz ((xs.take h).drop b) (sliceRt r (mx.isSome && decide (m = h)) b h xs.length)) else none
  | .sl s b off len cap => dO (bndV mx cap cap) fun m => dO (bndV hi m len) fun h => dO (bndV lo h 0) fun l => if s = sz then some (.sl sz b (if m = l then off else off + l * sz) (h - l) (m - l)) else none
  | .gl s b n =>
    match mx, lo with
    | none, none => dO (bndV hi n n) fun h => some (.gl s b h)
    | _, _ => none
  | _ => none
theorem sliceV_list (sz s : Nat) (xs : List AV) (r : Rt) (lo hi mx : Option AV) : sliceV sz (.list s xs r) lo hi mx = dO (bndV mx xs.length xs.length) fun m => dO (bndV hi m xs.length) fun h => dO (bndV lo h 0) fun b => if s = sz then some (.list sz ((xs.take h).drop b) (sliceRt r (mx.isSome && decide (m = h)) b h xs.length)) else none := rfl
@[simp] theorem sliceV_lo (sz s : Nat) (xs : List AV) (r : Rt) (lo : Option AV) : sliceV sz (.list s xs r) lo none none = dO (bndV lo xs.length 0) fun b => if s = sz then some (.list sz (xs.drop b) (sliceRt r false b xs.length xs.length)) else none := by simp [sliceV_list]
@[simp] theorem sliceV_hi (sz s : Nat) (xs : List AV) (r : Rt) (hi : AV) : sliceV sz (.list s xs r) none (some hi) none = dO (bndV (some hi) xs.length xs.length) fun h => if s = sz then some (.list sz (xs.take h) (sliceRt r false 0 h xs.length)) else none := by simp [sliceV_list]
@[simp] theorem sliceV_lohi (sz s : Nat) (xs : List AV) (r : Rt) (lo hi : AV) : sliceV sz (.list s xs r) (some lo) (some hi) none = dO (bndV (some hi) xs.length xs.length) fun h => dO (bndV (some lo) h 0) fun b => if s = sz then some (.list sz ((xs.take h).drop b) (sliceRt r false b h xs.length)) else none := by simp [sliceV_list]
@[simp] theorem sliceV_mx (sz s : Nat) (xs : List AV) (r : Rt) (lo hi : Option AV) (mx : AV) : sliceV sz (.list s xs r) lo hi (some mx) = dO (bndV (some mx) xs.length xs.length) fun m => dO (bndV hi m xs.length) fun h => dO (bndV lo h 0) fun b => if s = sz then some (.list sz ((xs.take h).drop b) (sliceRt r (decide (m = h)) b h xs.length)) else none := by simp [sliceV_list]
@[simp] theorem sliceV_sl (sz s b off len cap : Nat) (lo hi mx : Option AV) : sliceV sz (.sl s b off len cap) lo hi mx = dO (bndV mx cap cap) fun m => dO (bndV hi m len) fun h => dO (bndV lo h 0) fun l => if s = sz then some (.sl sz b (if m = l then off else off + l * sz) (h - l) (m - l)) else none := rfl
@[simp] theorem sliceV_gl (sz s b n : Nat) (hi : Option AV) : sliceV sz (.gl s b n) none hi none = dO (bndV hi n n) fun h => some (.gl s b h) := rfl

def indexSV (l : List UInt8) (k : Int) (h : Heap) : R2 := if 0 ≤ k then dO l[k.toNat]? fun b => some (.int .u8 b.toNat, h) else none

theorem eta2 {α : Type} (x : Option α) (f : α → R2) : (match x with | some v => f v | none => none) = dO x f := by cases x <;> rfl

/-! What comes behind an operation, closed to simp until its value is known. -/
def OpsK (O : CallO) (k0 : Nat) (r : List AO) (K : Slots → Heap → Prop) (σ : Slots) (d : Option Nat) (v : AV) (h : Heap) : Prop := OpsQ O k0 r K (put σ d v) h
@[simp] theorem OpsK_apply (O : CallO) (k0 : Nat) (r : List AO) (K : Slots → Heap → Prop) (σ : Slots) (d : Option Nat) (v : AV) (h : Heap) : OpsK O k0 r K σ d v h = OpsQ O k0 r K (put σ d v) h := rfl
def OpsG (O : CallO) (k0 : Nat) (d : Option Nat) (op : AOp) (w : Bool) (key : Nat) (r : List AO) (K : Slots → Heap → Prop) (σ : Slots) (h : Heap) (b : Bool) : Prop :=
  if b = w then onO (aop O σ h (k0 + key) op) (OpsK O k0 r K σ d) else OpsQ O k0 r K (put σ d (.tup [])) h
@[simp] theorem OpsG_apply (O : CallO) (k0 : Nat) (d : Option Nat) (op : AOp) (w : Bool) (key : Nat) (r : List AO) (K : Slots → Heap → Prop) (σ : Slots) (h : Heap) (b : Bool) : OpsG O k0 d op w key r K σ h b =
    if b = w then onO (aop O σ h (k0 + key) op) (OpsK O k0 r K σ d) else OpsQ O k0 r K (put σ d (.tup [])) h := rfl
@[simp] theorem OpsQ_cons' {O : CallO} {k0 : Nat} {d : Option Nat} {op : AOp} {key : Nat} {r : List AO} {K : Slots → Heap → Prop} {σ : Slots} {h : Heap} : OpsQ O k0 (⟨d, op, none, key⟩ :: r) K σ h = onO (aop O σ h (k0 + key) op) (OpsK O k0 r K σ d) := OpsQ_cons
@[simp] theorem OpsQ_consG' {O : CallO} {k0 : Nat} {d : Option Nat} {op : AOp} {g : Nat} {w : Bool} {key : Nat} {r : List AO} {K : Slots → Heap → Prop} {σ : Slots} {h : Heap} : OpsQ O k0 (⟨d, op, some (g, w), key⟩ :: r) K σ h = onG w (σ g) (OpsG O k0 d op w key r K σ h) := OpsQ_consG
def OpF (O : CallO) (k0 : Nat) (r : List AO) (fs : List Foot) (K : List Foot → Slots → Heap → Prop) (σ : Slots) (d : Option Nat) (g : Heap) (key : Nat) (op : AOp) (v : AV) (h : Heap) : Prop := Ops O k0 r (foot σ g h key op :: fs) K (put σ d v) h
@[simp] theorem OpF_apply (O : CallO) (k0 : Nat) (r : List AO) (fs : List Foot) (K : List Foot → Slots → Heap → Prop) (σ : Slots) (d : Option Nat) (g : Heap) (key : Nat) (op : AOp) (v : AV) (h : Heap) : OpF O k0 r fs K σ d g key op v h = Ops O k0 r (foot σ g h key op :: fs) K (put σ d v) h := rfl
def OpFG (O : CallO) (k0 : Nat) (d : Option Nat) (op : AOp) (w : Bool) (key : Nat) (r : List AO) (fs : List Foot) (K : List Foot → Slots → Heap → Prop) (σ : Slots) (h : Heap) (b : Bool) : Prop :=
  if b = w then onO (aop O σ h (k0 + key) op) (OpF O k0 r fs K σ d h (k0 + key) op) else Ops O k0 r (⟨some [], some []⟩ :: fs) K (put σ d (.tup [])) h
@[simp] theorem OpFG_apply (O : CallO) (k0 : Nat) (d : Option Nat) (op : AOp) (w : Bool) (key : Nat) (r : List AO) (fs : List Foot) (K : List Foot → Slots → Heap → Prop) (σ : Slots) (h : Heap) (b : Bool) : OpFG O k0 d op w key r fs K σ h b =
    if b = w then onO (aop O σ h (k0 + key) op) (OpF O k0 r fs K σ d h (k0 + key) op) else Ops O k0 r (⟨some [], some []⟩ :: fs) K (put σ d (.tup [])) h := rfl
@[simp] theorem Ops_cons' {O : CallO} {k0 : Nat} {d : Option Nat} {op : AOp} {key : Nat} {r : List AO} {fs : List Foot} {K : List Foot → Slots → Heap → Prop} {σ : Slots} {h : Heap} : Ops O k0 (⟨d, op, none, key⟩ :: r) fs K σ h = onO (aop O σ h (k0 + key) op) (OpF O k0 r fs K σ d h (k0 + key) op) := Ops_cons
@[simp] theorem Ops_consG' {O : CallO} {k0 : Nat} {d : Option Nat} {op : AOp} {g : Nat} {w : Bool} {key : Nat} {r : List AO} {fs : List Foot} {K : List Foot → Slots → Heap → Prop} {σ : Slots} {h : Heap} : Ops O k0 (⟨d, op, some (g, w), key⟩ :: r) fs K σ h = onG w (σ g) (OpFG O k0 d op w key r fs K σ h) := Ops_consG
def CondK (O : Orc) (a b : AC) (Q : Ex → Slots → Heap → Prop) (σ : Slots) (h : Heap) (t : Bool) : Prop := if t then Wp O a Q σ h else Wp O b Q σ h
@[simp] theorem CondK_apply (O : Orc) (a b : AC) (Q : Ex → Slots → Heap → Prop) (σ : Slots) (h : Heap) (t : Bool) : CondK O a b Q σ h t = if t then Wp O a Q σ h else Wp O b Q σ h := rfl
@[simp] theorem Wp_cond' {O : Orc} {c : AX} {a b : AC} {Q : Ex → Slots → Heap → Prop} {σ : Slots} {h : Heap} : Wp O (.cond c a b) Q σ h = onB (c.ev σ) (CondK O a b Q σ h) := Wp_cond

section
variable {O : CallO} {σ : Slots} {h : Heap} {k : Nat}
@[simp] theorem a_mv (x : AX) : aop O σ h k (.mv x) = some (x.ev σ, h) := rfl
@[simp] theorem a_nilchk (x : AX) : aop O σ h k (.nilchk x) = nilV (x.ev σ) h := rfl
@[simp] theorem a_pick (c a b : AX) : aop O σ h k (.pick c a b) = dB (c.ev σ) fun t => some (if t then a.ev σ else b.ev σ, h) := rfl
@[simp] theorem a_alloc (zs : List AV) : aop O σ h k (.alloc zs) = some (.ptr k 0, h.set k (.cells zs)) := rfl
@[simp] theorem a_box (n : Nat) (x : AX) : aop O σ h k (.box n x) = if (x.ev σ).cells.length = n then some (.ptr k 0, h.set k (.cells (x.ev σ).cells)) else none := rfl
@[simp] theorem a_build (zs : List AV) (parts : List (Nat × Nat × AX)) : aop O σ h k (.build zs parts) = dO (fillA zs (parts.map fun p => (p.1, p.2.1, p.2.2.ev σ))) fun cs => some (.agg cs, h) := by
  simp only [aop]
  cases fillA zs (parts.map fun p => (p.1, p.2.1, p.2.2.ev σ)) <;> rfl
open Classical in
@[simp] theorem a_bslice (sz : Nat) (parts : List AX) : aop O σ h k (.bslice sz parts) = if ∀ p ∈ parts, (p.ev σ).cells.length = sz then some (.list sz (parts.map (·.ev σ)) .full, h) else none := rfl
open Classical in
@[simp] theorem a_bsliceM (sz : Nat) (parts : List AX) : aop O σ h k (.bsliceM sz parts) = if ∀ p ∈ parts, (p.ev σ).cells.length = sz then
      some (.sl sz k 0 parts.length parts.length, h.set k (.cells (parts.flatMap fun p => (p.ev σ).cells))) else none := rfl
@[simp] theorem a_load (sz : Option Nat) (x : AX) : aop O σ h k (.load sz x) = dP (x.ev σ) (fun b o => dC h[b]? fun cs => (loadA sz cs o).map (·, h)) (fun cs => (loadA sz cs 0).map (·, h)) := rfl
@[simp] theorem a_store (sz : Nat) (a x : AX) : aop O σ h k (.store sz a x) = dP (a.ev σ) (fun b o => dC h[b]? fun cs =>
    if (x.ev σ).cells.length = sz ∧ o + sz ≤ cs.length then some (.junk, h.set b (.cells (cs.take o ++ (x.ev σ).cells ++ cs.drop (o + sz)))) else none) (fun _ => none) := by
  simp only [aop, dP]
  cases a.ev σ <;> rfl
@[simp] theorem a_bin (op : BinOp) (x y : AX) : aop O σ h k (.bin op x y) = (abin op (x.ev σ) (y.ev σ)).map (·, h) := rfl
@[simp] theorem a_eq (ng : Bool) (ag : Option Nat) (offs : List (Nat × LK)) (x y : AX) : aop O σ h k (.eq ng ag offs x y) = (eqV ag offs (x.ev σ) (y.ev σ)).map fun b => (.bool (if ng then !b else b), h) := rfl
@[simp] theorem a_neg (x : AX) : aop O σ h k (.neg x) = dI (x.ev σ) fun j n => some (.int j (j.wrap (0 - n)), h) := rfl
@[simp] theorem a_not (x : AX) : aop O σ h k (.not x) = dB (x.ev σ) fun b => some (.bool (!b), h) := rfl
@[simp] theorem a_cvInt (j : IntKind) (x : AX) : aop O σ h k (.cvInt j x) = dI (x.ev σ) fun _ n => some (.int j (j.wrap n), h) := rfl
@[simp] theorem a_cvStrBytes (e : TypeId) (x : AX) : aop O σ h k (.cvStrBytes e x) = dS (x.ev σ) fun l => some (.list 1 (ofBytes l) (.tok k), h.set k (.tok 1 l.length e)) := rfl
@[simp] theorem a_cvStr (x : AX) : aop O σ h k (.cvStr x) = dS (x.ev σ) fun l => some (.str l, h) := rfl
@[simp] theorem a_cvStrBytesM (x : AX) : aop O σ h k (.cvStrBytesM x) = dS (x.ev σ) fun l => some (.gl 1 k l.length, h.set k (.grow 1 (ofBytes l))) := rfl
def markV (x : AV) (h : Heap) : R2 :=
  match x with
  | .list sz xs (.tok t) =>
    match h[t]? with
    | some (.tok _ _ _) => some (.list sz xs (.tok t), h)
    | _ => none
  | _ => none
@[simp] theorem a_cvMark (x : AX) : aop O σ h k (.cvMark x) = markV (x.ev σ) h := rfl
def markV2 (sz : Nat) (xs : List AV) (t : Nat) (x : Option AE) (h : Heap) : R2 := match x with | some (.tok _ _ _) => some (.list sz xs (.tok t), h) | _ => none
@[simp] theorem markV_tok (sz : Nat) (xs : List AV) (t : Nat) (h : Heap) : markV (.list sz xs (.tok t)) h = markV2 sz xs t h[t]? h := rfl
@[simp] theorem markV2_tok (sz : Nat) (xs : List AV) (t a b c : Nat) (h : Heap) : markV2 sz xs t (some (.tok a b c)) h = some (.list sz xs (.tok t), h) := rfl
@[simp] theorem a_fail : aop O σ h k .fail = none := rfl
@[simp] theorem a_cvBytesStr (x : AX) : aop O σ h k (.cvBytesStr x) = bytesV (x.ev σ) h := by
  simp only [aop, bytesV]
  cases x.ev σ <;> rfl
@[simp] theorem a_cvIntStr (x : AX) : aop O σ h k (.cvIntStr x) = dI (x.ev σ) fun _ n => some (.str (Utf8.encode n).data.toList, h) := rfl
@[simp] theorem a_mkfn (f : FuncId) (caps : List AX) : aop O σ h k (.mkfn f caps) = some (.fn f (caps.map (·.ev σ)), h) := rfl
def d64 {α : Type} (x : AV) (f : Int → Option α) : Option α := match x with | .int .i64 n => f n | _ => none
@[simp] theorem d64_int {α : Type} (n : Int) (f : Int → Option α) : d64 (.int .i64 n) f = f n := rfl
@[congr] theorem d64_congr {α : Type} {x y : AV} {f : Int → Option α} (e : x = y) : d64 x f = d64 y f := by rw [e]
@[simp] theorem a_mkslice (z : AV) (sz bytes : Nat) (e : TypeId) (len cap : AX) : aop O σ h k (.mkslice z sz bytes e len cap) = d64 (len.ev σ) fun n => d64 (cap.ev σ) fun c =>
    if 0 ≤ n ∧ n ≤ c ∧ c * bytes ≤ 70368744177664 ∧ c ≤ 70368744177664 then
      if n = c then some (.list sz (List.replicate n.toNat z) .full, h) else some (.list sz (List.replicate n.toNat z) (.tok k), h.set k (.tok sz n.toNat e)) else none := by
  simp only [aop, d64]
  split
  · rename_i e1 e2
    rw [e1, e2]
  · rename_i hn
    split
    · rename_i n e1
      split
      · rename_i c e2
        exact absurd e2 (hn n c e1)
      · rfl
    · rfl
@[simp] theorem a_mksliceM (zs : List AV) (sz bytes : Nat) (len cap : AX) : aop O σ h k (.mksliceM zs sz bytes len cap) = d64 (len.ev σ) fun n => d64 (cap.ev σ) fun c =>
    if 0 ≤ n ∧ n ≤ c ∧ c * bytes ≤ 70368744177664 ∧ c ≤ 70368744177664 then
      some (.sl sz k 0 n.toNat c.toNat, h.set k (.cells (List.replicate c.toNat zs).flatten)) else none := by
  simp only [aop, d64]
  split
  · rename_i e1 e2
    rw [e1, e2]
  · rename_i hn
    split
    · rename_i n e1
      split
      · rename_i c e2
        exact absurd e2 (hn n c e1)
      · rfl
    · rfl
@[simp] theorem a_sliceS (x : AX) (lo hi : Option AX) : aop O σ h k (.sliceS x lo hi) = dS (x.ev σ) fun l => dO (bndV (hi.map (AX.ev σ)) l.length l.length) fun hh => dO (bndV (lo.map (AX.ev σ)) hh 0) fun b => some (.str ((l.take hh).drop b), h) := by
  simp only [aop, asliceS, dS]
  cases x.ev σ <;> try rfl
  rename_i l
  simp only [bnd_eq]
  cases bndV (hi.map (AX.ev σ)) l.length l.length with
  | none => rfl
  | some hh => 
    simp only [dO]
    cases bndV (lo.map (AX.ev σ)) hh 0 <;> rfl
@[simp] theorem a_sliceS_lo (x y : AX) : aop O σ h k (.sliceS x (some y) none) = dS (x.ev σ) fun l => dO (bndV (some (y.ev σ)) l.length 0) fun b => some (.str (l.drop b), h) := by
  rw [a_sliceS]
  congr 1
  funext l
  simp
@[simp] theorem a_slice (sz : Nat) (x : AX) (lo hi mx : Option AX) : aop O σ h k (.slice sz x lo hi mx) = (sliceV sz (x.ev σ) (lo.map (AX.ev σ)) (hi.map (AX.ev σ)) (mx.map (AX.ev σ))).map (·, h) := by
  simp only [aop, aslice]
  congr 1
  cases x.ev σ <;> try rfl
  · rename_i s xs r
    simp only [bnd_eq, sliceV]
    cases bndV (mx.map (AX.ev σ)) xs.length xs.length with
    | none => rfl
    | some m =>
      simp only [dO]
      cases bndV (hi.map (AX.ev σ)) m xs.length with
      | none => rfl
      | some hh =>
        simp only
        cases bndV (lo.map (AX.ev σ)) hh 0 with
        | none => rfl
        | some b => cases mx <;> rfl
  · rename_i s b off len cap
    simp only [bnd_eq, sliceV]
    cases bndV (mx.map (AX.ev σ)) cap cap with
    | none => rfl
    | some m =>
      simp only [dO]
      cases bndV (hi.map (AX.ev σ)) m len with
      | none => rfl
      | some hh =>
        simp only
        cases bndV (lo.map (AX.ev σ)) hh 0 <;> rfl
  · rename_i s b n
    cases mx with
    | some _ => rfl
    | none =>
      cases lo with
      | some _ => rfl
      | none =>
        simp only [bnd_eq, sliceV, Option.map_none]
        cases bndV (hi.map (AX.ev σ)) n n <;> rfl
@[simp] theorem a_sliceA (sz n : Nat) (x : AX) (lo hi : Option AX) : aop O σ h k (.sliceA sz n x lo hi) = dP (x.ev σ) (fun b o => dO (bndV (hi.map (AX.ev σ)) n n) fun hh => dO (bndV (lo.map (AX.ev σ)) hh 0) fun l => some (.sl sz b (if n = l then o else o + l * sz) (hh - l) (n - l), h)) (fun _ => none) := by
  simp only [aop, dP]
  cases x.ev σ <;> try rfl
  simp only [bnd_eq]
  cases bndV (hi.map (AX.ev σ)) n n with
  | none => rfl
  | some hh =>
    simp only [dO]
    cases bndV (lo.map (AX.ev σ)) hh 0 <;> rfl
@[simp] theorem a_off (n : Nat) (x : AX) : aop O σ h k (.off n x) = dP (x.ev σ) (fun b o => some (.ptr b (o + n), h)) (fun cs => some (.eptr (cs.drop n), h)) := rfl
@[simp] theorem a_idx (sz : Nat) (x i : AX) : aop O σ h k (.idx sz x i) = dI (i.ev σ) fun _ j => (idxV sz (x.ev σ) j).map (·, h) := by
  simp only [aop, dI]
  cases hx : x.ev σ <;> cases hi : i.ev σ <;> try rfl
  · rename_i s xs r kk j
    simp only [idxV]
    split
    · cases xs[j.toNat]? <;> rfl
    · rfl
  · simp only [idxV]
    split <;> rfl
@[simp] theorem a_idxA (sz n : Nat) (x i : AX) : aop O σ h k (.idxA sz n x i) = dI (i.ev σ) fun _ j => dP (x.ev σ) (fun b o => if 0 ≤ j ∧ j < (n : Int) then some (.ptr b (o + j.toNat * sz), h) else none) (fun cs => if 0 ≤ j ∧ j < (n : Int) then some (.eptr (cs.drop (j.toNat * sz)), h) else none) := by
  simp only [aop, dI, dP]
  cases hx : x.ev σ <;> cases hi : i.ev σ <;> rfl
@[simp] theorem a_field (o : Nat) (sz : Option Nat) (x : AX) : aop O σ h k (.field o sz x) = dG (x.ev σ) fun cs => (loadA sz cs o).map (·, h) := rfl
@[simp] theorem a_indexS (x i : AX) : aop O σ h k (.indexS x i) = dS (x.ev σ) fun l => dI (i.ev σ) fun _ j => if 0 ≤ j then dO l[j.toNat]? fun b => some (.int .u8 b.toNat, h) else none := by
  simp only [aop, dS, dI]
  cases hx : x.ev σ <;> cases hi : i.ev σ <;> try rfl
  rename_i l kk j
  simp only
  split
  · cases l[j.toNat]? <;> rfl
  · rfl
@[simp] theorem a_indexA (sz : Option Nat) (esz n : Nat) (x i : AX) : aop O σ h k (.indexA sz esz n x i) = dG (x.ev σ) fun cs => dI (i.ev σ) fun _ j => if 0 ≤ j ∧ j < (n : Int) then (loadA sz cs (j.toNat * esz)).map (·, h) else none := by
  simp only [aop, dG, dI]
  cases hx : x.ev σ <;> cases hi : i.ev σ <;> rfl
@[simp] theorem a_lenS (x : AX) : aop O σ h k (.lenS x) = dS (x.ev σ) fun l => some (.int .i64 l.length, h) := rfl
@[simp] theorem a_len (x : AX) : aop O σ h k (.len x) = (lenV (x.ev σ)).map (·, h) := by
  simp only [aop, lenV]
  cases x.ev σ <;> rfl
@[simp] theorem a_min (x y : AX) : aop O σ h k (.min x y) = dI (x.ev σ) fun j a => dI (y.ev σ) fun _ b => some (.int j (if b < a then b else a), h) := by
  simp only [aop, dI]
  cases x.ev σ <;> cases y.ev σ <;> rfl
@[simp] theorem a_max (x y : AX) : aop O σ h k (.max x y) = dI (x.ev σ) fun j a => dI (y.ev σ) fun _ b => some (.int j (if a < b then b else a), h) := by
  simp only [aop, dI]
  cases x.ev σ <;> cases y.ev σ <;> rfl
@[simp] theorem a_append (sz bytes : Nat) (e : TypeId) (s x : AX) : aop O σ h k (.append sz bytes e s x) = appA h k sz bytes e (s.ev σ) (x.ev σ) := rfl
@[simp] theorem a_call (f : AX) (args : List AX) : aop O σ h k (.call f args) = dF (f.ev σ) fun g caps => O g (args.map (·.ev σ) ++ caps) h := rfl
@[simp] theorem a_ext (x : AX) (i : Nat) : aop O σ h k (.ext x i) = dT (x.ev σ) fun vs => vs[i]?.map (·, h) := rfl
@[simp] theorem a_mkiface (t : TypeId) (x : AX) : aop O σ h k (.mkiface t x) = some (.iface t (x.ev σ), h) := rfl
def dMap {α : Type} (x : Option AE) (f : List (AV × AV) → Option α) : Option α := match x with | some (.amap es) => f es | _ => none
@[simp] theorem dMap_amap {α : Type} (es : List (AV × AV)) (f : List (AV × AV) → Option α) : dMap (some (.amap es)) f = f es := rfl
@[congr] theorem dMap_congr {α : Type} {x y : Option AE} {f : List (AV × AV) → Option α} (e : x = y) : dMap x f = dMap y f := by rw [e]
@[simp] theorem a_mkmap : aop O σ h k .mkmap = some (.map k, h.set k (.amap [])) := rfl
def lookV (z : AV) (ok : Bool) (x : Option (Option (Nat × AV))) (h : Heap) : R2 :=
  match x with
  | some (some (_, v)) => some (if ok then .tup [v, .bool true] else v, h)
  | some none => some (if ok then .tup [z, .bool false] else z, h)
  | none => none
@[simp] theorem lookV_some (z : AV) (ok : Bool) (i : Nat) (v : AV) (h : Heap) : lookV z ok (some (some (i, v))) h = some (if ok then .tup [v, .bool true] else v, h) := rfl
@[simp] theorem lookV_none (z : AV) (ok : Bool) (h : Heap) : lookV z ok (some none) h = some (if ok then .tup [z, .bool false] else z, h) := rfl
def lookupV (z : AV) (ok : Bool) (m k : AV) (h : Heap) : R2 :=
  match m with
  | .map b => dMap h[b]? fun es => lookV z ok (mapFind k es 0) h
  | .nilm => some (if ok then .tup [z, .bool false] else z, h)
  | _ => none
@[simp] theorem lookupV_map (z : AV) (ok : Bool) (b : Nat) (k : AV) (h : Heap) : lookupV z ok (.map b) k h = dMap h[b]? fun es => lookV z ok (mapFind k es 0) h := rfl
@[simp] theorem lookupV_nil (z : AV) (ok : Bool) (k : AV) (h : Heap) : lookupV z ok .nilm k h = some (if ok then .tup [z, .bool false] else z, h) := rfl
@[simp] theorem a_lookup (z : AV) (ok : Bool) (m x : AX) : aop O σ h k (.lookup z ok m x) = lookupV z ok (m.ev σ) (x.ev σ) h := by
  simp only [aop, lookupV]
  cases m.ev σ <;> rfl
end

section
variable {O : CallO} {σ : Slots} {h : Heap} {k : Nat}
@[simp] theorem a_rangeS (x : AX) : aop O σ h k (.rangeS x) = dS (x.ev σ) fun l => some (.it k, h.set k (.siter l 0)) := rfl
def dIt {α : Type} (x : Option AE) (f : List UInt8 → Nat → Option α) : Option α := match x with | some (.siter l p) => f l p | _ => none
@[simp] theorem dIt_siter {α : Type} (l : List UInt8) (p : Nat) (f : List UInt8 → Nat → Option α) : dIt (some (.siter l p)) f = f l p := rfl
@[congr] theorem dIt_congr {α : Type} {x y : Option AE} {f : List UInt8 → Nat → Option α} (e : x = y) : dIt x f = dIt y f := by rw [e]
def nextV (x : AV) (h : Heap) : R2 :=
  match x with
  | .it b => dIt h[b]? fun l p => if p < l.length then some (.tup [.bool true, .int .i64 p, .int .i32 (Utf8.decode ⟨⟨l⟩⟩ p).1], h.set b (.siter l (p + (Utf8.decode ⟨⟨l⟩⟩ p).2))) else some (.tup [.bool false], h)
  | _ => none
@[simp] theorem nextV_it (b : Nat) (h : Heap) : nextV (.it b) h = dIt h[b]? fun l p => if p < l.length then some (.tup [.bool true, .int .i64 p, .int .i32 (Utf8.decode ⟨⟨l⟩⟩ p).1], h.set b (.siter l (p + (Utf8.decode ⟨⟨l⟩⟩ p).2))) else some (.tup [.bool false], h) := rfl
@[simp] theorem a_next (x : AX) : aop O σ h k (.next x) = nextV (x.ev σ) h := by
  simp only [aop, nextV]
  cases x.ev σ <;> rfl
end

/-! ### Cells of values in their shape -/
@[simp] theorem cells_int (k : IntKind) (n : Int) : (AV.int k n).cells = [.int k n] := rfl
@[simp] theorem cells_bool (b : Bool) : (AV.bool b).cells = [.bool b] := rfl
@[simp] theorem cells_str (l : List UInt8) : (AV.str l).cells = [.str l] := rfl
@[simp] theorem cells_nilp : AV.nilp.cells = [.nilp] := rfl
@[simp] theorem cells_nili : AV.nili.cells = [.nili] := rfl
@[simp] theorem cells_nilf : AV.nilf.cells = [.nilf] := rfl
@[simp] theorem cells_nilm : AV.nilm.cells = [.nilm] := rfl
@[simp] theorem cells_agg (cs : List AV) : (AV.agg cs).cells = cs := rfl
@[simp] theorem cells_list (s : Nat) (xs : List AV) (r : Rt) : (AV.list s xs r).cells = [.list s xs r] := rfl
@[simp] theorem cells_ptr (b o : Nat) : (AV.ptr b o).cells = [.ptr b o] := rfl
@[simp] theorem cells_eptr (cs : List AV) : (AV.eptr cs).cells = [.eptr cs] := rfl
@[simp] theorem cells_sl (s b o n c : Nat) : (AV.sl s b o n c).cells = [.sl s b o n c] := rfl
@[simp] theorem cells_gl (s b n : Nat) : (AV.gl s b n).cells = [.gl s b n] := rfl
@[simp] theorem cells_fn (f : FuncId) (cs : List AV) : (AV.fn f cs).cells = [.fn f cs] := rfl
@[simp] theorem cells_map (b : Nat) : (AV.map b).cells = [.map b] := rfl
@[simp] theorem cells_iface (t : TypeId) (v : AV) : (AV.iface t v).cells = [.iface t v] := rfl

/-! ### Equality of cells -/
def and2 (a b : Option Bool) : Option Bool := match a, b with | some b, some c => some (b && c) | _, _ => none
@[simp] theorem and2_some (b c : Bool) : and2 (some b) (some c) = some (b && c) := rfl
theorem eqs_nil (xs ys : List AV) : eqs [] xs ys = some true := rfl
theorem eqs_cons (o : Nat × LK) (r : List (Nat × LK)) (xs ys : List AV) : eqs (o :: r) xs ys = dO xs[o.1]? fun x => dO ys[o.1]? fun y => and2 (eqLeaf o.2 x y) (eqs r xs ys) := by
  conv => lhs; unfold eqs
  unfold dO and2
  cases xs[o.1]? <;> cases ys[o.1]? <;> rfl
@[simp] theorem eqLeaf_int (k : IntKind) (a b : Int) : eqLeaf .int (.int k a) (.int k b) = some (decide (a = b)) := by
  simp only [eqLeaf, if_true]
  congr
@[simp] theorem eqLeaf_bool (a b : Bool) : eqLeaf .bool (.bool a) (.bool b) = some (decide (a = b)) := by
  cases a <;> cases b <;> rfl
@[simp] theorem eqLeaf_str (a b : List UInt8) : eqLeaf .str (.str a) (.str b) = some (decide (a = b)) := by
  simp only [eqLeaf]
  congr
  by_cases e : a = b
  · subst e; simp
  · simp [e]
@[simp] theorem eqLeaf_pp : eqLeaf .ptr .nilp .nilp = some true := rfl
@[simp] theorem eqLeaf_p1 (b o : Nat) : eqLeaf .ptr .nilp (.ptr b o) = some false := rfl
@[simp] theorem eqLeaf_p2 (b o : Nat) : eqLeaf .ptr (.ptr b o) .nilp = some false := rfl
@[simp] theorem eqLeaf_p3 (cs : List AV) : eqLeaf .ptr .nilp (.eptr cs) = some false := rfl
@[simp] theorem eqLeaf_p4 (cs : List AV) : eqLeaf .ptr (.eptr cs) .nilp = some false := rfl
@[simp] theorem eqLeaf_ii : eqLeaf .iface .nili .nili = some true := rfl
@[simp] theorem eqLeaf_i1 (t : TypeId) (v : AV) : eqLeaf .iface .nili (.iface t v) = some false := rfl
@[simp] theorem eqLeaf_i2 (t : TypeId) (v : AV) : eqLeaf .iface (.iface t v) .nili = some false := rfl
@[simp] theorem eqLeaf_f1 (f : FuncId) (cs : List AV) : eqLeaf .func .nilf (.fn f cs) = some false := rfl
@[simp] theorem eqLeaf_f2 (f : FuncId) (cs : List AV) : eqLeaf .func (.fn f cs) .nilf = some false := rfl
@[simp] theorem eqV_agg (n : Nat) (offs : List (Nat × LK)) (cs ds : List AV) : eqV (some n) offs (.agg cs) (.agg ds) = if cs.length = n ∧ ds.length = n then eqs offs cs ds else none := rfl
@[simp] theorem eqV_one (offs : List (Nat × LK)) (x y : AV) : eqV none offs x y = eqs offs [x] [y] := rfl
attribute [simp] eqs_nil eqs_cons

/-! ### What goes out of a call -/
@[simp] theorem clean1_int (h : Heap) (n : Nat) (k : IntKind) (i : Int) : clean1 h n (.int k i) = some (.int k i) := by simp [clean1, AV.low]
@[simp] theorem clean1_bool (h : Heap) (n : Nat) (b : Bool) : clean1 h n (.bool b) = some (.bool b) := by simp [clean1, AV.low]
@[simp] theorem clean1_str (h : Heap) (n : Nat) (l : List UInt8) : clean1 h n (.str l) = some (.str l) := by simp [clean1, AV.low]
@[simp] theorem clean1_nilp (h : Heap) (n : Nat) : clean1 h n .nilp = some .nilp := by simp [clean1, AV.low]
@[simp] theorem clean1_nili (h : Heap) (n : Nat) : clean1 h n .nili = some .nili := by simp [clean1, AV.low]
@[simp] theorem clean1_nilf (h : Heap) (n : Nat) : clean1 h n .nilf = some .nilf := by simp [clean1, AV.low]
@[simp] theorem clean1_nilm (h : Heap) (n : Nat) : clean1 h n .nilm = some .nilm := by simp [clean1, AV.low]
open Classical in
@[simp] theorem clean1_no (h : Heap) (n sz : Nat) (xs : List AV) : clean1 h n (.list sz xs .no) = if AV.lows n xs then some (.list sz xs .no) else none := by simp only [clean1]
open Classical in
@[simp] theorem clean1_full (h : Heap) (n sz : Nat) (xs : List AV) : clean1 h n (.list sz xs .full) = if AV.lows n xs then some (.list sz xs .full) else none := by simp only [clean1]
open Classical in
@[simp] theorem clean1_tok (h : Heap) (n sz : Nat) (xs : List AV) (t : Nat) : clean1 h n (.list sz xs (.tok t)) = if AV.lows n xs then some (.list sz xs (if t < n then .tok t else .no)) else none := by simp only [clean1]
theorem cleans_cons (h : Heap) (n : Nat) (v : AV) (vs : List AV) : cleans h n (v :: vs) = dO (clean1 h n v) fun v' => dO (cleans h n vs) fun vs' => some (v' :: vs') := by
  simp only [cleans, dO]
  cases clean1 h n v <;> cases cleans h n vs <;> rfl
theorem cleans2_cons (h : Heap) (n : Nat) (v : AV) (vs : List AV) : cleans2 h n (v :: vs) = dO (clean2 h n v) fun v' => dO (cleans2 h n vs) fun vs' => some (v' :: vs') := by
  simp only [cleans2, dO]
  cases clean2 h n v <;> cases cleans2 h n vs <;> rfl
@[simp] theorem clean2_agg (h : Heap) (n : Nat) (cs : List AV) : clean2 h n (.agg cs) = (cleans h n cs).map .agg := rfl
@[simp] theorem clean2_int (h : Heap) (n : Nat) (k : IntKind) (i : Int) : clean2 h n (.int k i) = some (.int k i) := by simp [clean2]
@[simp] theorem clean2_bool (h : Heap) (n : Nat) (b : Bool) : clean2 h n (.bool b) = some (.bool b) := by simp [clean2]
@[simp] theorem clean2_str (h : Heap) (n : Nat) (l : List UInt8) : clean2 h n (.str l) = some (.str l) := by simp [clean2]
@[simp] theorem clean2_list (h : Heap) (n sz : Nat) (xs : List AV) (r : Rt) : clean2 h n (.list sz xs r) = clean1 h n (.list sz xs r) := rfl
@[simp] theorem clean2_sl (h : Heap) (n s b o m c : Nat) : clean2 h n (.sl s b o m c) = clean1 h n (.sl s b o m c) := rfl
@[simp] theorem clean2_nilp (h : Heap) (n : Nat) : clean2 h n .nilp = some .nilp := by simp [clean2]
@[simp] theorem clean2_nili (h : Heap) (n : Nat) : clean2 h n .nili = some .nili := by simp [clean2]
@[simp] theorem clean2_iface (h : Heap) (n : Nat) (t : TypeId) (v : AV) : clean2 h n (.iface t v) = clean1 h n (.iface t v) := rfl
@[simp] theorem clean2_fn (h : Heap) (n : Nat) (f : FuncId) (cs : List AV) : clean2 h n (.fn f cs) = clean1 h n (.fn f cs) := rfl
@[simp] theorem clean2_ptr (h : Heap) (n b o : Nat) : clean2 h n (.ptr b o) = clean1 h n (.ptr b o) := rfl
open Classical in
@[simp] theorem clean1_iface (h : Heap) (n : Nat) (t : TypeId) (v : AV) : clean1 h n (.iface t v) = if (AV.iface t v).low n then some (.iface t v) else none := by simp only [clean1]
open Classical in
@[simp] theorem clean1_fn (h : Heap) (n : Nat) (f : FuncId) (cs : List AV) : clean1 h n (.fn f cs) = if (AV.fn f cs).low n then some (.fn f cs) else none := by simp only [clean1]
@[simp] theorem clean1_ptr (h : Heap) (n b o : Nat) : clean1 h n (.ptr b o) = if b < n then some (.ptr b o) else none := by
  have hl : (AV.ptr b o).low n ↔ b < n := Iff.rfl
  simp only [clean1]
  by_cases e : (AV.ptr b o).low n
  · rw [if_pos e, if_pos (hl.1 e)]
  · rw [if_neg e, if_neg fun x => e (hl.2 x)]
@[simp] theorem clean_tup (h : Heap) (n : Nat) (vs : List AV) : clean h n (.tup vs) = (cleans2 h n vs).map .tup := rfl
@[simp] theorem clean_agg (h : Heap) (n : Nat) (cs : List AV) : clean h n (.agg cs) = (cleans h n cs).map .agg := rfl
@[simp] theorem clean_int (h : Heap) (n : Nat) (k : IntKind) (i : Int) : clean h n (.int k i) = some (.int k i) := by simp [clean]
@[simp] theorem clean_bool (h : Heap) (n : Nat) (b : Bool) : clean h n (.bool b) = some (.bool b) := by simp [clean]
@[simp] theorem clean_str (h : Heap) (n : Nat) (l : List UInt8) : clean h n (.str l) = some (.str l) := by simp [clean]
@[simp] theorem clean_list (h : Heap) (n sz : Nat) (xs : List AV) (r : Rt) : clean h n (.list sz xs r) = clean1 h n (.list sz xs r) := rfl
@[simp] theorem clean_fn (h : Heap) (n : Nat) (f : FuncId) (cs : List AV) : clean h n (.fn f cs) = clean1 h n (.fn f cs) := rfl
@[simp] theorem clean_ptr (h : Heap) (n b o : Nat) : clean h n (.ptr b o) = clean1 h n (.ptr b o) := rfl
@[simp] theorem clean_sl (h : Heap) (n s b o m c : Nat) : clean h n (.sl s b o m c) = clean1 h n (.sl s b o m c) := rfl
@[simp] theorem cleans_nil (h : Heap) (n : Nat) : cleans h n [] = some [] := rfl
@[simp] theorem cleans2_nil (h : Heap) (n : Nat) : cleans2 h n [] = some [] := rfl
attribute [simp] cleans_cons cleans2_cons

/-! ### Results -/
@[simp] theorem resVal_tmp (σ : Slots) (h : Heap) (t : Nat) : resVal σ h (.tmp t) = some (σ t) := rfl
@[simp] theorem resVal_cell (σ : Slots) (h : Heap) (t : Nat) (sz : Option Nat) : resVal σ h (.cell t sz) = dP (σ t) (fun b o => dC h[b]? fun cs => loadA sz cs o) (fun _ => none) := by
  simp only [resVal, dP]
  cases σ t <;> rfl
@[congr] theorem resVal_congr {σ : Slots} {h h' : Heap} {x : ARes} (e : h = h') : resVal σ h x = resVal σ h' x := by rw [e]
@[congr] theorem resVals_congr {σ : Slots} {h h' : Heap} {x : List ARes} (e : h = h') : resVals σ h x = resVals σ h' x := by rw [e]
@[simp] theorem resVals_nil (σ : Slots) (h : Heap) : resVals σ h [] = some [] := rfl
@[simp] theorem resVals_cons (σ : Slots) (h : Heap) (r : ARes) (rs : List ARes) : resVals σ h (r :: rs) = dO (resVal σ h r) fun v => dO (resVals σ h rs) fun vs => some (v :: vs) := by
  simp only [resVals, dO]
  cases resVal σ h r <;> cases resVals σ h rs <;> rfl
@[simp] theorem oneOf_one (v : AV) : oneOf [v] = v := rfl
@[simp] theorem oneOf_none : oneOf [] = .tup [] := rfl
@[simp] theorem oneOf_two (a b : AV) (l : List AV) : oneOf (a :: b :: l) = .tup (a :: b :: l) := rfl
end Go.Am
