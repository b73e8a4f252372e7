/-
  What an operation hangs on: the slots that it names, and the places of the heap that it looks at; two operations that don't meet may change places.
-/
import Derived.Test.YtiobaboailhafaaAm1
set_option linter.unusedVariables false
set_option linter.unusedSimpArgs false
namespace Go.Am
open Go

def Agree (l : List Nat) (σ τ : Slots) : Prop := ∀ t ∈ l, σ t = τ t

theorem ev_agree {σ τ : Slots} {x : AX} (h : Agree x.tmps σ τ) : x.ev σ = x.ev τ := by
  cases x with
  | t i => exact h i (by simp [AX.tmps])
  | c v => rfl
theorem evs_agree {σ τ : Slots} {xs : List AX} (h : Agree (tmpsL xs) σ τ) : xs.map (·.ev σ) = xs.map (·.ev τ) := by
  apply List.map_congr_left
  intro x hx
  exact ev_agree fun t ht => h t (List.mem_flatMap.2 ⟨x, hx, ht⟩)
theorem Agree.left {a b : List Nat} {σ τ : Slots} (h : Agree (a ++ b) σ τ) : Agree a σ τ := fun t ht => h t (List.mem_append_left _ ht)
theorem Agree.right {a b : List Nat} {σ τ : Slots} (h : Agree (a ++ b) σ τ) : Agree b σ τ := fun t ht => h t (List.mem_append_right _ ht)

theorem bnd_agree {σ τ : Slots} {x : Option AX} (h : Agree (tmpsO x) σ τ) (y d : Nat) : bnd σ x y d = bnd τ x y d := by
  cases x with
  | none => rfl
  | some x => simp only [bnd, ev_agree (x := x) h]

theorem aop_agree (O : CallO) {σ τ : Slots} (h : Heap) (key : Nat) {op : AOp} (ha : Agree op.tmps σ τ) : aop O σ h key op = aop O τ h key op := by
  cases op <;> simp only [AOp.tmps] at ha <;> (try simp only [aop]) <;> first
    | rfl
    | (simp only [ev_agree ha]; done)
    | (simp only [ev_agree ha.left, ev_agree ha.right]; done)
    | (simp only [ev_agree ha.left.left, ev_agree ha.left.right, ev_agree ha.right]; done)
    | (simp only [evs_agree ha]; done)
    | (simp only [ev_agree ha.left, evs_agree ha.right]; done)
    | skip
  case build zs ps =>
    have : (ps.map fun p => (p.1, p.2.1, p.2.2.ev σ)) = ps.map fun p => (p.1, p.2.1, p.2.2.ev τ) := by
      apply List.map_congr_left
      intro p hp
      rw [ev_agree (x := p.2.2) fun t ht => ha t (List.mem_flatMap.2 ⟨p, hp, ht⟩)]
    rw [this]
  case bslice sz xs =>
    have e : ∀ x ∈ xs, x.ev σ = x.ev τ := fun x hx => ev_agree fun t ht => ha t (List.mem_flatMap.2 ⟨x, hx, ht⟩)
    have e1 : (∀ p ∈ xs, (p.ev σ).cells.length = sz) ↔ ∀ p ∈ xs, (p.ev τ).cells.length = sz := ⟨fun hh p hp => by rw [← e p hp]; exact hh p hp, fun hh p hp => by rw [e p hp]; exact hh p hp⟩
    rw [evs_agree ha]
    by_cases hc : ∀ p ∈ xs, (p.ev σ).cells.length = sz
    · rw [if_pos hc, if_pos (e1.1 hc)]
    · rw [if_neg hc, if_neg (fun hh => hc (e1.2 hh))]
  case bsliceM sz xs =>
    have e : ∀ x ∈ xs, x.ev σ = x.ev τ := fun x hx => ev_agree fun t ht => ha t (List.mem_flatMap.2 ⟨x, hx, ht⟩)
    have e1 : (∀ p ∈ xs, (p.ev σ).cells.length = sz) ↔ ∀ p ∈ xs, (p.ev τ).cells.length = sz := ⟨fun hh p hp => by rw [← e p hp]; exact hh p hp, fun hh p hp => by rw [e p hp]; exact hh p hp⟩
    have e2 : (xs.flatMap fun p => (p.ev σ).cells) = xs.flatMap fun p => (p.ev τ).cells := by
      rw [List.flatMap_def, List.flatMap_def]
      congr 1
      apply List.map_congr_left
      intro p hp
      rw [e p hp]
    rw [e2]
    by_cases hc : ∀ p ∈ xs, (p.ev σ).cells.length = sz
    · rw [if_pos hc, if_pos (e1.1 hc)]
    · rw [if_neg hc, if_neg (fun hh => hc (e1.2 hh))]
  case sliceS x lo hi =>
    unfold asliceS
    simp only [ev_agree ha.left.left, bnd_agree ha.left.right, bnd_agree ha.right]
  case slice sz x lo hi mx =>
    unfold aslice
    simp only [ev_agree ha.left.left.left, bnd_agree ha.left.left.right, bnd_agree ha.left.right, bnd_agree ha.right]
  case sliceA sz n x lo hi =>
    simp only [ev_agree ha.left.left, bnd_agree ha.left.right, bnd_agree ha.right]

theorem foot_agree {σ τ : Slots} (h h' : Heap) (key : Nat) {op : AOp} (ha : Agree op.tmps σ τ) : foot σ h h' key op = foot τ h h' key op := by
  cases op <;> simp only [AOp.tmps] at ha <;> (try simp only [foot]) <;> first
    | rfl
    | (simp only [ev_agree ha]; done)
    | (simp only [ev_agree ha.left]; done)
    | (simp only [ev_agree ha.left.left]; done)

/-! ### What it asks of the heap, and what it turns there -/
def sets (h : Heap) : List (Nat × AE) → Heap
  | [] => h
  | p :: ps => sets (h.set p.1 p.2) ps

open Classical in
noncomputable def req (σ : Slots) (key : Nat) : AOp → List Nat × (List (Option AE) → Option (AV × List (Nat × AE)))
  | .alloc zs => ([], fun _ => some (.ptr key 0, [(key, .cells zs)]))
  | .box n x => ([], fun _ => if (x.ev σ).cells.length = n then some (.ptr key 0, [(key, .cells (x.ev σ).cells)]) else none)
  | .bsliceM sz parts => ([], fun _ => if ∀ p ∈ parts, (p.ev σ).cells.length = sz then some (.sl sz key 0 parts.length parts.length, [(key, .cells (parts.flatMap fun p => (p.ev σ).cells))]) else none)
  | .load sz x =>
    match x.ev σ with
    | .ptr b o => ([b], fun l => match l with | [some (.cells cs)] => (loadA sz cs o).map (·, []) | _ => none)
    | .eptr cs => ([], fun _ => (loadA sz cs 0).map (·, []))
    | _ => ([], fun _ => none)
  | .store sz a x =>
    match a.ev σ with
    | .ptr b o => ([b], fun l => match l with
      | [some (.cells cs)] => if (x.ev σ).cells.length = sz ∧ o + sz ≤ cs.length then some (.junk, [(b, .cells (cs.take o ++ (x.ev σ).cells ++ cs.drop (o + sz)))]) else none
      | _ => none)
    | _ => ([], fun _ => none)
  | .cvStrBytes e x => ([], fun _ => match x.ev σ with | .str l => some (.list 1 (ofBytes l) (.tok key), [(key, .tok 1 l.length e)]) | _ => none)
  | .cvStrBytesM x => ([], fun _ => match x.ev σ with | .str l => some (.gl 1 key l.length, [(key, .grow 1 (ofBytes l))]) | _ => none)
  | .cvMark x =>
    match x.ev σ with
    | .list sz xs (.tok t) => ([t], fun l => match l with | [some (.tok _ _ _)] => some (.list sz xs (.tok t), []) | _ => none)
    | _ => ([], fun _ => none)
  | .cvBytesStr x =>
    match x.ev σ with
    | .list s xs _ => ([], fun _ => if s = 1 ∨ xs = [] then (asBytes xs).map fun l => (.str l, []) else none)
    | .sl s b o len _ => ([b], fun l => match l with | [some (.cells cs)] => if s = 1 ∧ o + len ≤ cs.length then (asBytes ((cs.drop o).take len)).map fun l => (.str l, []) else none | _ => none)
    | .gl s b n => ([b], fun l => match l with | [some (.grow _ cs)] => if s = 1 ∧ n ≤ cs.length then (asBytes (cs.take n)).map fun l => (.str l, []) else none | _ => none)
    | _ => ([], fun _ => none)
  | .mkslice z sz bytes e len cap => ([], fun _ =>
    match len.ev σ, cap.ev σ with
    | .int .i64 n, .int .i64 c =>
      if 0 ≤ n ∧ n ≤ c ∧ c * bytes ≤ 70368744177664 ∧ c ≤ 70368744177664 then
        if n = c then some (.list sz (List.replicate n.toNat z) .full, [])
        else some (.list sz (List.replicate n.toNat z) (.tok key), [(key, .tok sz n.toNat e)])
      else none
    | _, _ => none)
  | .mksliceM zs sz bytes len cap => ([], fun _ =>
    match len.ev σ, cap.ev σ with
    | .int .i64 n, .int .i64 c =>
      if 0 ≤ n ∧ n ≤ c ∧ c * bytes ≤ 70368744177664 ∧ c ≤ 70368744177664 then
        some (.sl sz key 0 n.toNat c.toNat, [(key, .cells (List.replicate c.toNat zs).flatten)])
      else none
    | _, _ => none)
  | .append sz bytes e s x =>
    match s.ev σ with
    | .list s' xs r =>
      match srcOf sz (x.ev σ) with
      | some ys =>
        match r with
        | .no => ([], fun _ => if ys = [] then some (.list s' xs .no, []) else none)
        | .full => ([], fun _ => if ys = [] then some (.list s' xs .full, []) else if (s' = sz ∨ xs = []) ∧ (xs.length + ys.length) * bytes ≤ 70368744177664 ∧ xs.length + ys.length ≤ 70368744177664 then some (.list sz (xs ++ ys) (.tok key), [(key, .tok sz (xs.length + ys.length) e)]) else none)
        | .tok t => ([t], fun l => if ys = [] then some (.list s' xs (.tok t), []) else if (s' = sz ∨ xs = []) ∧ l = [some (.tok sz xs.length e)] ∧ (xs.length + ys.length) * bytes ≤ 70368744177664 ∧ xs.length + ys.length ≤ 70368744177664 then some (.list sz (xs ++ ys) (.tok key), [(t, .dead), (key, .tok sz (xs.length + ys.length) e)]) else none)
      | none => ([], fun _ => none)
    | .gl s' b n => ([b], fun l =>
      match srcOf sz (x.ev σ), l with
      | some ys, [some (.grow s'' cs)] =>
        if s' = sz ∧ s'' = sz ∧ n * sz ≤ cs.length ∧ (n + ys.length) * bytes ≤ 70368744177664 ∧ n + ys.length ≤ 70368744177664 then
          some (.gl sz key (n + ys.length), [(b, .dead), (key, .grow sz (cs.take (n * sz) ++ ys.flatMap AV.cells))])
        else none
      | _, _ => none)
    | _ => ([], fun _ => none)
  | .lenM x =>
    match x.ev σ with
    | .nilm => ([], fun _ => some (.int .i64 0, []))
    | .map b => ([b], fun l => match l with | [some (.amap es)] => some (.int .i64 es.length, []) | _ => none)
    | _ => ([], fun _ => none)
  | .mkmap => ([], fun _ => some (.map key, [(key, .amap [])]))
  | .lookup z ok m k =>
    match m.ev σ with
    | .map b => ([b], fun l => match l with
      | [some (.amap es)] =>
        match mapFind (k.ev σ) es 0 with
        | some (some (_, v)) => some (if ok then .tup [v, .bool true] else v, [])
        | some none => some (if ok then .tup [z, .bool false] else z, [])
        | none => none
      | _ => none)
    | .nilm => ([], fun _ => some (if ok then .tup [z, .bool false] else z, []))
    | _ => ([], fun _ => none)
  | .update m k v =>
    match m.ev σ with
    | .map b => ([b], fun l => match l with
      | [some (.amap es)] =>
        match mapFind (k.ev σ) es 0 with
        | some (some (i, _)) => some (.junk, [(b, .amap (es.set i (k.ev σ, v.ev σ)))])
        | some none => some (.junk, [(b, .amap (es ++ [(k.ev σ, v.ev σ)]))])
        | none => none
      | _ => none)
    | _ => ([], fun _ => none)
  | .rangeS x => ([], fun _ => match x.ev σ with | .str l => some (.it key, [(key, .siter l 0)]) | _ => none)
  | .next x =>
    match x.ev σ with
    | .it b => ([b], fun q => match q with
      | [some (.siter l p)] =>
        if p < l.length then some (.tup [.bool true, .int .i64 p, .int .i32 (Utf8.decode ⟨⟨l⟩⟩ p).1], [(b, .siter l (p + (Utf8.decode ⟨⟨l⟩⟩ p).2))])
        else some (.tup [.bool false], [])
      | _ => none)
    | _ => ([], fun _ => none)
  | .copy sz d s =>
    match d.ev σ with
    | .sl s' b o len _ => ([b], fun l =>
      match srcOf sz (s.ev σ), l with
      | some ys, [some (.cells cs)] =>
        if s' = sz ∧ o + len * sz ≤ cs.length then
          some (.int .i64 (Nat.min ys.length len : Nat), [(b, .cells (cs.take o ++ (ys.take len).flatMap AV.cells ++ cs.drop (o + (Nat.min ys.length len) * sz)))])
        else none
      | _, _ => none)
    | _ => ([], fun _ => none)
  | op => ([], fun _ => (aop (fun _ _ _ => none) σ [] key op).map fun x => (x.1, []))

def AOp.isCall : AOp → Bool
  | .call _ _ => true
  | _ => false

def back (h : Heap) (x : Option (AV × List (Nat × AE))) : Option (AV × Heap) := x.map fun p => (p.1, sets h p.2)
@[simp] theorem back_none (h : Heap) : back h none = none := rfl
@[simp] theorem back_some (h : Heap) (v : AV) (ws : List (Nat × AE)) : back h (some (v, ws)) = some (v, sets h ws) := rfl
theorem back_map {α : Type} (h : Heap) (x : Option α) (f : α → AV) : back h (x.map fun a => (f a, [])) = x.map fun a => (f a, h) := by cases x <;> rfl
theorem back_map2 (h : Heap) (x : Option (AV × Heap)) : back h (x.map fun a => (a.1, [])) = x.map fun a => (a.1, h) := by cases x <;> rfl

theorem back_ite (h : Heap) (c : Prop) [Decidable c] (x : Option (AV × List (Nat × AE))) : back h (if c then x else none) = if c then back h x else none := by split <;> rfl

theorem aop_req (O : CallO) (σ : Slots) (h : Heap) (key : Nat) (op : AOp) (hc : op.isCall = false) :
    aop O σ h key op = back h ((req σ key op).2 ((req σ key op).1.map fun k => h[k]?)) := by
  cases op
  case call => simp [AOp.isCall] at hc
  case alloc => rfl
  case box n x => simp only [aop, req]; split <;> rfl
  case bsliceM sz xs => simp only [aop, req]; split <;> rfl
  case mv x => rfl
  case nilchk x => simp only [aop, req]; split <;> rfl
  case pick c a b => simp only [aop, req]; split <;> rfl
  case build zs ps => simp only [aop, req]; split <;> rfl
  case bslice sz ps => simp only [aop, req]; split <;> rfl
  case bin op x y => simp only [aop, req]; generalize abin op _ _ = u; cases u <;> rfl
  case eq ng ag offs x y => simp only [aop, req]; generalize eqV ag offs _ _ = u; cases u <;> rfl
  case load sz x =>
    cases hu : x.ev σ <;> simp [aop, req, hu, back]
    · rename_i b o
      rcases h[b]? with _ | e
      · rfl
      · cases e <;> simp [sets, Option.map_map, Function.comp_def]
    · simp [sets, Option.map_map, Function.comp_def]
  case store sz a x =>
    cases hu : a.ev σ <;> simp [aop, req, hu, back]
    rename_i b o
    rcases h[b]? with _ | e
    · rfl
    · cases e <;> try rfl
      dsimp only
      split <;> rfl
  case cvStrBytes e x => cases hu : x.ev σ <;> simp [aop, req, hu, back, sets]
  case cvStrBytesM x => cases hu : x.ev σ <;> simp [aop, req, hu, back, sets]
  case rangeS x => cases hu : x.ev σ <;> simp [aop, req, hu, back, sets]
  case cvBytesStr x =>
    cases hu : x.ev σ <;> simp [aop, req, hu, back]
    · split
      · rename_i xs _ _; cases asBytes xs <;> rfl
      · rfl
    · rename_i sz b o n c
      rcases h[b]? with _ | e
      · rfl
      · cases e <;> try rfl
        dsimp only
        split
        · cases asBytes _ <;> rfl
        · rfl
    · rename_i sz b n
      rcases h[b]? with _ | e
      · rfl
      · cases e <;> try rfl
        dsimp only
        split
        · cases asBytes _ <;> rfl
        · rfl
  case cvMark x =>
    cases hu : x.ev σ <;> simp [aop, req, hu, back]
    rename_i sz xs r
    cases r <;> simp
    rename_i t
    rcases h[t]? with _ | e
    · rfl
    · cases e <;> rfl
  case mkslice z sz bytes e len cap =>
    simp only [aop, req, List.map_nil]
    generalize len.ev σ = a1
    generalize cap.ev σ = a2
    cases a1 <;> try rfl
    rename_i k1 n
    cases a2 <;> (try (cases k1 <;> rfl; done))
    rename_i k2 c
    cases k1 <;> (try rfl) <;> cases k2 <;> (try rfl)
    dsimp only
    split
    · split <;> rfl
    · rfl
  case mksliceM zs sz bytes len cap =>
    simp only [aop, req, List.map_nil]
    generalize len.ev σ = a1
    generalize cap.ev σ = a2
    cases a1 <;> try rfl
    rename_i k1 n
    cases a2 <;> (try (cases k1 <;> rfl; done))
    rename_i k2 c
    cases k1 <;> (try rfl) <;> cases k2 <;> (try rfl)
    dsimp only
    split <;> rfl
  case sliceS x lo hi => simp only [aop, req, List.map_nil]; cases asliceS σ (x.ev σ) lo hi <;> rfl
  case slice sz x lo hi mx => simp only [aop, req, List.map_nil]; cases aslice σ sz (x.ev σ) lo hi mx <;> rfl
  case sliceA sz n x lo hi =>
    simp only [aop, req, List.map_nil]
    split
    · split
      · split <;> rfl
      · rfl
    · rfl
  case field o sz x =>
    simp only [aop, req, List.map_nil]
    split
    · cases loadA sz _ o <;> rfl
    · rfl
  case indexA sz esz n x i =>
    simp only [aop, req, List.map_nil]
    split
    · split
      · cases loadA sz _ _ <;> rfl
      · rfl
    · rfl
  case ext x i =>
    simp only [aop, req, List.map_nil]
    split
    · rename_i vs _; cases vs[i]? <;> rfl
    · rfl
  case lenM x =>
    cases hu : x.ev σ <;> simp [aop, req, hu, back, sets]
    rename_i b
    rcases h[b]? with _ | e
    · rfl
    · cases e <;> rfl
  case lookup z ok m k =>
    cases hu : m.ev σ <;> simp [aop, req, hu, back, sets]
    rename_i b
    rcases h[b]? with _ | e
    · rfl
    · cases e <;> try rfl
      dsimp only
      rcases mapFind (k.ev σ) _ 0 with _ | (_ | ⟨i, v⟩) <;> rfl
  case update m k v =>
    cases hu : m.ev σ <;> simp [aop, req, hu, back]
    rename_i b
    rcases h[b]? with _ | e
    · rfl
    · cases e <;> try rfl
      dsimp only
      rcases mapFind (k.ev σ) _ 0 with _ | (_ | ⟨i, v⟩) <;> rfl
  case next x =>
    cases hu : x.ev σ <;> simp [aop, req, hu, back]
    rename_i b
    rcases h[b]? with _ | e
    · rfl
    · cases e <;> try rfl
      dsimp only
      split <;> rfl
  case copy sz d s =>
    cases hu : d.ev σ <;> simp [aop, req, hu, back]
    rename_i s' b o n c
    rcases srcOf sz (s.ev σ) with _ | ys
    · rfl
    · rcases h[b]? with _ | e
      · rfl
      · cases e <;> try rfl
        dsimp only
        split <;> rfl
  case append sz bytes e s x =>
    simp only [aop, req]
    cases hu : s.ev σ <;> simp [appA, back]
    · rename_i s' xs r
      rcases srcOf sz (x.ev σ) with _ | ys
      · rfl
      · cases r with
        | no =>
          by_cases hy : ys = [] <;> simp [hy, own, sets]
        | full =>
          by_cases hy : ys = [] <;> simp [hy, own, sets, kill]
        | tok t =>
          by_cases hy : ys = [] <;> simp [hy, own, sets, kill]
          have e1 : (List.map (fun k => h[k]?) [t] = [some (AE.tok sz xs.length e)]) = (h[t]? = some (AE.tok sz xs.length e)) := by simp
          by_cases hc2 : h[t]? = some (AE.tok sz xs.length e)
          · simp only [e1, hc2]
          · simp only [e1, hc2, false_and, and_false, if_false]
    · rename_i s' b n
      rcases srcOf sz (x.ev σ) with _ | ys
      · rfl
      · rcases h[b]? with _ | e
        · rfl
        · cases e <;> try rfl
          dsimp only
          split <;> rfl
  all_goals (simp only [aop, req, List.map_nil]; first
    | rfl
    | (split <;> rfl; done)
    | (split <;> (try split) <;> rfl; done)
    | (split <;> (try split) <;> (try split) <;> rfl; done))

end Go.Am
