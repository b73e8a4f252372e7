/-
  What a function may append to; heaps in which a call's own places lie behind those of its caller.
-/
import Derived.Test.YtiobaboailhafaaAm22
set_option linter.unusedVariables false
set_option linter.unusedSimpArgs false
namespace Go.Am
open Go

theorem get_left {h : Heap} {i : Nat} {e : AE} (k : h[i]? = some e) (l : List AE) : (h ++ l)[i]? = some e := by
  rw [List.getElem?_append_left (List.getElem?_eq_some_iff.1 k).1]; exact k
theorem lt_of_get {h : Heap} {i : Nat} {e : AE} (k : h[i]? = some e) : i < h.length := (List.getElem?_eq_some_iff.1 k).1
theorem take_set {h : Heap} {n i : Nat} {e : AE} (hi : n ≤ i) : (h.set i e).take n = h.take n := by
  rw [List.take_set, List.set_eq_of_length_le]; simp; omega
theorem take_app {h : Heap} {n : Nat} {l : List AE} (hi : n ≤ h.length) : (h ++ l).take n = h.take n := by
  rw [List.take_append_of_le_length hi]
theorem get_set_ne {h : Heap} {i j : Nat} {e : AE} (hn : i ≠ j) : (h.set i e)[j]? = h[j]? := by simp [List.getElem?_set, hn]
theorem get_set_eq {h : Heap} {i : Nat} {e : AE} (hi : i < h.length) : (h.set i e)[i]? = some e := by simp [List.getElem?_set, hi]

/-- A list that may be appended to in place, by right of a token from n0 on, or because it fills its array. -/
def Ow (n0 : Nat) (h : Heap) (sz : Nat) (e : TypeId) (r : Rt) (n : Nat) : Prop := r = .full ∨ ∃ t, r = .tok t ∧ n0 ≤ t ∧ h[t]? = some (.tok sz n e)

theorem Ow.full {n0 : Nat} {h : Heap} {sz : Nat} {e : TypeId} {n : Nat} : Ow n0 h sz e .full n := .inl rfl
theorem Ow.app {n0 : Nat} {h : Heap} {sz : Nat} {e : TypeId} {r : Rt} {n : Nat} (k : Ow n0 h sz e r n) (l : List AE) : Ow n0 (h ++ l) sz e r n := by
  rcases k with k | ⟨t, k1, k2, k3⟩
  · exact .inl k
  · exact .inr ⟨t, k1, k2, get_left k3 l⟩
/-- What isn't a token may be turned. -/
theorem Ow.set {n0 : Nat} {h : Heap} {sz : Nat} {e : TypeId} {r : Rt} {n : Nat} (k : Ow n0 h sz e r n) {i : Nat} {x : AE} (hi : ∀ s m f, h[i]? ≠ some (.tok s m f)) : Ow n0 (h.set i x) sz e r n := by
  rcases k with k | ⟨t, k1, k2, k3⟩
  · exact .inl k
  · refine .inr ⟨t, k1, k2, ?_⟩
    rw [get_set_ne]
    · exact k3
    · intro e; subst e; exact hi _ _ _ k3
/-- Heaps that agree on tokens. -/
theorem Ow.same {n0 : Nat} {h h' : Heap} {sz : Nat} {e : TypeId} {r : Rt} {n : Nat} (k : Ow n0 h sz e r n) (hh : ∀ t, r = .tok t → h'[t]? = h[t]?) : Ow n0 h' sz e r n := by
  rcases k with k | ⟨t, k1, k2, k3⟩
  · exact .inl k
  · exact .inr ⟨t, k1, k2, by rw [hh t k1]; exact k3⟩

/-- What an append leaves of the heap: all but the list's own token, and the new place. -/
structure AppTo (n0 : Nat) (h : Heap) (key : Nat) (r : Rt) (h' : Heap) : Prop where
  len : h'.length = h.length
  get : ∀ i, i ≠ key → (∀ t, r = .tok t → i ≠ t) → h'[i]? = h[i]?
  take : h'.take n0 = h.take n0

theorem AppTo.takeLe {n0 : Nat} {h : Heap} {key : Nat} {r : Rt} {h' : Heap} (k : AppTo n0 h key r h') {n : Nat} (hn : n ≤ n0) : h'.take n = h.take n := by
  have := congrArg (List.take n) k.take
  simpa [List.take_take, Nat.min_eq_left hn] using this

/-- An append to a list of its own. -/
theorem app_own {n0 : Nat} {h : Heap} {key sz bytes : Nat} {e : TypeId} {s' : Nat} {xs ys : List AV} {r : Rt} {x : AV} (hx : srcOf sz x = some ys) (hs : s' = sz ∨ xs = []) (k : Ow n0 h sz e r xs.length) (hn : n0 ≤ key) (hk : key < h.length)
    (h1 : (xs.length + ys.length) * bytes ≤ 70368744177664) (h2 : xs.length + ys.length ≤ 70368744177664) :
    ∃ r' h', appA h key sz bytes e (.list s' xs r) x = some (.list (if ys = [] then s' else sz) (xs ++ ys) r', h') ∧ Ow n0 h' sz e r' (xs.length + ys.length) ∧ AppTo n0 h key r h' := by
  simp only [appA, hx]
  by_cases hy : ys = []
  · subst hy
    refine ⟨r, h, by simp, by simpa using k, ⟨rfl, fun _ _ _ => rfl, rfl⟩⟩
  · have ho : own h r sz xs.length e := by
      rcases k with k | ⟨t, k1, k2, k3⟩
      · subst k; trivial
      · subst k1; exact k3
    refine ⟨.tok key, (kill h r).set key (.tok sz (xs.length + ys.length) e), ?_, .inr ⟨key, rfl, hn, ?_⟩, ?_⟩
    · rw [if_neg hy, if_pos ⟨hs, ho, h1, h2⟩, if_neg hy]
    · rw [get_set_eq]
      cases r <;> simp [kill, hk]
    · rcases k with k | ⟨t, k1, k2, k3⟩
      · subst k
        refine ⟨by simp [kill], fun i hi _ => ?_, ?_⟩
        · simp only [kill]; rw [get_set_ne (Ne.symm hi)]
        · simp only [kill]; rw [take_set hn]
      · subst k1
        refine ⟨by simp [kill], fun i hi ht => ?_, ?_⟩
        · simp only [kill]; rw [get_set_ne (Ne.symm hi), get_set_ne (Ne.symm (ht t rfl))]
        · simp only [kill]; rw [take_set hn, take_set k2]
/-- Of lists of one size. -/
theorem app_list {n0 : Nat} {h : Heap} {key sz bytes : Nat} {e : TypeId} {xs ys : List AV} {r r2 : Rt} (k : Ow n0 h sz e r xs.length) (hn : n0 ≤ key) (hk : key < h.length)
    (h1 : (xs.length + ys.length) * bytes ≤ 70368744177664) (h2 : xs.length + ys.length ≤ 70368744177664) :
    ∃ r' h', appA h key sz bytes e (.list sz xs r) (.list sz ys r2) = some (.list sz (xs ++ ys) r', h') ∧ Ow n0 h' sz e r' (xs.length + ys.length) ∧ AppTo n0 h key r h' := by
  have := app_own (x := .list sz ys r2) (ys := ys) (by simp [srcOf]) (.inl rfl) k hn hk h1 h2
  simpa using this

/-- Entries that are no tokens stay. -/
theorem AppTo.keep {n0 : Nat} {h : Heap} {key : Nat} {r : Rt} {h' : Heap} {sz : Nat} {e : TypeId} {n : Nat} (k : AppTo n0 h key r h') (o : Ow n0 h sz e r n) {i : Nat} {x : AE} (hi : h[i]? = some x) (hx : ∀ s m f, x ≠ .tok s m f) (hk : i ≠ key) : h'[i]? = some x := by
  rw [k.get i hk, hi]
  intro t ht
  rcases o with o | ⟨t', k1, k2, k3⟩
  · rw [o] at ht; cases ht
  · rw [k1] at ht; injection ht with ht; subst ht
    intro e'; subst e'
    rw [hi] at k3; injection k3 with k3
    exact hx _ _ _ k3

@[simp] theorem sliceRt_false (r : Rt) (lo hi n : Nat) : sliceRt r false lo hi n = if lo = 0 ∧ hi = n then r else .no := rfl
@[simp] theorem abin_rem (k : IntKind) (a b : Int) : abin .rem (.int k a) (.int k b) = if b = 0 then none else some (.int k (a.tmod b)) := by simp [abin, ibin]
@[simp] theorem abin_quo (k : IntKind) (a b : Int) : abin .quo (.int k a) (.int k b) = if b = 0 then none else some (.int k (k.wrap (a.tdiv b))) := by simp [abin, ibin]
@[simp] theorem abin_or (k : IntKind) (a b : Int) : abin .or (.int k a) (.int k b) = some (.int k (bitsOp .or k a b)) := by simp [abin, ibin]
@[simp] theorem abin_and (k : IntKind) (a b : Int) : abin .and (.int k a) (.int k b) = some (.int k (bitsOp .and k a b)) := by simp [abin, ibin]
@[simp] theorem abin_xor (k : IntKind) (a b : Int) : abin .xor (.int k a) (.int k b) = some (.int k (bitsOp .xor k a b)) := by simp [abin, ibin]
@[simp] theorem abin_andNot (k : IntKind) (a b : Int) : abin .andNot (.int k a) (.int k b) = some (.int k (bitsOp .andNot k a b)) := by simp [abin, ibin]
@[simp] theorem tmod_cast (a b : Nat) : ((a : Int).tmod (b : Int)) = ((a % b : Nat) : Int) := by rw [Int.ofNat_tmod]
@[simp] theorem tdiv_cast (a b : Nat) : ((a : Int).tdiv (b : Int)) = ((a / b : Nat) : Int) := by rw [Int.ofNat_tdiv]
@[simp] theorem take_ofBytes (l : List UInt8) (n : Nat) : (ofBytes l).take n = ofBytes (l.take n) := by simp [ofBytes]
@[simp] theorem drop_ofBytes (l : List UInt8) (n : Nat) : (ofBytes l).drop n = ofBytes (l.drop n) := by simp [ofBytes]
@[simp] theorem ofBytes_append (a b : List UInt8) : ofBytes a ++ ofBytes b = ofBytes (a ++ b) := by simp [ofBytes]
@[simp] theorem ofBytes_nil : ofBytes [] = [] := rfl
@[simp] theorem ofBytes_getElem (l : List UInt8) (i : Nat) (h : i < (ofBytes l).length) : (ofBytes l)[i] = .int .u8 (l[i]'(by simpa using h)).toNat := by simp [ofBytes]
end Go.Am
