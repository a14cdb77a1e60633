/- The concrete evaluator, part A: the abstract heap, how it lies in the world, and the relational logic on Sem. -/
import Derived.CallsIn
import Derived.RangeFuncLeaves
import Derived.LoopNIn
namespace Go.Ev
open Go

structure Loc where
  blk : Nat
  off : Nat
  tot : Nat
  len : Nat
  esz : Nat
  loose : Bool

/-- What holes stand for, and what of the world was there from the first. -/
class Holes where
  is : Nat → Value → Prop
  at_ : Nat → Obj → Prop

/-- How many package-level variables are known. -/
class Globs where
  n : Nat

abbrev Emb := Nat → Option Loc
def Emb.le (ρ σ : Emb) : Prop := ∀ b L, ρ b = some L → σ b = some L
theorem Emb.le_refl (ρ : Emb) : ρ.le ρ := fun _ _ h => h
theorem Emb.le_trans {ρ σ τ : Emb} (h : ρ.le σ) (h' : σ.le τ) : ρ.le τ := fun b L e => h' b L (h b L e)

/-- A slice's window: just as it is, or, at the end of a row whose room nobody knows, with more room behind. -/
def SRel (L : Loc) (o len cap o' cap' : Nat) : Prop :=
  (cap' = cap ∧ o' = L.off + o) ∨
  (L.loose = true ∧ o + cap * L.esz = L.len ∧ cap ≤ cap' ∧ o' + cap' * L.esz ≤ L.tot ∧ (o' = L.off + o ∨ (len = 0 ∧ cap' = 0)))

def FnRel (ρ : Emb) : Fn → Fn → Prop
  | .yield l, .yield m => ∃ L, ρ l = some L ∧ L.blk = m
  | .yield _, _ => False
  | f, g => f = g

def oneCell : Value → Bool
  | .agg _ => false
  | .tuple _ => false
  | .bool _ => false
  | _ => true
/-- Of a hole nothing is read; it is one cell, and no truth value. -/
inductive VRel [Holes] (ρ : Emb) : Value → Value → Prop
  | hole (k : Nat) {v : Value} (h : oneCell v = true) (is : Holes.is k v) : VRel ρ (.chan (some k)) v
  | bool (b : Bool) : VRel ρ (.bool b) (.bool b)
  | int (k : IntKind) (n : Int) : VRel ρ (.int k n) (.int k n)
  | float (k : FloatKind) (n : Nat) : VRel ρ (.float k n) (.float k n)
  | complex (k : FloatKind) (n m : Nat) : VRel ρ (.complex k n m) (.complex k n m)
  | string (s : ByteArray) : VRel ρ (.string s) (.string s)
  | nilPtr : VRel ρ (.pointer none) (.pointer none)
  | ptr {b o : Nat} {L : Loc} (h : ρ b = some L) : VRel ρ (.pointer (some ⟨b, o, none⟩)) (.pointer (some ⟨L.blk, L.off + o, none⟩))
  | nilSlice (l c : Nat) : VRel ρ (.slice none l c) (.slice none l c)
  | slice {b o len cap o' cap' : Nat} {L : Loc} (h : ρ b = some L) (hs : SRel L o len cap o' cap') :
      VRel ρ (.slice (some ⟨b, o, none⟩) len cap) (.slice (some ⟨L.blk, o', none⟩) len cap')
  | nilMap : VRel ρ (.map none) (.map none)
  | map {b : Nat} {L : Loc} (h : ρ b = some L) : VRel ρ (.map (some b)) (.map (some L.blk))
  | nilFunc : VRel ρ .nilFunc .nilFunc
  | func {f g : Fn} {xs ys us vs : Array Value} (hf : FnRel ρ f g) (n : xs.size = ys.size) (h : ∀ (i : Nat) (x y : Value), xs[i]? = some x → ys[i]? = some y → VRel ρ x y)
      (n' : us.size = vs.size) (h' : ∀ (i : Nat) (x y : Value), us[i]? = some x → vs[i]? = some y → VRel ρ x y) : VRel ρ (.func f xs us) (.func g ys vs)
  | iface {t : TypeId} {v w : Value} (h : VRel ρ v w) : VRel ρ (.iface t v) (.iface t w)
  | nilIface : VRel ρ .nilIface .nilIface
  | agg {xs ys : Array Value} (n : xs.size = ys.size) (h : ∀ (i : Nat) (x y : Value), xs[i]? = some x → ys[i]? = some y → VRel ρ x y) : VRel ρ (.agg xs) (.agg ys)
  | tuple {xs ys : Array Value} (n : xs.size = ys.size) (h : ∀ (i : Nat) (x y : Value), xs[i]? = some x → ys[i]? = some y → VRel ρ x y) : VRel ρ (.tuple xs) (.tuple ys)

section holed
variable [Holes]
def VsRel (ρ : Emb) (xs ys : Array Value) : Prop := xs.size = ys.size ∧ ∀ (i : Nat) (x y : Value), xs[i]? = some x → ys[i]? = some y → VRel ρ x y

omit [Holes] in
theorem FnRel.mono {ρ σ : Emb} (hle : ρ.le σ) {f g : Fn} (h : FnRel ρ f g) : FnRel σ f g := by
  cases f <;> cases g <;> first
    | exact h
    | (obtain ⟨L, h1, h2⟩ := h; exact ⟨L, hle _ _ h1, h2⟩)

theorem VRel.mono {ρ σ : Emb} (hle : ρ.le σ) {v w : Value} (h : VRel ρ v w) : VRel σ v w := by
  induction h with
  | hole k h is => exact .hole k h is
  | bool b => exact .bool b
  | int k n => exact .int k n
  | float k n => exact .float k n
  | complex k n m => exact .complex k n m
  | string s => exact .string s
  | nilPtr => exact .nilPtr
  | ptr h => exact .ptr (hle _ _ h)
  | nilSlice l c => exact .nilSlice l c
  | slice h hs => exact .slice (hle _ _ h) hs
  | nilMap => exact .nilMap
  | map h => exact .map (hle _ _ h)
  | nilFunc => exact .nilFunc
  | func hf n _ n' _ ih ih' => exact .func (hf.mono hle) n ih n' ih'
  | iface _ ih => exact .iface ih
  | nilIface => exact .nilIface
  | agg n _ ih => exact .agg n ih
  | tuple n _ ih => exact .tuple n ih

theorem VsRel.mono {ρ σ : Emb} (hle : ρ.le σ) {xs ys : Array Value} (h : VsRel ρ xs ys) : VsRel σ xs ys := ⟨h.1, fun i x y hx hy => (h.2 i x y hx hy).mono hle⟩

theorem VsRel.get {ρ : Emb} {xs ys : Array Value} (h : VsRel ρ xs ys) {i : Nat} {x : Value} (hx : xs[i]? = some x) : ∃ y, ys[i]? = some y ∧ VRel ρ x y := by
  have hi : i < ys.size := by rw [← h.1]; exact (Array.getElem?_eq_some_iff.1 hx).1
  exact ⟨ys[i], Array.getElem?_eq_getElem hi, h.2 i x _ hx (Array.getElem?_eq_getElem hi)⟩

theorem VsRel.get_none {ρ : Emb} {xs ys : Array Value} (h : VsRel ρ xs ys) {i : Nat} (hx : xs[i]? = none) : ys[i]? = none := by
  rw [Array.getElem?_eq_none_iff] at hx ⊢
  rw [← h.1]; exact hx

theorem VRel.undef {ρ : Emb} : VRel ρ undef undef := .tuple rfl (by simp)

theorem VsRel.getD {ρ : Emb} {xs ys : Array Value} (h : VsRel ρ xs ys) (i : Nat) : VRel ρ (xs.getD i Go.undef) (ys.getD i Go.undef) := by
  rw [Array.getD_eq_getD_getElem?, Array.getD_eq_getD_getElem?]
  cases hx : xs[i]? with
  | none => rw [h.get_none hx]; exact .undef
  | some x => obtain ⟨y, hy, hv⟩ := h.get hx; rw [hy]; exact hv

theorem VsRel.empty {ρ : Emb} : VsRel ρ #[] #[] := ⟨rfl, by simp⟩
theorem VsRel.push {ρ : Emb} {xs ys : Array Value} {x y : Value} (h : VsRel ρ xs ys) (hv : VRel ρ x y) : VsRel ρ (xs.push x) (ys.push y) := by
  refine ⟨by simp [h.1], fun i a b ha hb => ?_⟩
  rw [Array.getElem?_push] at ha hb
  rw [← h.1] at hb
  split at ha
  · rename_i e
    rw [if_pos e] at hb
    simp only [Option.some.injEq] at ha hb
    subst ha; subst hb; exact hv
  · rename_i e
    rw [if_neg e] at hb
    exact h.2 i a b ha hb
theorem VsRel.set {ρ : Emb} {xs ys : Array Value} {x y : Value} (h : VsRel ρ xs ys) (hv : VRel ρ x y) (j : Nat) : VsRel ρ (xs.setIfInBounds j x) (ys.setIfInBounds j y) := by
  refine ⟨by simp [h.1], fun i a b ha hb => ?_⟩
  rw [Array.getElem?_setIfInBounds] at ha hb
  rw [← h.1] at hb
  split at ha
  · split at ha
    · rename_i e e'
      rw [if_pos e, if_pos e'] at hb
      simp only [Option.some.injEq] at ha hb
      subst ha; subst hb; exact hv
    · exact absurd ha (by simp)
  · rename_i e
    rw [if_neg e] at hb
    exact h.2 i a b ha hb
theorem VsRel.append {ρ : Emb} {xs ys us vs : Array Value} (h : VsRel ρ xs ys) (h' : VsRel ρ us vs) : VsRel ρ (xs ++ us) (ys ++ vs) := by
  refine ⟨by simp [h.1, h'.1], fun i a b ha hb => ?_⟩
  rw [Array.getElem?_append] at ha hb
  rw [← h.1] at hb
  split at ha
  · rename_i e
    rw [if_pos e] at hb
    exact h.2 i a b ha hb
  · rename_i e
    rw [if_neg e] at hb
    exact h'.2 _ a b ha hb
theorem VsRel.extract {ρ : Emb} {xs ys : Array Value} (h : VsRel ρ xs ys) (i j : Nat) : VsRel ρ (xs.extract i j) (ys.extract i j) := by
  refine ⟨by simp [h.1], fun k a b ha hb => ?_⟩
  rw [Array.getElem?_extract] at ha hb
  rw [← h.1] at hb
  split at ha
  · rename_i e
    rw [if_pos e] at hb
    exact h.2 _ a b ha hb
  · exact absurd ha (by simp)
theorem VsRel.replicate {ρ : Emb} (n : Nat) {x y : Value} (h : VRel ρ x y) : VsRel ρ (Array.replicate n x) (Array.replicate n y) := by
  refine ⟨by simp, fun i a b ha hb => ?_⟩
  rw [Array.getElem?_replicate] at ha hb
  split at ha
  · rename_i e
    rw [if_pos e] at hb
    simp only [Option.some.injEq] at ha hb
    subst ha; subst hb; exact h
  · exact absurd ha (by simp)
theorem VRel.cells {ρ : Emb} {v w : Value} (h : VRel ρ v w) : VsRel ρ v.cells w.cells := by
  cases h with
  | agg n h => exact ⟨n, h⟩
  | hole k h is =>
    have hw : w.cells = #[w] := by cases w <;> first | rfl | exact absurd h Bool.false_ne_true
    rw [hw]
    exact VsRel.push (xs := #[]) (ys := #[]) .empty (.hole k h is)
  | _ => refine VsRel.push (xs := #[]) (ys := #[]) .empty ?_; constructor <;> assumption

/-- A value without addresses. -/
def flat : Nat → Value → Bool
  | _, .bool _ | _, .int .. | _, .float .. | _, .complex .. | _, .string _ | _, .pointer none | _, .slice none _ _ | _, .map none | _, .nilFunc | _, .nilIface => true
  | n + 1, .iface _ v => flat n v
  | n + 1, .agg xs => xs.toList.all (flat n)
  | n + 1, .tuple xs => xs.toList.all (flat n)
  | n + 1, .func (.func _) xs us => xs.toList.all (flat n) && us.toList.all (flat n)
  | _, _ => false

theorem rel_of_flat {ρ : Emb} : ∀ (n : Nat) (v : Value), flat n v = true → VRel ρ v v := by
  have arr : ∀ (n : Nat), (∀ v, flat n v = true → VRel ρ v v) → ∀ (xs : Array Value), xs.toList.all (flat n) = true → ∀ (i : Nat) (x y : Value), xs[i]? = some x → xs[i]? = some y → VRel ρ x y := by
    intro n ih xs hall i x y hx hy
    rw [hx] at hy
    cases hy
    refine ih _ ?_
    rw [List.all_eq_true] at hall
    refine hall x ?_
    rw [← Array.getElem?_toList] at hx
    exact List.mem_of_getElem? hx
  intro n
  induction n with
  | zero =>
    intro v h
    cases v with
    | pointer a => cases a <;> simp [flat] at h; exact .nilPtr
    | slice a l c => cases a <;> simp [flat] at h; exact .nilSlice l c
    | map r => cases r <;> simp [flat] at h; exact .nilMap
    | bool b => exact .bool b
    | int k n => exact .int k n
    | float k n => exact .float k n
    | complex k a b => exact .complex k a b
    | string s => exact .string s
    | nilFunc => exact .nilFunc
    | nilIface => exact .nilIface
    | _ => simp [flat] at h
  | succ n ih =>
    intro v h
    cases v with
    | pointer a => cases a <;> simp [flat] at h; exact .nilPtr
    | slice a l c => cases a <;> simp [flat] at h; exact .nilSlice l c
    | map r => cases r <;> simp [flat] at h; exact .nilMap
    | bool b => exact .bool b
    | int k n => exact .int k n
    | float k n => exact .float k n
    | complex k a b => exact .complex k a b
    | string s => exact .string s
    | nilFunc => exact .nilFunc
    | nilIface => exact .nilIface
    | chan r => simp [flat] at h
    | iface t v => simp only [flat] at h; exact .iface (ih v h)
    | agg xs => simp only [flat] at h; exact .agg rfl (arr n ih xs h)
    | tuple xs => simp only [flat] at h; exact .tuple rfl (arr n ih xs h)
    | func f xs us =>
      cases f <;> simp only [flat, Bool.and_eq_true, Bool.false_eq_true] at h
      exact .func (by simp [FnRel]) rfl (arr n ih xs h.1) rfl (arr n ih us h.2)

/-- What is related to a value without addresses is that value. -/
theorem eq_of_flat {ρ : Emb} : ∀ (n : Nat) (v w : Value), flat n v = true → VRel ρ v w → w = v := by
  have arr : ∀ (n : Nat), (∀ v w, flat n v = true → VRel ρ v w → w = v) → ∀ (xs ys : Array Value), xs.toList.all (flat n) = true → xs.size = ys.size →
      (∀ (i : Nat) (x y : Value), xs[i]? = some x → ys[i]? = some y → VRel ρ x y) → ys = xs := by
    intro n ih xs ys hall hn h
    refine Array.ext hn.symm fun i hi hi' => ?_
    refine ih _ _ ?_ (h i _ _ (Array.getElem?_eq_getElem hi') (Array.getElem?_eq_getElem hi))
    rw [List.all_eq_true] at hall
    exact hall _ (by simp)
  intro n
  induction n with
  | zero =>
    intro v w h hr
    cases hr <;> first | rfl | simp [flat] at h
  | succ n ih =>
    intro v w h hr
    cases hr with
    | iface h' => simp only [flat] at h; rw [ih _ _ h h']
    | agg hn h' => simp only [flat] at h; rw [arr n ih _ _ h hn h']
    | tuple hn h' => simp only [flat] at h; rw [arr n ih _ _ h hn h']
    | @func f g xs ys us vs hf hn h' hn' h'' =>
      cases f <;> simp only [flat, Bool.and_eq_true, Bool.false_eq_true] at h
      cases g <;> simp [FnRel] at hf
      subst hf
      rw [arr n ih _ _ h.1 hn h', arr n ih _ _ h.2 hn' h'']
    | _ => first | rfl | simp [flat] at h

end holed
/-! ### The abstract heap -/

inductive Tree where
  | leaf
  | node (l : Tree) (v : Option Obj) (r : Tree)

def Tree.get : Tree → Nat → Option Obj
  | .leaf, _ => none
  | .node l v r, k => cond (Nat.beq k 0) v (cond (Nat.beq (k % 2) 1) (l.get (k / 2)) (r.get (k / 2 - 1)))

def Tree.set : Nat → Tree → Nat → Option Obj → Option Tree
  | 0, _, _, _ => none
  | n + 1, .leaf, k, o =>
    cond (Nat.beq k 0) (some (.node .leaf o .leaf)) (cond (Nat.beq (k % 2) 1) ((Tree.set n .leaf (k / 2) o).map fun l => .node l none .leaf)
      ((Tree.set n .leaf (k / 2 - 1) o).map fun r => .node .leaf none r))
  | n + 1, .node l v r, k, o =>
    cond (Nat.beq k 0) (some (.node l o r)) (cond (Nat.beq (k % 2) 1) ((Tree.set n l (k / 2) o).map fun l' => .node l' v r)
      ((Tree.set n r (k / 2 - 1) o).map fun r' => .node l v r'))

theorem Tree.get_set : ∀ (n : Nat) (t : Tree) (k : Nat) (o : Option Obj) (t' : Tree), Tree.set n t k o = some t' → ∀ j, t'.get j = if j = k then o else t.get j := by
  intro n
  induction n with
  | zero => intro t k o t' h; cases t <;> simp [Tree.set] at h
  | succ n ih =>
    intro t k o t' h j
    have key : ∀ (l r : Tree) (v : Option Obj), (cond (Nat.beq k 0) (some (.node l o r)) (cond (Nat.beq (k % 2) 1) ((Tree.set n l (k / 2) o).map fun l' => .node l' v r)
      ((Tree.set n r (k / 2 - 1) o).map fun r' => .node l v r')) : Option Tree) = some t' → t'.get j = if j = k then o else (Tree.node l v r).get j := by
      intro l r v h
      by_cases h0 : k = 0
      · subst h0
        simp only [Nat.beq_eq, cond_eq_ite, if_true, Option.some.injEq] at h
        subst h
        by_cases hj : j = 0 <;> simp [Tree.get, cond_eq_ite, hj]
      · by_cases h1 : k % 2 = 1
        · simp only [Nat.beq_eq, cond_eq_ite, h0, h1, if_false, if_true, Option.map_eq_some_iff] at h
          obtain ⟨l', hl, rfl⟩ := h
          have e := ih l (k / 2) o l' hl (j / 2)
          by_cases hj : j = 0
          · subst hj; have : ¬ (0 = k) := fun e => h0 e.symm
            simp [Tree.get, this]
          · by_cases hj1 : j % 2 = 1
            · simp only [Tree.get, cond_eq_ite, Nat.beq_eq, hj, hj1, if_false, if_true, e]
              by_cases e1 : j / 2 = k / 2
              · have : j = k := by omega
                simp [this]
              · have : ¬ j = k := fun x => e1 (by rw [x])
                simp [e1, this]
            · have : ¬ j = k := fun x => hj1 (by rw [x]; exact h1)
              simp [Tree.get, cond_eq_ite, hj, hj1, this]
        · simp only [Nat.beq_eq, cond_eq_ite, h0, h1, if_false, Option.map_eq_some_iff] at h
          obtain ⟨r', hr, rfl⟩ := h
          have e := ih r (k / 2 - 1) o r' hr (j / 2 - 1)
          by_cases hj : j = 0
          · subst hj; have : ¬ (0 = k) := fun e => h0 e.symm
            simp [Tree.get, this]
          · by_cases hj1 : j % 2 = 1
            · have : ¬ j = k := fun x => h1 (by rw [← x]; exact hj1)
              simp [Tree.get, cond_eq_ite, hj, hj1, this]
            · simp only [Tree.get, cond_eq_ite, Nat.beq_eq, hj, hj1, if_false, e]
              by_cases e1 : j / 2 - 1 = k / 2 - 1
              · have : j = k := by omega
                simp [this]
              · have : ¬ j = k := fun x => e1 (by rw [x])
                simp [e1, this]
    cases t with
    | leaf =>
      have := key .leaf .leaf none (by simpa [Tree.set] using h)
      rw [this]
      simp only [Tree.get, cond_eq_ite]
      repeat' split
      all_goals rfl
    | node l v r => exact key l r v (by simpa [Tree.set] using h)

structure Heap where
  next : Nat
  t : Tree

def Heap.get (h : Heap) (b : Nat) : Option Obj := h.t.get b
def Heap.set (h : Heap) (b : Nat) (o : Option Obj) : Option Heap := (h.t.set 48 b o).map fun t => { h with t }
def Heap.push (h : Heap) (o : Obj) : Option Heap := (h.t.set 48 h.next (some o)).map fun t => { next := h.next + 1, t }

theorem Heap.get_set {h h' : Heap} {b : Nat} {o : Option Obj} (e : h.set b o = some h') : h'.next = h.next ∧ ∀ j, h'.get j = if j = b then o else h.get j := by
  unfold Heap.set at e
  rw [Option.map_eq_some_iff] at e
  obtain ⟨t, ht, rfl⟩ := e
  exact ⟨rfl, Tree.get_set _ _ _ _ _ ht⟩
theorem Heap.get_push {h h' : Heap} {o : Obj} (e : h.push o = some h') : h'.next = h.next + 1 ∧ ∀ j, h'.get j = if j = h.next then some o else h.get j := by
  unfold Heap.push at e
  rw [Option.map_eq_some_iff] at e
  obtain ⟨t, ht, rfl⟩ := e
  exact ⟨rfl, Tree.get_set _ _ _ _ _ ht⟩

def Heap.cell (h : Heap) (a : Addr) : Option Value :=
  match h.get a.block with
  | some (.cells c _ _) => if a.spot.isSome then none else c[a.off]?
  | _ => none

/-- What is only read. -/
def roObj : Obj → Bool
  | .cells _ _ fr => Nat.beq fr.1 2
  | _ => false
def Heap.setCell (h : Heap) (a : Addr) (v : Value) : Option Heap :=
  match h.get a.block with
  | some (.cells c e f) => if a.spot.isNone && (decide (a.off < c.size) && !(Nat.beq f.1 2)) then h.set a.block (some (.cells (c.setIfInBounds a.off v) e f)) else none
  | _ => none

/-! ### How it lies in the world -/

structure Facts where
  tape : Nat → Question → Nat
  os : Os
  output : Array (Nat × ByteArray)
  at_ : Nat → Obj → Prop
  unborn : Nat → Prop

section holed
variable [Holes]
def ERel (ρ : Emb) (e e' : MapEntry) : Prop := e.key = e'.key ∧ flat 3 e.key = true ∧ e.born = e'.born ∧ VRel ρ e.val e'.val

omit [Holes] in
theorem noFr {fr : Nat × Nat} {tot : Nat} (h : fr.1 = fr.2 ∨ tot ≤ fr.1) (i : Nat) (hi : i < tot) : ¬ (fr.1 ≤ i ∧ i < fr.2) := by omega

def ORel (ρ : Emb) (L : Loc) : Obj → Obj → Prop
  | .cells c _ fr, .cells c' _ fr' => L.loose = (Nat.beq fr.1 1) ∧ L.esz = fr.2 ∧ L.len = c.size ∧ L.tot = c'.size ∧ L.off + L.len ≤ L.tot ∧
      (∀ (i : Nat) (v v' : Value), c[i]? = some v → c'[L.off + i]? = some v' → VRel ρ v v') ∧ (fr'.1 = fr'.2 ∨ L.tot ≤ fr'.1)
  | .map es ck, .map es' ck' => L.off = 0 ∧ ck = ck' ∧ es.size = es'.size ∧ ∀ (i : Nat) (e e' : MapEntry), es[i]? = some e → es'[i]? = some e' → ERel ρ e e'
  | .stringIter s p, .stringIter s' p' => L.off = 0 ∧ s = s' ∧ p = p'
  | .mapIter m since seen st, .mapIter m' since' seen' st' => L.off = 0 ∧ since = since' ∧ seen = seen' ∧ st = st' ∧
      (match m, m' with | none, none => True | some b, some b' => ∃ M, ρ b = some M ∧ M.blk = b' | _, _ => False)
  | .loop l, .loop l' => L.off = 0 ∧ l.state = l'.state ∧ l.pending = l'.pending ∧ VsRel ρ l.tmps l'.tmps ∧ l.params = l'.params ∧ l.assign = l'.assign ∧ l.body = l'.body ∧
      ∃ D, ρ l.defers = some D ∧ D.blk = l'.defers
  | .deferred (some []), .deferred (some []) => L.off = 0
  | .deferred none, .deferred none => L.off = 0
  | _, _ => False

theorem ERel.mono {ρ σ : Emb} (hle : ρ.le σ) {e e' : MapEntry} (h : ERel ρ e e') : ERel σ e e' := ⟨h.1, h.2.1, h.2.2.1, h.2.2.2.mono hle⟩

theorem ORel.mono {ρ σ : Emb} (hle : ρ.le σ) {L : Loc} {o o' : Obj} (h : ORel ρ L o o') : ORel σ L o o' := by
  unfold ORel at h ⊢
  split at h
  · obtain ⟨h1, h2, h3, h4, h5, h6, h7⟩ := h
    exact ⟨h1, h2, h3, h4, h5, fun i v v' a b => (h6 i v v' a b).mono hle, h7⟩
  · obtain ⟨h1, h2, h3, h4⟩ := h
    exact ⟨h1, h2, h3, fun i v v' a b => (h4 i v v' a b).mono hle⟩
  · exact h
  · rename_i m since seen st m' since' seen' st'
    obtain ⟨h1, h2, h3, h4, h5⟩ := h
    refine ⟨h1, h2, h3, h4, ?_⟩
    cases m <;> cases m' <;> simp only at h5 ⊢
    obtain ⟨M, hM, e⟩ := h5
    exact ⟨M, hle _ _ hM, e⟩
  · obtain ⟨h1, h2, h3, h4, h5, h6, h7, D, hD, e⟩ := h
    exact ⟨h1, h2, h3, h4.mono hle, h5, h6, h7, D, hle _ _ hD, e⟩
  · exact h
  · exact h
  · exact h.elim

/-- The known variables bear their own numbers. -/
def GlobR [Globs] (ρ : Emb) : Prop := ∀ g, g < Globs.n → ∃ L, ρ g = some L ∧ L.blk = g ∧ L.off = 0
omit [Holes] in
theorem GlobR.mono [Globs] {ρ σ : Emb} (hle : ρ.le σ) (h : GlobR ρ) : GlobR σ := fun g hg => let ⟨L, h1, h2⟩ := h g hg; ⟨L, hle _ _ h1, h2⟩

variable [Globs]
structure Inv (F : Facts) (ρ : Emb) (h : Heap) (w : World) : Prop where
  tape : w.tape = F.tape
  os : w.os = F.os
  output : w.output = F.output
  base : ∀ k o, Holes.at_ k o → F.at_ k o
  glob : GlobR ρ
  facts : ∀ k o, F.at_ k o → w.heap[k]? = some o
  live : ∀ b o L, h.get b = some o → ρ b = some L → ∃ o', w.heap[L.blk]? = some o' ∧ ORel ρ L o o'
  inj : ∀ b b' o o' L L', h.get b = some o → h.get b' = some o' → ρ b = some L → ρ b' = some L' → L.blk = L'.blk → b = b'
  apart : ∀ b o L k o', h.get b = some o → ρ b = some L → F.at_ k o' → roObj o = false → L.blk ≠ k
  dom : ∀ b L, ρ b = some L → b < h.next ∧ L.blk < w.heap.size
  named : ∀ b o, h.get b = some o → b < h.next
  unb : ∀ b, F.unborn b → ρ b = none ∧ b < h.next

theorem Inv.drawn {F : Facts} {ρ : Emb} {h : Heap} {w : World} (i : Inv F ρ h w) (n : Nat) : Inv F ρ h { w with drawn := n } :=
  ⟨i.tape, i.os, i.output, i.base, i.glob, i.facts, i.live, i.inj, i.apart, i.dom, i.named, i.unb⟩

end holed
/-! ### The abstract run of an instruction -/

def okObj : Obj → Bool
  | .cells .. | .map .. | .stringIter .. | .mapIter .. | .loop _ => true
  | .deferred (some []) | .deferred none => true
  | _ => false

def noCells : Obj → Bool
  | .cells .. => false
  | _ => true

theorem ro_noCells {o : Obj} (h : noCells o = true) : roObj o = false := by
  cases o <;> first
    | rfl
    | exact absurd h (by simp [noCells])

def arun {α : Type} (P : Program) : Sem α → Heap → Option (α × Heap)
  | .pure a, h => some (a, h)
  | .load _ a k, h => match h.cell a with
    | some v => arun P (k v) h
    | none => none
  | .store _ a v k, h => match v with
    | .agg _ => none
    | .tuple _ => none
    | v => match h.setCell a v with
      | some h' => arun P k h'
      | none => none
  | .new o k, h => match o with
    | .cells c e _ => match h.push (.cells c e (0, 0)) with
      | some h' => arun P (k h.next) h'
      | none => none
    | o => if okObj o then match h.push o with
      | some h' => arun P (k h.next) h'
      | none => none else none
  | .shape _ _, _ => none
  | .freeze .., _ => none
  | .frozen .., _ => none
  | .getObj r k, h => match h.get r with
    | some o => if noCells o then arun P (k o) h else none
    | none => none
  | .setObj r o k, h => match h.get r with
    | some o₀ => if noCells o₀ && noCells o && okObj o then match h.set r (some o) with
      | some h' => arun P k h'
      | none => none else none
    | none => none
  | .choose q k, h => if q.forced then arun P (k 0) h else none
  | .sys .., _ => none
  | .program k, h => arun P (k P) h
  | .mark _ k, h => arun P k h
  | .halt _, _ => none

theorem arun_bind {α β : Type} (P : Program) (s : Sem α) (k : α → Sem β) (h : Heap) :
    arun P (s.bind k) h = match arun P s h with
      | some (a, h') => arun P (k a) h'
      | none => none := by
  induction s generalizing h with
  | pure a => simp [Sem.bind, arun]
  | load m a k' ih => simp only [Sem.bind, arun]; split <;> simp [ih]
  | store m a v k' ih => cases v <;> simp only [Sem.bind, arun] <;> (try (split <;> simp [ih]))
  | new o k' ih => cases o <;> simp only [Sem.bind, arun] <;> (repeat' split) <;> simp_all
  | shape r k' ih => simp [Sem.bind, arun]
  | freeze a n k' ih => simp [Sem.bind, arun]
  | frozen a k' ih => simp [Sem.bind, arun]
  | getObj r k' ih => simp only [Sem.bind, arun]; (repeat' split) <;> simp_all
  | setObj r o k' ih => simp only [Sem.bind, arun]; (repeat' split) <;> simp_all
  | choose q k' ih => simp only [Sem.bind, arun]; (repeat' split) <;> simp_all
  | sys c k' ih => simp [Sem.bind, arun]
  | program k' ih => simp only [Sem.bind, arun, ih]
  | mark m k' ih => simp only [Sem.bind, arun, ih]
  | halt x => simp [Sem.bind, arun]

theorem run_bind {α β : Type} (P : Program) (s : Sem α) (k : α → Sem β) (w : World) :
    (s.bind k).run P w = match s.run P w with
      | .ok a w' => (k a).run P w'
      | .halt x w' => .halt x w' := by
  induction s generalizing w with
  | pure a => simp [Sem.bind, Sem.run]
  | load m a k' ih => simp only [Sem.bind, Sem.run]; (repeat' split) <;> simp_all
  | store m a v k' ih => cases v <;> simp only [Sem.bind, Sem.run] <;> (try ((repeat' split) <;> simp_all))
  | new o k' ih => simp only [Sem.bind, Sem.run, ih]
  | shape r k' ih => simp only [Sem.bind, Sem.run, ih]
  | freeze a n k' ih => simp only [Sem.bind, Sem.run, ih]
  | frozen a k' ih => simp only [Sem.bind, Sem.run, ih]
  | getObj r k' ih => simp only [Sem.bind, Sem.run]; (repeat' split) <;> simp_all
  | setObj r o k' ih => simp only [Sem.bind, Sem.run]; (repeat' split) <;> simp_all
  | choose q k' ih => simp only [Sem.bind, Sem.run]; (repeat' split) <;> simp_all
  | sys c k' ih => simp only [Sem.bind, Sem.run, ih]
  | program k' ih => simp only [Sem.bind, Sem.run, ih]
  | mark m k' ih => simp only [Sem.bind, Sem.run, ih]
  | halt x => simp [Sem.bind, Sem.run]

section holed
variable [Globs] [Holes]
/-- The relational logic: what the abstract run gives, the world's run gives, alike. -/
def Sim {α β : Type} (P : Program) (R : Emb → α → β → Prop) (ρ : Emb) (s : Sem α) (s' : Sem β) : Prop :=
  ∀ F h w a h₁, Inv F ρ h w → arun P s h = some (a, h₁) → ∃ σ b w₁, s'.run P w = .ok b w₁ ∧ ρ.le σ ∧ Inv F σ h₁ w₁ ∧ R σ a b

section logic
variable {P : Program} {ρ : Emb}

theorem Sim.bind {α β γ δ : Type} {R : Emb → α → β → Prop} {R' : Emb → γ → δ → Prop} {s : Sem α} {s' : Sem β} {k : α → Sem γ} {k' : β → Sem δ}
    (hs : Sim P R ρ s s') (hk : ∀ σ, ρ.le σ → ∀ a b, R σ a b → Sim P R' σ (k a) (k' b)) : Sim P R' ρ (s >>= k) (s' >>= k') := by
  intro F h w c h₁ hi ha
  change arun P (s.bind k) h = _ at ha
  rw [arun_bind] at ha
  split at ha
  · rename_i a h' e
    obtain ⟨σ, b, w', hr, hle, hi', hR⟩ := hs F h w a h' hi e
    obtain ⟨τ, d, w'', hr', hle', hi'', hR'⟩ := hk σ hle a b hR F h' w' c h₁ hi' ha
    refine ⟨τ, d, w'', ?_, Emb.le_trans hle hle', hi'', hR'⟩
    change (s'.bind k').run P w = _
    rw [run_bind, hr]
    exact hr'
  · exact absurd ha (by simp)

theorem Sim.pure {α β : Type} {R : Emb → α → β → Prop} {a : α} {b : β} (h : R ρ a b) : Sim P R ρ (Pure.pure a : Sem α) (Pure.pure b : Sem β) := by
  intro F hp w c h₁ hi ha
  change arun P (Sem.pure a) hp = _ at ha
  simp only [arun, Option.some.injEq, Prod.mk.injEq] at ha
  obtain ⟨rfl, rfl⟩ := ha
  exact ⟨ρ, b, w, rfl, Emb.le_refl _, hi, h⟩

theorem Sim.halt {α β : Type} {R : Emb → α → β → Prop} {x : Halt} {s' : Sem β} : Sim P R ρ (Sem.halt x : Sem α) s' := by
  intro F hp w c h₁ hi ha
  simp [arun] at ha

theorem Sim.halt_bind {α β γ : Type} {R : Emb → α → β → Prop} {x : Halt} {k : γ → Sem α} {s' : Sem β} : Sim P R ρ ((Sem.halt x : Sem γ) >>= k) s' := by
  intro F hp w c h₁ hi ha
  change arun P ((Sem.halt x : Sem γ).bind k) hp = _ at ha
  simp [Sem.bind, arun] at ha

theorem Sim.ite {α β : Type} {R : Emb → α → β → Prop} {c : Prop} [Decidable c] {s t : Sem α} {s' t' : Sem β} (h : c → Sim P R ρ s s') (h' : ¬ c → Sim P R ρ t t') :
    Sim P R ρ (if c then s else t) (if c then s' else t') := by
  by_cases hc : c
  · rw [if_pos hc, if_pos hc]; exact h hc
  · rw [if_neg hc, if_neg hc]; exact h' hc

theorem Sim.none {α β : Type} {R : Emb → α → β → Prop} {s : Sem α} {s' : Sem β} (h : ∀ hp, arun P s hp = Option.none) : Sim P R ρ s s' := by
  intro F hp w c h₁ hi ha
  rw [h] at ha
  exact absurd ha (by simp)

theorem Sim.mono {α β : Type} {R R' : Emb → α → β → Prop} {s : Sem α} {s' : Sem β} (h : Sim P R ρ s s') (hR : ∀ σ a b, ρ.le σ → R σ a b → R' σ a b) : Sim P R' ρ s s' := by
  intro F hp w a h₁ hi ha
  obtain ⟨σ, b, w₁, hr, hle, hi', hRR⟩ := h F hp w a h₁ hi ha
  exact ⟨σ, b, w₁, hr, hle, hi', hR _ _ _ hle hRR⟩

theorem Sim.program {α β : Type} {R : Emb → α → β → Prop} {k : Program → Sem α} {k' : Program → Sem β} (h : Sim P R ρ (k P) (k' P)) :
    Sim P R ρ (Go.program >>= k) (Go.program >>= k') := by
  intro F hp w a h₁ hi ha
  exact h F hp w a h₁ hi ha

end logic
end holed
end Go.Ev
