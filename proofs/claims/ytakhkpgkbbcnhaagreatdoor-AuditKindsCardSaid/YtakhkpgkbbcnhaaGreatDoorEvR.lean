/- The concrete evaluator, part R: the temporaries in a table of sixteen times sixteen; the operation, seen once. -/
import Derived.Test.YtakhkpgkbbcnhaaGreatDoorEvO
namespace Go.Ev
open Go
variable [Globs]

structure T16 (α : Type) where
  v0 : α
  v1 : α
  v2 : α
  v3 : α
  v4 : α
  v5 : α
  v6 : α
  v7 : α
  v8 : α
  v9 : α
  v10 : α
  v11 : α
  v12 : α
  v13 : α
  v14 : α
  v15 : α

section
variable {α β : Type}
def T16.get (t : T16 α) (i : Nat) : α :=
  match i with
  | 0 => t.v0
  | 1 => t.v1
  | 2 => t.v2
  | 3 => t.v3
  | 4 => t.v4
  | 5 => t.v5
  | 6 => t.v6
  | 7 => t.v7
  | 8 => t.v8
  | 9 => t.v9
  | 10 => t.v10
  | 11 => t.v11
  | 12 => t.v12
  | 13 => t.v13
  | 14 => t.v14
  | _ => t.v15
def T16.set (t : T16 α) (i : Nat) (x : α) : T16 α :=
  match i with
  | 0 => { t with v0 := x }
  | 1 => { t with v1 := x }
  | 2 => { t with v2 := x }
  | 3 => { t with v3 := x }
  | 4 => { t with v4 := x }
  | 5 => { t with v5 := x }
  | 6 => { t with v6 := x }
  | 7 => { t with v7 := x }
  | 8 => { t with v8 := x }
  | 9 => { t with v9 := x }
  | 10 => { t with v10 := x }
  | 11 => { t with v11 := x }
  | 12 => { t with v12 := x }
  | 13 => { t with v13 := x }
  | 14 => { t with v14 := x }
  | _ => { t with v15 := x }
omit [Globs] in
theorem T16.get_set (t : T16 α) (i j : Nat) (x : α) (hi : i < 16) (hj : j < 16) : (t.set i x).get j = if j = i then x else t.get j := by
  obtain ⟨v0, v1, v2, v3, v4, v5, v6, v7, v8, v9, v10, v11, v12, v13, v14, v15⟩ := t
  have hc : ∀ n, n < 16 → n = 0 ∨ n = 1 ∨ n = 2 ∨ n = 3 ∨ n = 4 ∨ n = 5 ∨ n = 6 ∨ n = 7 ∨ n = 8 ∨ n = 9 ∨ n = 10 ∨ n = 11 ∨ n = 12 ∨ n = 13 ∨ n = 14 ∨ n = 15 := by omega
  rcases hc i hi with rfl | rfl | rfl | rfl | rfl | rfl | rfl | rfl | rfl | rfl | rfl | rfl | rfl | rfl | rfl | rfl <;>
    rcases hc j hj with rfl | rfl | rfl | rfl | rfl | rfl | rfl | rfl | rfl | rfl | rfl | rfl | rfl | rfl | rfl | rfl <;> rfl
structure G16 (α : Type) where
  run : T16 α → α
def g16 (i : Nat) : G16 α :=
  match i with
  | 0 => ⟨fun t => t.v0⟩
  | 1 => ⟨fun t => t.v1⟩
  | 2 => ⟨fun t => t.v2⟩
  | 3 => ⟨fun t => t.v3⟩
  | 4 => ⟨fun t => t.v4⟩
  | 5 => ⟨fun t => t.v5⟩
  | 6 => ⟨fun t => t.v6⟩
  | 7 => ⟨fun t => t.v7⟩
  | 8 => ⟨fun t => t.v8⟩
  | 9 => ⟨fun t => t.v9⟩
  | 10 => ⟨fun t => t.v10⟩
  | 11 => ⟨fun t => t.v11⟩
  | 12 => ⟨fun t => t.v12⟩
  | 13 => ⟨fun t => t.v13⟩
  | 14 => ⟨fun t => t.v14⟩
  | _ => ⟨fun t => t.v15⟩
omit [Globs] in
theorem g16_eq (i : Nat) (t : T16 α) : (g16 i).run t = t.get i := by unfold g16 T16.get; split <;> rfl
structure M16 (α β : Type) where
  run : T16 α → (α → (α → β) → β) → (T16 α → β) → β
noncomputable def m16 (i : Nat) : M16 α β :=
  match i with
  | 0 => ⟨fun t f k => T16.rec (motive := fun _ => β) (fun v0 v1 v2 v3 v4 v5 v6 v7 v8 v9 v10 v11 v12 v13 v14 v15 => f v0 fun y => k ⟨y, v1, v2, v3, v4, v5, v6, v7, v8, v9, v10, v11, v12, v13, v14, v15⟩) t⟩
  | 1 => ⟨fun t f k => T16.rec (motive := fun _ => β) (fun v0 v1 v2 v3 v4 v5 v6 v7 v8 v9 v10 v11 v12 v13 v14 v15 => f v1 fun y => k ⟨v0, y, v2, v3, v4, v5, v6, v7, v8, v9, v10, v11, v12, v13, v14, v15⟩) t⟩
  | 2 => ⟨fun t f k => T16.rec (motive := fun _ => β) (fun v0 v1 v2 v3 v4 v5 v6 v7 v8 v9 v10 v11 v12 v13 v14 v15 => f v2 fun y => k ⟨v0, v1, y, v3, v4, v5, v6, v7, v8, v9, v10, v11, v12, v13, v14, v15⟩) t⟩
  | 3 => ⟨fun t f k => T16.rec (motive := fun _ => β) (fun v0 v1 v2 v3 v4 v5 v6 v7 v8 v9 v10 v11 v12 v13 v14 v15 => f v3 fun y => k ⟨v0, v1, v2, y, v4, v5, v6, v7, v8, v9, v10, v11, v12, v13, v14, v15⟩) t⟩
  | 4 => ⟨fun t f k => T16.rec (motive := fun _ => β) (fun v0 v1 v2 v3 v4 v5 v6 v7 v8 v9 v10 v11 v12 v13 v14 v15 => f v4 fun y => k ⟨v0, v1, v2, v3, y, v5, v6, v7, v8, v9, v10, v11, v12, v13, v14, v15⟩) t⟩
  | 5 => ⟨fun t f k => T16.rec (motive := fun _ => β) (fun v0 v1 v2 v3 v4 v5 v6 v7 v8 v9 v10 v11 v12 v13 v14 v15 => f v5 fun y => k ⟨v0, v1, v2, v3, v4, y, v6, v7, v8, v9, v10, v11, v12, v13, v14, v15⟩) t⟩
  | 6 => ⟨fun t f k => T16.rec (motive := fun _ => β) (fun v0 v1 v2 v3 v4 v5 v6 v7 v8 v9 v10 v11 v12 v13 v14 v15 => f v6 fun y => k ⟨v0, v1, v2, v3, v4, v5, y, v7, v8, v9, v10, v11, v12, v13, v14, v15⟩) t⟩
  | 7 => ⟨fun t f k => T16.rec (motive := fun _ => β) (fun v0 v1 v2 v3 v4 v5 v6 v7 v8 v9 v10 v11 v12 v13 v14 v15 => f v7 fun y => k ⟨v0, v1, v2, v3, v4, v5, v6, y, v8, v9, v10, v11, v12, v13, v14, v15⟩) t⟩
  | 8 => ⟨fun t f k => T16.rec (motive := fun _ => β) (fun v0 v1 v2 v3 v4 v5 v6 v7 v8 v9 v10 v11 v12 v13 v14 v15 => f v8 fun y => k ⟨v0, v1, v2, v3, v4, v5, v6, v7, y, v9, v10, v11, v12, v13, v14, v15⟩) t⟩
  | 9 => ⟨fun t f k => T16.rec (motive := fun _ => β) (fun v0 v1 v2 v3 v4 v5 v6 v7 v8 v9 v10 v11 v12 v13 v14 v15 => f v9 fun y => k ⟨v0, v1, v2, v3, v4, v5, v6, v7, v8, y, v10, v11, v12, v13, v14, v15⟩) t⟩
  | 10 => ⟨fun t f k => T16.rec (motive := fun _ => β) (fun v0 v1 v2 v3 v4 v5 v6 v7 v8 v9 v10 v11 v12 v13 v14 v15 => f v10 fun y => k ⟨v0, v1, v2, v3, v4, v5, v6, v7, v8, v9, y, v11, v12, v13, v14, v15⟩) t⟩
  | 11 => ⟨fun t f k => T16.rec (motive := fun _ => β) (fun v0 v1 v2 v3 v4 v5 v6 v7 v8 v9 v10 v11 v12 v13 v14 v15 => f v11 fun y => k ⟨v0, v1, v2, v3, v4, v5, v6, v7, v8, v9, v10, y, v12, v13, v14, v15⟩) t⟩
  | 12 => ⟨fun t f k => T16.rec (motive := fun _ => β) (fun v0 v1 v2 v3 v4 v5 v6 v7 v8 v9 v10 v11 v12 v13 v14 v15 => f v12 fun y => k ⟨v0, v1, v2, v3, v4, v5, v6, v7, v8, v9, v10, v11, y, v13, v14, v15⟩) t⟩
  | 13 => ⟨fun t f k => T16.rec (motive := fun _ => β) (fun v0 v1 v2 v3 v4 v5 v6 v7 v8 v9 v10 v11 v12 v13 v14 v15 => f v13 fun y => k ⟨v0, v1, v2, v3, v4, v5, v6, v7, v8, v9, v10, v11, v12, y, v14, v15⟩) t⟩
  | 14 => ⟨fun t f k => T16.rec (motive := fun _ => β) (fun v0 v1 v2 v3 v4 v5 v6 v7 v8 v9 v10 v11 v12 v13 v14 v15 => f v14 fun y => k ⟨v0, v1, v2, v3, v4, v5, v6, v7, v8, v9, v10, v11, v12, v13, y, v15⟩) t⟩
  | _ => ⟨fun t f k => T16.rec (motive := fun _ => β) (fun v0 v1 v2 v3 v4 v5 v6 v7 v8 v9 v10 v11 v12 v13 v14 v15 => f v15 fun y => k ⟨v0, v1, v2, v3, v4, v5, v6, v7, v8, v9, v10, v11, v12, v13, v14, y⟩) t⟩
omit [Globs] in
theorem m16_eq (i : Nat) (t : T16 α) (f : α → (α → β) → β) (k : T16 α → β) : (m16 i).run t f k = f (t.get i) fun y => k (t.set i y) := by
  unfold m16 T16.get T16.set
  split <;> rfl
end

abbrev T256 := T16 (T16 Value)
def getT (t : T256) (i : Nat) : Value := (t.get (i / 16)).get (i % 16)
def setT (t : T256) (i : Nat) (v : Value) : T256 := t.set (i / 16) ((t.get (i / 16)).set (i % 16) v)
omit [Globs] in
theorem getT_setT (t : T256) (i j : Nat) (v : Value) (hi : i < 256) (hj : j < 256) : getT (setT t i v) j = if j = i then v else getT t j := by
  unfold getT setT
  rw [T16.get_set _ _ _ _ (by omega) (by omega)]
  by_cases h : j / 16 = i / 16
  · rw [if_pos h, T16.get_set _ _ _ _ (by omega) (by omega)]
    by_cases h2 : j % 16 = i % 16
    · rw [if_pos h2, if_pos (by omega)]
    · rw [if_neg h2, if_neg (by rintro rfl; exact h2 rfl), h]
  · rw [if_neg h, if_neg (by rintro rfl; exact h rfl)]
def u16 : T16 Value := ⟨undef, undef, undef, undef, undef, undef, undef, undef, undef, undef, undef, undef, undef, undef, undef, undef⟩
def u256 : T256 := ⟨u16, u16, u16, u16, u16, u16, u16, u16, u16, u16, u16, u16, u16, u16, u16, u16⟩

structure RAct where
  t : T256
  n : Nat
  defers : List Deferred
def RAct.arr (a : RAct) : Array Value := Array.ofFn (n := min a.n 256) fun i => getT a.t i.1
def RAct.act (a : RAct) : Act := { tmps := a.arr, defers := a.defers }
omit [Globs] in
theorem arr_get (a : RAct) (i : Nat) : a.arr[i]? = if i < a.n ∧ i < 256 then some (getT a.t i) else none := by
  unfold RAct.arr
  rw [Array.getElem?_ofFn]
  by_cases h : i < min a.n 256
  · rw [dif_pos h, if_pos (by omega)]
  · rw [dif_neg h, if_neg (by omega)]

/-! operands and results -/
structure EvF where
  run : RAct → Value
def tmpF (c : Bool) : Nat → EvF :=
  match c with
  | true => fun i => forceN (i + 1) fun i1 => ⟨fun a => cond (Nat.ble i1 a.n) ((g16 (i % 16)).run ((g16 (i / 16)).run a.t)) undef⟩
  | false => fun _ => ⟨fun _ => undef⟩
def evF (x : Operand) : EvF :=
  match x with
  | .tmp t => tmpF (Nat.blt t 256) t
  | .const v => ⟨fun _ => v⟩
  | .global g => ⟨fun _ => .pointer (some ⟨g, 0, none⟩)⟩
  | .func f => ⟨fun _ => .func (.func f) #[] #[]⟩
omit [Globs] in
theorem tmpF_eq (i : Nat) (a : RAct) : (tmpF (Nat.blt i 256) i).run a = lget a.arr.toList i := by
  rw [lget_eq, Array.getElem?_toList, arr_get]
  cases hb : Nat.blt i 256 with
  | false =>
    have : ¬ i < 256 := by rw [← Nat.blt_eq, hb]; simp
    rw [if_neg (by omega)]
    rfl
  | true =>
    have : i < 256 := by rw [← Nat.blt_eq, hb]
    unfold tmpF
    simp only [forceN_eq, g16_eq]
    cases hn : Nat.ble (i + 1) a.n with
    | true =>
      have := Nat.le_of_ble_eq_true hn
      rw [if_pos (by omega)]
      rfl
    | false =>
      have : ¬ (i + 1 ≤ a.n) := by intro h; rw [Nat.ble_eq_true_of_le h] at hn; exact absurd hn (by simp)
      rw [if_neg (by omega)]
      rfl
omit [Globs] in
theorem evF_eq (x : Operand) (a : RAct) : (evF x).run a = evR x a.act := by
  rw [evR_eq]
  cases x with
  | tmp i => exact tmpF_eq i a
  | _ => rfl

structure PutF (β : Type) where
  run : RAct → Value → (RAct → β) → β
noncomputable def putI {β : Type} (c : Bool) : Nat → PutF β :=
  match c with
  | true => fun i => forceN (i + 1) fun i1 => ⟨fun a v k => RAct.rec (motive := fun _ => β) (fun t n d => cond (Nat.ble i1 n) ((m16 (i / 16)).run t (fun u k => (m16 (i % 16)).run u (fun _ k => k v) k) fun t => k ⟨t, n, d⟩) (k ⟨t, n, d⟩)) a⟩
  | false => fun _ => ⟨fun a _ k => k a⟩
noncomputable def putF {β : Type} (d : Option Tmp) : PutF β :=
  match d with
  | none => ⟨fun a _ k => k a⟩
  | some i => putI (Nat.blt i 256) i
/-- What a put leaves. -/
def RAct.put (a : RAct) (d : Option Tmp) (v : Value) : RAct :=
  match d with
  | none => a
  | some i => if i < a.n ∧ i < 256 then ⟨setT a.t i v, a.n, a.defers⟩ else a
omit [Globs] in
theorem RAct.put_arr (a : RAct) (i : Nat) (v : Value) : (if i < a.n ∧ i < 256 then (⟨setT a.t i v, a.n, a.defers⟩ : RAct) else a).arr = a.arr.setIfInBounds i v := by
  have hs : a.arr.size = min a.n 256 := by simp [RAct.arr]
  by_cases h : i < a.n ∧ i < 256
  · rw [if_pos h]
    apply Array.ext_getElem?
    intro j
    rw [arr_get, Array.getElem?_setIfInBounds, arr_get]
    by_cases hj : i = j
    · subst hj
      rw [if_pos h, if_pos rfl, if_pos (by rw [hs]; omega), getT_setT _ _ _ _ h.2 h.2, if_pos rfl]
    · rw [if_neg hj]
      by_cases h2 : j < a.n ∧ j < 256
      · rw [if_pos h2, if_pos h2, getT_setT _ _ _ _ h.2 h2.2, if_neg (fun h => hj h.symm)]
      · rw [if_neg h2, if_neg h2]
  · rw [if_neg h, Array.setIfInBounds, dif_neg]
    rw [hs]
    omega
omit [Globs] in
theorem RAct.put_act (a : RAct) (d : Option Tmp) (v : Value) : (a.put d v).act = a.act.put d v := by
  cases d with
  | none => rfl
  | some i =>
    have h := RAct.put_arr a i v
    show RAct.act (if i < a.n ∧ i < 256 then ⟨setT a.t i v, a.n, a.defers⟩ else a) = { a.act with tmps := a.arr.setIfInBounds i v }
    have hd : (if i < a.n ∧ i < 256 then (⟨setT a.t i v, a.n, a.defers⟩ : RAct) else a).defers = a.defers := by split <;> rfl
    show Act.mk _ _ = Act.mk _ _
    rw [h, hd]
    rfl
omit [Globs] in
theorem putI_eq {β : Type} (i : Nat) (a : RAct) (v : Value) (k : RAct → β) : (putI (Nat.blt i 256) i).run a v k = k (if i < a.n ∧ i < 256 then ⟨setT a.t i v, a.n, a.defers⟩ else a) := by
  cases hb : Nat.blt i 256 with
  | false =>
    have : ¬ i < 256 := by rw [← Nat.blt_eq, hb]; simp
    rw [if_neg (by omega)]
    rfl
  | true =>
    have : i < 256 := by rw [← Nat.blt_eq, hb]
    unfold putI
    simp only [forceN_eq, m16_eq]
    cases hn : Nat.ble (i + 1) a.n with
    | true =>
      have := Nat.le_of_ble_eq_true hn
      rw [if_pos (by omega)]
      rfl
    | false =>
      have : ¬ (i + 1 ≤ a.n) := by intro h; rw [Nat.ble_eq_true_of_le h] at hn; exact absurd hn (by simp)
      rw [if_neg (by omega)]
      rfl
omit [Globs] in
theorem putF_eq {β : Type} (d : Option Tmp) (a : RAct) (v : Value) (k : RAct → β) : (putF d).run a v k = k (a.put d v) := by
  cases d with
  | none => rfl
  | some i => exact putI_eq i a v k

section
variable {P : Program}
noncomputable def mapF {β : Type} (l : List Operand) : RAct → (List Value → Option β) → Option β :=
  List.rec (motive := fun _ => RAct → (List Value → Option β) → Option β) (fun _ k => k [])
    (fun x _ ih a k => gB (okOp x) (forceV ((evF x).run a) fun v => ih a fun l => k (v :: l))) l
theorem mapF_eq {β : Type} (l : List Operand) : ∀ (a : RAct) (k : List Value → Option β), mapF l a k = mapR l a.act k := by
  induction l with
  | nil => intro a k; rfl
  | cons x l ih =>
    intro a k
    show gB (okOp x) (forceV ((evF x).run a) fun v => mapF l a fun l => k (v :: l)) = gB (okOp x) (forceV (evR x a.act) fun v => mapR l a.act fun l => k (v :: l))
    simp only [evF_eq, ih]
structure BinF where
  run : Value → Value → Option Value
noncomputable def binF (op : BinOp) : BinF :=
  match op with
  | .shl => ⟨fun v w => intB v fun k a => intB w fun _ b => shV .shl k a b⟩
  | .shr => ⟨fun v w => intB v fun k a => intB w fun _ b => some (.int k (.ofNat (a / 2 ^ (Nat.min b (bitsN k)))))⟩
  | .add => ⟨fun v w => intB v fun k a => intB w fun k' b => gB (kindEq k k') (wrapV k (a + b))⟩
  | .eql => ⟨fun v w => intB v fun k a => intB w fun k' b => gB (kindEq k k') (boolV (Nat.beq a b))⟩
  | .neq => ⟨fun v w => intB v fun k a => intB w fun k' b => gB (kindEq k k') (boolV (!(Nat.beq a b)))⟩
  | .lss => ⟨fun v w => intB v fun k a => intB w fun k' b => gB (kindEq k k') (boolV (Nat.blt a b))⟩
  | .and => ⟨fun v w => intB v fun k a => intB w fun k' b => gB (kindEq k k') (andV k a b)⟩
  | .or => ⟨fun v w => intB v fun k a => intB w fun k' b => gB (kindEq k k') (orV k a b)⟩
  | .xor => ⟨fun v w => intB v fun k a => intB w fun k' b => gB (kindEq k k') (xorV k a b)⟩
  | op => ⟨fBin op⟩
omit [Globs] in
theorem binF_eq (op : BinOp) (v w : Value) : (binF op).run v w = fBin op v w := by
  cases op <;> rfl
inductive OpK where
  | light (run : RAct → Heap → Option Value)
  | store (run : RAct → Heap → Option Heap)
  | enter (run : RAct → Option (FuncId × List Value))
  | slow
def cK (c : Bool) : OpK → OpK :=
  match c with
  | true => fun k => k
  | false => fun _ => .slow
def oK {α : Type} (x : Option α) : (α → OpK) → OpK :=
  match x with
  | some a => fun f => f a
  | none => fun _ => .slow
def structL (d : TypeDesc) : Option (List Field) :=
  match d with
  | .struct ⟨fs⟩ => some fs
  | _ => none
def intD (d : TypeDesc) : Option IntKind :=
  match d with
  | .int k => some k
  | _ => none
def elemD (d : TypeDesc) : Option TypeId :=
  match d with
  | .slice e => some e
  | _ => none
def sliceB (v : Value) : (Addr → Nat → Option Value) → Option Value :=
  match v with
  | .slice (some a) l _ => fun f => f a l
  | _ => fun _ => none
noncomputable def lenK (l : List Operand) : List TypeId → Program → OpK :=
  match l with
  | [x] => fun ts => match ts with
    | [t] => fun P => cK (okOp x) (oK (und P t) fun d => cK (sliceD d) (.light fun a _ => slenV ((evF x).run a)))
    | _ => fun _ => .slow
  | _ => fun _ _ => .slow
noncomputable def callK (c : Callee) : List Operand → List TypeId → Program → OpK :=
  match c with
  | .builtin b => match b with
    | .len => lenK
    | _ => fun _ _ _ => .slow
  | .value x => match x with
    | .func f => fun l _ P => oK (bodyB P f fun _ c => some ()) fun _ => .enter fun a => mapF l a fun l => some (f, l)
    | _ => fun _ _ _ => .slow
  | _ => fun _ _ _ => .slow
noncomputable def opK (o : Op) : Program → OpK :=
  match o with
  | .move x => fun _ => cK (okOp x) (.light fun a _ => some ((evF x).run a))
  | .assign x => fun _ => cK (okOp x) (.light fun a _ => some ((evF x).run a))
  | .pick c x y => fun _ => cK (okOp c) (cK (okOp x) (cK (okOp y) (.light fun a _ => boolB ((evF c).run a) (some ((evF x).run a)) (some ((evF y).run a)))))
  | .load t x => fun P => cK (okOp x) (oK (und P t) fun d => cK (scalarD d) (.light fun a h => ptrB ((evF x).run a) fun p => cellR h p))
  | .store t x v => fun P => cK (okOp x) (cK (okOp v) (oK (tyAt P t) fun i => cK (Nat.beq i.size 1) (.store fun a h => gB (plainV ((evF v).run a)) (ptrB ((evF x).run a) fun p => setCellR h p ((evF v).run a) some))))
  | .fieldAddr s x f => fun P => cK (okOp x) (oK (und P s) fun d => oK (structL d) fun fs => oK (nthR fs f) fun f => oK (tyAt P f.type) fun i => cK (!(Nat.beq i.size 0)) (forceN f.offset fun o => .light fun a _ => ptrB ((evF x).run a) fun p => some (.pointer (some (p.add o)))))
  | .indexAddr t x y => fun P => cK (okOp x) (cK (okOp y) (oK (und P t) fun d => oK (elemD d) fun e => oK (tyAt P e) fun i => forceN i.size fun s =>
      .light fun a _ => intB ((evF y).run a) fun _ m => sliceB ((evF x).run a) fun p l => gB (Nat.blt m l) (some (.pointer (some (p.add (m * s)))))))
  | .extract x i => fun _ => cK (okOp x) (.light fun a _ => tupV ((evF x).run a) i)
  | .binOp op _ x y _ => fun _ => cK (okOp x) (cK (okOp y) (.light fun a _ => (binF op).run ((evF x).run a) ((evF y).run a)))
  | .convert src dst x => fun P => cK (okOp x) (oK (und P dst) fun d => oK (intD d) fun k => oK (und P src) fun _ => .light fun a _ => intB ((evF x).run a) fun _ n => wrapV k n)
  | .nilCheck x => fun _ => cK (okOp x) (.light fun a _ => ptrV ((evF x).run a))
  | .call c => fun P => callK c.callee c.args.toList c.argTypes.toList P
  | _ => fun _ => .slow
def OpKOk (P : Program) (o : Op) (k : OpK) : Prop :=
  match k with
  | .light f => ∀ a h v, f a h = some v → fLight o P a.act h = some v
  | .store f => ∀ a h, f a h = fStore o P a.act h some
  | .enter f => ∀ a, f a = fEnter o P a.act fun f l => some (f, l)
  | .slow => True
theorem cK_ok {o : Op} {c : Bool} {k : OpK} (h : c = true → OpKOk P o k) : OpKOk P o (cK c k) := by
  cases c with
  | true => exact h rfl
  | false => trivial
theorem oK_ok {α : Type} {o : Op} {x : Option α} {f : α → OpK} (h : ∀ a, x = some a → OpKOk P o (f a)) : OpKOk P o (oK x f) := by
  cases x with
  | some a => exact h a rfl
  | none => trivial
omit [Globs] in
theorem gB_true {β : Type} {c : Bool} (h : c = true) (x : Option β) : gB c x = x := by rw [h]; rfl
omit [Globs] in
theorem oB_eq {α β : Type} {x : Option α} {a : α} (h : x = some a) (f : α → Option β) : oB x f = f a := by rw [h]; rfl
theorem opK_ok (P : Program) (o : Op) : OpKOk P o (opK o P) := by
  cases o with
  | move x => refine cK_ok fun h1 => ?_; intro a h v e; simp only [evF_eq] at e; show gB (okOp x) _ = _; rw [gB_true h1, e]
  | assign x => refine cK_ok fun h1 => ?_; intro a h v e; simp only [evF_eq] at e; show gB (okOp x) _ = _; rw [gB_true h1, e]
  | pick c x y =>
    refine cK_ok fun h1 => cK_ok fun h2 => cK_ok fun h3 => ?_
    intro a h v e
    simp only [evF_eq] at e
    show gB (okOp c) (gB (okOp x) (gB (okOp y) _)) = _
    rw [gB_true h1, gB_true h2, gB_true h3, e]
  | load t x =>
    refine cK_ok fun h1 => oK_ok fun d hd => cK_ok fun h2 => ?_
    intro a h v e
    simp only [evF_eq] at e
    show gB (okOp x) (fLoad P t (evR x a.act) h) = _
    rw [gB_true h1, fLoad, oB_eq hd, gB_true h2, e]
  | store t x v =>
    refine cK_ok fun h1 => cK_ok fun h2 => oK_ok fun i hi => cK_ok fun h3 => ?_
    intro a h
    simp only [evF_eq]
    show _ = gB (okOp x) (gB (okOp v) (oB (tyAt P t) fun i => gB (Nat.beq i.size 1) _))
    rw [gB_true h1, gB_true h2, oB_eq hi, gB_true h3]
  | fieldAddr s x n =>
    refine cK_ok fun h1 => oK_ok fun d hd => oK_ok fun fs hfs => oK_ok fun f hf => oK_ok fun i hi => cK_ok fun h2 => ?_
    rw [forceN_eq]
    intro a h v e
    simp only [evF_eq] at e
    show gB (okOp x) (fFieldAddr P s (evR x a.act) n) = _
    rw [gB_true h1, fFieldAddr, oB_eq hd]
    cases d with
    | struct l =>
      obtain ⟨l⟩ := l
      obtain rfl := Option.some.inj (show some l = some fs from hfs)
      show oB (nthR l n) _ = _
      rw [oB_eq hf, oB_eq hi, gB_true h2, e]
    | _ => exact absurd hfs (by simp [structL])
  | indexAddr t x y =>
    refine cK_ok fun h1 => cK_ok fun h2 => oK_ok fun d hd => oK_ok fun el hel => oK_ok fun i hi => ?_
    rw [forceN_eq]
    intro a h v e
    simp only [evF_eq] at e
    show gB (okOp x) (gB (okOp y) (fIndexAddr P t (evR x a.act) (evR y a.act))) = _
    rw [gB_true h1, gB_true h2, fIndexAddr]
    obtain ⟨k, m, hy, e⟩ := intB_some e
    rw [hy]
    show oB (und P t) _ = _
    rw [oB_eq hd]
    cases d with
    | slice el' =>
      obtain rfl := Option.some.inj (show some el' = some el from hel)
      cases hx : evR x a.act with
      | slice p l c =>
        cases p with
        | none => rw [hx] at e; exact absurd e (by simp [sliceB])
        | some p =>
          rw [hx] at e
          show oB (tyAt P el') _ = _
          rw [oB_eq hi]
          exact e
      | _ => rw [hx] at e; exact absurd e (by simp [sliceB])
    | _ => exact absurd hel (by simp [elemD])
  | extract x i => refine cK_ok fun h1 => ?_; intro a h v e; simp only [evF_eq] at e; show gB (okOp x) _ = _; rw [gB_true h1, e]
  | binOp op t x y ty => refine cK_ok fun h1 => cK_ok fun h2 => ?_; intro a h v e; simp only [evF_eq, binF_eq] at e; show gB (okOp x) (gB (okOp y) _) = _; rw [gB_true h1, gB_true h2, e]
  | convert src dst x =>
    refine cK_ok fun h1 => oK_ok fun d hd => oK_ok fun k hk => oK_ok fun d' hd' => ?_
    intro a h v e
    simp only [evF_eq] at e
    show gB (okOp x) (fConv P src dst (evR x a.act)) = _
    obtain ⟨k', n, hx, e⟩ := intB_some e
    rw [gB_true h1, hx, fConv]
    show oB (und P dst) _ = _
    rw [oB_eq hd]
    cases d with
    | int k'' =>
      obtain rfl := Option.some.inj (show some k'' = some k from hk)
      show oB (und P src) _ = _
      rw [oB_eq hd', e]
    | _ => exact absurd hk (by simp [intD])
  | nilCheck x => refine cK_ok fun h1 => ?_; intro a h v e; simp only [evF_eq] at e; show gB (okOp x) _ = _; rw [gB_true h1, e]
  | call c =>
    obtain ⟨callee, args, tys⟩ := c
    cases callee with
    | builtin b =>
      cases b with
      | len =>
        obtain ⟨args⟩ := args
        obtain ⟨tys⟩ := tys
        match args, tys with
        | [x], [t] =>
          refine cK_ok fun h1 => oK_ok fun d hd => cK_ok fun h2 => ?_
          intro a h v e
          simp only [evF_eq] at e
          show gB (okOp x) _ = _
          rw [gB_true h1, oB_eq hd, gB_true h2, e]
        | [], _ => trivial
        | [x], [] => trivial
        | [x], _ :: _ :: _ => trivial
        | _ :: _ :: _, _ => trivial
      | _ => trivial
    | value x =>
      cases x with
      | func f =>
        refine oK_ok fun u hu => ?_
        intro a
        obtain ⟨fn, c, hf, hc, _⟩ := bodyB_some hu
        show mapF args.toList a _ = bodyB P f _
        rw [mapF_eq]
        unfold bodyB
        rw [nthR_eq, Array.getElem?_toList, hf]
        show _ = oB fn.body _
        rw [oB_eq hc]
      | _ => trivial
    | _ => trivial
  | _ => trivial
end
end Go.Ev
