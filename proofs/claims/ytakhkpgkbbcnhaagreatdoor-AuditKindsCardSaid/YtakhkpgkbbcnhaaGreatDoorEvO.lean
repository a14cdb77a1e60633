/- The concrete evaluator, part O: the common operations again, laid for the kernel: each case of a match is closed, each descent is one recursor. -/
import Derived.Test.YtakhkpgkbbcnhaaGreatDoorEvN
namespace Go.Ev
open Go
variable [Globs]

noncomputable def nthR {α : Type} (l : List α) : Nat → Option α :=
  List.rec (motive := fun _ => Nat → Option α) (fun _ => none) (fun v _ ih n => Nat.rec (motive := fun _ => Option α) (some v) (fun n _ => ih n) n) l
omit [Globs] in
theorem nthR_eq {α : Type} (l : List α) : ∀ n, nthR l n = l[n]? := by
  induction l with
  | nil => intro n; rfl
  | cons v l ih => intro n; cases n with
    | zero => rfl
    | succ n => exact ih n

def oB {α β : Type} (x : Option α) : (α → Option β) → Option β :=
  match x with
  | none => fun _ => none
  | some a => fun f => f a
omit [Globs] in
theorem oB_some {α β : Type} {x : Option α} {f : α → Option β} {b : β} (h : oB x f = some b) : ∃ a, x = some a ∧ f a = some b := by
  cases x with
  | none => exact absurd h (by simp [oB])
  | some a => exact ⟨a, rfl, h⟩
def gB {β : Type} (c : Bool) : Option β → Option β :=
  match c with
  | true => fun x => x
  | false => fun _ => none
omit [Globs] in
theorem gB_some {β : Type} {c : Bool} {x : Option β} {b : β} (h : gB c x = some b) : c = true ∧ x = some b := by
  cases c with
  | false => exact absurd h (by simp [gB])
  | true => exact ⟨rfl, h⟩

noncomputable def tyAt (P : Program) (t : TypeId) : Option TypeInfo := nthR P.types.toList t
omit [Globs] in
theorem tyAt_info {P : Program} {t : TypeId} {i : TypeInfo} (h : tyAt P t = some i) : P.info? t = some i := by
  unfold tyAt at h
  rw [nthR_eq, Array.getElem?_toList] at h
  unfold Tables.info?
  obtain ⟨hl, _⟩ := Array.getElem?_eq_some_iff.1 h
  rw [if_pos hl, h]
noncomputable def undOf (d : TypeDesc) : Program → Option TypeDesc :=
  match d with
  | .named _ u => fun P => oB (tyAt P u) fun i => some i.desc
  | d => fun _ => some d
noncomputable def und (P : Program) (t : TypeId) : Option TypeDesc := oB (tyAt P t) fun i => undOf i.desc P
omit [Globs] in
theorem und_eq {P : Program} {t : TypeId} {d : TypeDesc} (h : und P t = some d) : P.underlying t = some d := by
  obtain ⟨i, hi, h⟩ := oB_some h
  have hi := tyAt_info hi
  unfold Program.underlying
  rw [hi]
  obtain ⟨desc, a1, a2, a3, a4, a5, a6, a7, a8, a9⟩ := i
  simp only at h
  unfold undOf at h
  split at h
  · obtain ⟨j, hj, h⟩ := oB_some h
    simp only [tyAt_info hj, Option.map_some]
    exact h
  · rename_i hne
    split
    · rename_i hh
      simp only [Option.some.injEq, TypeInfo.mk.injEq] at hh
      exact absurd hh.1 (hne _ _)
    · rename_i hh
      simp only [Option.some.injEq] at hh
      subst hh
      exact h
    · rename_i hh; exact absurd hh (by simp)

/-! operands -/
noncomputable def lgetR (l : List Value) : Nat → Value :=
  List.rec (motive := fun _ => Nat → Value) (fun _ => undef) (fun v _ ih n => Nat.rec (motive := fun _ => Value) v (fun n _ => ih n) n) l
omit [Globs] in
theorem lgetR_eq (l : List Value) : lgetR l = lget l := by
  induction l with
  | nil => rfl
  | cons v l ih =>
    funext n
    cases n with
    | zero => rfl
    | succ n => show lgetR l n = lget l n; rw [ih]
noncomputable def evR (x : Operand) : Act → Value :=
  match x with
  | .tmp t => fun a => lgetR a.tmps.toList t
  | .const v => fun _ => v
  | .global g => fun _ => .pointer (some ⟨g, 0, none⟩)
  | .func f => fun _ => .func (.func f) #[] #[]
omit [Globs] in
theorem evR_eq (a : Act) (x : Operand) : evR x a = aeval a x := by cases x <;> simp [evR, aeval, lgetR_eq]
noncomputable def lsetR {β : Type} (l : List Value) : Nat → Value → (List Value → β) → β :=
  List.rec (motive := fun _ => Nat → Value → (List Value → β) → β) (fun _ _ k => k [])
    (fun w l ih n v k => Nat.rec (motive := fun _ => β) (k (v :: l)) (fun n _ => ih n v fun l => k (w :: l)) n) l
omit [Globs] in
theorem lsetR_eq {β : Type} (l : List Value) : ∀ (n : Nat) (v : Value) (k : List Value → β), lsetR l n v k = k (l.set n v) := by
  induction l with
  | nil => intro n v k; rfl
  | cons w l ih =>
    intro n v k
    cases n with
    | zero => rfl
    | succ n => exact ih n v _
noncomputable def putR {β : Type} (d : Option Tmp) : Act → Value → (Act → β) → β :=
  match d with
  | none => fun a _ k => k a
  | some i => fun a v k => lsetR a.tmps.toList i v fun l => k { tmps := ⟨l⟩, defers := a.defers }
omit [Globs] in
theorem putR_eq {β : Type} (d : Option Tmp) (a : Act) (v : Value) (k : Act → β) : putR d a v k = aput a d v k := by
  cases d with
  | none => rfl
  | some i => simp only [putR, aput, lsetR_eq, lset_eq]

/-! the heap -/
noncomputable def getR (t : Tree) : Nat → Option Obj :=
  Tree.rec (motive := fun _ => Nat → Option Obj) (fun _ => none)
    (fun _ v _ il ir k => Bool.rec (motive := fun _ => Option Obj) (Bool.rec (motive := fun _ => Option Obj) (ir (k / 2 - 1)) (il (k / 2)) (Nat.beq (k % 2) 1)) v (Nat.beq k 0)) t
omit [Globs] in
theorem getR_eq (t : Tree) : getR t = t.get := by
  induction t with
  | leaf => rfl
  | node l v r ihl ihr =>
    funext k
    show Bool.rec (motive := fun _ => Option Obj) (Bool.rec (motive := fun _ => Option Obj) (getR r (k / 2 - 1)) (getR l (k / 2)) (Nat.beq (k % 2) 1)) v (Nat.beq k 0) = _
    rw [ihl, ihr, Tree.get]
    cases Nat.beq k 0 <;> cases Nat.beq (k % 2) 1 <;> rfl
def cellOf (o : Option Obj) : (List Value → Option Value) → Option Value :=
  match o with
  | some (.cells ⟨l⟩ _ _) => fun f => f l
  | _ => fun _ => none
noncomputable def cellR (h : Heap) (a : Addr) : Option Value := gB a.spot.isNone (cellOf (getR h.t a.block) fun l => nthR l a.off)
omit [Globs] in
theorem cellOf_some {o : Option Obj} {f : List Value → Option Value} {v : Value} (h : cellOf o f = some v) : ∃ l t e, o = some (.cells ⟨l⟩ t e) ∧ f l = some v := by
  cases o with
  | none => exact absurd h (by simp [cellOf])
  | some o => cases o with
    | cells c t e => obtain ⟨l⟩ := c; exact ⟨l, t, e, rfl, h⟩
    | _ => exact absurd h (by simp [cellOf])
omit [Globs] in
theorem cellR_eq {h : Heap} {a : Addr} {v : Value} (e : cellR h a = some v) : h.cell a = some v := by
  obtain ⟨e1, e⟩ := gB_some e
  obtain ⟨l, t, f, hg, e⟩ := cellOf_some e
  rw [getR_eq] at hg
  rw [nthR_eq] at e
  unfold Heap.cell Heap.get
  rw [hg]
  cases hs : a.spot with
  | none => simpa using e
  | some _ => simp [hs] at e1

/-! what each gives -/
def ptrB {β : Type} (v : Value) : (Addr → Option β) → Option β :=
  match v with
  | .pointer (some a) => fun f => f a
  | _ => fun _ => none
omit [Globs] in
theorem ptrB_some {β : Type} {v : Value} {f : Addr → Option β} {b : β} (h : ptrB v f = some b) : ∃ a, v = .pointer (some a) ∧ f a = some b := by
  unfold ptrB at h
  split at h
  · exact ⟨_, rfl, h⟩
  · exact absurd h (by simp)
def natB {β : Type} (n : Int) : (Nat → Option β) → Option β :=
  match n with
  | .ofNat m => fun f => f m
  | .negSucc _ => fun _ => none
omit [Globs] in
theorem natB_some {β : Type} {n : Int} {f : Nat → Option β} {b : β} (h : natB n f = some b) : ∃ m, n = .ofNat m ∧ f m = some b := by
  cases n with
  | ofNat m => exact ⟨m, rfl, h⟩
  | negSucc m => exact absurd h (by simp [natB])
def intB {β : Type} (v : Value) : (IntKind → Nat → Option β) → Option β :=
  match v with
  | .int k n => fun f => natB n fun m => f k m
  | _ => fun _ => none
omit [Globs] in
theorem intB_some {β : Type} {v : Value} {f : IntKind → Nat → Option β} {b : β} (h : intB v f = some b) : ∃ k m, v = .int k (.ofNat m) ∧ f k m = some b := by
  unfold intB at h
  split at h
  · obtain ⟨m, rfl, h⟩ := natB_some h
    exact ⟨_, m, rfl, h⟩
  · exact absurd h (by simp)

def scalarD (d : TypeDesc) : Bool :=
  match d with
  | .struct _ => false
  | .array _ _ => false
  | _ => true
noncomputable def fLoad (P : Program) (t : TypeId) (v : Value) (h : Heap) : Option Value := oB (und P t) fun d => gB (scalarD d) (ptrB v fun a => cellR h a)
section
variable {P : Program}
omit [Globs] in
theorem arun_ok {α β : Type} {s : Sem α} {k : α → Sem β} {h h1 : Heap} {a : α} (e : arun P s h = some (a, h1)) : arun P (s >>= k) h = arun P (k a) h1 := by
  show arun P (s.bind k) h = _
  rw [arun_bind, e]
omit [Globs] in
theorem arun_underlying {t : TypeId} {d : TypeDesc} (e : P.underlying t = some d) (h : Heap) : arun P (underlying t) h = some (d, h) := by
  show arun P (Sem.bind program _) h = _
  rw [arun_bind]
  simp only [program, arun, e]
  rfl
omit [Globs] in
theorem arun_typeInfo {t : TypeId} {i : TypeInfo} (e : P.info? t = some i) (h : Heap) : arun P (typeInfo t) h = some (i, h) := by
  show arun P (Sem.bind program _) h = _
  rw [arun_bind]
  simp only [program, arun, e]
  rfl
omit [Globs] in
theorem arun_sizeOf {t : TypeId} {i : TypeInfo} (e : P.info? t = some i) (h : Heap) : arun P (sizeOf t) h = some (i.size, h) := by
  unfold sizeOf
  rw [arun_ok (arun_typeInfo e h)]
  rfl
omit [Globs] in
theorem arun_isAgg {t : TypeId} {d : TypeDesc} (e : P.underlying t = some d) (hs : scalarD d = true) (h : Heap) : arun P (isAgg t) h = some (false, h) := by
  unfold isAgg
  rw [arun_ok (arun_underlying e h)]
  cases d <;> first | rfl | exact absurd hs (by simp [scalarD])
omit [Globs] in
theorem fLoad_eq {t : TypeId} {v x : Value} {h : Heap} (e : fLoad P t v h = some x) : fst? (arun P (Instr.loadAt t v) h) = some x := by
  obtain ⟨d, hd, e⟩ := oB_some e
  obtain ⟨hs, e⟩ := gB_some e
  obtain ⟨a, rfl, e⟩ := ptrB_some e
  have hd := und_eq hd
  have e := cellR_eq e
  have e1 : arun P (Instr.loadAt t (.pointer (some a))) h = some (x, h) := by
    unfold Instr.loadAt Instr.sureAddr
    rw [arun_ok (a := a) (h1 := h) rfl]
    unfold loadVar
    rw [arun_ok (arun_isAgg hd hs h)]
    rw [if_neg (by decide)]
    simp only [load, arun, e]
  rw [e1]
  rfl

omit [Globs] in
theorem arun_bindM {α β : Type} (s : Sem α) (k : α → Sem β) (h : Heap) : arun P (s >>= k) h = match arun P s h with
    | some (a, h') => arun P (k a) h'
    | none => none := arun_bind P s k h
omit [Globs] in
theorem arun_pureM {α : Type} (a : α) (h : Heap) : arun P (pure a : Sem α) h = some (a, h) := rfl
def structB (d : TypeDesc) : (List Field → Option Value) → Option Value :=
  match d with
  | .struct ⟨fs⟩ => fun f => f fs
  | _ => fun _ => none
noncomputable def fFieldAddr (P : Program) (t : TypeId) (v : Value) (n : Nat) : Option Value :=
  oB (und P t) fun d => structB d fun fs => oB (nthR fs n) fun f => oB (tyAt P f.type) fun i => gB (!(Nat.beq i.size 0)) (ptrB v fun a => some (.pointer (some (a.add f.offset))))
omit [Globs] in
theorem fFieldAddr_eq {t : TypeId} {v x : Value} {n : Nat} {h : Heap} (e : fFieldAddr P t v n = some x) : fieldFull P t n = true ∧ fst? (arun P (Instr.fieldAt t v n) h) = some x := by
  obtain ⟨d, hd, e⟩ := oB_some e
  have hd := und_eq hd
  cases d with
  | struct fs =>
    obtain ⟨fs⟩ := fs
    obtain ⟨f, hf, e⟩ := oB_some (show oB (nthR fs n) _ = some x from e)
    rw [nthR_eq] at hf
    obtain ⟨i, hi, e⟩ := oB_some e
    have hi := tyAt_info hi
    obtain ⟨hs, e⟩ := gB_some e
    obtain ⟨a, rfl, e⟩ := ptrB_some e
    have hf' : (⟨fs⟩ : Array Field)[n]? = some f := by simpa using hf
    have hz : ¬ i.size = 0 := by
      intro h0
      rw [h0] at hs
      exact absurd hs (by decide)
    constructor
    · simp only [fieldFull, hd, hf', fullType, hi, hs]
    · have e1 : arun P (Instr.fieldAt t (.pointer (some a)) n) h = some (x, h) := by
        obtain rfl := Option.some.inj e
        simp only [Instr.fieldAt, Instr.sureAddr, fieldPlace, arun_bindM, arun_pureM, arun_underlying hd, arun_sizeOf hi, hf', if_neg hz]
      rw [e1]
      rfl
  | _ => exact absurd e (by simp [structB])

def elemB (d : TypeDesc) : (Nat → Value → (Addr → Nat → TypeId → Option Value) → Option Value) :=
  match d with
  | .slice e => fun _ v f => match v with
    | .slice (some a) l _ => f a l e
    | _ => none
  | .array n e => fun _ v f => match v with
    | .pointer (some a) => f a n e
    | _ => none
  | _ => fun _ _ _ => none
noncomputable def fIndexAddr (P : Program) (t : TypeId) (v ix : Value) : Option Value :=
  intB ix fun _ m => oB (und P t) fun d => elemB d 0 v fun a l e => oB (tyAt P e) fun i => gB (Nat.blt m l) (some (.pointer (some (a.add (m * i.size)))))
omit [Globs] in
theorem fIndexAddr_eq {t : TypeId} {v ix x : Value} {h : Heap} (e : fIndexAddr P t v ix = some x) : fst? (arun P (Instr.indexAt t v ix) h) = some x := by
  obtain ⟨k, m, rfl, e⟩ := intB_some e
  obtain ⟨d, hd, e⟩ := oB_some e
  have hd := und_eq hd
  have fin : ∀ (a : Addr) (l : Nat) (el : TypeId) (tiny : Bool), (oB (tyAt P el) fun i => gB (Nat.blt m l) (some (Value.pointer (some (a.add (m * i.size)))))) = some x →
      arun P (if 0 ≤ (Int.ofNat m) ∧ (Int.ofNat m) < (l : Int) then do pure (Value.pointer (some (a.add ((Int.ofNat m).toNat * (← sizeOf el)))))
        else if tiny = true then unsupported (.noEntry "op/indexAddr.an index out of range at an array of length 0 or 1 (ledger 616)") else boundsPanic k (Int.ofNat m) l .index) h = some (x, h) := by
    intro a l el tiny e
    obtain ⟨i, hi, e⟩ := oB_some e
    obtain ⟨hl, e⟩ := gB_some e
    have hl : m < l := by simpa [Nat.blt_eq] using hl
    simp only [Option.some.injEq] at e
    subst e
    rw [if_pos ⟨Int.natCast_nonneg m, Int.ofNat_lt.2 hl⟩, arun_ok (arun_sizeOf (tyAt_info hi) h)]
    rfl
  cases d with
  | slice el =>
    cases v with
    | slice a l c =>
      cases a with
      | none => exact absurd e (by simp [elemB])
      | some a =>
        have e1 : arun P (Instr.indexAt t (.slice (some a) l c) (.int k (.ofNat m))) h = some (x, h) := by
          simp only [Instr.indexAt, asIntOf, arun_bindM, arun_pureM, arun_underlying hd]
          exact fin a l el _ e
        rw [e1]; rfl
    | _ => exact absurd e (by simp [elemB])
  | array l el =>
    cases v with
    | pointer a =>
      cases a with
      | none => exact absurd e (by simp [elemB])
      | some a =>
        have e1 : arun P (Instr.indexAt t (.pointer (some a)) (.int k (.ofNat m))) h = some (x, h) := by
          simp only [Instr.indexAt, Instr.sureAddr, asIntOf, arun_bindM, arun_pureM, arun_underlying hd]
          exact fin a l el _ e
        rw [e1]; rfl
    | _ => exact absurd e (by simp [elemB])
  | _ => exact absurd e (by simp [elemB])

/-! numbers -/
def maskOf (k : IntKind) : Nat :=
  match k with
  | .i8 => 256
  | .u8 => 256
  | .i16 => 65536
  | .u16 => 65536
  | .i32 => 4294967296
  | .u32 => 4294967296
  | .i64 => 18446744073709551616
  | .u64 => 18446744073709551616
/-- Below it, a number of the kind stands for itself. -/
def roomOf (k : IntKind) : Nat :=
  match k with
  | .i8 => 128
  | .u8 => 256
  | .i16 => 32768
  | .u16 => 65536
  | .i32 => 2147483648
  | .u32 => 4294967296
  | .i64 => 9223372036854775808
  | .u64 => 18446744073709551616
def natV (k : IntKind) (m : Nat) : Option Value := gB (Nat.blt m (roomOf k)) (some (.int k (.ofNat m)))
def wrapV (k : IntKind) (m : Nat) : Option Value := natV k (m % maskOf k)
omit [Globs] in
theorem wrap_nat {k : IntKind} {m : Nat} (h : m % maskOf k < roomOf k) : k.wrap (m : Int) = ((m % maskOf k : Nat) : Int) := by
  cases k <;> simp only [maskOf, roomOf] at h ⊢ <;> simp only [IntKind.wrap, IntKind.bits, IntKind.signed, Bool.true_and, Bool.false_and, decide_eq_true_eq, Bool.false_eq_true, if_false] <;> first
    | omega
    | (split <;> (rename_i hh; simp only [decide_eq_true_eq, ge_iff_le] at hh; omega))
omit [Globs] in
theorem wrap_room {k : IntKind} {m : Nat} (h : m < roomOf k) : k.wrap (m : Int) = (m : Int) := by
  have : m % maskOf k = m := Nat.mod_eq_of_lt (by cases k <;> simp only [maskOf, roomOf] at h ⊢ <;> omega)
  rw [wrap_nat (by rw [this]; exact h), this]
omit [Globs] in
theorem natV_some {k : IntKind} {m : Nat} {v : Value} (h : natV k m = some v) : m < roomOf k ∧ v = .int k (m : Int) := by
  obtain ⟨h1, h2⟩ := gB_some h
  exact ⟨by simpa [Nat.blt_eq] using h1, (Option.some.inj h2).symm⟩
omit [Globs] in
theorem wrapV_some {k : IntKind} {m : Nat} {v : Value} (h : wrapV k m = some v) : v = .int k (k.wrap (m : Int)) := by
  obtain ⟨h1, h2⟩ := natV_some h
  rw [wrap_nat h1, h2]

def andV (k : IntKind) (a b : Nat) : Option Value := gB (Nat.blt a (roomOf k)) (gB (Nat.blt b (roomOf k)) (natV k (Nat.land a b)))
def orV (k : IntKind) (a b : Nat) : Option Value := gB (Nat.blt a (roomOf k)) (gB (Nat.blt b (roomOf k)) (natV k (Nat.lor a b)))
def xorV (k : IntKind) (a b : Nat) : Option Value := gB (Nat.blt a (roomOf k)) (gB (Nat.blt b (roomOf k)) (natV k (Nat.xor a b)))
def bitsN (k : IntKind) : Nat :=
  match k with
  | .i8 => 8
  | .u8 => 8
  | .i16 => 16
  | .u16 => 16
  | .i32 => 32
  | .u32 => 32
  | .i64 => 64
  | .u64 => 64
omit [Globs] in
theorem bitsN_eq (k : IntKind) : k.bits = bitsN k := by cases k <;> rfl
omit [Globs] in
theorem ofInt_nat (w m : Nat) : BitVec.ofInt w (m : Int) = BitVec.ofNat w m := by simp
omit [Globs] in
theorem room_le (k : IntKind) : roomOf k ≤ 2 ^ k.bits := by cases k <;> decide
omit [Globs] in
theorem bits_nat {k : IntKind} {a : Nat} (h : a < roomOf k) : (BitVec.ofInt k.bits (a : Int)).toNat = a := by
  rw [ofInt_nat, BitVec.toNat_ofNat]
  exact Nat.mod_eq_of_lt (Nat.lt_of_lt_of_le h (room_le k))
def boolV (b : Bool) : Option Value :=
  match b with
  | true => some (.bool true)
  | false => some (.bool false)
omit [Globs] in
theorem boolV_eq (b : Bool) : boolV b = some (.bool b) := by cases b <;> rfl
def binV (op : BinOp) : IntKind → Nat → Nat → Option Value :=
  match op with
  | .add => fun k a b => wrapV k (a + b)
  | .sub => fun k a b => gB (Nat.ble b a) (wrapV k (a - b))
  | .mul => fun k a b => wrapV k (a * b)
  | .quo => fun k a b => gB (Nat.blt 0 b) (wrapV k (a / b))
  | .rem => fun k a b => gB (Nat.blt 0 b) (some (.int k (.ofNat (a % b))))
  | .and => andV
  | .or => orV
  | .xor => xorV
  | .eql => fun _ a b => boolV (Nat.beq a b)
  | .neq => fun _ a b => boolV (!(Nat.beq a b))
  | .lss => fun _ a b => boolV (Nat.blt a b)
  | .leq => fun _ a b => boolV (Nat.ble a b)
  | .gtr => fun _ a b => boolV (Nat.blt b a)
  | .geq => fun _ a b => boolV (Nat.ble b a)
  | _ => fun _ _ _ => none
def shV (op : BinOp) : IntKind → Nat → Nat → Option Value :=
  match op with
  | .shl => fun k a b => wrapV k (a * 2 ^ (Nat.min b (bitsN k)))
  | .shr => fun k a b => some (.int k (.ofNat (a / 2 ^ (Nat.min b (bitsN k)))))
  | _ => fun _ _ _ => none
def isSh (op : BinOp) : Bool :=
  match op with
  | .shl => true
  | .shr => true
  | _ => false
def kindEq (k k' : IntKind) : Bool :=
  match k with
  | .i8 => (match k' with | .i8 => true | _ => false)
  | .u8 => (match k' with | .u8 => true | _ => false)
  | .i16 => (match k' with | .i16 => true | _ => false)
  | .u16 => (match k' with | .u16 => true | _ => false)
  | .i32 => (match k' with | .i32 => true | _ => false)
  | .u32 => (match k' with | .u32 => true | _ => false)
  | .i64 => (match k' with | .i64 => true | _ => false)
  | .u64 => (match k' with | .u64 => true | _ => false)
omit [Globs] in
theorem kindEq_eq {k k' : IntKind} (h : kindEq k k' = true) : k = k' := by cases k <;> cases k' <;> first | rfl | exact absurd h (by decide)
def fBin (op : BinOp) (v w : Value) : Option Value :=
  intB v fun k a => intB w fun k' b => (match isSh op with
    | true => fun _ => shV op
    | false => fun c => fun k a b => gB c (binV op k a b)) (kindEq k k') k a b
omit [Globs] in
theorem binV_eq {op : BinOp} {k : IntKind} {a b : Nat} {v : Value} {t : TypeId} {x y : Operand} (e : binV op k a b = some v) :
    prun P (do eqGuard op t x y (.int k (a : Int)) (.int k (b : Int)); binOp op t (.int k (a : Int)) (.int k (b : Int))) = some v ∧ flat 3 v = true := by
  cases op with
  | add => rw [wrapV_some e]; refine ⟨?_, rfl⟩; show prun P (if k ≠ k then _ else _) = _; rw [if_neg (by simp)]; rfl
  | mul => rw [wrapV_some e]; refine ⟨?_, rfl⟩; show prun P (if k ≠ k then _ else _) = _; rw [if_neg (by simp)]; rfl
  | sub =>
    obtain ⟨h1, e⟩ := gB_some e
    have h1 := Nat.le_of_ble_eq_true h1
    rw [wrapV_some e]; refine ⟨?_, rfl⟩; show prun P (if k ≠ k then _ else _) = _; rw [if_neg (by simp)]
    rw [Int.ofNat_sub h1]; rfl
  | quo =>
    obtain ⟨h1, e⟩ := gB_some e
    have h1 : 0 < b := by simpa [Nat.blt_eq] using h1
    rw [wrapV_some e]; refine ⟨?_, rfl⟩; show prun P (if k ≠ k then _ else _) = _; rw [if_neg (by simp)]
    show prun P (Op.intDiv .quo k _ _) = _
    unfold Op.intDiv
    rw [if_neg (by omega)]
    rfl
  | rem =>
    obtain ⟨h1, e⟩ := gB_some e
    have h1 : 0 < b := by simpa [Nat.blt_eq] using h1
    obtain rfl := Option.some.inj e
    refine ⟨?_, rfl⟩; show prun P (if k ≠ k then _ else _) = _; rw [if_neg (by simp)]
    show prun P (Op.intDiv .rem k _ _) = _
    unfold Op.intDiv
    rw [if_neg (by omega)]
    rfl
  | and =>
    obtain ⟨h1, e⟩ := gB_some e
    obtain ⟨h2, e⟩ := gB_some e
    have h1 : a < roomOf k := by simpa [Nat.blt_eq] using h1
    have h2 : b < roomOf k := by simpa [Nat.blt_eq] using h2
    obtain ⟨h3, rfl⟩ := natV_some e
    refine ⟨?_, rfl⟩; show prun P (if k ≠ k then _ else _) = _; rw [if_neg (by simp)]
    show some (Value.int k (k.wrap _)) = _
    rw [BitVec.toNat_and, bits_nat h1, bits_nat h2]
    exact congrArg some (congrArg (Value.int k) (wrap_room h3))
  | or =>
    obtain ⟨h1, e⟩ := gB_some e
    obtain ⟨h2, e⟩ := gB_some e
    have h1 : a < roomOf k := by simpa [Nat.blt_eq] using h1
    have h2 : b < roomOf k := by simpa [Nat.blt_eq] using h2
    obtain ⟨h3, rfl⟩ := natV_some e
    refine ⟨?_, rfl⟩; show prun P (if k ≠ k then _ else _) = _; rw [if_neg (by simp)]
    show some (Value.int k (k.wrap _)) = _
    rw [BitVec.toNat_or, bits_nat h1, bits_nat h2]
    exact congrArg some (congrArg (Value.int k) (wrap_room h3))
  | xor =>
    obtain ⟨h1, e⟩ := gB_some e
    obtain ⟨h2, e⟩ := gB_some e
    have h1 : a < roomOf k := by simpa [Nat.blt_eq] using h1
    have h2 : b < roomOf k := by simpa [Nat.blt_eq] using h2
    obtain ⟨h3, rfl⟩ := natV_some e
    refine ⟨?_, rfl⟩; show prun P (if k ≠ k then _ else _) = _; rw [if_neg (by simp)]
    show some (Value.int k (k.wrap _)) = _
    rw [BitVec.toNat_xor, bits_nat h1, bits_nat h2]
    exact congrArg some (congrArg (Value.int k) (wrap_room h3))
  | eql => 
    have e : some (Value.bool (Nat.beq a b)) = some v := by rw [← boolV_eq]; exact e
    obtain rfl := Option.some.inj e
    refine ⟨?_, rfl⟩; show prun P (if k ≠ k then _ else _) = _; rw [if_neg (by simp)]
    show some (Value.bool _) = _
    congr 2
    rw [Bool.eq_iff_iff]; simp; omega
  | neq =>
    have e : some (Value.bool (!(Nat.beq a b))) = some v := by rw [← boolV_eq]; exact e
    obtain rfl := Option.some.inj e
    refine ⟨?_, rfl⟩; show prun P (if k ≠ k then _ else _) = _; rw [if_neg (by simp)]
    show some (Value.bool _) = _
    congr 2
    rw [show Nat.beq a b = decide (a = b) by rw [Bool.eq_iff_iff]; simp]
    rw [Bool.eq_iff_iff]; simp; omega
  | lss =>
    have e : some (Value.bool (Nat.blt a b)) = some v := by rw [← boolV_eq]; exact e
    obtain rfl := Option.some.inj e
    refine ⟨?_, rfl⟩; show prun P (if k ≠ k then _ else _) = _; rw [if_neg (by simp)]
    show some (Value.bool _) = _
    congr 2
    rw [Bool.eq_iff_iff]; simp [Nat.blt_eq]
  | leq =>
    have e : some (Value.bool (Nat.ble a b)) = some v := by rw [← boolV_eq]; exact e
    obtain rfl := Option.some.inj e
    refine ⟨?_, rfl⟩; show prun P (if k ≠ k then _ else _) = _; rw [if_neg (by simp)]
    show some (Value.bool _) = _
    congr 2
    rw [Bool.eq_iff_iff]; simp
  | gtr =>
    have e : some (Value.bool (Nat.blt b a)) = some v := by rw [← boolV_eq]; exact e
    obtain rfl := Option.some.inj e
    refine ⟨?_, rfl⟩; show prun P (if k ≠ k then _ else _) = _; rw [if_neg (by simp)]
    show some (Value.bool _) = _
    congr 2
    rw [Bool.eq_iff_iff]; simp [Nat.blt_eq]
  | geq =>
    have e : some (Value.bool (Nat.ble b a)) = some v := by rw [← boolV_eq]; exact e
    obtain rfl := Option.some.inj e
    refine ⟨?_, rfl⟩; show prun P (if k ≠ k then _ else _) = _; rw [if_neg (by simp)]
    show some (Value.bool _) = _
    congr 2
    rw [Bool.eq_iff_iff]; simp
  | _ => exact absurd e (by simp [binV])
omit [Globs] in
theorem shV_eq {op : BinOp} {k k' : IntKind} {a b : Nat} {v : Value} {t : TypeId} {x y : Operand} (e : shV op k a b = some v) :
    prun P (do eqGuard op t x y (.int k (a : Int)) (.int k' (b : Int)); binOp op t (.int k (a : Int)) (.int k' (b : Int))) = some v ∧ flat 3 v = true := by
  have hm : min (Int.toNat (b : Int)) k.bits = Nat.min b (bitsN k) := by rw [bitsN_eq]; rfl
  cases op with
  | shl =>
    rw [wrapV_some e]; refine ⟨?_, rfl⟩
    show prun P (Op.shift .shl k a k' b) = _
    unfold Op.shift
    rw [if_neg (by omega), hm]
    show some (Value.int k (k.wrap _)) = _
    congr 3
  | shr =>
    obtain rfl := Option.some.inj e
    refine ⟨?_, rfl⟩
    show prun P (Op.shift .shr k a k' b) = _
    unfold Op.shift
    rw [if_neg (by omega), hm]
    show some (Value.int k _) = _
    congr 2
    show Int.fdiv _ _ = ((_ / _ : Nat) : Int)
    push_cast
    rw [Int.fdiv_eq_ediv_of_nonneg]
    exact Int.pow_nonneg (by decide)
  | _ => exact absurd e (by simp [shV])
omit [Globs] in
theorem fBin_eq {op : BinOp} {v w r : Value} {t : TypeId} {x y : Operand} (e : fBin op v w = some r) :
    flat 3 v = true ∧ flat 3 w = true ∧ flatRun P (do eqGuard op t x y v w; binOp op t v w) = some r := by
  obtain ⟨k, a, rfl, e1⟩ := intB_some e
  obtain ⟨k', b, rfl, e2⟩ := intB_some (v := w) e1
  clear e e1
  refine ⟨rfl, rfl, ?_⟩
  have : prun P (do eqGuard op t x y (.int k (a : Int)) (.int k' (b : Int)); binOp op t (.int k (a : Int)) (.int k' (b : Int))) = some r ∧ flat 3 r = true := by
    cases hs : isSh op with
    | true => rw [hs] at e2; exact shV_eq e2
    | false =>
      rw [hs] at e2
      obtain ⟨hk, e⟩ := gB_some e2
      obtain rfl := kindEq_eq hk
      exact binV_eq e
  unfold flatRun
  simp only [Int.ofNat_eq_natCast, this.1, this.2, if_true]

omit [Globs] in
theorem prun_ok {α β : Type} {s : Sem α} {k : α → Sem β} : ∀ {a : α}, prun P s = some a → prun P (s >>= k) = prun P (k a) := by
  show ∀ {a : α}, prun P s = some a → prun P (s.bind k) = prun P (k a)
  induction s with
  | pure x => intro a e; simp only [prun, Option.some.injEq] at e; subst e; rfl
  | program k' ih => intro a e; simp only [prun] at e; simp only [Sem.bind, prun]; exact ih _ e
  | mark m k' ih => intro a e; simp only [prun] at e; simp only [Sem.bind, prun]; exact ih e
  | choose q k' ih =>
    intro a e
    simp only [prun] at e
    simp only [Sem.bind, prun]
    split at e
    · rename_i hq; rw [if_pos hq]; exact ih _ e
    · exact absurd e (by simp)
  | _ => intro a e; simp [prun] at e
omit [Globs] in
theorem prun_underlying {t : TypeId} {d : TypeDesc} (e : P.underlying t = some d) : prun P (underlying t) = some d := by
  unfold underlying
  rw [prun_ok (a := P) rfl, e]
  rfl
noncomputable def fConv (P : Program) (src dst : TypeId) (v : Value) : Option Value :=
  intB v fun _ n => oB (und P dst) fun d => (match d with
    | .int k => fun n => oB (und P src) fun _ => wrapV k n
    | _ => fun _ => none) n
omit [Globs] in
theorem fConv_eq {src dst : TypeId} {v r : Value} (e : fConv P src dst v = some r) : flat 3 v = true ∧ flatRun P (convert src dst v) = some r := by
  obtain ⟨k', n, rfl, e⟩ := intB_some e
  obtain ⟨d, hd, e⟩ := oB_some (x := und P dst) e
  have hd := und_eq hd
  cases d with
  | int k =>
    obtain ⟨d', hs, e⟩ := oB_some (x := und P src) e
    have hs := und_eq hs
    refine ⟨rfl, ?_⟩
    have : prun P (convert src dst (.int k' (.ofNat n))) = some r := by
      unfold convert
      rw [prun_ok (prun_underlying hs), prun_ok (prun_underlying hd), wrapV_some e]
      cases d' <;> rfl
    unfold flatRun
    rw [this]
    rw [wrapV_some e]
    rfl
  | _ => exact absurd e (by simp)

def boolB {β : Type} (v : Value) : Option β → Option β → Option β :=
  match v with
  | .bool true => fun x _ => x
  | .bool false => fun _ y => y
  | _ => fun _ _ => none
noncomputable def tupV (v : Value) : Nat → Option Value :=
  match v with
  | .tuple ⟨l⟩ => nthR l
  | _ => fun _ => none
def ptrV (v : Value) : Option Value :=
  match v with
  | .pointer (some a) => some (.pointer (some a))
  | _ => none
def slenV (v : Value) : Option Value :=
  match v with
  | .slice _ n _ => some (.int .i64 (.ofNat n))
  | _ => none
def sliceD (d : TypeDesc) : Bool :=
  match d with
  | .slice _ => true
  | _ => false
noncomputable def fLenB (l : List Operand) : List TypeId → Program → Act → Option Value :=
  match l with
  | [x] => fun ts => match ts with
    | [t] => fun P a => gB (okOp x) (oB (und P t) fun d => gB (sliceD d) (slenV (evR x a)))
    | _ => fun _ _ => none
  | _ => fun _ _ _ => none
noncomputable def fLen (c : Callee) : List Operand → List TypeId → Program → Act → Option Value :=
  match c with
  | .builtin b => match b with
    | .len => fLenB
    | _ => fun _ _ _ _ => none
  | _ => fun _ _ _ _ => none
noncomputable def fLight (o : Op) : Program → Act → Heap → Option Value :=
  match o with
  | .move x => fun _ a _ => gB (okOp x) (some (evR x a))
  | .assign x => fun _ a _ => gB (okOp x) (some (evR x a))
  | .pick c x y => fun _ a _ => gB (okOp c) (gB (okOp x) (gB (okOp y) (boolB (evR c a) (some (evR x a)) (some (evR y a)))))
  | .load t x => fun P a h => gB (okOp x) (fLoad P t (evR x a) h)
  | .fieldAddr s x f => fun P a _ => gB (okOp x) (fFieldAddr P s (evR x a) f)
  | .indexAddr t x y => fun P a _ => gB (okOp x) (gB (okOp y) (fIndexAddr P t (evR x a) (evR y a)))
  | .extract x i => fun _ a _ => gB (okOp x) (tupV (evR x a) i)
  | .binOp op _ x y _ => fun _ a _ => gB (okOp x) (gB (okOp y) (fBin op (evR x a) (evR y a)))
  | .convert src dst x => fun P a _ => gB (okOp x) (fConv P src dst (evR x a))
  | .nilCheck x => fun _ a _ => gB (okOp x) (ptrV (evR x a))
  | .call c => fun P a _ => fLen c.callee c.args.toList c.argTypes.toList P a
  | _ => fun _ _ _ => none
theorem fLight_eq {o : Oper} {a : Act} {h : Heap} {v : Value} (e : fLight o.op P a h = some v) : alight P (aeval a) o h = some v := by
  obtain ⟨dst, op, ty, pos, after, guard⟩ := o
  have hev : ∀ x, aeval a x = evR x a := fun x => (evR_eq a x).symm
  cases op with
  | move x =>
    obtain ⟨h1, e⟩ := gB_some (show gB (okOp x) _ = some v from e)
    show lMove _ _ = _
    rw [lMove, if_pos h1, hev, e]
  | assign x =>
    obtain ⟨h1, e⟩ := gB_some (show gB (okOp x) _ = some v from e)
    show lMove _ _ = _
    rw [lMove, if_pos h1, hev, e]
  | pick c x y =>
    obtain ⟨h1, e⟩ := gB_some (show gB (okOp c) _ = some v from e)
    obtain ⟨h2, e⟩ := gB_some e
    obtain ⟨h3, e⟩ := gB_some e
    show lPick _ _ _ _ = _
    rw [lPick, if_pos (by rw [h1, h2, h3]; rfl), hev, hev, hev]
    cases hc : evR c a with
    | bool b => rw [hc] at e; cases b <;> exact e
    | _ => rw [hc] at e; exact absurd e (by simp [boolB])
  | load t x =>
    obtain ⟨h1, e⟩ := gB_some (show gB (okOp x) _ = some v from e)
    show lLoad _ _ _ _ _ = _
    rw [lLoad, if_pos h1, hev]
    exact fLoad_eq e
  | fieldAddr t x n =>
    obtain ⟨h1, e⟩ := gB_some (show gB (okOp x) _ = some v from e)
    show lFieldAddr _ _ _ _ _ _ = _
    obtain ⟨h2, h3⟩ := fFieldAddr_eq (h := h) e
    rw [lFieldAddr, if_pos (by rw [h1, h2]; rfl), hev]
    exact h3
  | indexAddr t x y =>
    obtain ⟨h1, e⟩ := gB_some (show gB (okOp x) _ = some v from e)
    obtain ⟨h2, e⟩ := gB_some e
    show lIndexAddr _ _ _ _ _ _ = _
    rw [lIndexAddr, if_pos (by rw [h1, h2]; rfl), hev, hev]
    exact fIndexAddr_eq e
  | extract x i =>
    obtain ⟨h1, e⟩ := gB_some (show gB (okOp x) _ = some v from e)
    show lExtract _ _ _ _ _ = _
    rw [lExtract, if_pos h1, hev]
    cases hc : evR x a with
    | tuple vs =>
      obtain ⟨l⟩ := vs
      rw [hc] at e
      have e : nthR l i = some v := e
      rw [nthR_eq] at e
      simp [Instr.extract, e, arun_pureM, fst?]
    | _ => rw [hc] at e; exact absurd e (by simp [tupV])
  | binOp op t x y ty' =>
    obtain ⟨h1, e⟩ := gB_some (show gB (okOp x) _ = some v from e)
    obtain ⟨h2, e⟩ := gB_some e
    obtain ⟨h3, h4, h5⟩ := fBin_eq (P := P) (t := t) (x := x) (y := y) e
    show lBin _ _ _ _ _ _ = _
    rw [lBin, if_pos (by rw [h1, h2]; rfl), hev, hev, if_pos (by rw [h3, h4]; rfl)]
    exact h5
  | convert src dst' x =>
    obtain ⟨h1, e⟩ := gB_some (show gB (okOp x) _ = some v from e)
    obtain ⟨h3, h5⟩ := fConv_eq e
    show lConv _ _ _ _ _ _ = _
    rw [lConv, if_pos h1, hev, if_pos h3]
    exact h5
  | nilCheck x =>
    obtain ⟨h1, e⟩ := gB_some (show gB (okOp x) _ = some v from e)
    show lNil _ _ = _
    rw [lNil, if_pos h1, hev]
    cases hc : evR x a with
    | pointer p => cases p with
      | none => rw [hc] at e; exact absurd e (by simp [ptrV])
      | some p => rw [hc] at e; exact e
    | _ => rw [hc] at e; exact absurd e (by simp [ptrV])
  | call c =>
    obtain ⟨callee, args, tys⟩ := c
    cases callee with
    | builtin b =>
      cases b with
      | len =>
        show lLen _ _ _ _ _ = _
        obtain ⟨args⟩ := args
        obtain ⟨tys⟩ := tys
        have e : fLenB args tys P a = some v := e
        unfold lLen
        match args, tys, e with
        | [x], [t], e =>
          obtain ⟨h1, e⟩ := gB_some (show gB (okOp x) _ = some v from e)
          obtain ⟨d, hd, e⟩ := oB_some e
          have hd := und_eq hd
          obtain ⟨h2, e⟩ := gB_some e
          simp only [h1, if_true, hev]
          cases d with
          | slice el =>
            cases hc : evR x a with
            | slice p n c =>
              rw [hc] at e
              unfold alen
              rw [hd]
              exact e
            | _ => rw [hc] at e; exact absurd e (by simp [slenV, gB, sliceD])
          | _ => exact absurd h2 (by simp [sliceD])
        | [], _, e => exact absurd e (by simp [fLenB])
        | [x], [], e => exact absurd e (by simp [fLenB])
        | [x], _ :: _ :: _, e => exact absurd e (by simp [fLenB])
        | _ :: _ :: _, _, e => exact absurd e (by simp [fLenB])
      | _ => exact absurd e (by simp [fLight, fLen])
    | _ => exact absurd e (by simp [fLight, fLen])
  | _ => exact absurd e (by simp [fLight])

/-! stores, calls -/
noncomputable def lsetO {β : Type} (l : List Value) : Nat → Value → (List Value → Option β) → Option β :=
  List.rec (motive := fun _ => Nat → Value → (List Value → Option β) → Option β) (fun _ _ _ => none)
    (fun w l ih n v k => Nat.rec (motive := fun _ => Option β) (k (v :: l)) (fun n _ => ih n v fun l => k (w :: l)) n) l
omit [Globs] in
theorem lsetO_some {β : Type} (l : List Value) : ∀ {n : Nat} {v : Value} {k : List Value → Option β} {b : β}, lsetO l n v k = some b → n < l.length ∧ k (l.set n v) = some b := by
  induction l with
  | nil => intro n v k b e; exact absurd e (by simp [lsetO])
  | cons w l ih =>
    intro n v k b e
    cases n with
    | zero => exact ⟨Nat.succ_pos _, e⟩
    | succ n =>
      obtain ⟨h1, h2⟩ := ih (show lsetO l n v (fun l => k (w :: l)) = some b from e)
      exact ⟨Nat.succ_lt_succ h1, h2⟩
def nodeB {β : Type} (t : Tree) : (Tree → Option Obj → Tree → Option β) → Option β :=
  match t with
  | .leaf => fun f => f .leaf none .leaf
  | .node l v r => fun f => f l v r
noncomputable def tsetR {β : Type} (n : Nat) : Tree → Nat → Option Obj → (Tree → Option β) → Option β :=
  Nat.rec (motive := fun _ => Tree → Nat → Option Obj → (Tree → Option β) → Option β) (fun _ _ _ _ => none)
    (fun _ ih t i o k => nodeB t fun l v r => Bool.rec (motive := fun _ => Option β)
      (Bool.rec (motive := fun _ => Option β) (ih r (i / 2 - 1) o fun r => k (.node l v r)) (ih l (i / 2) o fun l => k (.node l v r)) (Nat.beq (i % 2) 1))
      (k (.node l o r)) (Nat.beq i 0)) n
omit [Globs] in
theorem tsetR_eq {β : Type} : ∀ (n : Nat) (t : Tree) (i : Nat) (o : Option Obj) (k : Tree → Option β), tsetR n t i o k = oB (Tree.set n t i o) k := by
  intro n
  induction n with
  | zero => intro t i o k; cases t <;> rfl
  | succ n ih =>
    intro t i o k
    show (nodeB t fun l v r => Bool.rec (motive := fun _ => Option β)
      (Bool.rec (motive := fun _ => Option β) (tsetR n r (i / 2 - 1) o fun r => k (.node l v r)) (tsetR n l (i / 2) o fun l => k (.node l v r)) (Nat.beq (i % 2) 1))
      (k (.node l o r)) (Nat.beq i 0)) = _
    cases t with
    | leaf =>
      show (Bool.rec (motive := fun _ => Option β) (Bool.rec (motive := fun _ => Option β) (tsetR n .leaf (i / 2 - 1) o fun r => k (.node .leaf none r)) (tsetR n .leaf (i / 2) o fun l => k (.node l none .leaf)) (Nat.beq (i % 2) 1)) (k (.node .leaf o .leaf)) (Nat.beq i 0)) = _
      rw [Tree.set, ih, ih]
      cases Nat.beq i 0 <;> cases Nat.beq (i % 2) 1 <;> simp only [cond_true, cond_false]
      · cases Tree.set n .leaf (i / 2 - 1) o <;> rfl
      · cases Tree.set n .leaf (i / 2) o <;> rfl
      · rfl
      · rfl
    | node l v r =>
      show (Bool.rec (motive := fun _ => Option β) (Bool.rec (motive := fun _ => Option β) (tsetR n r (i / 2 - 1) o fun r => k (.node l v r)) (tsetR n l (i / 2) o fun l => k (.node l v r)) (Nat.beq (i % 2) 1)) (k (.node l o r)) (Nat.beq i 0)) = _
      rw [Tree.set, ih, ih]
      cases Nat.beq i 0 <;> cases Nat.beq (i % 2) 1 <;> simp only [cond_true, cond_false]
      · cases Tree.set n r (i / 2 - 1) o <;> rfl
      · cases Tree.set n l (i / 2) o <;> rfl
      · rfl
      · rfl
def cellsB {β : Type} (o : Option Obj) : (List Value → TypeId → Nat × Nat → Option β) → Option β :=
  match o with
  | some (.cells ⟨l⟩ t e) => fun f => f l t e
  | _ => fun _ => none
omit [Globs] in
theorem cellsB_some {β : Type} {o : Option Obj} {f : List Value → TypeId → Nat × Nat → Option β} {v : β} (h : cellsB o f = some v) : ∃ l t e, o = some (.cells ⟨l⟩ t e) ∧ f l t e = some v := by
  cases o with
  | none => exact absurd h (by simp [cellsB])
  | some o => cases o with
    | cells c t e => obtain ⟨l⟩ := c; exact ⟨l, t, e, rfl, h⟩
    | _ => exact absurd h (by simp [cellsB])
noncomputable def setCellR {β : Type} (h : Heap) (a : Addr) (v : Value) (k : Heap → Option β) : Option β :=
  gB a.spot.isNone (cellsB (getR h.t a.block) fun l t e => gB (!(Nat.beq e.1 2)) (lsetO l a.off v fun l => tsetR 48 h.t a.block (some (.cells ⟨l⟩ t e)) fun t => k ⟨h.next, t⟩))
omit [Globs] in
theorem setCellR_some {β : Type} {h : Heap} {a : Addr} {v : Value} {k : Heap → Option β} {b : β} (e : setCellR h a v k = some b) : ∃ h', h.setCell a v = some h' ∧ k h' = some b := by
  obtain ⟨e1, e⟩ := gB_some e
  obtain ⟨l, t, f, hg, e⟩ := cellsB_some e
  obtain ⟨hro, e⟩ := gB_some e
  obtain ⟨hl, e⟩ := lsetO_some _ e
  rw [tsetR_eq] at e
  obtain ⟨t', ht, e⟩ := oB_some e
  rw [getR_eq] at hg
  refine ⟨⟨h.next, t'⟩, ?_, e⟩
  unfold Heap.setCell Heap.get
  rw [hg]
  simp only
  rw [if_pos (by rw [e1]; simpa using ⟨hl, by simpa using hro⟩)]
  unfold Heap.set
  rw [show (⟨l⟩ : Array Value).setIfInBounds a.off v = ⟨l.set a.off v⟩ by apply Array.ext'; simp, ht]
  rfl
def plainV (v : Value) : Bool :=
  match v with
  | .agg _ => false
  | .tuple _ => false
  | _ => true
omit [Globs] in
theorem arun_store1 {t : TypeId} {i : TypeInfo} {a : Addr} {v : Value} {h h' : Heap} (hi : P.info? t = some i) (h1 : i.size = 1) (hp : plainV v = true) (e : h.setCell a v = some h') :
    arun P (Instr.storeAt t (.pointer (some a)) v) h = some ((), h') := by
  have hc : v.cells = #[v] := by cases v <;> first | rfl | exact absurd hp (by simp [plainV])
  unfold Instr.storeAt Instr.sureAddr
  rw [arun_bindM, arun_pureM]
  simp only
  unfold storeVar
  rw [hc, arun_bindM, arun_sizeOf hi]
  simp only [h1]
  rw [if_neg (by simp)]
  have hs : arun P (storeCells a [v]) h = some ((), h') := by
    simp only [storeCells, Addr.add, if_true]
    show arun P (Sem.bind (store a v) _) h = _
    rw [arun_bind]
    have : arun P (store a v) h = some ((), h') := by
      unfold store
      cases v <;> first
        | exact absurd hp Bool.false_ne_true
        | (simp only [arun, e])
    rw [this]
    rfl
  exact hs
noncomputable def fStore {β : Type} (o : Op) : Program → Act → Heap → (Heap → Option β) → Option β :=
  match o with
  | .store t x v => fun P a h k => gB (okOp x) (gB (okOp v) (oB (tyAt P t) fun i => gB (Nat.beq i.size 1) (gB (plainV (evR v a)) (ptrB (evR x a) fun p => setCellR h p (evR v a) k))))
  | _ => fun _ _ _ _ => none
theorem fStore_some {β : Type} {o : Oper} {a : Act} {h : Heap} {k : Heap → Option β} {b : β} (e : fStore o.op P a h k = some b) : ∃ h', aop P (aeval a) o h = some [(.skip, h')] ∧ k h' = some b := by
  obtain ⟨dst, op, ty, pos, after, guard⟩ := o
  have hev : ∀ x, aeval a x = evR x a := fun x => (evR_eq a x).symm
  cases op with
  | store t x v =>
    obtain ⟨h1, e⟩ := gB_some (show gB (okOp x) _ = some b from e)
    obtain ⟨h2, e⟩ := gB_some e
    obtain ⟨i, hi, e⟩ := oB_some e
    obtain ⟨h3, e⟩ := gB_some e
    obtain ⟨h4, e⟩ := gB_some e
    obtain ⟨p, hp, e⟩ := ptrB_some e
    obtain ⟨h', hs, e⟩ := setCellR_some e
    refine ⟨h', ?_, e⟩
    show hStore P (aeval a) t x v h = _
    rw [hStore, if_pos (by rw [h1, h2]; rfl), hev, hev, hp, arun_store1 (tyAt_info hi) (Nat.eq_of_beq_eq_true h3) h4 hs]
  | _ => exact absurd e (by simp [fStore])

noncomputable def mapR {β : Type} (l : List Operand) : Act → (List Value → Option β) → Option β :=
  List.rec (motive := fun _ => Act → (List Value → Option β) → Option β) (fun _ k => k [])
    (fun x _ ih a k => gB (okOp x) (forceV (evR x a) fun v => ih a fun l => k (v :: l))) l
theorem mapR_some {β : Type} (l : List Operand) : ∀ {a : Act} {k : List Value → Option β} {b : β}, mapR l a k = some b → l.all okOp = true ∧ k (l.map (aeval a)) = some b := by
  induction l with
  | nil => intro a k b e; exact ⟨rfl, e⟩
  | cons x l ih =>
    intro a k b e
    obtain ⟨h1, e⟩ := gB_some (show gB (okOp x) (forceV (evR x a) fun v => mapR l a fun l => k (v :: l)) = some b from e)
    rw [forceV_eq] at e
    obtain ⟨h2, e⟩ := ih e
    refine ⟨by simp [h1, h2], ?_⟩
    rw [List.map_cons, ← evR_eq]
    exact e
noncomputable def bodyB {β : Type} (P : Program) (f : FuncId) (k : Func → Code → Option β) : Option β := oB (nthR P.funcs.toList f) fun fn => oB fn.body fun c => k fn c
omit [Globs] in
theorem bodyB_some {β : Type} {f : FuncId} {k : Func → Code → Option β} {b : β} (e : bodyB P f k = some b) : ∃ fn c, P.funcs[f]? = some fn ∧ fn.body = some c ∧ k fn c = some b := by
  obtain ⟨fn, hf, e⟩ := oB_some e
  obtain ⟨c, hc, e⟩ := oB_some e
  rw [nthR_eq, Array.getElem?_toList] at hf
  exact ⟨fn, c, hf, hc, e⟩
def staticB {β : Type} (c : Callee) : (FuncId → Option β) → Option β :=
  match c with
  | .value x => match x with
    | .func f => fun k => k f
    | _ => fun _ => none
  | _ => fun _ => none
noncomputable def fEnter {β : Type} (o : Op) : Program → Act → (FuncId → List Value → Option β) → Option β :=
  match o with
  | .call c => fun P a k => staticB c.callee fun f => bodyB P f fun _ _ => mapR c.args.toList a fun l => k f l
  | _ => fun _ _ _ => none
theorem fEnter_some {β : Type} {o : Oper} {a : Act} {h : Heap} {k : FuncId → List Value → Option β} {b : β} (e : fEnter o.op P a k = some b) : ∃ f l, aop P (aeval a) o h = some [(.enter f ⟨l⟩, h)] ∧ k f l = some b := by
  obtain ⟨dst, op, ty, pos, after, guard⟩ := o
  cases op with
  | call c =>
    obtain ⟨callee, args, tys⟩ := c
    cases callee with
    | value x =>
      cases x with
      | func f =>
        obtain ⟨fn, c, hf, hc, e⟩ := bodyB_some (show bodyB P f _ = some b from e)
        obtain ⟨h1, e⟩ := mapR_some _ e
        refine ⟨f, args.toList.map (aeval a), ?_, e⟩
        show hCall P (aeval a) (.func f) args h = _
        rw [hCall, if_pos (by rw [h1]; rfl)]
        have hb : hasBody P f = true := by unfold hasBody; rw [hf]; simp [hc]
        have : acallV P (aeval a (.func f)) (args.map (aeval a)) h = some (.enter f ⟨args.toList.map (aeval a)⟩, h) := by
          show (if hasBody P f then some (Next.enter f (#[] ++ args.map (aeval a) ++ #[]), h) else none) = _
          rw [if_pos hb]
          congr 3
          apply Array.ext'
          simp
        rw [this]
      | _ => exact absurd e (by simp [fEnter, staticB])
    | _ => exact absurd e (by simp [fEnter, staticB])
  | _ => exact absurd e (by simp [fEnter])
end
end Go.Ev
