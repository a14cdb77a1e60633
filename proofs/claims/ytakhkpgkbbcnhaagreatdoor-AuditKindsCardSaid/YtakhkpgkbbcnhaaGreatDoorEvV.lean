/- The concrete evaluator, part V: a region that draws its order: whatever is light goes first. -/
import Derived.Test.YtakhkpgkbbcnhaaGreatDoorEvU
namespace Go.Ev
open Go
variable [Globs] [Holes]

/-- A light operation that may be still to come in the real order: its number, its value, and the name of its new block. -/
structure Pd where
  i : Nat
  v : Value
  b : Option Nat

def lightCallee (c : Callee) : Bool :=
  match c with
  | .builtin b => (match b with
    | .len => true
    | .cap => true
    | .min => true
    | .max => true
    | _ => false)
  | _ => false
def lightCls (o : Op) : Bool :=
  match o with
  | .move _ => true
  | .pick _ _ _ => true
  | .alloc _ => true
  | .box _ _ => true
  | .build _ _ => true
  | .buildSlice _ _ _ => true
  | .load _ _ => true
  | .nilCheck _ => true
  | .binOp _ _ _ _ _ => true
  | .unOp _ _ _ => true
  | .convert _ _ _ => true
  | .makeInterface _ _ => true
  | .makeFunc _ _ _ => true
  | .slice _ _ _ _ _ => true
  | .fieldAddr _ _ _ => true
  | .field _ _ _ => true
  | .indexAddr _ _ _ => true
  | .index _ _ _ => true
  | .extract _ _ => true
  | .call c => lightCallee c.callee
  | _ => false

def afterB (o : Oper) (k : Nat) : Bool := o.after.toList.any fun e => Region.binds .any e && Nat.beq e.on k
def afterOk (o : Oper) (D : Nat) : Bool := o.after.toList.all fun e => !(Region.binds .any e) || D.testBit e.on
def fits (ops : Array Oper) (k d j : Nat) : Bool :=
  match ops[j]? with
  | none => true
  | some q => (Nat.beq j k || !(q.dst == some d)) && (!(q.looksAt ops).contains d || afterB q k)
def okLight (ops : Array Oper) (k : Nat) (o : Oper) : Bool :=
  lightCls o.op && (match o.dst with
    | none => true
    | some d => (List.range ops.size).all (fits ops k d))

structure DS where
  D : Nat
  pend : List Pd
  a : Act
  h : Heap

def addBit (D i : Nat) : Nat := D ||| 2 ^ i
omit [Globs] in
omit [Holes] in
theorem addBit_get (D i j : Nat) : (addBit D i).testBit j = (decide (i = j) || D.testBit j) := by
  unfold addBit
  rw [Nat.testBit_or, Nat.testBit_two_pow, Bool.or_comm]

def closeOne (P : Program) (ops : Array Oper) (i : Nat) (s : DS) : Option DS :=
  match ops[i]? with
  | none => some s
  | some o => if (!(s.D.testBit i) && okLight ops i o && afterOk o s.D) = true then
      (if Region.wanted o (yielded ops s.a.tmps) = true then
        match alight P s.a.eval o s.h with
        | some v => some ⟨addBit s.D i, ⟨i, v, none⟩ :: s.pend, s.a.put o.dst v, s.h⟩
        | none => match aalloc P s.a.eval o s.h with
          | some (v, h1) => (match h1.get s.h.next with
            | some obj => (match s.h.push obj with
              | some h2 => some ⟨addBit s.D i, ⟨i, v, some s.h.next⟩ :: s.pend, s.a.put o.dst v, h2⟩
              | none => none)
            | none => none)
          | none => none
      else some ⟨addBit s.D i, ⟨i, undef, none⟩ :: s.pend, s.a.put o.dst undef, s.h⟩)
    else some s
def closeAll (P : Program) (ops : Array Oper) : List Nat → DS → Option DS
  | [], s => some s
  | i :: l, s => match closeOne P ops i s with
    | some s' => closeAll P ops l s'
    | none => none

def eqL (f : Value → Value → Bool) : List Value → List Value → Bool
  | [], [] => true
  | v :: l, w :: m => f v w && eqL f l m
  | _, _ => false
def eqV : Nat → Value → Value → Bool
  | 0, _, _ => false
  | n + 1, v, w => match v, w with
    | .bool a, .bool b => a == b
    | .int k a, .int l b => decide (k = l) && decide (a = b)
    | .string a, .string b => decide (a = b)
    | .pointer none, .pointer none => true
    | .pointer (some a), .pointer (some b) => Nat.beq a.block b.block && Nat.beq a.off b.off && a.spot.isNone && b.spot.isNone
    | .slice none l c, .slice none l' c' => Nat.beq l l' && Nat.beq c c'
    | .slice (some a) l c, .slice (some b) l' c' => Nat.beq a.block b.block && Nat.beq a.off b.off && a.spot.isNone && b.spot.isNone && Nat.beq l l' && Nat.beq c c'
    | .map none, .map none => true
    | .map (some a), .map (some b) => Nat.beq a b
    | .chan (some a), .chan (some b) => Nat.beq a b
    | .nilFunc, .nilFunc => true
    | .nilIface, .nilIface => true
    | .iface t a, .iface u b => Nat.beq t u && eqV n a b
    | .agg a, .agg b => eqL (eqV n) a.toList b.toList
    | .tuple a, .tuple b => eqL (eqV n) a.toList b.toList
    | .func (.func f) xs us, .func (.func g) ys vs => Nat.beq f g && (eqL (eqV n) xs.toList ys.toList && eqL (eqV n) us.toList vs.toList)
    | _, _ => false
omit [Globs] in
omit [Holes] in
theorem eqL_eq {f : Value → Value → Bool} (h : ∀ v w, f v w = true → v = w) : ∀ l m, eqL f l m = true → l = m := by
  intro l
  induction l with
  | nil => intro m e; cases m with
    | nil => rfl
    | cons => simp [eqL] at e
  | cons v l ih =>
    intro m e
    cases m with
    | nil => simp [eqL] at e
    | cons w m =>
      simp only [eqL, Bool.and_eq_true] at e
      rw [h v w e.1, ih m e.2]
omit [Globs] in
omit [Holes] in
theorem eqV_eq : ∀ (n : Nat) (v w : Value), eqV n v w = true → v = w := by
  intro n
  induction n with
  | zero => intro v w e; simp [eqV] at e
  | succ n ih =>
    intro v w e
    have hL := eqL_eq ih
    unfold eqV at e
    split at e
    · simp at e; rw [e]
    · simp at e; rw [e.1, e.2]
    · simp at e; rw [e]
    · rfl
    · rename_i a b
      obtain ⟨a1, a2, a3⟩ := a
      obtain ⟨b1, b2, b3⟩ := b
      cases a3 <;> cases b3 <;> simp at e ⊢
      exact e
    · simp at e; rw [e.1, e.2]
    · rename_i a l c b l' c'
      obtain ⟨a1, a2, a3⟩ := a
      obtain ⟨b1, b2, b3⟩ := b
      cases a3 <;> cases b3 <;> simp at e ⊢
      exact ⟨⟨e.1.1.1, e.1.1.2⟩, e.1.2, e.2⟩
    · rfl
    · simp at e; rw [e]
    · simp at e; rw [e]
    · rfl
    · rfl
    · simp at e; rw [e.1, ih _ _ e.2]
    · rename_i a b
      obtain ⟨a⟩ := a
      obtain ⟨b⟩ := b
      have : a = b := hL a b e
      rw [this]
    · rename_i a b
      obtain ⟨a⟩ := a
      obtain ⟨b⟩ := b
      have : a = b := hL a b e
      rw [this]
    · rename_i f xs us g ys vs
      obtain ⟨xs⟩ := xs
      obtain ⟨ys⟩ := ys
      obtain ⟨us⟩ := us
      obtain ⟨vs⟩ := vs
      simp only [Bool.and_eq_true] at e
      have h1 := Nat.eq_of_beq_eq_true e.1
      have h2 : xs = ys := hL _ _ e.2.1
      have h3 : us = vs := hL _ _ e.2.2
      rw [h1, h2, h3]
    · exact absurd e (by simp)

def rebase (v : Value) (n b : Nat) : Value :=
  match v with
  | .pointer (some a) => if Nat.beq a.block n then .pointer (some ⟨b, 0, none⟩) else undef
  | .slice (some a) l c => if Nat.beq a.block n then .slice (some ⟨b, 0, none⟩) l c else undef
  | _ => undef
omit [Globs] in
omit [Holes] in
theorem rebase_mk {mk : Nat → Value} (h : MkOk mk) (n b : Nat) : rebase (mk n) n b = mk b := by
  rcases h with h | ⟨l, h⟩ <;> simp [h, rebase]
def sameRow (x y : Option Obj) : Bool :=
  match x, y with
  | some (.cells c _ _), some (.cells c' _ f') => eqL (eqV 4) c.toList c'.toList && Nat.beq f'.1 0 && Nat.beq f'.2 0
  | _, _ => false
def recheckOne (P : Program) (ops : Array Oper) (a : Act) (h : Heap) (p : Pd) : Bool :=
  match ops[p.i]? with
  | none => false
  | some o => if Region.wanted o (yielded ops a.tmps) = true then
      (match alight P a.eval o h with
      | some v => p.b.isNone && eqV 4 v p.v
      | none => match aalloc P a.eval o h, p.b with
        | some (v, h1), some b => sameRow (h1.get h.next) (h.get b) && eqV 4 (rebase v h.next b) p.v
        | _, _ => false)
    else p.b.isNone && eqV 4 undef p.v

def cand (ops : Array Oper) (D : Nat) : List Nat := (List.range ops.size).filter fun i => !(D.testBit i) && (match ops[i]? with | some o => afterOk o D | none => false)
def topo (ops : Array Oper) : Bool := (List.range ops.size).all fun i => match ops[i]? with
  | some o => o.after.toList.all fun e => !(Region.binds .any e) || Nat.blt e.on i
  | none => true
def afterM (ops : Array Oper) (j : Nat) : Nat :=
  match ops[j]? with
  | some o => o.after.toList.foldl (fun m e => if Region.binds .any e then addBit m e.on else m) 0
  | none => 0
def ancGo (ops : Array Oper) : Nat → Nat → Nat
  | 0, m => m
  | i + 1, m => ancGo ops i (if m.testBit i then m ||| afterM ops i else m)
def ancs (ops : Array Oper) (j : Nat) : Nat := ancGo ops ops.size (afterM ops j)
def leftOver (ops : Array Oper) (j : Nat) (pend : List Pd) : List Pd := pend.filter fun p => !((ancs ops j).testBit p.i)

omit [Globs] in
omit [Holes] in
theorem All2.mono {α β : Type} {R R' : α → β → Prop} (hR : ∀ a b, R a b → R' a b) {as : List α} {bs : List β} (h : All2 R as bs) : All2 R' as bs := by
  induction h with
  | nil => exact .nil
  | cons h _ ih => exact .cons (hR _ _ h) ih

/-! ### the real order and the one that is run -/
def on (listed : Array Bool) (i : Nat) : Prop := listed.getD i false = true
structure DJ (ops : Array Oper) (D : Nat) (pend : List Pd) (a : Act) (G : Nat → Prop) (F : Facts) (ρ : Emb) (listed : Array Bool) (a' : Act) : Prop where
  size : listed.size = ops.size
  sub : ∀ i, on listed i → D.testBit i = true
  down : ∀ i o e, on listed i → ops[i]? = some o → e ∈ o.after → Region.binds .any e = true → on listed e.on
  pending : ∀ i, D.testBit i = true → i < ops.size → ¬ on listed i → ∃ p ∈ pend, p.i = i
  lights : ∀ p ∈ pend, D.testBit p.i = true ∧ ∃ o, ops[p.i]? = some o ∧ okLight ops p.i o = true
  sizes : a.tmps.size = a'.tmps.size
  defs : All2 (DfRel ρ) a.defers a'.defers
  rel : ∀ t v v', a.tmps[t]? = some v → a'.tmps[t]? = some v' → (∀ p ∈ pend, ¬ on listed p.i → ∀ o, ops[p.i]? = some o → o.dst ≠ some t) → VRel ρ v v'
  vals : ∀ p ∈ pend, ¬ on listed p.i → ∀ o d, ops[p.i]? = some o → o.dst = some d → d < a.tmps.size → a.tmps[d]? = some p.v
  born : ∀ p ∈ pend, ¬ on listed p.i → ∀ b, p.b = some b → F.unborn b ∧ ¬ G b
  one : ∀ p ∈ pend, ∀ q ∈ pend, ¬ on listed p.i → ¬ on listed q.i → ∀ b, p.b = some b → q.b = some b → p.i = q.i
  keep : ∀ c, G c → F.unborn c

omit [Globs] in
omit [Holes] in
theorem on_set {listed : Array Bool} {i : Nat} (hi : i < listed.size) (j : Nat) : on (listed.setIfInBounds i true) j ↔ j = i ∨ on listed j := by
  unfold on
  rw [Array.getD_eq_getD_getElem?, Array.getD_eq_getD_getElem?, Array.getElem?_setIfInBounds]
  by_cases h : i = j
  · subst h; simp [hi]
  · rw [if_neg h]
    constructor
    · intro h'; exact .inr h'
    · rintro (h' | h')
      · exact absurd h'.symm h
      · exact h'
omit [Globs] in
omit [Holes] in
theorem afterB_spec {o : Oper} {k : Nat} (h : afterB o k = true) : ∃ e ∈ o.after, Region.binds .any e = true ∧ e.on = k := by
  unfold afterB at h
  rw [List.any_eq_true] at h
  obtain ⟨e, he, h⟩ := h
  simp only [Bool.and_eq_true] at h
  exact ⟨e, by simpa using he, h.1, Nat.eq_of_beq_eq_true h.2⟩
omit [Globs] in
omit [Holes] in
theorem afterOk_spec {o : Oper} {D : Nat} (h : afterOk o D = true) {e : Edge} (he : e ∈ o.after) (hb : Region.binds .any e = true) : D.testBit e.on = true := by
  unfold afterOk at h
  rw [List.all_eq_true] at h
  have := h e (by simpa using he)
  rw [hb] at this
  simpa using this
omit [Globs] in
omit [Holes] in
theorem afterOk_of {o : Oper} {D : Nat} (h : ∀ e ∈ o.after, Region.binds .any e = true → D.testBit e.on = true) : afterOk o D = true := by
  unfold afterOk
  rw [List.all_eq_true]
  intro e he
  cases hb : Region.binds .any e with
  | false => rfl
  | true => simpa using h e (by simpa using he) hb
omit [Globs] in
omit [Holes] in
theorem okLight_spec {ops : Array Oper} {k : Nat} {o : Oper} (h : okLight ops k o = true) {d : Nat} (hd : o.dst = some d) {j : Nat} {q : Oper} (hq : ops[j]? = some q) :
    (j = k ∨ q.dst ≠ some d) ∧ (d ∈ q.looksAt ops → afterB q k = true) := by
  unfold okLight at h
  simp only [hd, Bool.and_eq_true] at h
  have hj : j < ops.size := (Array.getElem?_eq_some_iff.1 hq).1
  have := List.all_eq_true.1 h.2 j (List.mem_range.2 hj)
  unfold fits at this
  rw [hq] at this
  simp only [Bool.and_eq_true, Bool.or_eq_true, Bool.not_eq_true', beq_eq_false_iff_ne, List.contains_eq_mem, decide_eq_false_iff_not] at this
  refine ⟨?_, fun hm => ?_⟩
  · rcases this.1 with h | h
    · exact .inl (Nat.eq_of_beq_eq_true h)
    · exact .inr h
  · rcases this.2 with h | h
    · exact absurd hm h
    · exact h
omit [Globs] in
omit [Holes] in
theorem ready_spec {ops : Array Oper} {listed : Array Bool} (hs : listed.size = ops.size) {i : Nat} (h : i ∈ Region.ready .any ops listed) :
    i < ops.size ∧ ¬ on listed i ∧ ∃ o, ops[i]? = some o ∧ ∀ e ∈ o.after, Region.binds .any e = true → on listed e.on := by
  unfold Region.ready at h
  rw [List.mem_filter] at h
  obtain ⟨h1, h2⟩ := h
  have hi := List.mem_range.1 h1
  simp only [Bool.and_eq_true, Bool.not_eq_true'] at h2
  refine ⟨hi, ?_, ops[i], Array.getElem?_eq_getElem hi, ?_⟩
  · have h3 := h2.1
    unfold on
    rw [Array.getD_eq_getD_getElem?, Array.getElem?_eq_getElem (by omega)] at h3 ⊢
    simp at h3 ⊢
    exact h3
  · intro e he hb
    have h4 := h2.2
    rw [Array.getElem?_eq_getElem hi] at h4
    simp only [Option.map_some, Option.getD_some] at h4
    rw [Array.all_eq_true'] at h4
    have := h4 e he
    rw [hb] at this
    simpa [on] using this
omit [Globs] in
omit [Holes] in
theorem ready_of {ops : Array Oper} {listed : Array Bool} (hs : listed.size = ops.size) {i : Nat} {o : Oper} (ho : ops[i]? = some o) (hn : ¬ on listed i) (h : ∀ e ∈ o.after, Region.binds .any e = true → on listed e.on) :
    i ∈ Region.ready .any ops listed := by
  have hi : i < ops.size := (Array.getElem?_eq_some_iff.1 ho).1
  unfold Region.ready
  rw [List.mem_filter]
  refine ⟨List.mem_range.2 hi, ?_⟩
  simp only [Bool.and_eq_true, Bool.not_eq_true']
  refine ⟨?_, ?_⟩
  · unfold on at hn
    rw [Array.getD_eq_getD_getElem?, Array.getElem?_eq_getElem (by omega)] at hn ⊢
    simpa using hn
  · rw [ho]
    simp only [Option.map_some, Option.getD_some]
    rw [Array.all_eq_true']
    intro e he
    cases hb : Region.binds .any e with
    | false => rfl
    | true => have := h e he hb; unfold on at this; simp [this]
omit [Globs] in
omit [Holes] in
/-- If nothing is ready, everything has come. -/
theorem all_on {ops : Array Oper} {listed : Array Bool} (hs : listed.size = ops.size) (ht : topo ops = true) (hr : Region.ready .any ops listed = []) : ∀ i, i < ops.size → on listed i := by
  intro i
  induction i using Nat.strongRecOn with
  | ind i ih =>
    intro hi
    by_cases hn : on listed i
    · exact hn
    exfalso
    have ho := Array.getElem?_eq_getElem hi
    have := ready_of hs ho hn (fun e he hb => by
      have h1 := List.all_eq_true.1 ht i (List.mem_range.2 hi)
      rw [ho] at h1
      have h2 := List.all_eq_true.1 h1 e (by simpa using he)
      rw [hb] at h2
      have h3 : e.on < i := by simpa [Nat.blt_eq] using h2
      exact ih _ h3 (by omega))
    rw [hr] at this
    exact absurd this (by simp)

omit [Globs] in
omit [Holes] in
theorem ancs_on {ops : Array Oper} {listed : Array Bool} {j : Nat} (hdown : ∀ i o e, on listed i → ops[i]? = some o → e ∈ o.after → Region.binds .any e = true → on listed e.on)
    {o : Oper} (ho : ops[j]? = some o) (hj : ∀ e ∈ o.after, Region.binds .any e = true → on listed e.on) : ∀ i, (ancs ops j).testBit i = true → on listed i := by
  have fold : ∀ (l : List Edge) (m : Nat), (∀ i, m.testBit i = true → on listed i) → (∀ e ∈ l, Region.binds .any e = true → on listed e.on) →
      ∀ i, (l.foldl (fun m e => if Region.binds .any e = true then addBit m e.on else m) m).testBit i = true → on listed i := by
    intro l
    induction l with
    | nil => intro m hm _ i hi; exact hm i hi
    | cons e l ih =>
      intro m hm hl i hi
      refine ih _ ?_ (fun e' he' => hl e' (List.mem_cons_of_mem _ he')) i hi
      intro k hk
      simp only at hk
      split at hk
      · rename_i hb
        rw [addBit_get] at hk
        simp only [Bool.or_eq_true, decide_eq_true_eq] at hk
        rcases hk with rfl | hk
        · exact hl e (List.mem_cons_self) hb
        · exact hm k hk
      · exact hm k hk
  have hA : ∀ i q, ops[i]? = some q → (∀ e ∈ q.after, Region.binds .any e = true → on listed e.on) → ∀ k, (afterM ops i).testBit k = true → on listed k := by
    intro i q hq hq2 k hk
    unfold afterM at hk
    rw [hq] at hk
    exact fold _ 0 (fun i hi => by simp at hi) (fun e he => hq2 e (by simpa using he)) k hk
  have go : ∀ n m, (∀ i, m.testBit i = true → on listed i) → ∀ i, (ancGo ops n m).testBit i = true → on listed i := by
    intro n
    induction n with
    | zero => intro m hm; exact hm
    | succ n ih =>
      intro m hm
      refine ih _ ?_
      intro i hi
      split at hi
      · rename_i hb
        rw [Nat.testBit_or, Bool.or_eq_true] at hi
        rcases hi with hi | hi
        · exact hm i hi
        · cases hq : ops[n]? with
          | none => unfold afterM at hi; rw [hq] at hi; simp at hi
          | some q => exact hA n q hq (fun e he hb' => hdown n q e (hm n hb) hq he hb') i hi
      · exact hm i hi
  exact go _ _ (hA j o ho hj)

/-! what is still to come is put out of sight -/
section
open Classical
noncomputable def patch (bad : Nat → Prop) (a : Act) : Act := { a with tmps := Array.ofFn fun i : Fin a.tmps.size => if bad i.1 then undef else a.tmps[i.1] }
omit [Globs] in
omit [Holes] in
theorem patch_get (bad : Nat → Prop) (a : Act) (t : Nat) : (patch bad a).tmps[t]? = (a.tmps[t]?).map fun v => if bad t then undef else v := by
  unfold patch
  simp only [Array.getElem?_ofFn]
  by_cases h : t < a.tmps.size
  · rw [dif_pos h, Array.getElem?_eq_getElem h]
    rfl
  · rw [dif_neg h, Array.getElem?_eq_none (by omega)]
    rfl
omit [Globs] in
omit [Holes] in
theorem patch_eval (bad : Nat → Prop) (a : Act) (x : Operand) (h : ∀ t, x = .tmp t → ¬ bad t) : (patch bad a).eval x = a.eval x := by
  cases x with
  | tmp t =>
    show (patch bad a).tmps.getD t undef = a.tmps.getD t undef
    rw [Array.getD_eq_getD_getElem?, Array.getD_eq_getD_getElem?, patch_get]
    cases a.tmps[t]? with
    | none => rfl
    | some v => simp only [Option.map_some, Option.getD_some, if_neg (h t rfl)]
  | _ => rfl
omit [Globs] in
theorem patch_rel {ρ : Emb} {bad : Nat → Prop} {a a' : Act} (hs : a.tmps.size = a'.tmps.size) (h : ∀ t v v', a.tmps[t]? = some v → a'.tmps[t]? = some v' → ¬ bad t → VRel ρ v v') :
    ActRel ρ (patch bad a) (patch bad a') := by
  refine ⟨by simp [patch, hs], fun t v v' hv hv' => ?_⟩
  rw [patch_get, Option.map_eq_some_iff] at hv hv'
  obtain ⟨x, hx, rfl⟩ := hv
  obtain ⟨x', hx', rfl⟩ := hv'
  by_cases hb : bad t
  · rw [if_pos hb, if_pos hb]; exact .undef
  · rw [if_neg hb, if_neg hb]; exact h t x x' hx hx' hb
end

section
variable {P : Program} {ops : Array Oper} {D : Nat} {pend : List Pd} {a a' : Act} {G : Nat → Prop} {F : Facts} {ρ : Emb} {listed : Array Bool}

omit [Globs] in
omit [Holes] in
theorem get_both {x y : Array Value} (h : x.size = y.size) (t : Nat) : (x[t]? = none ∧ y[t]? = none) ∨ ∃ v v', x[t]? = some v ∧ y[t]? = some v' := by
  by_cases ht : t < x.size
  · exact .inr ⟨x[t], y[t], Array.getElem?_eq_getElem ht, Array.getElem?_eq_getElem (h ▸ ht)⟩
  · exact .inl ⟨Array.getElem?_eq_none (by omega), Array.getElem?_eq_none (by omega)⟩
def Bad (ops : Array Oper) (pend : List Pd) (listed : Array Bool) (t : Nat) : Prop := ∃ p ∈ pend, ¬ on listed p.i ∧ ∃ o, ops[p.i]? = some o ∧ o.dst = some t
omit [Globs] in
theorem DJ.act (J : DJ ops D pend a G F ρ listed a') : ActRel ρ (patch (Bad ops pend listed) a) (patch (Bad ops pend listed) a') :=
  patch_rel J.sizes fun t v v' hv hv' hb => J.rel t v v' hv hv' fun p hp hn o ho hd => hb ⟨p, hp, hn, o, ho, hd⟩
omit [Globs] in
/-- What a ready operation looks at, is there. -/
theorem DJ.sees (J : DJ ops D pend a G F ρ listed a') {i : Nat} {o : Oper} (ho : ops[i]? = some o) (hr : ∀ e ∈ o.after, Region.binds .any e = true → on listed e.on) {t : Nat} (ht : t ∈ o.looksAt ops) :
    ¬ Bad ops pend listed t := by
  rintro ⟨p, hp, hn, q, hq, hd⟩
  obtain ⟨_, q', hq', hl⟩ := J.lights p hp
  rw [hq] at hq'
  cases hq'
  have := (okLight_spec hl hd ho).2 ht
  obtain ⟨e, he, hb, hk⟩ := afterB_spec this
  exact hn (hk ▸ hr e he hb)
omit [Globs] in
omit [Holes] in
theorem looksAt_op {o : Oper} {t : Nat} (h : Operand.tmp t ∈ o.op.operands) : t ∈ o.looksAt ops := by
  unfold Oper.looksAt
  exact List.mem_append_left _ (List.mem_filterMap.2 ⟨.tmp t, by simpa using h, rfl⟩)
omit [Globs] in
omit [Holes] in
theorem looksAt_guard {o : Oper} {g : Nat} {b : Bool} {t : Nat} (h : o.guard = some (g, b)) (hd : (ops[g]?).bind (·.dst) = some t) : t ∈ o.looksAt ops := by
  unfold Oper.looksAt
  refine List.mem_append_right _ ?_
  rw [h]
  simp [hd]
omit [Globs] in
theorem DJ.operands (J : DJ ops D pend a G F ρ listed a') {i : Nat} {o : Oper} (ho : ops[i]? = some o) (hr : ∀ e ∈ o.after, Region.binds .any e = true → on listed e.on) (b : Act) :
    ∀ x ∈ o.op.operands, (patch (Bad ops pend listed) b).eval x = b.eval x :=
  fun x hx => patch_eval _ _ x fun t ht => J.sees ho hr (looksAt_op (ht ▸ hx))
omit [Globs] in
theorem DJ.wanted (J : DJ ops D pend a G F ρ listed a') {i : Nat} {o : Oper} (ho : ops[i]? = some o) (hr : ∀ e ∈ o.after, Region.binds .any e = true → on listed e.on) :
    Region.wanted o (yielded ops a'.tmps) = Region.wanted o (yielded ops a.tmps) := by
  unfold Region.wanted
  cases hg : o.guard with
  | none => rfl
  | some p =>
    obtain ⟨g, b⟩ := p
    simp only
    congr 1
    unfold yielded
    cases hd : (ops[g]?).bind (·.dst) with
    | none => rfl
    | some t =>
      simp only [Option.bind_some]
      have hb := J.sees ho hr (looksAt_guard hg hd)
      rcases get_both J.sizes t with ⟨h1, h2⟩ | ⟨v, v', h1, h2⟩
      · rw [h1, h2]
      · rw [h1, h2]
        have := J.rel t v v' h1 h2 fun p hp hn o ho hd => hb ⟨p, hp, hn, o, ho, hd⟩
        cases this with
        | hole k h _ => cases v' <;> first | rfl | exact absurd h Bool.false_ne_true
        | _ => rfl
omit [Globs] in
theorem DJ.exec (J : DJ ops D pend a G F ρ listed a') {i : Nat} {o : Oper} (ho : ops[i]? = some o) (hr : ∀ e ∈ o.after, Region.binds .any e = true → on listed e.on) (hs : ∀ cs b, o.op ≠ .select cs b) :
    execOp (patch (Bad ops pend listed) a').eval o = execOp a'.eval o := execOp_congr o hs (J.operands ho hr a')

/-- A pending light comes: what it gives stands already in the run. -/
theorem DJ.light (J : DJ ops D pend a G F ρ listed a') {h : Heap} {w : World} (i : Inv F ρ h w) {p : Pd} (hp : p ∈ pend) (hn : ¬ on listed p.i) (hrec : recheckOne P ops a h p = true)
    {o : Oper} (ho : ops[p.i]? = some o) (hr : ∀ e ∈ o.after, Region.binds .any e = true → on listed e.on) :
    ∃ F' σ v' w', (if Region.wanted o (yielded ops a'.tmps) = true then (execOp a'.eval o).run P w = .ok (.value v') w' ∧ (∀ c, o.op ≠ .defer c) else v' = undef ∧ w' = w) ∧
      ρ.le σ ∧ Inv F' σ h w' ∧ { F' with unborn := G } = { F with unborn := G } ∧ DJ ops D pend a G F' σ (listed.setIfInBounds p.i true) (a'.put o.dst v') := by
  have hlt : p.i < listed.size := by rw [J.size]; exact (Array.getElem?_eq_some_iff.1 ho).1
  -- the common part
  have key : ∀ (F' : Facts) (σ : Emb) (v' : Value), ρ.le σ → VRel σ p.v v' → (∀ q ∈ pend, ¬ on (listed.setIfInBounds p.i true) q.i → ∀ b, q.b = some b → F'.unborn b ∧ ¬ G b) → (∀ c, G c → F'.unborn c) →
      DJ ops D pend a G F' σ (listed.setIfInBounds p.i true) (a'.put o.dst v') := by
    intro F' σ v' hle hv hb hk
    have hon := on_set hlt
    refine ⟨by simp [J.size], ?_, ?_, ?_, J.lights, ?_, ?_, ?_, ?_, hb, ?_, hk⟩
    · intro k hk
      rcases (hon k).1 hk with rfl | hk
      · exact (J.lights p hp).1
      · exact J.sub k hk
    · intro k q e hk hq he hb
      rw [hon]
      rcases (hon k).1 hk with rfl | hk
      · rw [ho] at hq; cases hq; exact .inr (hr e he hb)
      · exact .inr (J.down k q e hk hq he hb)
    · intro k hk1 hk2 hk3
      exact J.pending k hk1 hk2 fun h => hk3 ((hon k).2 (.inr h))
    · rw [J.sizes]; cases o.dst <;> simp [Act.put]
    · have := J.defs.mono fun _ _ h => DfRel.mono hle h
      cases o.dst <;> exact this
    · intro t v₁ v₁' h1 h1' hfree
      by_cases hd : o.dst = some t
      · have ht : t < a.tmps.size := (Array.getElem?_eq_some_iff.1 h1).1
        rw [J.vals p hp hn o t ho hd ht] at h1
        cases h1
        rw [hd] at h1'
        simp only [Act.put, Array.getElem?_setIfInBounds, if_pos] at h1'
        rw [if_pos (by rw [← J.sizes]; exact ht)] at h1'
        cases h1'
        exact hv
      · have h2 : a'.tmps[t]? = some v₁' := by
          cases hdd : o.dst with
          | none => rw [hdd] at h1'; exact h1'
          | some d =>
            rw [hdd] at h1' hd
            simp only [Act.put] at h1'
            rw [Array.getElem?_setIfInBounds_ne (by intro e; exact hd (by rw [e]))] at h1'
            exact h1'
        refine (J.rel t v₁ v₁' h1 h2 fun q hq hqn oq hoq hdq => ?_).mono hle
        by_cases hqi : q.i = p.i
        · rw [hqi, ho] at hoq; cases hoq; exact hd hdq
        · exact hfree q hq (fun hc => by rcases (hon q.i).1 hc with hc | hc; exact hqi hc; exact hqn hc) oq hoq hdq
    · intro q hq hqn
      exact J.vals q hq fun hc => hqn ((hon q.i).2 (.inr hc))
    · intro q hq q2 hq2 h1 h2
      exact J.one q hq q2 hq2 (fun hc => h1 ((hon _).2 (.inr hc))) fun hc => h2 ((hon _).2 (.inr hc))
  have hbornS : ∀ q ∈ pend, ¬ on (listed.setIfInBounds p.i true) q.i → ∀ b, q.b = some b → F.unborn b ∧ ¬ G b := fun q hq hqn => J.born q hq fun hc => hqn ((on_set hlt q.i).2 (.inr hc))
  unfold recheckOne at hrec
  rw [ho] at hrec
  simp only at hrec
  rw [J.wanted ho hr]
  by_cases hw : Region.wanted o (yielded ops a.tmps) = true
  · rw [if_pos hw] at hrec
    split at hrec
    · -- a value
      rename_i v hv
      simp only [Bool.and_eq_true] at hrec
      have hvv := eqV_eq _ _ _ hrec.2
      subst hvv
      rw [← alight_congr (J.operands ho hr a)] at hv
      obtain ⟨v', hrun, hR⟩ := alight_sound J.act i hv
      have hnd : ∀ c, o.op ≠ .defer c := by
        intro c hc
        obtain ⟨dst, op, ty, pos, after, guard⟩ := o
        simp only at hc
        subst hc
        simp [alight] at hv
      have hns : ∀ cs b, o.op ≠ .select cs b := by
        intro cs b hc
        obtain ⟨dst, op, ty, pos, after, guard⟩ := o
        simp only at hc
        subst hc
        simp [alight] at hv
      rw [J.exec ho hr hns] at hrun
      exact ⟨F, ρ, v', w, by rw [if_pos hw]; exact ⟨hrun, hnd⟩, Emb.le_refl _, i, rfl, key F ρ v' (Emb.le_refl _) hR hbornS J.keep⟩
    · split at hrec
      · -- a new block
        rename_i v h1 b hal hb
        simp only [Bool.and_eq_true] at hrec
        obtain ⟨hrow, hval⟩ := hrec
        have hval := eqV_eq _ _ _ hval
        rw [← aalloc_congr (J.operands ho hr a)] at hal
        obtain ⟨t, t', cells, cells', mk, hc1, hc2, hc3, hc4, hc5⟩ := aalloc_sound J.act i hal
        have hnd : ∀ c, o.op ≠ .defer c := by
          intro c hc
          obtain ⟨dst, op, ty, pos, after, guard⟩ := o
          simp only at hc
          subst hc
          simp [aalloc] at hal
        have hns : ∀ cs b, o.op ≠ .select cs b := by
          intro cs b hc
          obtain ⟨dst, op, ty, pos, after, guard⟩ := o
          simp only at hc
          subst hc
          simp [aalloc] at hal
        rw [J.exec ho hr hns] at hc4
        obtain ⟨hub, hgb⟩ := J.born p hp hn b hb
        have hg1 : h1.get h.next = some (.cells cells t (0, 0)) := by rw [(Heap.get_push hc2).2]; simp
        rw [hg1] at hrow
        obtain ⟨tb, fb, hgb2, hfb⟩ : ∃ tb fb, h.get b = some (.cells cells tb fb) ∧ fb = (0, 0) := by
          unfold sameRow at hrow
          split at hrow
          · rename_i c t1 f1 c' t2 f2 e1 e2
            simp only [Option.some.injEq, Obj.cells.injEq] at e1
            simp only [Bool.and_eq_true] at hrow
            obtain ⟨⟨hr1, hr2⟩, hr3⟩ := hrow
            have hcc : c = c' := by
              have := eqL_eq (eqV_eq 4) _ _ hr1
              exact Array.ext' this
            obtain ⟨e1a, _, _⟩ := e1
            refine ⟨t2, f2, ?_, ?_⟩
            · rw [e2, ← hcc, ← e1a]
            · obtain ⟨f21, f22⟩ := f2
              exact Prod.ext (Nat.eq_of_beq_eq_true hr2) (Nat.eq_of_beq_eq_true hr3)
          · exact absurd hrow (by simp)
        subst hfb
        obtain ⟨L, hL⟩ : ∃ L : Loc, L = ⟨w.heap.size, 0, cells'.size, cells.size, 0, false⟩ := ⟨_, rfl⟩
        have hun := (i.unb b hub).1
        have hle := Emb.le_add L hun
        have hpv : p.v = mk b := by rw [← hval, hc3, rebase_mk hc5]
        refine ⟨{ F with unborn := fun c => F.unborn c ∧ c ≠ b }, ρ.add b L, mk w.heap.size, { w with heap := w.heap.push (.cells cells' t' (0, 0)) }, by rw [if_pos hw]; exact ⟨hc4, hnd⟩, hle, ?_, rfl, ?_⟩
        · refine i.birth hub hgb2 (by rw [hL]) ?_ _ fun c hc => hc
          subst hL
          refine ⟨rfl, rfl, rfl, rfl, by simp [hc1.1], fun j v v' hv hv' => (hc1.2 j v v' hv (by simpa using hv')).mono hle, .inl rfl⟩
        · refine key _ _ _ hle ?_ ?_ ?_
          · rw [hpv]
            have := hc5.rel (ρ.add b L) b L (Emb.add_self _ _ _) (by rw [hL])
            rw [hL] at this ⊢
            exact this
          · intro q hq hqn c hc
            obtain ⟨h2, h3⟩ := hbornS q hq hqn c hc
            refine ⟨⟨h2, fun hcb => ?_⟩, h3⟩
            subst hcb
            have hqn' : ¬ on listed q.i := fun hx => hqn ((on_set hlt q.i).2 (.inr hx))
            exact hqn ((on_set hlt q.i).2 (.inl (J.one q hq p hp hqn' hn c hc hb)))
          · exact fun c hc => ⟨J.keep c hc, fun hcb => hgb (hcb ▸ hc)⟩
      · exact absurd hrec (by simp)
  · rw [if_neg hw] at hrec
    simp only [Bool.and_eq_true] at hrec
    have hval := eqV_eq _ _ _ hrec.2
    exact ⟨F, ρ, undef, w, by rw [if_neg hw]; exact ⟨rfl, rfl⟩, Emb.le_refl _, i, rfl, key F ρ undef (Emb.le_refl _) (by rw [← hval]; exact .undef) hbornS J.keep⟩

omit [Globs] in
omit [Holes] in
theorem put_get (a : Act) (dst : Option Tmp) (v : Value) (t : Nat) (h : dst ≠ some t) : (a.put dst v).tmps[t]? = a.tmps[t]? := by
  cases dst with
  | none => rfl
  | some d =>
    simp only [Act.put]
    exact Array.getElem?_setIfInBounds_ne fun e => h (by rw [e])
omit [Globs] in
omit [Holes] in
theorem put_size (a : Act) (dst : Option Tmp) (v : Value) : (a.put dst v).tmps.size = a.tmps.size := by cases dst <;> simp [Act.put]
omit [Globs] in
omit [Holes] in
theorem put_defers (a : Act) (dst : Option Tmp) (v : Value) : (a.put dst v).defers = a.defers := by cases dst <;> rfl
omit [Globs] in
omit [Holes] in
theorem put_self (a : Act) (d : Nat) (v : Value) (h : d < a.tmps.size) : (a.put (some d) v).tmps[d]? = some v := by
  simp [Act.put, h]

omit [Globs] in
/-- A light of the run that has not come yet. -/
theorem DJ.ahead (J : DJ ops D pend a G F ρ listed a') {k : Nat} {o : Oper} (ho : ops[k]? = some o) (hD : D.testBit k = false) (hl : okLight ops k o = true) (v : Value) (b : Option Nat)
    (F' : Facts) (hF : ∀ c, F.unborn c → F'.unborn c) (hb : ∀ c, b = some c → F'.unborn c ∧ ¬ F.unborn c) :
    DJ ops (addBit D k) (⟨k, v, b⟩ :: pend) (a.put o.dst v) G F' ρ listed a' := by
  have hnk : ¬ on listed k := fun h => by rw [J.sub k h] at hD; exact absurd hD (by simp)
  have hne : ∀ p ∈ pend, p.i ≠ k := fun p hp h => by rw [← h, (J.lights p hp).1] at hD; exact absurd hD (by simp)
  have hbit : ∀ i, D.testBit i = true → (addBit D k).testBit i = true := fun i h => by rw [addBit_get, h]; simp
  refine ⟨J.size, fun i hi => hbit i (J.sub i hi), J.down, ?_, ?_, by rw [put_size]; exact J.sizes, by rw [put_defers]; exact J.defs, ?_, ?_, ?_, ?_, fun c hc => hF c (J.keep c hc)⟩
  · intro i hi hlt hn
    rw [addBit_get, Bool.or_eq_true, decide_eq_true_eq] at hi
    rcases hi with rfl | hi
    · exact ⟨_, List.mem_cons_self, rfl⟩
    · obtain ⟨p, hp, e⟩ := J.pending i hi hlt hn
      exact ⟨p, List.mem_cons_of_mem _ hp, e⟩
  · intro p hp
    rcases List.mem_cons.1 hp with rfl | hp
    · exact ⟨by rw [addBit_get]; simp, o, ho, hl⟩
    · obtain ⟨h1, h2⟩ := J.lights p hp
      exact ⟨hbit _ h1, h2⟩
  · intro t v₁ v₁' h1 h1' hfree
    have hd : o.dst ≠ some t := hfree ⟨k, v, b⟩ List.mem_cons_self hnk o ho
    rw [put_get _ _ _ _ hd] at h1
    exact J.rel t v₁ v₁' h1 h1' fun p hp => hfree p (List.mem_cons_of_mem _ hp)
  · intro p hp hn q d hq hd hlt
    rw [put_size] at hlt
    rcases List.mem_cons.1 hp with rfl | hp
    · rw [ho] at hq; cases hq
      rw [hd]
      exact put_self a d v hlt
    · have hkd : o.dst ≠ some d := by
        intro hod
        rcases (okLight_spec hl hod hq).1 with h | h
        · exact hne p hp h
        · exact h hd
      rw [put_get _ _ _ _ hkd]
      exact J.vals p hp hn q d hq hd hlt
  · intro p hp hn c hc
    rcases List.mem_cons.1 hp with rfl | hp
    · obtain ⟨h1, h2⟩ := hb c hc
      exact ⟨h1, fun hg => h2 (J.keep c hg)⟩
    · obtain ⟨h1, h2⟩ := J.born p hp hn c hc
      exact ⟨hF c h1, h2⟩
  · intro p hp q hq hn1 hn2 c hc1 hc2
    rcases List.mem_cons.1 hp with rfl | hp
    · rcases List.mem_cons.1 hq with rfl | hq
      · rfl
      · exact absurd (J.born q hq hn2 c hc2).1 (hb c hc1).2
    · rcases List.mem_cons.1 hq with rfl | hq
      · exact absurd (J.born p hp hn1 c hc1).1 (hb c hc2).2
      · exact J.one p hp q hq hn1 hn2 c hc1 hc2

theorem DJ.closeOne {s s' : DS} (J : DJ ops s.D s.pend s.a G F ρ listed a') {w : World} (i : Inv F ρ s.h w) {k : Nat} (e : Go.Ev.closeOne P ops k s = some s') :
    ∃ F', Inv F' ρ s'.h w ∧ DJ ops s'.D s'.pend s'.a G F' ρ listed a' ∧ { F' with unborn := G } = { F with unborn := G } := by
  unfold Go.Ev.closeOne at e
  split at e
  · cases e; exact ⟨F, i, J, rfl⟩
  · rename_i o ho
    split at e
    · rename_i hc
      simp only [Bool.and_eq_true, Bool.not_eq_true'] at hc
      obtain ⟨⟨hD, hl⟩, _⟩ := hc
      split at e
      · split at e
        · rename_i v hv
          cases e
          exact ⟨F, i, J.ahead ho hD hl v none F (fun _ h => h) (fun c h => by cases h), rfl⟩
        · split at e
          · rename_i v h1 hal
            split at e
            rotate_left
            · exact absurd e (by simp)
            split at e
            rotate_left
            · exact absurd e (by simp)
            rename_i hp
            cases e
            exact ⟨F.ghost s.h.next, i.ghost hp, J.ahead ho hD hl v (some s.h.next) (F.ghost s.h.next) (fun _ h => .inr h)
              (fun c h => by cases h; exact ⟨.inl rfl, fun hu => absurd (i.unb _ hu).2 (Nat.lt_irrefl _)⟩), rfl⟩
          · exact absurd e (by simp)
      · cases e
        exact ⟨F, i, J.ahead ho hD hl undef none F (fun _ h => h) (fun c h => by cases h), rfl⟩
    · cases e; exact ⟨F, i, J, rfl⟩
theorem DJ.closeAll {w : World} : ∀ (l : List Nat) {s s' : DS} {F : Facts}, DJ ops s.D s.pend s.a G F ρ listed a' → Inv F ρ s.h w → Go.Ev.closeAll P ops l s = some s' →
    ∃ F', Inv F' ρ s'.h w ∧ DJ ops s'.D s'.pend s'.a G F' ρ listed a' ∧ { F' with unborn := G } = { F with unborn := G } := by
  intro l
  induction l with
  | nil => intro s s' F J i e; cases e; exact ⟨F, i, J, rfl⟩
  | cons k l ih =>
    intro s s' F J i e
    simp only [Go.Ev.closeAll] at e
    split at e
    · rename_i s1 h1
      obtain ⟨F1, i1, J1, e1⟩ := J.closeOne i h1
      obtain ⟨F2, i2, J2, e2⟩ := ih J1 i1 e
      exact ⟨F2, i2, J2, e2.trans e1⟩
    · exact absurd e (by simp)

omit [Globs] in
theorem DJ.heavy (J : DJ ops D pend a G F ρ listed a') {j : Nat} {o : Oper} (ho : ops[j]? = some o) (hr : ∀ e ∈ o.after, Region.binds .any e = true → on listed e.on) (hD : D.testBit j = false)
    {σ : Emb} (hle : ρ.le σ) {v v' : Value} (hv : VRel σ v v') : DJ ops (addBit D j) (leftOver ops j pend) (a.put o.dst v) G F σ (listed.setIfInBounds j true) (a'.put o.dst v') := by
  have hlt : j < listed.size := by rw [J.size]; exact (Array.getElem?_eq_some_iff.1 ho).1
  have hon := on_set hlt
  have hbit : ∀ i, D.testBit i = true → (addBit D j).testBit i = true := fun i h => by rw [addBit_get, h]; simp
  have hsub : ∀ p ∈ leftOver ops j pend, p ∈ pend := fun p hp => (List.mem_filter.1 hp).1
  have hanc := ancs_on J.down ho hr
  have hback : ∀ i, ¬ on (listed.setIfInBounds j true) i → ¬ on listed i := fun i h h' => h ((hon i).2 (.inr h'))
  refine ⟨by simp [J.size], ?_, ?_, ?_, ?_, by rw [put_size, put_size]; exact J.sizes, by rw [put_defers, put_defers]; exact J.defs.mono fun _ _ h => DfRel.mono hle h, ?_, ?_, ?_, ?_, J.keep⟩
  · intro i hi
    rcases (hon i).1 hi with rfl | hi
    · rw [addBit_get]; simp
    · exact hbit i (J.sub i hi)
  · intro i q e hi hq he hb
    rw [hon]
    rcases (hon i).1 hi with rfl | hi
    · rw [ho] at hq; cases hq; exact .inr (hr e he hb)
    · exact .inr (J.down i q e hi hq he hb)
  · intro i hi hlt2 hn
    rw [addBit_get, Bool.or_eq_true, decide_eq_true_eq] at hi
    have hij : i ≠ j := fun h => hn ((hon i).2 (.inl h))
    rcases hi with rfl | hi
    · exact absurd rfl hij
    · obtain ⟨p, hp, e⟩ := J.pending i hi hlt2 (hback i hn)
      refine ⟨p, List.mem_filter.2 ⟨hp, ?_⟩, e⟩
      cases hb : (ancs ops j).testBit p.i with
      | false => rfl
      | true => exact absurd (hanc _ hb) (by rw [e]; exact hback i hn)
  · intro p hp
    obtain ⟨h1, h2⟩ := J.lights p (hsub p hp)
    exact ⟨hbit _ h1, h2⟩
  · intro t v₁ v₁' h1 h1' hfree
    by_cases hd : o.dst = some t
    · rw [hd] at h1 h1'
      have ht : t < a.tmps.size := by rw [← put_size a (some t) v]; exact (Array.getElem?_eq_some_iff.1 h1).1
      rw [put_self a t v ht] at h1
      rw [put_self a' t v' (by rw [← J.sizes]; exact ht)] at h1'
      cases h1; cases h1'
      exact hv
    · rw [put_get _ _ _ _ hd] at h1 h1'
      refine (J.rel t v₁ v₁' h1 h1' fun p hp hn q hq hdq => ?_).mono hle
      by_cases hpl : p ∈ leftOver ops j pend
      · have hpj : p.i ≠ j := fun h => by have := (J.lights p hp).1; rw [h, hD] at this; exact absurd this (by simp)
        exact hfree p hpl (fun h => by rcases (hon p.i).1 h with h | h; exact hpj h; exact hn h) q hq hdq
      · have : (ancs ops j).testBit p.i = true := by
          cases hb : (ancs ops j).testBit p.i with
          | true => rfl
          | false => exact absurd (List.mem_filter.2 ⟨hp, by simp [hb]⟩) hpl
        exact hn (hanc _ this)
  · intro p hp hn q d hq hd hlt2
    rw [put_size] at hlt2
    have hp' := hsub p hp
    obtain ⟨hbp, q', hq', hl⟩ := J.lights p hp'
    rw [hq] at hq'; cases hq'
    have hjd : o.dst ≠ some d := by
      rcases (okLight_spec hl hd ho).1 with h | h
      · exact absurd hbp (by rw [← h, hD]; simp)
      · exact h
    rw [put_get _ _ _ _ hjd]
    exact J.vals p hp' (hback _ hn) q d hq hd hlt2
  · intro p hp hn
    exact J.born p (hsub p hp) (hback _ hn)
  · intro p hp q hq hn1 hn2
    exact J.one p (hsub p hp) q (hsub q hq) (hback _ hn1) (hback _ hn2)

def unl (listed : Array Bool) : Nat := listed.toList.countP fun b => !b
omit [Globs] in
omit [Holes] in
theorem unl_set {listed : Array Bool} {i : Nat} (hi : i < listed.size) (hn : ¬ on listed i) : unl (listed.setIfInBounds i true) + 1 = unl listed := by
  unfold unl
  rw [Array.toList_setIfInBounds, List.countP_set (by simpa using hi)]
  have hf : listed[i] = false := by
    unfold on at hn
    rw [Array.getD_eq_getD_getElem?, Array.getElem?_eq_getElem hi] at hn
    simpa using hn
  have hpos : 0 < listed.toList.countP fun b => !b := List.countP_pos_iff.2 ⟨false, by rw [← hf]; simp, rfl⟩
  have h1 : (if (!listed.toList[i]'(by simpa using hi)) = true then 1 else 0) = 1 := by rw [if_pos]; simp [hf]
  rw [h1, if_neg (by simp)]
  omega
omit [Globs] in
omit [Holes] in
theorem unl_zero {listed : Array Bool} (h : unl listed = 0) {i : Nat} (hi : i < listed.size) : on listed i := by
  unfold unl at h
  rw [List.countP_eq_zero] at h
  have := h listed[i] (by simp)
  unfold on
  rw [Array.getD_eq_getD_getElem?, Array.getElem?_eq_getElem hi]
  simpa using this

theorem stage {fx : Fence} (hfn : ∀ f, fx.fn f) {Q : Exit → Act → World → Prop} {h : Heap} {F₀ : Facts} {ρ₀ : Emb} (ht : topo ops = true) (hrec : ∀ p ∈ pend, recheckOne P ops a h p = true)
    (hfin : cand ops D = [] → ∀ σ w b, ρ₀.le σ → Inv { F₀ with unborn := G } σ h w → ActRel σ a b → All2 (DfRel σ) a.defers b.defers → Q .normal b w)
    (hhv : ∀ j, j ∈ cand ops D → ∀ F ρ listed b w fuel o, ρ₀.le ρ → Inv F ρ h w → { F with unborn := G } = { F₀ with unborn := G } → DJ ops D pend a G F ρ listed b → ops[j]? = some o →
      (∀ e ∈ o.after, Region.binds .any e = true → on listed e.on) → D.testBit j = false → ¬ on listed j → unl listed ≤ fuel + 1 →
      wpOpIn fx 0 P ops Q j (wpAnyIn fx 0 P .any ops Q fuel (listed.setIfInBounds j true)) b w) :
    ∀ fuel F ρ listed b w, ρ₀.le ρ → Inv F ρ h w → { F with unborn := G } = { F₀ with unborn := G } → DJ ops D pend a G F ρ listed b → unl listed ≤ fuel → wpAnyIn fx 0 P .any ops Q fuel listed b w := by
  have hend : ∀ F ρ listed b w, ρ₀.le ρ → Inv F ρ h w → { F with unborn := G } = { F₀ with unborn := G } → DJ ops D pend a G F ρ listed b → Region.ready .any ops listed = [] → Q .normal b w := by
    intro F ρ listed b w hle i hF J hr
    have hall := all_on J.size ht hr
    refine hfin ?_ ρ w b hle ?_ ⟨J.sizes, fun t v v' hv hv' => J.rel t v v' hv hv' fun p hp hn o ho _ => hn (hall _ (Array.getElem?_eq_some_iff.1 ho).1)⟩ J.defs
    · cases hc : cand ops D with
      | nil => rfl
      | cons k l =>
        have hk : k ∈ cand ops D := by rw [hc]; exact List.mem_cons_self
        unfold cand at hk
        rw [List.mem_filter] at hk
        have := J.sub k (hall k (List.mem_range.1 hk.1))
        rw [this] at hk
        exact absurd hk.2 (by simp)
    · rw [← hF]
      exact i.forget J.keep
  intro fuel
  induction fuel with
  | zero =>
    intro F ρ listed b w hle i hF J hu
    have hr : Region.ready .any ops listed = [] := by
      cases hc : Region.ready .any ops listed with
      | nil => rfl
      | cons k l =>
        obtain ⟨h1, h2, _⟩ := ready_spec J.size (i := k) (by rw [hc]; exact List.mem_cons_self)
        exact absurd (unl_zero (by omega) (by rw [J.size]; exact h1)) h2
    exact ⟨hr, hend F ρ listed b w hle i hF J hr⟩
  | succ fuel ih =>
    intro F ρ listed b w hle i hF J hu
    refine ⟨hend F ρ listed b w hle i hF J, fun k hk => ?_⟩
    obtain ⟨hk1, hk2, o, ho, hr⟩ := ready_spec J.size hk
    cases hDk : D.testBit k with
    | false =>
      refine hhv k ?_ F ρ listed b w fuel o hle i hF J ho hr hDk hk2 hu
      unfold cand
      rw [List.mem_filter]
      refine ⟨List.mem_range.2 hk1, ?_⟩
      rw [hDk, ho]
      simp only [Bool.not_false, Bool.true_and]
      exact afterOk_of fun e he hb => J.sub _ (hr e he hb)
    | true =>
      obtain ⟨p, hp, rfl⟩ := J.pending k hDk hk1 hk2
      obtain ⟨F', σ, v', w', hrun, hle', i', hF', J'⟩ := J.light i hp hk2 (hrec p hp) ho hr
      have hu' : unl (listed.setIfInBounds p.i true) ≤ fuel := by
        have := unl_set (by rw [J.size]; exact hk1) hk2
        omega
      have hnext := ih F' σ (listed.setIfInBounds p.i true) (b.put o.dst v') w' (Emb.le_trans hle hle') i' (hF'.trans hF) J' hu'
      unfold wpOpIn
      rw [ho]
      simp only
      by_cases hw : Region.wanted o (yielded ops b.tmps) = true
      · rw [if_pos hw] at hrun ⊢
        refine ⟨fun f _ => hfn f, ?_⟩
        rw [Oper.semAt_plain _ _ _ hrun.2, hrun.1]
        exact hnext
      · rw [if_neg hw] at hrun ⊢
        obtain ⟨rfl, rfl⟩ := hrun
        exact ⟨fun f _ => hfn f, hnext⟩

omit [Globs] in
omit [Holes] in
theorem not_on_start (n i : Nat) : ¬ on (Array.replicate n false) i := by
  unfold on
  rw [Array.getD_eq_getD_getElem?, Array.getElem?_replicate]
  split <;> simp
omit [Globs] in
theorem DJ.start (hr : ActRel ρ a a') (hd : All2 (DfRel ρ) a.defers a'.defers) : DJ ops 0 [] a F.unborn F ρ (Array.replicate ops.size false) a' := by
  refine ⟨by simp, fun i h => absurd h (not_on_start _ _), fun i o e h => absurd h (not_on_start _ _), fun i h => by simp at h, fun p hp => absurd hp (by simp), hr.1, hd, fun t v v' h h' _ => hr.2 t v v' h h',
    fun p hp => absurd hp (by simp), fun p hp => absurd hp (by simp), fun p hp => absurd hp (by simp), fun _ h => h⟩
omit [Globs] in
omit [Holes] in
theorem unl_start (n : Nat) : unl (Array.replicate n false) = n := by
  unfold unl
  rw [Array.toList_replicate, List.countP_replicate]
  simp
end
end Go.Ev
