/- The concrete evaluator, part I: what an operation gives: values (light), one new row (alloc). -/
import Derived.Test.YtakhkpgkbbcnhaaGreatDoorEvH
import Derived.Test.YtakhkpgkbbcnhaaGreatDoorEvQ
namespace Go.Ev
open Go
variable [Globs] [Holes]

def okOp : Operand → Bool
  | .tmp _ => true
  | .const v => flat 3 v
  | .global g => Nat.blt g Globs.n
  | .func _ => true

def ActRel (ρ : Emb) (a a' : Act) : Prop := VsRel ρ a.tmps a'.tmps

theorem eval_rel {ρ : Emb} (gl : GlobR ρ) {a a' : Act} (h : ActRel ρ a a') {x : Operand} (hx : okOp x = true) : VRel ρ (a.eval x) (a'.eval x) := by
  cases x with
  | tmp t => exact VsRel.getD h t
  | const v => exact rel_of_flat 3 v hx
  | global g =>
    obtain ⟨L, h1, h2, h3⟩ := gl g (Nat.lt_of_lt_of_le (Nat.lt_succ_self g) (Nat.le_of_ble_eq_true hx))
    have := VRel.ptr (ρ := ρ) (b := g) (o := 0) h1
    rw [h2, h3] at this
    exact this
  | func f => exact .func (by simp [FnRel]) rfl (by simp) rfl (by simp)

omit [Globs] in
theorem put_rel {ρ : Emb} {a a' : Act} (h : ActRel ρ a a') {v v' : Value} (hv : VRel ρ v v') (d : Option Tmp) : ActRel ρ (a.put d v) (a'.put d v') := by
  cases d with
  | none => exact h
  | some t => exact VsRel.set h hv t

def fixedFn : Fn → Bool
  | .yield _ => false
  | _ => true
omit [Globs] in
omit [Holes] in
theorem fnRel_fixed {ρ : Emb} {f : Fn} (h : fixedFn f = true) : FnRel ρ f f := by cases f <;> first | rfl | simp [fixedFn] at h

theorem map_rel {ρ : Emb} (gl : GlobR ρ) {a a' : Act} (h : ActRel ρ a a') {xs : Array Operand} (hx : xs.toList.all okOp = true) : VsRel ρ (xs.map a.eval) (xs.map a'.eval) := by
  refine ⟨by simp, fun i x y hx' hy' => ?_⟩
  rw [Array.getElem?_map, Option.map_eq_some_iff] at hx' hy'
  obtain ⟨o, ho, rfl⟩ := hx'
  obtain ⟨o', ho', rfl⟩ := hy'
  rw [ho] at ho'
  cases ho'
  refine eval_rel gl h ?_
  rw [List.all_eq_true] at hx
  exact hx _ (List.mem_of_getElem? (by simpa using ho))

theorem parts_rel {ρ : Emb} (gl : GlobR ρ) {a a' : Act} (h : ActRel ρ a a') {ps : Array (Nat × Operand)} (hx : (ps.toList.all fun p => okOp p.2) = true) :
    PsRel ρ (ps.map fun (i, x) => (i, a.eval x)).toList (ps.map fun (i, x) => (i, a'.eval x)).toList := by
  rw [Array.toList_map, Array.toList_map]
  have : ∀ l : List (Nat × Operand), (l.all fun p => okOp p.2) = true → PsRel ρ (l.map fun (i, x) => (i, a.eval x)) (l.map fun (i, x) => (i, a'.eval x)) := by
    intro l
    induction l with
    | nil => intro _; exact .nil
    | cons p l ih =>
      intro hl
      simp only [List.all_cons, Bool.and_eq_true] at hl
      exact .cons ⟨rfl, eval_rel gl h hl.1⟩ (ih hl.2)
  exact this _ hx

theorem opt_rel {ρ : Emb} (gl : GlobR ρ) {a a' : Act} (h : ActRel ρ a a') {x : Option Operand} (hx : x.all okOp = true) : optRel ρ (x.map a.eval) (x.map a'.eval) := by
  cases x with
  | none => trivial
  | some x => exact eval_rel gl h (by simpa using hx)

/-! ### light operations: a value; nothing turns -/
def flatRun (P : Program) (s : Sem Value) : Option Value :=
  match prun P s with
  | some v => if flat 3 v then some v else none
  | none => none

def fst? {α β : Type} : Option (α × β) → Option α
  | some (a, _) => some a
  | none => none

def lMove (ev : Operand → Value) (x : Operand) : Option Value := if okOp x then some (ev x) else none
def lPick (ev : Operand → Value) (c x y : Operand) : Option Value := if okOp c && okOp x && okOp y then (match ev c with
    | .bool b => some (if b then ev x else ev y)
    | _ => none) else none
def lLoad (P : Program) (ev : Operand → Value) (t : TypeId) (x : Operand) (h : Heap) : Option Value := if okOp x then fst? (arun P (Instr.loadAt t (ev x)) h) else none
def lFieldAddr (P : Program) (ev : Operand → Value) (s : TypeId) (x : Operand) (f : Nat) (h : Heap) : Option Value := if okOp x && fieldFull P s f then fst? (arun P (Instr.fieldAt s (ev x) f) h) else none
def lField (P : Program) (ev : Operand → Value) (t : TypeId) (x : Operand) (f : Nat) (h : Heap) : Option Value := if okOp x then fst? (arun P (Instr.field t (ev x) f) h) else none
def lIndexAddr (P : Program) (ev : Operand → Value) (t : TypeId) (x y : Operand) (h : Heap) : Option Value := if okOp x && okOp y then fst? (arun P (Instr.indexAt t (ev x) (ev y)) h) else none
def lIndex (P : Program) (ev : Operand → Value) (t : TypeId) (x y : Operand) (h : Heap) : Option Value := if okOp x && okOp y then fst? (arun P (Instr.index t (ev x) (ev y)) h) else none
def lExtract (P : Program) (ev : Operand → Value) (x : Operand) (i : Nat) (h : Heap) : Option Value := if okOp x then fst? (arun P (Instr.extract (ev x) i) h) else none
def lIface (P : Program) (ev : Operand → Value) (t : TypeId) (x : Operand) (h : Heap) : Option Value := if okOp x then fst? (arun P (Instr.makeInterface t (ev x)) h) else none
def lBuild (P : Program) (ev : Operand → Value) (t : TypeId) (ps : Array (Nat × Operand)) (h : Heap) : Option Value :=
  if (ps.toList.all fun p => okOp p.2) && zeroFlat P t then fst? (arun P (Instr.build t (ps.map fun (i, x) => (i, ev x))) h) else none
def lFunc (ev : Operand → Value) (fn : Fn) (xs ys : Array Operand) : Option Value := if fixedFn fn && xs.toList.all okOp && ys.toList.all okOp then some (.func fn (xs.map ev) (ys.map ev)) else none
def lNil (ev : Operand → Value) (x : Operand) : Option Value := if okOp x then (match ev x with
    | .pointer (some a) => some (.pointer (some a))
    | .func (.func g) xs ys => some (.func (.func g) xs ys)
    | .iface t v => some (.iface t v)
    | _ => none) else none
def lUn (P : Program) (ev : Operand → Value) (op : UnOp) (x : Operand) : Option Value := if okOp x && flat 3 (ev x) then flatRun P (Op.unary op (ev x)) else none
def lEq (P : Program) (op : BinOp) (t : TypeId) (x y : Value) : Option Value := match P.underlying t with
        | none => none
        | some d => match op with
          | .eql => (eqNil d x y).map Value.bool
          | .neq => (eqNil d x y).map fun b => Value.bool (!b)
          | _ => none
def lBin (P : Program) (ev : Operand → Value) (op : BinOp) (t : TypeId) (x y : Operand) : Option Value :=
    if okOp x && okOp y then
      if flat 3 (ev x) && flat 3 (ev y) then flatRun P (do eqGuard op t x y (ev x) (ev y); binOp op t (ev x) (ev y))
      else lEq P op t (ev x) (ev y)
    else none
def lConv (P : Program) (ev : Operand → Value) (src dst : TypeId) (x : Operand) (h : Heap) : Option Value :=
    if okOp x then
      if flat 3 (ev x) then flatRun P (convert src dst (ev x))
      else match P.underlying src, P.underlying dst with
        | some (.slice e), some .string => match P.underlying e with
          | some (.int .u8) => astr h (ev x)
          | _ => none
        | _, _ => none
    else none
def lSlice (P : Program) (ev : Operand → Value) (t : TypeId) (x : Operand) (lo hi mx : Option Operand) (h : Heap) : Option Value :=
    if okOp x && lo.all okOp && hi.all okOp && mx.all okOp then
      match P.underlying t with
      | some .string => match ev x, natOpt (lo.map ev), natOpt (hi.map ev), mx with
        | .string s, some l, some hh, none => if l.getD 0 ≤ hh.getD s.size ∧ hh.getD s.size ≤ s.size then some (.string (s.extract (l.getD 0) (hh.getD s.size))) else none
        | _, _, _, _ => none
      | some (.slice _) => fst? (aslice P t (ev x) (lo.map ev) (hi.map ev) (mx.map ev) h)
      | _ => none
    else none
def lLen (P : Program) (ev : Operand → Value) (args : Array Operand) (argTypes : Array TypeId) (h : Heap) : Option Value := match args.toList, argTypes.toList with
    | [x], [t] => if okOp x then alen P t (ev x) h else none
    | _, _ => none
def lCap (P : Program) (ev : Operand → Value) (args : Array Operand) (argTypes : Array TypeId) (h : Heap) : Option Value := match args.toList, argTypes.toList with
    | [x], [t] => if okOp x then acap P t (ev x) h else none
    | _, _ => none
def lMin (P : Program) (ev : Operand → Value) (args : Array Operand) (argTypes : Array TypeId) (ty : TypeId) : Option Value := if args.toList.all okOp && (args.map ev).toList.all (flat 3) then flatRun P (Builtin.min_ argTypes ty (args.map ev)) else none
def lMax (P : Program) (ev : Operand → Value) (args : Array Operand) (argTypes : Array TypeId) (ty : TypeId) : Option Value := if args.toList.all okOp && (args.map ev).toList.all (flat 3) then flatRun P (Builtin.max_ argTypes ty (args.map ev)) else none

def alight (P : Program) (ev : Operand → Value) (o : Oper) (h : Heap) : Option Value :=
  match o.op with
  | .move x => lMove ev x
  | .assign x => lMove ev x
  | .pick c x y => lPick ev c x y
  | .load t x => lLoad P ev t x h
  | .fieldAddr s x f => lFieldAddr P ev s x f h
  | .field t x f => lField P ev t x f h
  | .indexAddr t x y => lIndexAddr P ev t x y h
  | .index t x y => lIndex P ev t x y h
  | .extract x i => lExtract P ev x i h
  | .makeInterface t x => lIface P ev t x h
  | .build t ps => lBuild P ev t ps h
  | .makeFunc fn xs ys => lFunc ev fn xs ys
  | .nilCheck x => lNil ev x
  | .unOp op _ x => lUn P ev op x
  | .binOp op t x y _ => lBin P ev op t x y
  | .convert src dst x => lConv P ev src dst x h
  | .slice t x lo hi mx => lSlice P ev t x lo hi mx h
  | .call c => match c.callee with
    | .builtin .len => lLen P ev c.args c.argTypes h
    | .builtin .cap => lCap P ev c.args c.argTypes h
    | .builtin .min => lMin P ev c.args c.argTypes o.type
    | .builtin .max => lMax P ev c.args c.argTypes o.type
    | _ => none
  | _ => none

section
variable {P : Program} {ρ : Emb} {F : Facts} {h : Heap} {w : World}

omit [Globs] in
theorem flatRun_sound {s : Sem Value} {v : Value} (e : flatRun P s = some v) (w : World) : s.run P w = .ok v w ∧ VRel ρ v v := by
  unfold flatRun at e
  split at e
  · rename_i v' hp
    split at e
    · rename_i hf
      simp only [Option.some.injEq] at e
      subst e
      exact ⟨prun_run P s _ hp w, rel_of_flat 3 _ hf⟩
    · exact absurd e (by simp)
  · exact absurd e (by simp)

omit [Globs] in
omit [Holes] in
theorem fst_some {α β : Type} {x : Option (α × β)} {a : α} (e : fst? x = some a) : ∃ b, x = some (a, b) := by
  cases x with
  | none => simp [fst?] at e
  | some p => obtain ⟨a', b⟩ := p; simp only [fst?, Option.some.injEq] at e; subst e; exact ⟨b, rfl⟩

omit [Globs] in
theorem flats_eq {xs ys : Array Value} (hr : VsRel ρ xs ys) (hf : xs.toList.all (flat 3) = true) : ys = xs := by
  refine Array.ext hr.1.symm fun i hi hi' => ?_
  refine eq_of_flat 3 _ _ ?_ (hr.2 i _ _ (Array.getElem?_eq_getElem hi') (Array.getElem?_eq_getElem hi))
  rw [List.all_eq_true] at hf
  exact hf _ (by simp)

theorem simq_out {s s' : Sem Value} (i : Inv F ρ h w) (hs : SimQ P VRel ρ s s') {v : Value} (e : fst? (arun P s h) = some v) : ∃ v', s'.run P w = .ok v' w ∧ VRel ρ v v' := by
  obtain ⟨h₁, e'⟩ := fst_some e
  obtain ⟨b, hr, _, hR⟩ := hs F h w v h₁ i e'
  exact ⟨b, hr, hR⟩

omit [Globs] in
omit [Holes] in
theorem execV {o : Oper} {ev : Operand → Value} {s : Sem Value} (he : execOp ev o = (do pure (.value (← s)))) {v : Value} (hr : s.run P w = .ok v w) : (execOp ev o).run P w = .ok (.value v) w := by
  rw [he]
  simp [hr]

omit [Globs] in
omit [Holes] in
theorem run_sliceAt_str {t : TypeId} (hu : P.underlying t = some .string) (s : ByteArray) {lo hi : Option Value} {l hh : Option Nat} (hl : (lo = none ∧ l = none) ∨ ∃ (k : IntKind) (i : Nat), lo = some (.int k i) ∧ l = some i)
    (hr : (hi = none ∧ hh = none) ∨ ∃ (k : IntKind) (i : Nat), hi = some (.int k i) ∧ hh = some i) (h1 : l.getD 0 ≤ hh.getD s.size) (h2 : hh.getD s.size ≤ s.size) :
    (Instr.sliceAt t (.string s) lo hi none).run P w = .ok (.string (s.extract (l.getD 0) (hh.getD s.size))) w := by
  rcases hl with ⟨rfl, rfl⟩ | ⟨kl, il, rfl, rfl⟩ <;> rcases hr with ⟨rfl, rfl⟩ | ⟨kh, ih, rfl, rfl⟩ <;>
    simp at h1 h2 <;> simp [Instr.sliceAt, Instr.slice, run_underlying hu, Instr.sliceBounds, run_sliceBound, h1, h2]

set_option maxHeartbeats 1000000 in
theorem alight_sound {a a' : Act} (hr : ActRel ρ a a') (i : Inv F ρ h w) {o : Oper} {v : Value} (e : alight P a.eval o h = some v) :
    ∃ v', (execOp a'.eval o).run P w = .ok (.value v') w ∧ VRel ρ v v' := by
  obtain ⟨dst, op, ty, pos, after, guard⟩ := o
  cases op with
  | move x =>
    simp only [alight, lMove] at e
    split at e
    · rename_i hx
      simp only [Option.some.injEq] at e
      subst e
      exact ⟨_, rfl, eval_rel i.glob hr hx⟩
    · exact absurd e (by simp)
  | assign x =>
    simp only [alight, lMove] at e
    split at e
    · rename_i hx
      simp only [Option.some.injEq] at e
      subst e
      exact ⟨_, rfl, eval_rel i.glob hr hx⟩
    · exact absurd e (by simp)
  | pick c x y =>
    simp only [alight, lPick] at e
    split at e
    · rename_i hx
      simp only [Bool.and_eq_true] at hx
      split at e
      · rename_i b hb
        simp only [Option.some.injEq] at e
        subst e
        have hc := eval_rel i.glob hr hx.1.1
        rw [hb] at hc
        generalize hc' : a'.eval c = c' at hc
        cases hc
        refine ⟨if b then a'.eval x else a'.eval y, ?_, ?_⟩
        · simp [execOp, hc', asBool]
        · cases b
          · exact eval_rel i.glob hr hx.2
          · exact eval_rel i.glob hr hx.1.2
      · exact absurd e (by simp)
    · exact absurd e (by simp)
  | load t x =>
    simp only [alight, lLoad] at e
    split at e
    · rename_i hx
      obtain ⟨v', hv', hR⟩ := simq_out i (simq_loadAt _ (eval_rel i.glob hr hx)) e
      exact ⟨v', execV rfl hv', hR⟩
    · exact absurd e (by simp)
  | fieldAddr s x f =>
    simp only [alight, lFieldAddr] at e
    split at e
    · rename_i hx
      simp only [Bool.and_eq_true] at hx
      obtain ⟨v', hv', hR⟩ := simq_out i (simq_fieldAt _ _ hx.2 (eval_rel i.glob hr hx.1)) e
      exact ⟨v', execV rfl hv', hR⟩
    · exact absurd e (by simp)
  | field t x f =>
    simp only [alight, lField] at e
    split at e
    · rename_i hx
      obtain ⟨v', hv', hR⟩ := simq_out i (simq_field _ (eval_rel i.glob hr hx) _) e
      exact ⟨v', execV rfl hv', hR⟩
    · exact absurd e (by simp)
  | indexAddr t x y =>
    simp only [alight, lIndexAddr] at e
    split at e
    · rename_i hx
      simp only [Bool.and_eq_true] at hx
      obtain ⟨v', hv', hR⟩ := simq_out i (simq_indexAt _ (eval_rel i.glob hr hx.1) (eval_rel i.glob hr hx.2)) e
      exact ⟨v', execV rfl hv', hR⟩
    · exact absurd e (by simp)
  | index t x y =>
    simp only [alight, lIndex] at e
    split at e
    · rename_i hx
      simp only [Bool.and_eq_true] at hx
      obtain ⟨v', hv', hR⟩ := simq_out i (simq_index _ (eval_rel i.glob hr hx.1) (eval_rel i.glob hr hx.2)) e
      exact ⟨v', execV rfl hv', hR⟩
    · exact absurd e (by simp)
  | extract x ix =>
    simp only [alight, lExtract] at e
    split at e
    · rename_i hx
      obtain ⟨v', hv', hR⟩ := simq_out i (simq_extract (eval_rel i.glob hr hx) _) e
      exact ⟨v', execV rfl hv', hR⟩
    · exact absurd e (by simp)
  | makeInterface t x =>
    simp only [alight, lIface] at e
    split at e
    · rename_i hx
      obtain ⟨v', hv', hR⟩ := simq_out i (simq_makeInterface _ (eval_rel i.glob hr hx)) e
      exact ⟨v', execV rfl hv', hR⟩
    · exact absurd e (by simp)
  | build t ps =>
    simp only [alight, lBuild] at e
    split at e
    · rename_i hx
      simp only [Bool.and_eq_true] at hx
      obtain ⟨v', hv', hR⟩ := simq_out i (simq_build _ hx.2 (parts_rel i.glob hr hx.1)) e
      exact ⟨v', execV rfl hv', hR⟩
    · exact absurd e (by simp)
  | makeFunc fn xs ys =>
    simp only [alight, lFunc] at e
    split at e
    · rename_i hx
      simp only [Bool.and_eq_true] at hx
      simp only [Option.some.injEq] at e
      subst e
      have h1 := map_rel i.glob hr hx.1.2
      have h2 := map_rel i.glob hr hx.2
      exact ⟨_, rfl, .func (fnRel_fixed hx.1.1) h1.1 h1.2 h2.1 h2.2⟩
    · exact absurd e (by simp)
  | nilCheck x =>
    simp only [alight, lNil] at e
    split at e
    · rename_i hx
      have hv := eval_rel i.glob hr hx
      split at e
      · rename_i b hb
        simp only [Option.some.injEq] at e
        subst e
        rw [hb] at hv
        generalize hc' : a'.eval x = c' at hv
        refine ⟨c', ?_, hv⟩
        cases hv
        simp [execOp, hc']
      · rename_i g xs ys hb
        simp only [Option.some.injEq] at e
        subst e
        rw [hb] at hv
        generalize hc' : a'.eval x = c' at hv
        refine ⟨c', ?_, hv⟩
        cases hv with
        | @func f g' _ _ _ _ hf _ _ _ _ =>
          cases g' <;> simp [FnRel] at hf
          simp [execOp, hc']
      · rename_i t u hb
        simp only [Option.some.injEq] at e
        subst e
        rw [hb] at hv
        generalize hc' : a'.eval x = c' at hv
        refine ⟨c', ?_, hv⟩
        cases hv
        simp [execOp, hc']
      · exact absurd e (by simp)
    · exact absurd e (by simp)
  | unOp op t x =>
    simp only [alight, lUn] at e
    split at e
    · rename_i hx
      simp only [Bool.and_eq_true] at hx
      have := eq_of_flat 3 _ _ hx.2 (eval_rel i.glob hr hx.1)
      obtain ⟨hrun, hR⟩ := flatRun_sound (ρ := ρ) e w
      refine ⟨v, execV (s := Op.unary _ _) rfl ?_, hR⟩
      rw [this]; exact hrun
    · exact absurd e (by simp)
  | binOp op t x y yt =>
    simp only [alight, lBin, lEq] at e
    split at e
    · rename_i hx
      simp only [Bool.and_eq_true] at hx
      split at e
      · rename_i hf
        simp only [Bool.and_eq_true] at hf
        have e1 := eq_of_flat 3 _ _ hf.1 (eval_rel i.glob hr hx.1)
        have e2 := eq_of_flat 3 _ _ hf.2 (eval_rel i.glob hr hx.2)
        obtain ⟨hrun, hR⟩ := flatRun_sound (ρ := ρ) e w
        refine ⟨v, execV (s := do eqGuard op t x y (a'.eval x) (a'.eval y); binOp op t (a'.eval x) (a'.eval y)) rfl ?_, hR⟩
        rw [e1, e2]; exact hrun
      · split at e
        · exact absurd e (by simp)
        · rename_i d hd
          split at e
          · rw [Option.map_eq_some_iff] at e
            obtain ⟨b, hb, rfl⟩ := e
            have hb' := eqNil_rel (eval_rel i.glob hr hx.1) (eval_rel i.glob hr hx.2) hb
            refine ⟨_, execV (s := do eqGuard .eql t x y (a'.eval x) (a'.eval y); binOp .eql t (a'.eval x) (a'.eval y)) rfl ?_, .bool b⟩
            simp only [Sem.run_bind, eqNil_guard hb', Result.andThen_ok]
            exact (eqNil_binOp hd hb' w).1
          · rw [Option.map_eq_some_iff] at e
            obtain ⟨b, hb, rfl⟩ := e
            have hb' := eqNil_rel (eval_rel i.glob hr hx.1) (eval_rel i.glob hr hx.2) hb
            refine ⟨_, execV (s := do eqGuard .neq t x y (a'.eval x) (a'.eval y); binOp .neq t (a'.eval x) (a'.eval y)) rfl ?_, .bool (!b)⟩
            simp only [Sem.run_bind, eqNil_guard hb', Result.andThen_ok]
            exact (eqNil_binOp hd hb' w).2
          · exact absurd e (by simp)
    · exact absurd e (by simp)
  | convert src dst x =>
    simp only [alight, lConv] at e
    split at e
    · rename_i hx
      split at e
      · rename_i hf
        have e1 := eq_of_flat 3 _ _ hf (eval_rel i.glob hr hx)
        obtain ⟨hrun, hR⟩ := flatRun_sound (ρ := ρ) e w
        refine ⟨v, execV (s := convert src dst (a'.eval x)) rfl ?_, hR⟩
        rw [e1]; exact hrun
      · split at e
        · rename_i el hs hd
          split at e
          · rename_i he
            obtain ⟨hrun, hR⟩ := astr_sound hs he hd (eval_rel i.glob hr hx) i e
            exact ⟨v, execV (s := convert src dst (a'.eval x)) rfl hrun, hR⟩
          · exact absurd e (by simp)
        · exact absurd e (by simp)
    · exact absurd e (by simp)
  | slice t x lo hi mx =>
    simp only [alight, lSlice] at e
    split at e
    · rename_i hx
      simp only [Bool.and_eq_true] at hx
      obtain ⟨⟨⟨hx0, hlo⟩, hhi⟩, hmx⟩ := hx
      split at e
      · rename_i hu
        split at e
        · rename_i s l hh hs el eh
          split at e
          · rename_i hc
            simp only [Option.some.injEq] at e
            subst e
            have hv := eval_rel i.glob hr hx0
            rw [hs] at hv
            generalize hc' : a'.eval x = c' at hv
            cases hv
            refine ⟨_, execV (s := Instr.sliceAt t (a'.eval x) (lo.map a'.eval) (hi.map a'.eval) none) rfl ?_, .string _⟩
            rw [hc']
            exact run_sliceAt_str hu s (natOpt_rel (opt_rel i.glob hr hlo) el) (natOpt_rel (opt_rel i.glob hr hhi) eh) hc.1 hc.2
          · exact absurd e (by simp)
        · exact absurd e (by simp)
      · obtain ⟨h₁, e'⟩ := fst_some e
        obtain ⟨b, hb, hR⟩ := aslice_sound (eval_rel i.glob hr hx0) (opt_rel i.glob hr hlo) (opt_rel i.glob hr hhi) (opt_rel i.glob hr hmx) F h w v h₁ i e'
        exact ⟨b, execV (s := Instr.sliceAt t (a'.eval x) (lo.map a'.eval) (hi.map a'.eval) (mx.map a'.eval)) rfl hb, hR⟩
      · exact absurd e (by simp)
    · exact absurd e (by simp)
  | call c =>
    obtain ⟨callee, args, ats⟩ := c
    cases callee with
    | value f => simp [alight] at e
    | invoke r n => simp [alight] at e
    | builtin bi =>
      cases bi <;> first
        | (simp [alight] at e; done)
        | skip
      · simp only [alight, lCap] at e
        split at e
        · rename_i x t ha hat
          split at e
          · rename_i hx
            obtain ⟨hrun, hR⟩ := acap_sound (ty := ty) (eval_rel i.glob hr hx) i e
            have e1 : args = #[x] := by rw [← Array.toList_inj]; exact ha
            have e2 : ats = #[t] := by rw [← Array.toList_inj]; exact hat
            subst e1; subst e2
            refine ⟨v, ?_, hR⟩
            simp only [execOp, resolve, invoke, builtin, Sem.run_bind, Sem.run_pure, Result.andThen_ok, List.map_toArray, List.map_cons, List.map_nil, hrun]
          · exact absurd e (by simp)
        · exact absurd e (by simp)
      · simp only [alight, lLen] at e
        split at e
        · rename_i x t ha hat
          split at e
          · rename_i hx
            obtain ⟨hrun, hR⟩ := alen_sound (ty := ty) (eval_rel i.glob hr hx) i e
            have e1 : args = #[x] := by rw [← Array.toList_inj]; exact ha
            have e2 : ats = #[t] := by rw [← Array.toList_inj]; exact hat
            subst e1; subst e2
            refine ⟨v, ?_, hR⟩
            simp only [execOp, resolve, invoke, builtin, Sem.run_bind, Sem.run_pure, Result.andThen_ok, List.map_toArray, List.map_cons, List.map_nil, hrun]
          · exact absurd e (by simp)
        · exact absurd e (by simp)
      · simp only [alight, lMax] at e
        split at e
        · rename_i hx
          simp only [Bool.and_eq_true] at hx
          have e1 := flats_eq (map_rel i.glob hr hx.1) hx.2
          obtain ⟨hrun, hR⟩ := flatRun_sound (ρ := ρ) e w
          refine ⟨v, ?_, hR⟩
          simp only [execOp, resolve, invoke, builtin, Sem.run_bind, Sem.run_pure, Result.andThen_ok, e1, hrun]
        · exact absurd e (by simp)
      · simp only [alight, lMin] at e
        split at e
        · rename_i hx
          simp only [Bool.and_eq_true] at hx
          have e1 := flats_eq (map_rel i.glob hr hx.1) hx.2
          obtain ⟨hrun, hR⟩ := flatRun_sound (ρ := ρ) e w
          refine ⟨v, ?_, hR⟩
          simp only [execOp, resolve, invoke, builtin, Sem.run_bind, Sem.run_pure, Result.andThen_ok, e1, hrun]
        · exact absurd e (by simp)
  | _ => simp [alight] at e
end
end Go.Ev
