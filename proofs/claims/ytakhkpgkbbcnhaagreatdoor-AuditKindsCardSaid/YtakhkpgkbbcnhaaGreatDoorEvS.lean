/- The concrete evaluator, part S: code, calls, rounds again, laid for the kernel. -/
import Derived.Test.YtakhkpgkbbcnhaaGreatDoorEvR
namespace Go.Ev
open Go
variable [Globs]

inductive OutR where
  | at_ (e : Exit) (a : RAct) (h : Heap)
  | val (v : Value) (h : Heap)
def OutR.out : OutR → Out
  | .at_ e a h => .at_ e a.act h
  | .val v h => .val v h
inductive CmdR where
  | code (rd : Option Nat) (c : Code) (a : RAct)
  | ops (rd : Option Nat) (ops : Array Oper) (l : List Nat) (a : RAct)
  | draw (rd : Option Nat) (ops : Array Oper) (D : Nat) (pend : List Pd) (a : RAct)
  | call (f : FuncId) (args : List Value)
  | round (l : Nat) (tmps : Array Value) (assign body : Code)
def CmdR.cmd : CmdR → Cmd
  | .code rd c a => .code rd c a.act
  | .ops rd o l a => .ops rd o l a.act
  | .draw rd o D pend a => .draw rd o D pend a.act
  | .call f args => .call f ⟨args⟩
  | .round l tmps as b => .round l tmps as b
abbrev RecR := CmdR → Heap → Option (List OutR)
/-- What the table gives, the plain one gives. -/
def Gives (x : Option (List OutR)) (y : Option (List Out)) : Prop := ∀ os, x = some os → y = some (os.map OutR.out)
def bindL {α : Type} : List α → (α → Option (List OutR)) → Option (List OutR)
  | [], _ => some []
  | o :: r, f => match f o, bindL r f with
    | some x, some y => some (x ++ y)
    | _, _ => none
def bindF2 {α : Type} (os : List α) : α → (α → Option (List OutR)) → Option (List OutR) :=
  match os with
  | [] => fun o f => f o
  | p :: os => fun o f => bindL (o :: p :: os) f
def bindF1 {α : Type} (os : List α) : (α → Option (List OutR)) → Option (List OutR) :=
  match os with
  | [] => fun _ => some []
  | o :: os => fun f => bindF2 os o f
def bindF {α : Type} (x : Option (List α)) : (α → Option (List OutR)) → Option (List OutR) :=
  match x with
  | none => fun _ => none
  | some os => bindF1 os
omit [Globs] in
theorem bindL_gives {α γ : Type} {g : α → γ} {f : α → Option (List OutR)} {f' : γ → Option (List Out)} (hf : ∀ o, Gives (f o) (f' (g o))) : ∀ (l : List α), Gives (bindL l f) (bindO (l.map g) f') := by
  intro l
  induction l with
  | nil => intro os e; obtain rfl := Option.some.inj e; rfl
  | cons o r ih =>
    intro os e
    simp only [bindL] at e
    split at e
    · rename_i x y hx hy
      obtain rfl := Option.some.inj e
      simp only [List.map_cons, bindO, hf o x hx, ih y hy, List.map_append]
    · exact absurd e (by simp)
omit [Globs] in
theorem bindF_gives {α γ : Type} {g : α → γ} {x : Option (List α)} {y : Option (List γ)} {f : α → Option (List OutR)} {f' : γ → Option (List Out)} (hx : ∀ os, x = some os → y = some (os.map g)) (hf : ∀ o, Gives (f o) (f' (g o))) :
    Gives (bindF x f) (bindR y f') := by
  intro os e
  cases x with
  | none => exact absurd e (by simp [bindF])
  | some l =>
    rw [hx l rfl]
    have : bindF (some l) f = bindL l f := by
      cases l with
      | nil => rfl
      | cons o r =>
        cases r with
        | nil =>
          show f o = bindL [o] f
          simp only [bindL]
          cases f o <;> simp
        | cons p r => rfl
    rw [this] at e
    exact bindL_gives hf l os e
omit [Globs] in
theorem gives_same {x : Option (List OutR)} {y y' : Option (List Out)} (h : y = y') (hx : Gives x y) : Gives x y' := h ▸ hx
omit [Globs] in
theorem gives_none {y : Option (List Out)} : Gives none y := fun _ e => absurd e (by simp)
omit [Globs] in
theorem gives_some {l : List OutR} {y : Option (List Out)} (h : y = some (l.map OutR.out)) : Gives (some l) y := fun os e => by obtain rfl := Option.some.inj e; exact h

noncomputable def forceLR {β : Type} (l : List Value) : (List Value → β) → β :=
  List.rec (motive := fun _ => (List Value → β) → β) (fun k => k []) (fun v _ ih k => forceV v fun v => ih fun l => k (v :: l)) l
omit [Globs] in
theorem forceLR_eq {β : Type} (l : List Value) : ∀ k : List Value → β, forceLR l k = k l := by
  induction l with
  | nil => intro k; rfl
  | cons v l ih => intro k; show forceV v (fun v => forceLR l fun l => k (v :: l)) = _; rw [forceV_eq, ih]
noncomputable def forceWR {β : Type} (v : Value) : (Value → β) → β :=
  match v with
  | .agg ⟨l⟩ => fun k => forceLR l fun l => k (.agg ⟨l⟩)
  | .tuple ⟨l⟩ => fun k => forceLR l fun l => k (.tuple ⟨l⟩)
  | .func f ⟨xs⟩ ⟨ys⟩ => fun k => forceLR xs fun xs => forceLR ys fun ys => k (.func f ⟨xs⟩ ⟨ys⟩)
  | v => fun k => forceV v k
omit [Globs] in
theorem forceWR_eq {β : Type} (v : Value) (k : Value → β) : forceWR v k = k v := by
  unfold forceWR
  split <;> simp only [forceLR_eq, forceV_eq]

/-! after a part -/
def afterSeqE (e : Exit) : RAct → Heap → RecR → Option Nat → Code → Option (List OutR) :=
  match e with
  | .normal => fun a h r rd y => r (.code rd y a) h
  | e => fun a h _ _ _ => some [.at_ e a h]
def afterSeqF (o : OutR) : RecR → Option Nat → Code → Option (List OutR) :=
  match o with
  | .at_ e a h => afterSeqE e a h
  | .val _ _ => fun _ _ _ => none
def RecGives (r : RecR) (r' : Rec) : Prop := ∀ c h, Gives (r c h) (r' c.cmd h)
section
variable {r : RecR} {r' : Rec}
omit [Globs] in
theorem afterSeqF_gives (hr : RecGives r r') (o : OutR) (rd : Option Nat) (y : Code) : Gives (afterSeqF o r rd y) (afterSeq r' rd y o.out) := by
  cases o with
  | at_ e a h =>
    cases e with
    | normal => exact hr (.code rd y a) h
    | _ => exact gives_some rfl
  | val v h => exact gives_none
def afterBlockE (e : Exit) : RAct → Heap → Nat → Option (List OutR) :=
  match e with
  | .exit i => fun a h id => cond (Nat.beq i id) (some [.at_ .normal a h]) (some [.at_ (.exit i) a h])
  | e => fun a h _ => some [.at_ e a h]
def afterBlockF (o : OutR) : Nat → Option (List OutR) :=
  match o with
  | .at_ e a h => afterBlockE e a h
  | .val _ _ => fun _ => none
omit [Globs] in
theorem afterBlockF_gives (o : OutR) (id : Nat) : Gives (afterBlockF o id) (afterBlock id o.out) := by
  cases o with
  | at_ e a h =>
    cases e with
    | exit i =>
      show Gives (cond (Nat.beq i id) _ _) (if i = id then _ else _)
      by_cases hi : i = id
      · subst hi
        simp only [Nat.beq_refl, cond_true, if_true]
        exact gives_some rfl
      · rw [if_neg hi, show Nat.beq i id = false from by cases hb : Nat.beq i id with | false => rfl | true => exact absurd (Nat.eq_of_beq_eq_true hb) hi]
        exact gives_some rfl
    | _ => exact gives_some rfl
  | val v h => exact gives_none

def afterScopeE (e : Exit) : RAct → Heap → Option (List OutR) :=
  match e with
  | .goto _ => fun _ _ => none
  | e => fun a h => some [.at_ e a h]
def afterScopeF (o : OutR) : Option (List OutR) :=
  match o with
  | .at_ e a h => afterScopeE e a h
  | .val _ _ => none
omit [Globs] in
theorem afterScopeF_gives (o : OutR) : Gives (afterScopeF o) (afterScope o.out) := by
  cases o with
  | at_ e a h => cases e <;> first | exact gives_none | exact gives_some rfl
  | val v h => exact gives_none

/-! range functions: the plain road -/
noncomputable def afterLoopR (P : Program) (r : RecR) (rd : Option Nat) (l : Nat) (a : RAct) (o : OutR) : Option (List OutR) :=
  match o with
  | .val _ h3 => match arun P (Instr.endLoop l) h3 with
    | none => none
    | some (none, h4) => some [.at_ .normal a h4]
    | some (some c, h4) => r (.code rd c a) h4
  | _ => none
omit [Globs] in
theorem afterLoopR_gives (hr : RecGives r r') (P : Program) (rd : Option Nat) (l : Nat) (a : RAct) (o : OutR) : Gives (afterLoopR P r rd l a o) (afterLoop P r' rd l a.act o.out) := by
  cases o with
  | at_ e a h => exact gives_none
  | val v h =>
    simp only [afterLoopR, afterLoop, OutR.out]
    generalize arun P (Instr.endLoop l) h = x
    match x with
    | none => exact gives_none
    | some (none, h4) => exact gives_some rfl
    | some (some c, h4) => exact hr (.code rd c a) h4
noncomputable def sRangeR (P : Program) (r : RecR) (rd : Option Nat) (f : Operand) (ps : Array Tmp) (as b : Code) (a : RAct) (h : Heap) : Option (List OutR) :=
  if okOp f then (forceLR a.arr.toList fun tmps => match arun P (Instr.enterLoop 0 ⟨tmps⟩ ps as b rd) h with
    | none => none
    | some ((l, mark), h1) => match acallV P ((evF f).run a) #[.func (.yield l) #[] #[]] h1 with
      | some (.enter g args, h2) => bindF (r (.call g args.toList) h2) (afterLoopR P r rd l { a with defers := mark ++ a.defers })
      | _ => none) else none
theorem sRangeR_gives (hr : RecGives r r') (P : Program) (rd : Option Nat) (f : Operand) (ps : Array Tmp) (as b : Code) (a : RAct) (h : Heap) : Gives (sRangeR P r rd f ps as b a h) (sRange P r' rd f ps as b a.act h) := by
  unfold sRangeR sRange
  split
  rotate_left
  · exact gives_none
  rw [forceLR_eq]
  show Gives (match arun P (Instr.enterLoop 0 a.arr ps as b rd) h with | none => none | some ((l, mark), h1) => _) (match arun P (Instr.enterLoop 0 a.arr ps as b rd) h with | none => none | some ((l, mark), h1) => _)
  cases arun P (Instr.enterLoop 0 a.arr ps as b rd) h with
  | none => exact gives_none
  | some p =>
    obtain ⟨⟨l, mark⟩, h1⟩ := p
    simp only [evF_eq, evR_eq]
    generalize acallV P (aeval a.act f) #[.func (.yield l) #[] #[]] h1 = x
    match x with
    | none => exact gives_none
    | some (.enter g args, h2) => exact bindF_gives (g := OutR.out) (hr (.call g args.toList) h2) fun o => afterLoopR_gives hr P rd l { a with defers := mark ++ a.defers } o
    | some (.value _, _) => exact gives_none
    | some (.skip, _) => exact gives_none
    | some (.round .., _) => exact gives_none
    | some (nx, _) => cases nx <;> first | exact gives_none | exact bindF_gives (g := OutR.out) (hr (.call _ _) _) fun o => afterLoopR_gives hr P rd l { a with defers := mark ++ a.defers } o

noncomputable def fCode (c : Code) : Program → RecR → Option Nat → RAct → Heap → Option (List OutR) :=
  match c with
  | .skip => fun _ _ _ a h => some [.at_ .normal a h]
  | .label _ => fun _ _ _ a h => some [.at_ .normal a h]
  | .exit id => fun _ _ _ a h => some [.at_ (.exit id) a h]
  | .ret => fun _ _ _ a h => some [.at_ .ret a h]
  | .goto _ => fun _ _ _ _ _ => none
  | .refuse _ => fun _ _ _ _ _ => none
  | .seq x y => fun _ r rd a h => bindF (r (.code rd x a) h) fun o => afterSeqF o r rd y
  | .cond c x y => fun _ r rd a h => gB (okOp c) (boolB ((evF c).run a) (r (.code rd x a) h) (r (.code rd y a) h))
  | .block id b => fun _ r rd a h => bindF (r (.code rd b a) h) fun o => afterBlockF o id
  | .loop b => fun _ r rd a h => bindF (r (.code rd b a) h) fun o => afterSeqF o r rd (.loop b)
  | .scope b => fun _ r rd a h => bindF (r (.code rd b a) h) afterScopeF
  | .region _ ops draw => fun P r rd a h => cond draw (gB (P.follows .mixedOrders) (gB (topo ops) (r (.draw rd ops 0 [] a) h))) (r (.ops rd ops (List.range ops.size) a) h)
  | .rangeFunc f ps as b => fun P r rd a h => sRangeR P r rd f ps as b a h
theorem fCode_gives (hr : RecGives r r') (P : Program) (rd : Option Nat) (c : Code) (a : RAct) (h : Heap) : Gives (fCode c P r rd a h) (sCode P r' rd c a.act h) := by
  cases c with
  | seq x y => exact bindF_gives (hr (.code rd x a) h) fun o => afterSeqF_gives hr o rd y
  | cond c x y =>
    show Gives (gB (okOp c) (boolB ((evF c).run a) (r (.code rd x a) h) (r (.code rd y a) h))) (sCond r' rd c x y a.act h)
    unfold sCond
    rw [evF_eq, evR_eq]
    cases okOp c with
    | false => exact gives_none
    | true =>
      show Gives (boolB _ _ _) _
      cases aeval a.act c with
      | bool b => cases b with
        | true => exact hr (.code rd x a) h
        | false => exact hr (.code rd y a) h
      | _ => exact gives_none
  | block id b => exact bindF_gives (hr (.code rd b a) h) fun o => afterBlockF_gives o id
  | loop b => exact bindF_gives (hr (.code rd b a) h) fun o => afterSeqF_gives hr o rd _
  | region id ops draw =>
    cases draw with
    | true =>
      intro os e
      obtain ⟨h1, e⟩ := gB_some (show gB (P.follows .mixedOrders) (gB (topo ops) (r (.draw rd ops 0 [] a) h)) = some os from e)
      obtain ⟨h2, e⟩ := gB_some e
      have := hr (.draw rd ops 0 [] a) h os e
      simp only [sCode, if_true, h1, h2, Bool.and_self]
      exact this
    | false => exact hr (.ops rd ops (List.range ops.size) a) h
  | rangeFunc f ps as b => exact sRangeR_gives hr P rd f ps as b a h
  | goto l => exact gives_none
  | refuse s => exact gives_none
  | scope b => exact bindF_gives (hr (.code rd b a) h) afterScopeF_gives
  | _ => exact gives_some rfl

/-! operations in turn -/
def boolO (v : Value) : Option Bool :=
  match v with
  | .bool b => some b
  | _ => none
def dstO (x : Option Tmp) : RAct → Option Bool :=
  match x with
  | some d => fun a => boolO ((evF (.tmp d)).run a)
  | none => fun _ => none
def dstOf (x : Option Oper) : RAct → Option Bool :=
  match x with
  | some o => dstO o.dst
  | none => fun _ => none
def wantB (y : Option Bool) : Bool → Bool :=
  match y with
  | none => fun _ => false
  | some b => fun w => cond b w (!w)
noncomputable def guardR (g : Option (Nat × Bool)) : Array Oper → RAct → Bool :=
  match g with
  | none => fun _ _ => true
  | some p => fun ops a => wantB (dstOf (nthR ops.toList p.1) a) p.2
omit [Globs] in
theorem guardR_eq (o : Oper) (ops : Array Oper) (a : RAct) : guardR o.guard ops a = Region.wanted o (lyield ops a.act.tmps.toList) := by
  unfold Region.wanted guardR
  cases o.guard with
  | none => rfl
  | some p =>
    obtain ⟨j, want⟩ := p
    show wantB (dstOf (nthR ops.toList j) a) want = (lyield ops a.act.tmps.toList j == some want)
    have : dstOf (nthR ops.toList j) a = lyield ops a.act.tmps.toList j := by
      rw [nthR_eq, Array.getElem?_toList]
      unfold lyield dstOf
      cases ops[j]? with
      | none => rfl
      | some q =>
        show dstO q.dst _ = _
        simp only [Option.bind_some]
        cases q.dst with
        | none => rfl
        | some d => simp only [dstO, evF_eq, evR, lgetR_eq, boolO]; cases lget a.act.tmps.toList d <;> rfl
    rw [this]
    cases lyield ops a.act.tmps.toList j with
    | none => cases want <;> rfl
    | some b => cases b <;> cases want <;> rfl

noncomputable def afterCallF (q : OutR) : RecR → (RAct → CmdR) → RAct → Option Tmp → Option (List OutR) :=
  match q with
  | .val v h2 => fun r nx a dst => forceWR v fun v => (putF dst).run a v fun a => r (nx a) h2
  | .at_ _ _ _ => fun _ _ _ _ => none
omit [Globs] in
theorem afterCallF_gives (hr : RecGives r r') {nx : RAct → CmdR} {nx' : Act → Cmd} (hx : ∀ a, (nx a).cmd = nx' a.act) (q : OutR) (a : RAct) (dst : Option Tmp) : Gives (afterCallF q r nx a dst) (afterCallD r' nx' a.act dst q.out) := by
  cases q with
  | val v h =>
    simp only [afterCallF, afterCallD, OutR.out, forceWR_eq, forceW_eq, putF_eq, aput_eq, ← RAct.put_act]
    rw [← hx]; exact hr (nx _) h
  | at_ e a h => exact gives_none
noncomputable def afterOpF (r : RecR) (nx : RAct → CmdR) (a : RAct) (dst : Option Tmp) (ks : List Nat) (p : Next × Heap) : Option (List OutR) :=
  match p with
  | (.value v, h1) => forceH ks h1 fun h1 => forceWR v fun v => (putF dst).run a v fun a => r (nx a) h1
  | (.skip, h1) => forceH ks h1 fun h1 => (putF dst).run a undef fun a => r (nx a) h1
  | (.enter f ⟨args⟩, h1) => forceLR args fun args => bindF (r (.call f args) h1) fun q => afterCallF q r nx a dst
  | (.round l _ tmps as b, h1) => bindF (r (.round l tmps as b) h1) fun q => afterCallF q r nx a dst
  | _ => none
omit [Globs] in
theorem afterOpF_gives (hr : RecGives r r') {nx : RAct → CmdR} {nx' : Act → Cmd} (hx : ∀ a, (nx a).cmd = nx' a.act) (a : RAct) (dst : Option Tmp) (ks : List Nat) (p : Next × Heap) :
    Gives (afterOpF r nx a dst ks p) (afterOpD r' nx' a.act dst p) := by
  obtain ⟨nx, h1⟩ := p
  cases nx with
  | value v =>
    simp only [afterOpF, afterOpD, forceH_eq, forceWR_eq, forceW_eq, putF_eq, aput_eq, ← RAct.put_act]
    rw [← hx]; exact hr (nx _) h1
  | skip =>
    simp only [afterOpF, afterOpD, forceH_eq, forceWR_eq, forceW_eq, putF_eq, aput_eq, ← RAct.put_act]
    rw [← hx]; exact hr (nx _) h1
  | enter f args =>
    obtain ⟨args⟩ := args
    simp only [afterOpF, afterOpD, forceLR_eq, forceL_eq]
    exact bindF_gives (hr (.call f args) h1) fun q => afterCallF_gives hr hx q a dst
  | round l fn tmps as b =>
    exact bindF_gives (hr (.round l tmps as b) h1) fun q => afterCallF_gives hr hx q a dst
  | _ => exact gives_none

noncomputable def slowR (P : Program) (r : RecR) (nx : RAct → CmdR) (a : RAct) (h : Heap) (o : Oper) : Option (List OutR) :=
  bindF (aop P (fun x => (evF x).run a) o h) (afterOpF r nx a o.dst (h.next :: turns (fun x => (evF x).run a) o))
noncomputable def runD (x : Option (FuncId × List Value)) : Program → RecR → (RAct → CmdR) → RAct → Heap → Oper → Option (List OutR) :=
  match x with
  | some p => fun _ r nx a h o => bindF (r (.call p.1 p.2) h) fun q => afterCallF q r nx a o.dst
  | none => slowR
noncomputable def runC (x : Option Heap) : Program → RecR → (RAct → CmdR) → RAct → Heap → Oper → Option (List OutR) :=
  match x with
  | some h' => fun _ r nx a _ o => (putF o.dst).run a undef fun a => r (nx a) h'
  | none => slowR
noncomputable def runB (x : Option Value) : Program → RecR → (RAct → CmdR) → RAct → Heap → Oper → Option (List OutR) :=
  match x with
  | some v => fun _ r nx a h o => forceV v fun v => (putF o.dst).run a v fun a => r (nx a) h
  | none => slowR
noncomputable def runK (k : OpK) : Program → RecR → (RAct → CmdR) → RAct → Heap → Oper → Option (List OutR) :=
  match k with
  | .light f => fun P r nx a h o => runB (f a h) P r nx a h o
  | .store f => fun P r nx a h o => runC (f a h) P r nx a h o
  | .enter f => fun P r nx a h o => runD (f a) P r nx a h o
  | .slow => slowR
noncomputable def runA (o : Oper) (P : Program) (r : RecR) (nx : RAct → CmdR) (a : RAct) (h : Heap) : Option (List OutR) :=
  runK (opK o.op P) P r nx a h o
omit [Globs] in
theorem bindR_one {α : Type} (p : α) (f : α → Option (List Out)) : bindR (some [p]) f = f p := by
  show bindO [p] f = f p
  simp only [bindO]
  cases f p <;> simp
theorem runA_gives (hr : RecGives r r') {nx : RAct → CmdR} {nx' : Act → Cmd} (hx : ∀ a, (nx a).cmd = nx' a.act) (P : Program) (a : RAct) (h : Heap) (o : Oper) :
    Gives (runA o P r nx a h) (bindR (aop P (aeval a.act) o h) (afterOpD r' nx' a.act o.dst)) := by
  have hev : (fun x => (evF x).run a) = aeval a.act := by funext x; rw [evF_eq, evR_eq]
  have hslow : Gives (slowR P r nx a h o) (bindR (aop P (aeval a.act) o h) (afterOpD r' nx' a.act o.dst)) := by
    unfold slowR
    rw [hev]
    exact bindF_gives (g := fun p => p) (fun os e => by rw [e]; simp) fun p => afterOpF_gives hr hx a o.dst _ p
  have hk := opK_ok P o.op
  unfold runA
  cases hop : opK o.op P with
  | light f =>
    rw [hop] at hk
    show Gives (runB (f a h) P r nx a h o) _
    cases h1 : f a h with
    | none => exact hslow
    | some v =>
      have := fLight_eq (hk a h v h1)
      rw [show aop P (aeval a.act) o h = some [(.value v, h)] by unfold aop; rw [this], bindR_one]
      simp only [runB, afterOpD, forceV_eq, forceH_eq, forceW_eq, putF_eq, aput_eq, ← RAct.put_act]
      rw [← hx]; exact hr (nx _) h
  | store f =>
    rw [hop] at hk
    show Gives (runC (f a h) P r nx a h o) _
    cases h2 : f a h with
    | none => exact hslow
    | some h' =>
      rw [hk a h] at h2
      obtain ⟨h'', e1, e2⟩ := fStore_some h2
      obtain rfl := Option.some.inj e2
      rw [e1, bindR_one]
      simp only [runC, afterOpD, forceH_eq, putF_eq, aput_eq, ← RAct.put_act]
      rw [← hx]; exact hr (nx _) _
  | enter f =>
    rw [hop] at hk
    show Gives (runD (f a) P r nx a h o) _
    cases h3 : f a with
    | none => exact hslow
    | some p =>
      rw [hk a] at h3
      obtain ⟨f, l, e1, e2⟩ := fEnter_some (h := h) h3
      obtain rfl := Option.some.inj e2
      rw [e1, bindR_one]
      simp only [afterOpD, forceL_eq]
      exact bindF_gives (hr (.call f l) h) fun q => afterCallF_gives hr hx q a o.dst
  | slow => exact hslow

omit [Globs] in
theorem afterOp_eq (r : Rec) (rd : Option Nat) (ops : Array Oper) (rest : List Nat) (a : Act) (dst : Option Tmp) (ks : List Nat) : afterOp r rd ops rest a dst ks = afterOpD r (fun a => .ops rd ops rest a) a dst := by
  have hc : afterCall r rd ops rest a dst = afterCallD r (fun a => .ops rd ops rest a) a dst := by
    funext q
    cases q <;> simp only [afterCall, afterCallD, forceW_eq, aput_eq]
  funext p
  obtain ⟨nx, h⟩ := p
  cases nx <;> simp only [afterOp, afterOpD, forceH_eq, forceW_eq, forceL_eq, aput_eq, hc]
noncomputable def fOper (x : Option Oper) : Program → RecR → Option Nat → Array Oper → List Nat → RAct → Heap → Option (List OutR) :=
  match x with
  | none => fun _ r rd ops rest a h => r (.ops rd ops rest a) h
  | some o => fun P r rd ops rest a h => cond (guardR o.guard ops a) (runA o P r (fun a => .ops rd ops rest a) a h) ((putF o.dst).run a undef fun a => r (.ops rd ops rest a) h)
noncomputable def fOps (l : List Nat) : Program → RecR → Option Nat → Array Oper → RAct → Heap → Option (List OutR) :=
  match l with
  | [] => fun _ _ _ _ a h => some [.at_ .normal a h]
  | i :: rest => fun P r rd ops a h => fOper (nthR ops.toList i) P r rd ops rest a h
theorem fOps_gives (hr : RecGives r r') (P : Program) (rd : Option Nat) (ops : Array Oper) (l : List Nat) (a : RAct) (h : Heap) : Gives (fOps l P r rd ops a h) (sOps P r' rd ops l a.act h) := by
  cases l with
  | nil => exact gives_some rfl
  | cons i rest =>
    show Gives (fOper (nthR ops.toList i) P r rd ops rest a h) _
    rw [nthR_eq, Array.getElem?_toList]
    unfold sOps
    simp only
    cases ops[i]? with
    | none => exact hr (.ops rd ops rest a) h
    | some o =>
      show Gives (cond (guardR o.guard ops a) (runA o P r (fun a => .ops rd ops rest a) a h) ((putF o.dst).run a undef fun a => r (.ops rd ops rest a) h)) _
      rw [guardR_eq, putF_eq]
      cases hw : Region.wanted o (lyield ops a.act.tmps.toList) with
      | true => simp only [cond_true, hw, if_true]; exact gives_same (by rw [afterOp_eq]) (runA_gives hr (nx := fun a => .ops rd ops rest a) (nx' := fun a => .ops rd ops rest a) (fun _ => rfl) P a h o)
      | false =>
        simp only [cond_false, hw, Bool.false_eq_true, if_false, aput_eq, ← RAct.put_act]
        exact hr (.ops rd ops rest _) h

/-! a region that draws -/
structure DSR where
  D : Nat
  pend : List Pd
  a : RAct
  h : Heap
def DSR.ds (s : DSR) : DS := ⟨s.D, s.pend, s.a.act, s.h⟩
def orB {β : Type} (x : Option β) : Option β → Option β :=
  match x with
  | some b => fun _ => some b
  | none => fun y => y
noncomputable def lightK (k : OpK) : Oper → Program → RAct → Heap → Option Value :=
  match k with
  | .light f => fun o P a h => orB (f a h) (alight P (fun x => (evF x).run a) o h)
  | _ => fun o P a h => alight P (fun x => (evF x).run a) o h
noncomputable def lightR (o : Oper) (P : Program) (a : RAct) (h : Heap) : Option Value := lightK (opK o.op P) o P a h
omit [Globs] in
theorem evAct (a : RAct) : (fun x => (evF x).run a) = a.act.eval := by funext x; rw [evF_eq, evR_eq, aeval_eq]
theorem lightR_eq (o : Oper) (P : Program) (a : RAct) (h : Heap) : lightR o P a h = alight P a.act.eval o h := by
  unfold lightR
  have hk := opK_ok P o.op
  cases hop : opK o.op P with
  | light f =>
    rw [hop] at hk
    show orB (f a h) (alight P (fun x => (evF x).run a) o h) = _
    rw [evAct]
    cases h1 : f a h with
    | none => rfl
    | some v => show some v = _; rw [← aeval_eq]; exact (fLight_eq (hk a h v h1)).symm
  | store f => show alight P (fun x => (evF x).run a) o h = _; rw [evAct]
  | enter f => show alight P (fun x => (evF x).run a) o h = _; rw [evAct]
  | slow => show alight P (fun x => (evF x).run a) o h = _; rw [evAct]
omit [Globs] in
theorem guardR_act (o : Oper) (ops : Array Oper) (a : RAct) : guardR o.guard ops a = Region.wanted o (yielded ops a.act.tmps) := by rw [guardR_eq, lyield_eq]

noncomputable def closeP (b : Option Nat) (v : Value) (o : Oper) (i : Nat) (h : Heap) (s : DSR) : Option DSR :=
  forceWR v fun v => forceN (addBit s.D i) fun D => (putF o.dst).run s.a v fun a => some ⟨D, ⟨i, v, b⟩ :: s.pend, a, h⟩
omit [Globs] in
theorem closeP_eq (b : Option Nat) (v : Value) (o : Oper) (i : Nat) (h : Heap) (s : DSR) : (closeP b v o i h s).map DSR.ds = some ⟨addBit s.D i, ⟨i, v, b⟩ :: s.pend, s.a.act.put o.dst v, h⟩ := by
  unfold closeP
  rw [forceWR_eq, forceN_eq, putF_eq]
  simp only [Option.map_some, DSR.ds, RAct.put_act]
noncomputable def closeA (x : Option (Value × Heap)) : Oper → Nat → DSR → Option DSR :=
  match x with
  | some p => fun o i s => forceN s.h.next fun n => oB (p.2.get n) fun obj => forceO (some obj) fun ob => oB ob fun obj => oB (s.h.push obj) fun h2 => forceH [n] h2 fun h2 => closeP (some n) p.1 o i h2 s
  | none => fun _ _ _ => none
noncomputable def closeV (x : Option Value) : Oper → Program → Nat → DSR → Option DSR :=
  match x with
  | some v => fun o _ i s => closeP none v o i s.h s
  | none => fun o P i s => closeA (aalloc P (fun x => (evF x).run s.a) o s.h) o i s
noncomputable def closeO (x : Option Oper) : Program → Array Oper → Nat → DSR → Option DSR :=
  match x with
  | none => fun _ _ _ s => some s
  | some o => fun P ops i s => cond (!(s.D.testBit i) && okLight ops i o && afterOk o s.D)
      (cond (guardR o.guard ops s.a) (closeV (lightR o P s.a s.h) o P i s) (closeP none undef o i s.h s)) (some s)
theorem closeO_eq (P : Program) (ops : Array Oper) (i : Nat) (s : DSR) : (closeO (nthR ops.toList i) P ops i s).map DSR.ds = closeOne P ops i s.ds := by
  rw [nthR_eq, Array.getElem?_toList]
  unfold closeOne
  cases ops[i]? with
  | none => rfl
  | some o =>
    show Option.map DSR.ds (cond _ _ _) = if (!(s.D.testBit i) && okLight ops i o && afterOk o s.D) = true then _ else _
    cases hc : (!(s.D.testBit i) && okLight ops i o && afterOk o s.D) with
    | false => rfl
    | true =>
      rw [if_pos rfl, guardR_act, lightR_eq]
      show Option.map DSR.ds (cond (Region.wanted o (yielded ops s.a.act.tmps)) _ _) = if Region.wanted o (yielded ops s.a.act.tmps) = true then _ else _
      cases Region.wanted o (yielded ops s.a.act.tmps) with
      | false => exact closeP_eq none undef o i s.h s
      | true =>
        rw [if_pos rfl]
        show Option.map DSR.ds (closeV (alight P s.a.act.eval o s.h) o P i s) = match alight P s.a.act.eval o s.h with | some v => _ | none => _
        cases alight P s.a.act.eval o s.h with
        | some v => exact closeP_eq none v o i s.h s
        | none =>
          show Option.map DSR.ds (closeA (aalloc P (fun x => (evF x).run s.a) o s.h) o i s) = match aalloc P s.a.act.eval o s.h with | some (v, h1) => _ | none => _
          rw [evAct]
          cases aalloc P s.a.act.eval o s.h with
          | none => rfl
          | some p =>
            obtain ⟨v, h1⟩ := p
            simp only [closeA, forceN_eq]
            show Option.map DSR.ds (oB (h1.get s.h.next) _) = match h1.get s.h.next with | some obj => _ | none => _
            cases h1.get s.h.next with
            | none => rfl
            | some obj =>
              show Option.map DSR.ds (forceO (some obj) fun ob => oB ob fun obj => oB (s.h.push obj) fun h2 => forceH [s.h.next] h2 fun h2 => closeP (some s.h.next) v o i h2 s) = match s.h.push obj with | some h2 => _ | none => _
              rw [forceO_eq]
              show Option.map DSR.ds (oB (s.h.push obj) fun h2 => forceH [s.h.next] h2 fun h2 => closeP (some s.h.next) v o i h2 s) = _
              cases s.h.push obj with
              | none => rfl
              | some h2 =>
                show Option.map DSR.ds (forceH [s.h.next] h2 fun h2 => closeP (some s.h.next) v o i h2 s) = _
                rw [forceH_eq]
                exact closeP_eq (some s.h.next) v o i h2 s
noncomputable def closeAllR (P : Program) (ops : Array Oper) : List Nat → DSR → Option DSR
  | [], s => some s
  | i :: l, s => forceN i fun i => oB (closeO (nthR ops.toList i) P ops i s) fun s => closeAllR P ops l s
theorem closeAllR_eq (P : Program) (ops : Array Oper) : ∀ (l : List Nat) (s s' : DSR), closeAllR P ops l s = some s' → closeAll P ops l s.ds = some s'.ds := by
  intro l
  induction l with
  | nil => intro s s' e; cases e; rfl
  | cons i l ih =>
    intro s s' e
    simp only [closeAllR, forceN_eq] at e
    obtain ⟨s1, h1, e⟩ := oB_some e
    have := closeO_eq P ops i s
    rw [h1] at this
    simp only [closeAll, ← this, Option.map_some]
    exact ih s1 s' e
def eqR (v : Value) : Value → Bool :=
  match v with
  | .int k n => fun w => (match w with
    | .int l m => kindEq k l && decide (n = m)
    | _ => false)
  | v => fun w => eqV 4 v w
omit [Globs] in
theorem eqR_eq {v w : Value} (h : eqR v w = true) : eqV 4 v w = true := by
  unfold eqR at h
  split at h
  · split at h
    · simp only [Bool.and_eq_true] at h
      rw [kindEq_eq h.1, of_decide_eq_true h.2]
      simp [eqV]
    · exact absurd h (by simp)
  · exact h
noncomputable def recA (x : Option (Value × Heap)) : Option Nat → Heap → Value → Bool :=
  match x with
  | some p => fun b h v => (match b with
    | some b => sameRow (p.2.get h.next) (h.get b) && eqV 4 (rebase p.1 h.next b) v
    | none => false)
  | none => fun _ _ _ => false
noncomputable def recV (x : Option Value) : Oper → Program → RAct → Heap → Pd → Bool :=
  match x with
  | some v => fun _ _ _ _ p => p.b.isNone && eqR v p.v
  | none => fun o P a h p => recA (aalloc P (fun x => (evF x).run a) o h) p.b h p.v
noncomputable def recO (x : Option Oper) : Program → Array Oper → RAct → Heap → Pd → Bool :=
  match x with
  | none => fun _ _ _ _ _ => false
  | some o => fun P ops a h p => cond (guardR o.guard ops a) (recV (lightR o P a h) o P a h p) (p.b.isNone && eqV 4 undef p.v)
theorem recO_eq {P : Program} {ops : Array Oper} {a : RAct} {h : Heap} {p : Pd} (e : recO (nthR ops.toList p.i) P ops a h p = true) : recheckOne P ops a.act h p = true := by
  rw [nthR_eq, Array.getElem?_toList] at e
  unfold recheckOne
  cases ho : ops[p.i]? with
  | none => rw [ho] at e; exact absurd e (by simp [recO])
  | some o =>
    rw [ho] at e
    simp only [recO] at e
    rw [guardR_act, lightR_eq] at e
    simp only
    cases hw : Region.wanted o (yielded ops a.act.tmps) with
    | false => rw [hw] at e; simpa using e
    | true =>
      rw [hw] at e
      simp only [cond_true, if_true] at e ⊢
      cases hv : alight P a.act.eval o h with
      | some v =>
        rw [hv] at e
        simp only [recV, Bool.and_eq_true] at e ⊢
        exact ⟨e.1, eqR_eq e.2⟩
      | none =>
        rw [hv] at e
        simp only [recV] at e ⊢
        rw [evAct] at e
        cases ha : aalloc P a.act.eval o h with
        | none => rw [ha] at e; exact absurd e (by simp [recA])
        | some q =>
          obtain ⟨v, h1⟩ := q
          rw [ha] at e
          cases hb : p.b with
          | none => rw [hb] at e; exact absurd e (by simp [recA])
          | some b => rw [hb] at e; exact e
noncomputable def heavyO (x : Option Oper) : Program → RecR → Option Nat → Array Oper → Nat → DSR → Option (List OutR) :=
  match x with
  | none => fun _ _ _ _ _ _ => none
  | some o => fun P r rd ops j s => forceN (addBit s.D j) fun D => cond (guardR o.guard ops s.a)
      (runA o P r (fun a => .draw rd ops D (leftOver ops j s.pend) a) s.a s.h)
      ((putF o.dst).run s.a undef fun a => r (.draw rd ops D (leftOver ops j s.pend) a) s.h)
noncomputable def candC (l : List Nat) : Nat → Program → RecR → Option Nat → Array Oper → DSR → Option (List OutR) :=
  match l with
  | [] => fun j P r rd ops s => forceN j fun j => heavyO (nthR ops.toList j) P r rd ops j s
  | _ :: _ => fun _ _ _ _ _ _ => none
noncomputable def candB (l : List Nat) : Program → RecR → Option Nat → Array Oper → DSR → Option (List OutR) :=
  match l with
  | [] => fun _ _ _ _ s => some [.at_ .normal s.a s.h]
  | j :: l => candC l j
noncomputable def sDrawR (P : Program) (r : RecR) (rd : Option Nat) (ops : Array Oper) (D : Nat) (pend : List Pd) (a : RAct) (h : Heap) : Option (List OutR) :=
  oB (closeAllR P ops (List.range ops.size) ⟨D, pend, a, h⟩) fun s => gB (s.pend.all fun p => recO (nthR ops.toList p.i) P ops s.a s.h p) (candB (cand ops s.D) P r rd ops s)
theorem sDrawR_gives (hr : RecGives r r') (P : Program) (rd : Option Nat) (ops : Array Oper) (D : Nat) (pend : List Pd) (a : RAct) (h : Heap) : Gives (sDrawR P r rd ops D pend a h) (sDraw P r' rd ops D pend a.act h) := by
  intro os e
  obtain ⟨s, hs, e⟩ := oB_some e
  obtain ⟨hrec, e⟩ := gB_some e
  unfold sDraw
  rw [show closeAll P ops (List.range ops.size) ⟨D, pend, a.act, h⟩ = some s.ds from closeAllR_eq P ops _ ⟨D, pend, a, h⟩ s hs]
  simp only
  rw [if_pos (show (s.ds.pend.all (recheckOne P ops s.ds.a s.ds.h)) = true from List.all_eq_true.2 fun p hp => recO_eq (List.all_eq_true.1 hrec p hp))]
  show (match cand ops s.D with | [] => _ | [j] => _ | _ => _) = _
  cases hc : cand ops s.D with
  | nil => rw [hc] at e; obtain rfl := Option.some.inj e; rfl
  | cons j l =>
    cases l with
    | nil =>
      rw [hc] at e
      simp only [candB, candC, forceN_eq] at e
      rw [nthR_eq, Array.getElem?_toList] at e
      simp only
      unfold sHeavy
      cases ho : ops[j]? with
      | none => rw [ho] at e; exact absurd e (by simp [heavyO])
      | some o =>
        rw [ho] at e
        simp only [heavyO, forceN_eq] at e
        rw [guardR_act, putF_eq] at e
        simp only
        show (if Region.wanted o (yielded ops s.a.act.tmps) = true then _ else _) = _
        cases hw : Region.wanted o (yielded ops s.a.act.tmps) with
        | true =>
          rw [hw] at e
          simp only [cond_true] at e
          rw [if_pos rfl]
          have := runA_gives hr (nx := fun a => .draw rd ops (addBit s.D j) (leftOver ops j s.pend) a) (nx' := fun a => .draw rd ops (addBit s.D j) (leftOver ops j s.pend) a) (fun _ => rfl) P s.a s.h o os e
          rw [aeval_eq] at this
          exact this
        | false =>
          rw [hw] at e
          simp only [cond_false] at e
          rw [if_neg (by simp)]
          have := hr _ _ os e
          show r' (.draw rd ops (addBit s.D j) (leftOver ops j s.pend) (s.a.act.put o.dst undef)) s.h = _
          rw [← RAct.put_act]
          exact this
    | cons k l => rw [hc] at e; exact absurd e (by simp [candB, candC])

/-! calls -/
def resV (x : ResultVar) : RAct → Option (List Value) → Option (List Value) :=
  match x with
  | .tmp t => fun a r => oB r fun r => some ((evF (.tmp t)).run a :: r)
  | .cell _ _ => fun _ _ => none
noncomputable def resL (rs : List ResultVar) : RAct → Option (List Value) :=
  List.rec (motive := fun _ => RAct → Option (List Value)) (fun _ => some []) (fun x _ ih a => resV x a (ih a)) rs
def oneW (r : List Value) : Value → Value :=
  match r with
  | [] => fun v => v
  | w :: r => fun v => .tuple ⟨v :: w :: r⟩
def oneV (l : List Value) : Value :=
  match l with
  | [] => .tuple ⟨[]⟩
  | v :: r => oneW r v
omit [Globs] in
theorem resL_some {P : Program} : ∀ (rs : List ResultVar) {a : RAct} {vs : List Value} {h : Heap}, resL rs a = some vs →
    arun P (rs.mapM fun (x : ResultVar) => match x with
      | .tmp t => (pure (a.arr.getD t undef) : Sem Value)
      | .cell b t => do loadVar t (← asAddr (a.arr.getD b undef))) h = some (vs, h) := by
  intro rs
  induction rs with
  | nil => intro a vs h e; obtain rfl := Option.some.inj (show some [] = some vs from e); rw [List.mapM_nil]; rfl
  | cons x rs ih =>
    intro a vs h e
    cases x with
    | tmp t =>
      obtain ⟨r, hr, e⟩ := oB_some (show oB (resL rs a) (fun r => some ((evF (.tmp t)).run a :: r)) = some vs from e)
      obtain rfl := Option.some.inj e
      rw [List.mapM_cons, arun_bindM, arun_pureM]
      simp only
      rw [arun_bindM, ih hr]
      simp only [arun_pureM, evF_eq, evR, RAct.act, lgetR_eq, lget_eq, Array.getD_eq_getD_getElem?, Array.getElem?_toList]
    | cell a t => exact absurd e (by simp [resL, resV])
def deferN (l : List Deferred) : Bool :=
  match l with
  | [] => true
  | _ => false
noncomputable def leaveR (fn : Func) (a : RAct) (h : Heap) : Option (List OutR) :=
  gB (deferN a.defers) (oB (resL fn.results.toList a) fun vs => some [.val (oneV vs) h])
omit [Globs] in
theorem leaveR_gives (P : Program) (fn : Func) (a : RAct) (h : Heap) : Gives (leaveR fn a h) (leave P fn a.act h) := by
  intro os e
  obtain ⟨h1, e⟩ := gB_some e
  obtain ⟨vs, hvs, e⟩ := oB_some e
  obtain rfl := Option.some.inj e
  have hd : a.act.defers = [] := by
    show a.defers = []
    cases hd : a.defers with
    | nil => rfl
    | cons d ds => rw [hd] at h1; exact absurd h1 (by simp [deferN])
  have hr : arun P (results fn a.act.tmps) h = some (oneV vs, h) := by
    unfold results
    have : arun P (fn.results.mapM fun (x : ResultVar) => match x with
      | .tmp t => (pure (a.arr.getD t undef) : Sem Value)
      | .cell b t => do loadVar t (← asAddr (a.arr.getD b undef))) h = some (⟨vs⟩, h) := by
      rw [Array.mapM_eq_mapM_toList]
      show arun P (Sem.bind _ _) h = _
      rw [arun_bind, resL_some _ hvs]
      rfl
    refine (arun_ok (a := (⟨vs⟩ : Array Value)) (h1 := h) this).trans ?_
    cases vs with
    | nil => rfl
    | cons v vs =>
      cases vs with
      | nil => rfl
      | cons w vs => rfl
  unfold leave
  rw [hd]
  simp only [takeAll, hr]
  rfl
def outsR (l : List Out) : Option (List OutR) :=
  match l with
  | [.val v h] => some [.val v h]
  | _ => none
noncomputable def leaveF (P : Program) (fn : Func) (a : RAct) (h : Heap) : Option (List OutR) := orB (leaveR fn a h) (oB (leave P fn a.act h) outsR)
omit [Globs] in
theorem leaveF_gives (P : Program) (fn : Func) (a : RAct) (h : Heap) : Gives (leaveF P fn a h) (leave P fn a.act h) := by
  unfold leaveF
  cases e : leaveR fn a h with
  | none =>
    intro os e
    obtain ⟨l, h1, e⟩ := oB_some (show oB (leave P fn a.act h) outsR = some os from e)
    rw [h1]
    unfold outsR at e
    split at e
    · obtain rfl := Option.some.inj e; rfl
    · exact absurd e (by simp)
  | some os => intro os' e'; obtain rfl := Option.some.inj (show some os = some os' from e'); exact leaveR_gives P fn a h os e
noncomputable def afterBodyE (e : Exit) : RAct → Heap → Program → Func → Option (List OutR) :=
  match e with
  | .normal => fun a h P fn => leaveF P fn a h
  | .ret => fun a h P fn => leaveF P fn a h
  | _ => fun _ _ _ _ => none
noncomputable def afterBodyF (o : OutR) : Program → Func → Option (List OutR) :=
  match o with
  | .at_ e a h => afterBodyE e a h
  | .val _ _ => fun _ _ => none
omit [Globs] in
theorem afterBodyF_gives (o : OutR) (P : Program) (fn : Func) : Gives (afterBodyF o P fn) (afterBody P fn o.out) := by
  cases o with
  | at_ e a h => cases e <;> first | exact leaveF_gives P fn a h | exact gives_none
  | val v h => exact gives_none

/-- The table filled from a list. -/
noncomputable def fillF {β : Type} (l : List Value) : Nat → RAct → (RAct → β) → β :=
  List.rec (motive := fun _ => Nat → RAct → (RAct → β) → β) (fun _ a k => k a) (fun v _ ih i a k => forceN i fun i => (putF (some i)).run a v fun a => ih (i + 1) a k) l
omit [Globs] in
theorem fillF_eq {β : Type} (l : List Value) : ∀ (i : Nat) (a : RAct) (k : RAct → β), ∃ a' : RAct, fillF l i a k = k a' ∧ a'.n = a.n ∧ a'.defers = a.defers ∧
    (i + l.length ≤ a.n → i + l.length ≤ 256 → ∀ j, a'.arr[j]? = if i ≤ j ∧ j < i + l.length then l[j - i]? else a.arr[j]?) := by
  induction l with
  | nil =>
    intro i a k
    exact ⟨a, rfl, rfl, rfl, fun _ _ j => by rw [if_neg (by simp)]⟩
  | cons v l ih =>
    intro i a k
    obtain ⟨a', h1, h2, h3, h4⟩ := ih (i + 1) (a.put (some i) v) k
    have hn : (a.put (some i) v).n = a.n := by unfold RAct.put; simp only; split <;> rfl
    have hd : (a.put (some i) v).defers = a.defers := by unfold RAct.put; simp only; split <;> rfl
    refine ⟨a', ?_, h2.trans hn, h3.trans hd, fun hb1 hb2 j => ?_⟩
    · show (forceN i fun i => (putF (some i)).run a v fun a => fillF l (i + 1) a k) = _
      rw [forceN_eq, putF_eq]
      exact h1
    · simp only [List.length_cons] at hb1 hb2 ⊢
      rw [h4 (by rw [hn]; omega) (by omega)]
      have hp : (a.put (some i) v).arr = a.arr.setIfInBounds i v := RAct.put_arr a i v
      have hs : a.arr.size = min a.n 256 := by simp [RAct.arr]
      by_cases hj : i + 1 ≤ j ∧ j < i + 1 + l.length
      · rw [if_pos hj, if_pos (by omega), show j - i = (j - (i + 1)) + 1 by omega]
        rfl
      · rw [if_neg hj, hp, Array.getElem?_setIfInBounds]
        by_cases hij : i = j
        · subst hij
          rw [if_pos rfl, if_pos (by rw [hs]; omega), if_pos (by omega)]
          simp
        · rw [if_neg hij, if_neg (by omega)]
noncomputable def lenR (l : List Value) : Nat → Nat := List.rec (motive := fun _ => Nat → Nat) (fun n => n) (fun _ _ ih n => ih (n + 1)) l
omit [Globs] in
theorem lenR_eq (l : List Value) : ∀ n, lenR l n = n + l.length := by
  induction l with
  | nil => intro n; rfl
  | cons v l ih => intro n; show lenR l (n + 1) = _; rw [ih]; simp only [List.length_cons]; omega
noncomputable def padF (args : List Value) (n : Nat) (k : RAct → Option (List OutR)) : Option (List OutR) :=
  gB (Nat.ble (lenR args 0) n) (gB (Nat.ble n 256) (forceN n fun n => fillF args 0 ⟨u256, n, []⟩ k))
omit [Globs] in
theorem getT_u256 (i : Nat) : getT u256 i = undef := by
  have h1 : ∀ j, u256.get j = u16 := by intro j; unfold T16.get; split <;> rfl
  have h2 : ∀ j, u16.get j = undef := by intro j; unfold T16.get; split <;> rfl
  unfold getT
  rw [h1, h2]
omit [Globs] in
theorem padF_gives {args : List Value} {n : Nat} {k : RAct → Option (List OutR)} {y : Act → Option (List Out)} (hk : ∀ a : RAct, Gives (k a) (y a.act)) :
    Gives (padF args n k) (y { tmps := (⟨args⟩ : Array Value) ++ Array.replicate (n - args.length) undef, defers := [] }) := by
  intro os e
  obtain ⟨h1, e⟩ := gB_some e
  obtain ⟨h2, e⟩ := gB_some e
  have h1 := Nat.le_of_ble_eq_true h1
  have h2 := Nat.le_of_ble_eq_true h2
  rw [lenR_eq] at h1
  rw [forceN_eq] at e
  obtain ⟨a', e1, e2, e3, e4⟩ := fillF_eq args 0 ⟨u256, n, []⟩ k
  rw [e1] at e
  have := hk a' os e
  have ha : a'.act = { tmps := (⟨args⟩ : Array Value) ++ Array.replicate (n - args.length) undef, defers := [] } := by
    show Act.mk a'.arr a'.defers = _
    rw [e3]
    congr 1
    apply Array.ext_getElem?
    intro j
    rw [e4 (by show 0 + args.length ≤ n; omega) (by omega), arr_get]
    show (if 0 ≤ j ∧ j < 0 + args.length then args[j - 0]? else if j < n ∧ j < 256 then some (getT u256 j) else none) = _
    rw [getT_u256, Array.getElem?_append, List.getElem?_toArray]
    rw [show ({ toList := args } : Array Value).size = args.length from rfl]
    by_cases hj : j < args.length
    · rw [if_pos (by omega), if_pos hj]
      simp
    · rw [if_neg (by omega), if_neg hj, Array.getElem?_replicate]
      show _ = if j - args.length < n - args.length then _ else _
      by_cases hjn : j < n
      · rw [if_pos (by omega), if_pos (by omega)]
      · rw [if_neg (by omega), if_neg (by omega)]
  rw [ha] at this
  exact this

abbrev SumsR := FuncId → List Value → Heap → Option (List OutR)
def valsOut (l : List OutR) : List Out := l.map OutR.out
noncomputable def fCall (x : Option (List OutR)) : Program → RecR → FuncId → List Value → Heap → Option (List OutR) :=
  match x with
  | some os => fun _ _ _ _ _ => some os
  | none => fun P r f args h => bodyB P f fun fn c => padF args fn.ntmps fun a => bindF (r (.code none c a) h) fun o => afterBodyF o P fn
def plainS (S : SumsR) : Sums := fun f args h => match S f args.toList h with
  | some os => some (os.map OutR.out)
  | none => none
omit [Globs] in
theorem fCall_gives (hr : RecGives r r') (P : Program) (S : SumsR) (f : FuncId) (args : List Value) (h : Heap) : Gives (fCall (S f args h) P r f args h) (sCall P (plainS S) r' f ⟨args⟩ h) := by
  unfold sCall plainS
  simp only
  cases S f args h with
  | some os => exact gives_some rfl
  | none =>
    intro os e
    obtain ⟨fn, c, hf, hc, e⟩ := bodyB_some (show bodyB P f _ = some os from e)
    simp only [hf, hc, forceAct_eq]
    exact padF_gives (y := fun a => bindR (r' (.code none c a) h) (afterBody P fn)) (fun a => bindF_gives (hr (.code none c a) h) fun o => afterBodyF_gives o P fn) os e

/-! rounds -/
noncomputable def afterRoundR (P : Program) (l : Nat) (o2 : OutR) : Option (List OutR) :=
  match o2 with
  | .at_ e _ h3 => match jumpOf e with
    | none => none
    | some j => match arun P (Instr.endRound l j) h3 with
      | some (v, h4) => some [.val v h4]
      | none => none
  | _ => none
omit [Globs] in
theorem afterRoundR_gives (P : Program) (l : Nat) (o : OutR) : Gives (afterRoundR P l o) (afterRound P l o.out) := by
  cases o with
  | at_ e a h =>
    simp only [afterRoundR, afterRound, OutR.out]
    cases jumpOf e with
    | none => exact gives_none
    | some j =>
      simp only
      generalize arun P (Instr.endRound l j) h = x
      match x with
      | none => exact gives_none
      | some (v, h4) => exact gives_some rfl
  | val v h => exact gives_none
noncomputable def afterAssignR (P : Program) (r : RecR) (l : Nat) (b : Code) (o : OutR) : Option (List OutR) :=
  match o with
  | .at_ .normal a1 h1 => match arun P (Instr.beginRound l) h1 with
    | none => none
    | some (_, h2) => bindF (r (.code (some l) b a1) h2) (afterRoundR P l)
  | _ => none
omit [Globs] in
theorem afterAssignR_gives (hr : RecGives r r') (P : Program) (l : Nat) (b : Code) (o : OutR) : Gives (afterAssignR P r l b o) (afterAssign P r' l b o.out) := by
  cases o with
  | at_ e a h =>
    cases e with
    | normal =>
      simp only [afterAssignR, afterAssign, OutR.out]
      generalize arun P (Instr.beginRound l) h = x
      match x with
      | none => exact gives_none
      | some (_, h2) => exact bindF_gives (hr (.code (some l) b a) h2) fun o => afterRoundR_gives P l o
    | _ => exact gives_none
  | val v h => exact gives_none
noncomputable def sRoundR (P : Program) (r : RecR) (l : Nat) (tmps : Array Value) (as b : Code) (h : Heap) : Option (List OutR) :=
  padF tmps.toList (lenR tmps.toList 0) fun a => bindF (r (.code (some l) as a) h) (afterAssignR P r l b)
omit [Globs] in
theorem sRoundR_gives (hr : RecGives r r') (P : Program) (l : Nat) (tmps : Array Value) (as b : Code) (h : Heap) : Gives (sRoundR P r l tmps as b h) (sRound P r' l tmps as b h) := by
  unfold sRoundR sRound
  rw [forceAct_eq]
  have := padF_gives (args := tmps.toList) (n := lenR tmps.toList 0) (k := fun a => bindF (r (.code (some l) as a) h) (afterAssignR P r l b)) (y := fun a => bindR (r' (.code (some l) as a) h) (afterAssign P r' l b))
    fun a => bindF_gives (hr (.code (some l) as a) h) fun o => afterAssignR_gives hr P l b o
  rw [lenR_eq] at this
  rw [lenR_eq]
  have ht : (⟨tmps.toList⟩ : Array Value) ++ Array.replicate (0 + tmps.toList.length - tmps.toList.length) undef = tmps := by
    apply Array.ext'
    simp
  rw [ht] at this
  exact this

noncomputable def fStep (c : CmdR) : Program → SumsR → RecR → Heap → Option (List OutR) :=
  match c with
  | .code rd c a => fun P _ r h => fCode c P r rd a h
  | .ops rd ops l a => fun P _ r h => fOps l P r rd ops a h
  | .draw rd ops D pend a => fun P _ r h => sDrawR P r rd ops D pend a h
  | .call f args => fun P S r h => fCall (S f args h) P r f args h
  | .round l tmps as b => fun P _ r h => sRoundR P r l tmps as b h
theorem fStep_gives (hr : RecGives r r') (P : Program) (S : SumsR) (c : CmdR) (h : Heap) : Gives (fStep c P S r h) (step P (plainS S) r' c.cmd h) := by
  cases c with
  | code rd c a => exact fCode_gives hr P rd c a h
  | ops rd ops l a => exact fOps_gives hr P rd ops l a h
  | draw rd ops D pend a => exact sDrawR_gives hr P rd ops D pend a h
  | call f args => exact fCall_gives hr P S f args h
  | round l tmps as b => exact sRoundR_gives hr P l tmps as b h
end
noncomputable def fv (P : Program) (S : SumsR) (n : Nat) : RecR :=
  Nat.rec (motive := fun _ => RecR) (fun _ _ => none) (fun _ r c h => fStep c P S r h) n
theorem fv_gives (P : Program) (S : SumsR) : ∀ n, RecGives (fv P S n) (ev P (plainS S) n) := by
  intro n
  induction n with
  | zero => intro c h; exact gives_none
  | succ n ih => intro c h; exact fStep_gives ih P S c h
end Go.Ev
