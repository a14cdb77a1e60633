/- The concrete evaluator, part N: code, calls, rounds. -/
import Derived.Test.YtakhkpgkbbcnhaaGreatDoorEvV
import Derived.Scope
namespace Go.Ev
open Go
variable [Globs] [Holes]

inductive Cmd where
  | code (rd : Option Nat) (c : Code) (a : Act)
  | ops (rd : Option Nat) (ops : Array Oper) (l : List Nat) (a : Act)
  | call (f : FuncId) (args : Array Value)
  | round (l : Nat) (tmps : Array Value) (assign body : Code)
  | draw (rd : Option Nat) (ops : Array Oper) (D : Nat) (pend : List Pd) (a : Act)

inductive Out where
  | at_ (e : Exit) (a : Act) (h : Heap)
  | val (v : Value) (h : Heap)

def bindO {α : Type} : List α → (α → Option (List Out)) → Option (List Out)
  | [], _ => some []
  | o :: r, f => match f o, bindO r f with
    | some x, some y => some (x ++ y)
    | _, _ => none

omit [Globs] in
omit [Holes] in
theorem bindO_mem {α : Type} {f : α → Option (List Out)} : ∀ {l : List α} {outs : List Out}, bindO l f = some outs → ∀ o ∈ l, ∃ x, f o = some x ∧ ∀ y ∈ x, y ∈ outs := by
  intro l
  induction l with
  | nil => intro outs _ o ho; simp at ho
  | cons a l ih =>
    intro outs h o ho
    simp only [bindO] at h
    split at h
    · rename_i x y hx hy
      simp only [Option.some.injEq] at h
      subst h
      rcases List.mem_cons.1 ho with rfl | ho
      · exact ⟨x, hx, fun z hz => List.mem_append_left _ hz⟩
      · obtain ⟨x', h1, h2⟩ := ih hy o ho
        exact ⟨x', h1, fun z hz => List.mem_append_right _ (h2 z hz)⟩
    · exact absurd h (by simp)

def jumpOf : Exit → Option (Option Code)
  | .normal => some none
  | .ret => some (some .ret)
  | .exit id => some (some (.exit id))
  | _ => none

def takeAll (P : Program) : List Deferred → Heap → Option Heap
  | [], h => some h
  | d :: ds, h => match d.target with
    | .collected r => match arun P (Instr.takeDeferred r) h with
      | some (_, h') => takeAll P ds h'
      | none => none
    | _ => none

/-- A function's end. -/
def leave (P : Program) (fn : Func) (a : Act) (h : Heap) : Option (List Out) :=
  match takeAll P a.defers h with
  | some h1 => match arun P (results fn a.tmps) h1 with
    | some (v, _) => some [.val v h1]
    | none => none
  | none => none

abbrev Sums := FuncId → Array Value → Heap → Option (List Out)

/-! ### for the kernel's sake: the same, with what is carried along written out -/
section force
variable {β : Type}
def forceN (m : Nat) (k : Nat → β) : β :=
  match m with
  | 0 => k 0
  | m + 1 => k (Nat.succ m)
omit [Globs] in
omit [Holes] in
theorem forceN_eq (m : Nat) (k : Nat → β) : forceN m k = k m := by cases m <;> rfl
def forceI (n : Int) (k : Int → β) : β :=
  match n with
  | .ofNat m => forceN m fun m => k (.ofNat m)
  | .negSucc m => forceN m fun m => k (.negSucc m)
omit [Globs] in
omit [Holes] in
theorem forceI_eq (n : Int) (k : Int → β) : forceI n k = k n := by cases n <;> simp only [forceI, forceN_eq]
def forceA (a : Option Addr) (k : Option Addr → β) : β :=
  match a with
  | none => k none
  | some ⟨b, o, none⟩ => forceN b fun b => forceN o fun o => k (some ⟨b, o, none⟩)
  | some a => k (some a)
omit [Globs] in
omit [Holes] in
theorem forceA_eq (a : Option Addr) (k : Option Addr → β) : forceA a k = k a := by
  unfold forceA
  split <;> simp only [forceN_eq]
def forceV (v : Value) (k : Value → β) : β :=
  match v with
  | .int kd n => forceI n fun n => k (.int kd n)
  | .bool true => k (.bool true)
  | .bool false => k (.bool false)
  | .pointer a => forceA a fun a => k (.pointer a)
  | .slice a l c => forceA a fun a => forceN l fun l => forceN c fun c => k (.slice a l c)
  | v => k v
omit [Globs] in
omit [Holes] in
theorem forceV_eq (v : Value) (k : Value → β) : forceV v k = k v := by
  unfold forceV
  split <;> simp only [forceN_eq, forceI_eq, forceA_eq]
def forceL (l : List Value) (k : List Value → β) : β :=
  match l with
  | [] => k []
  | v :: l => forceV v fun v => forceL l fun l => k (v :: l)
omit [Globs] in
omit [Holes] in
theorem forceL_eq (l : List Value) (k : List Value → β) : forceL l k = k l := by
  induction l generalizing k with
  | nil => rfl
  | cons v l ih => simp only [forceL, forceV_eq, ih]
/-- The values, parts and all. -/
def forceW (v : Value) (k : Value → β) : β :=
  match v with
  | .agg ⟨l⟩ => forceL l fun l => k (.agg ⟨l⟩)
  | .tuple ⟨l⟩ => forceL l fun l => k (.tuple ⟨l⟩)
  | .func f ⟨xs⟩ ⟨ys⟩ => forceL xs fun xs => forceL ys fun ys => k (.func f ⟨xs⟩ ⟨ys⟩)
  | v => forceV v k
omit [Globs] in
omit [Holes] in
theorem forceW_eq (v : Value) (k : Value → β) : forceW v k = k v := by
  unfold forceW
  split <;> simp only [forceL_eq, forceV_eq]
def forceO (o : Option Obj) (k : Option Obj → β) : β :=
  match o with
  | none => k none
  | some (.cells ⟨l⟩ e f) => forceL l fun l => k (some (.cells ⟨l⟩ e f))
  | some o => k (some o)
omit [Globs] in
omit [Holes] in
theorem forceO_eq (o : Option Obj) (k : Option Obj → β) : forceO o k = k o := by
  unfold forceO
  split <;> simp only [forceL_eq]
def forceT : Nat → Tree → Nat → (Tree → β) → β
  | 0, t, _, k => k t
  | n + 1, t, i, k => match t with
    | .leaf => k .leaf
    | .node l v r => cond (Nat.beq i 0) (forceO v fun v => k (.node l v r))
        (cond (Nat.beq (i % 2) 1) (forceT n l (i / 2) fun l => k (.node l v r)) (forceT n r (i / 2 - 1) fun r => k (.node l v r)))
omit [Globs] in
omit [Holes] in
theorem forceT_eq : ∀ (n : Nat) (t : Tree) (i : Nat) (k : Tree → β), forceT n t i k = k t := by
  intro n
  induction n with
  | zero => intro t i k; rfl
  | succ n ih =>
    intro t i k
    cases t with
    | leaf => rfl
    | node l v r =>
      simp only [forceT, ih, forceO_eq]
      cases Nat.beq i 0 <;> cases Nat.beq (i % 2) 1 <;> rfl
def forceTs : List Nat → Tree → (Tree → β) → β
  | [], t, k => k t
  | i :: l, t, k => forceT 40 t i fun t => forceTs l t k
omit [Globs] in
omit [Holes] in
theorem forceTs_eq : ∀ (l : List Nat) (t : Tree) (k : Tree → β), forceTs l t k = k t := by
  intro l
  induction l with
  | nil => intro t k; rfl
  | cons i l ih => intro t k; simp only [forceTs, forceT_eq, ih]
def forceH (l : List Nat) (h : Heap) (k : Heap → β) : β := forceN h.next fun n => forceTs l h.t fun t => k ⟨n, t⟩
omit [Globs] in
omit [Holes] in
theorem forceH_eq (l : List Nat) (h : Heap) (k : Heap → β) : forceH l h k = k h := by simp only [forceH, forceN_eq, forceTs_eq]

def lget : List Value → Nat → Value
  | [], _ => undef
  | v :: l, n => match n with
    | 0 => v
    | n + 1 => lget l n
omit [Globs] in
omit [Holes] in
theorem lget_eq : ∀ (l : List Value) (n : Nat), lget l n = (l[n]?).getD undef := by
  intro l
  induction l with
  | nil => intro n; rfl
  | cons v l ih => intro n; cases n <;> simp [lget, ih]
def aeval (a : Act) (x : Operand) : Value :=
  match x with
  | .tmp t => lget a.tmps.toList t
  | .const v => v
  | .global g => .pointer (some ⟨g, 0, none⟩)
  | .func f => .func (.func f) #[] #[]
omit [Globs] in
omit [Holes] in
theorem aeval_eq (a : Act) : aeval a = a.eval := by
  funext x
  cases x <;> first
    | rfl
    | (simp only [aeval, Act.eval, lget_eq, Array.getD_eq_getD_getElem?, Array.getElem?_toList])
def lset (l : List Value) (n : Nat) (v : Value) (k : List Value → β) : β :=
  match l with
  | [] => k []
  | w :: l => match n with
    | 0 => k (v :: l)
    | n + 1 => lset l n v fun l => k (w :: l)
omit [Globs] in
omit [Holes] in
theorem lset_eq (l : List Value) (n : Nat) (v : Value) (k : List Value → β) : lset l n v k = k (l.set n v) := by
  induction l generalizing n k with
  | nil => rfl
  | cons w l ih => cases n <;> simp [lset, ih]
def aput (a : Act) (d : Option Tmp) (v : Value) (k : Act → β) : β :=
  match d with
  | none => k a
  | some i => lset a.tmps.toList i v fun l => k { tmps := ⟨l⟩, defers := a.defers }
omit [Globs] in
omit [Holes] in
theorem aput_eq (a : Act) (d : Option Tmp) (v : Value) (k : Act → β) : aput a d v k = k (a.put d v) := by
  cases d with
  | none => rfl
  | some i =>
    simp only [aput, lset_eq, Act.put]
    congr 2
    apply Array.ext'
    simp
def forceAct (a : Act) (k : Act → β) : β := forceL a.tmps.toList fun l => k { tmps := ⟨l⟩, defers := a.defers }
omit [Globs] in
omit [Holes] in
theorem forceAct_eq (a : Act) (k : Act → β) : forceAct a k = k a := by simp only [forceAct, forceL_eq]
def lyield (ops : Array Oper) (l : List Value) (j : Nat) : Option Bool :=
  match (ops[j]?).bind (·.dst) with
  | some d => match lget l d with
    | .bool b => some b
    | _ => none
  | none => none
omit [Globs] in
omit [Holes] in
theorem lyield_eq (ops : Array Oper) (a : Array Value) : lyield ops a.toList = yielded ops a := by
  funext j
  unfold lyield yielded
  cases (ops[j]?).bind (·.dst) with
  | none => rfl
  | some d =>
    simp only [Option.bind_some, lget_eq, Array.getElem?_toList]
    cases a[d]? with
    | none => rfl
    | some v => cases v <;> rfl
def blkOf : Value → List Nat
  | .pointer (some a) => [a.block]
  | .slice (some a) _ _ => [a.block]
  | .map (some b) => [b]
  | _ => []
/-- The blocks that an operation may turn. -/
def turns (ev : Operand → Value) (o : Oper) : List Nat :=
  match o.op with
  | .store _ x _ => blkOf (ev x)
  | .next it _ => blkOf (ev it)
  | .mapUpdate _ m _ _ => blkOf (ev m)
  | .call { callee := .builtin .append, args, .. } => match args.toList with
    | x :: _ => blkOf (ev x)
    | [] => []
  | .call { callee := .builtin .copy, args, .. } => match args.toList with
    | x :: _ => blkOf (ev x)
    | [] => []
  | _ => []
end force

abbrev Rec := Cmd → Heap → Option (List Out)

def bindR {α : Type} (x : Option (List α)) (f : α → Option (List Out)) : Option (List Out) :=
  match x with
  | none => none
  | some os => bindO os f

def afterSeq (r : Rec) (rd : Option Nat) (y : Code) (o : Out) : Option (List Out) :=
  match o with
  | .at_ .normal a h => r (.code rd y a) h
  | .at_ e a h => some [.at_ e a h]
  | .val _ _ => none
def afterBlock (id : Nat) (o : Out) : Option (List Out) :=
  match o with
  | .at_ (.exit i) a h => if i = id then some [.at_ .normal a h] else some [.at_ (.exit i) a h]
  | .at_ e a h => some [.at_ e a h]
  | .val _ _ => none
def afterScope (o : Out) : Option (List Out) :=
  match o with
  | .at_ (.goto _) _ _ => none
  | .at_ e a h => some [.at_ e a h]
  | .val _ _ => none
def sCond (r : Rec) (rd : Option Nat) (c : Operand) (x y : Code) (a : Act) (h : Heap) : Option (List Out) :=
  if okOp c then (match aeval a c with
    | .bool true => r (.code rd x a) h
    | .bool false => r (.code rd y a) h
    | _ => none) else none
def afterLoop (P : Program) (r : Rec) (rd : Option Nat) (l : Nat) (a : Act) (o : Out) : Option (List Out) :=
  match o with
  | .val _ h3 => match arun P (Instr.endLoop l) h3 with
    | none => none
    | some (none, h4) => some [.at_ .normal a h4]
    | some (some c, h4) => r (.code rd c a) h4
  | _ => none
def sRange (P : Program) (r : Rec) (rd : Option Nat) (f : Operand) (ps : Array Tmp) (as b : Code) (a : Act) (h : Heap) : Option (List Out) :=
  if okOp f then (match arun P (Instr.enterLoop 0 a.tmps ps as b rd) h with
    | none => none
    | some ((l, mark), h1) => match acallV P (aeval a f) #[.func (.yield l) #[] #[]] h1 with
      | some (.enter g args, h2) => bindR (r (.call g args) h2) (afterLoop P r rd l { a with defers := mark ++ a.defers })
      | _ => none) else none
def sCode (P : Program) (r : Rec) (rd : Option Nat) (c : Code) (a : Act) (h : Heap) : Option (List Out) :=
  match c with
  | .skip => some [.at_ .normal a h]
  | .label _ => some [.at_ .normal a h]
  | .exit id => some [.at_ (.exit id) a h]
  | .ret => some [.at_ .ret a h]
  | .goto _ => none
  | .refuse _ => none
  | .seq x y => bindR (r (.code rd x a) h) (afterSeq r rd y)
  | .cond c x y => sCond r rd c x y a h
  | .block id b => bindR (r (.code rd b a) h) (afterBlock id)
  | .loop b => bindR (r (.code rd b a) h) (afterSeq r rd (.loop b))
  | .scope b => bindR (r (.code rd b a) h) afterScope
  | .region _ ops draw => if draw then (if (P.follows .mixedOrders && topo ops) = true then r (.draw rd ops 0 [] a) h else none) else r (.ops rd ops (List.range ops.size) a) h
  | .rangeFunc f ps as b => sRange P r rd f ps as b a h

def afterCall (r : Rec) (rd : Option Nat) (ops : Array Oper) (rest : List Nat) (a : Act) (dst : Option Tmp) (q : Out) : Option (List Out) :=
  match q with
  | .val v h2 => forceW v fun v => aput a dst v fun a => r (.ops rd ops rest a) h2
  | _ => none
def afterOp (r : Rec) (rd : Option Nat) (ops : Array Oper) (rest : List Nat) (a : Act) (dst : Option Tmp) (ks : List Nat) (p : Next × Heap) : Option (List Out) :=
  match p with
  | (.value v, h1) => forceH ks h1 fun h1 => forceW v fun v => aput a dst v fun a => r (.ops rd ops rest a) h1
  | (.skip, h1) => forceH ks h1 fun h1 => aput a dst undef fun a => r (.ops rd ops rest a) h1
  | (.enter f ⟨args⟩, h1) => forceL args fun args => bindR (r (.call f ⟨args⟩) h1) (afterCall r rd ops rest a dst)
  | (.round l _ tmps as b, h1) => bindR (r (.round l tmps as b) h1) (afterCall r rd ops rest a dst)
  | _ => none
def sOps (P : Program) (r : Rec) (rd : Option Nat) (ops : Array Oper) (l : List Nat) (a : Act) (h : Heap) : Option (List Out) :=
  match l with
  | [] => some [.at_ .normal a h]
  | i :: rest => match ops[i]? with
    | none => r (.ops rd ops rest a) h
    | some o => if Region.wanted o (lyield ops a.tmps.toList) then bindR (aop P (aeval a) o h) (afterOp r rd ops rest a o.dst (h.next :: turns (aeval a) o))
      else aput a o.dst undef fun a => r (.ops rd ops rest a) h

/-! a region that draws -/
def afterCallD (r : Rec) (nx : Act → Cmd) (a : Act) (dst : Option Tmp) (q : Out) : Option (List Out) :=
  match q with
  | .val v h2 => r (nx (a.put dst v)) h2
  | _ => none
def afterOpD (r : Rec) (nx : Act → Cmd) (a : Act) (dst : Option Tmp) (p : Next × Heap) : Option (List Out) :=
  match p with
  | (.value v, h1) => r (nx (a.put dst v)) h1
  | (.skip, h1) => r (nx (a.put dst undef)) h1
  | (.enter f args, h1) => bindR (r (.call f args) h1) (afterCallD r nx a dst)
  | (.round l _ tmps as b, h1) => bindR (r (.round l tmps as b) h1) (afterCallD r nx a dst)
  | _ => none
def sHeavy (P : Program) (r : Rec) (rd : Option Nat) (ops : Array Oper) (s : DS) (j : Nat) : Option (List Out) :=
  match ops[j]? with
  | none => none
  | some o => if Region.wanted o (yielded ops s.a.tmps) = true then bindR (aop P s.a.eval o s.h) (afterOpD r (fun a => .draw rd ops (addBit s.D j) (leftOver ops j s.pend) a) s.a o.dst)
    else r (.draw rd ops (addBit s.D j) (leftOver ops j s.pend) (s.a.put o.dst undef)) s.h
def sDraw (P : Program) (r : Rec) (rd : Option Nat) (ops : Array Oper) (D : Nat) (pend : List Pd) (a : Act) (h : Heap) : Option (List Out) :=
  match closeAll P ops (List.range ops.size) ⟨D, pend, a, h⟩ with
  | none => none
  | some s => if s.pend.all (recheckOne P ops s.a s.h) = true then
      (match cand ops s.D with
      | [] => some [.at_ .normal s.a s.h]
      | [j] => sHeavy P r rd ops s j
      | _ => none)
    else none

def afterBody (P : Program) (fn : Func) (o : Out) : Option (List Out) :=
  match o with
  | .at_ .normal a' h' => leave P fn a' h'
  | .at_ .ret a' h' => leave P fn a' h'
  | _ => none
def sCall (P : Program) (S : Sums) (r : Rec) (f : FuncId) (args : Array Value) (h : Heap) : Option (List Out) :=
  match S f args h with
  | some os => some os
  | none => match P.funcs[f]? with
    | none => none
    | some fn => match fn.body with
      | none => none
      | some c => forceAct { tmps := args ++ Array.replicate (fn.ntmps - args.size) undef, defers := [] } fun a => bindR (r (.code none c a) h) (afterBody P fn)

def afterRound (P : Program) (l : Nat) (o2 : Out) : Option (List Out) :=
  match o2 with
  | .at_ e _ h3 => match jumpOf e with
    | none => none
    | some j => match arun P (Instr.endRound l j) h3 with
      | some (v, h4) => some [.val v h4]
      | none => none
  | _ => none
def afterAssign (P : Program) (r : Rec) (l : Nat) (b : Code) (o : Out) : Option (List Out) :=
  match o with
  | .at_ .normal a1 h1 => match arun P (Instr.beginRound l) h1 with
    | none => none
    | some (_, h2) => bindR (r (.code (some l) b a1) h2) (afterRound P l)
  | _ => none
def sRound (P : Program) (r : Rec) (l : Nat) (tmps : Array Value) (as b : Code) (h : Heap) : Option (List Out) :=
  forceAct { tmps, defers := [] } fun a => bindR (r (.code (some l) as a) h) (afterAssign P r l b)

def step (P : Program) (S : Sums) (r : Rec) (c : Cmd) (h : Heap) : Option (List Out) :=
  match c with
  | .code rd c a => sCode P r rd c a h
  | .ops rd ops l a => sOps P r rd ops l a h
  | .call f args => sCall P S r f args h
  | .round l tmps as b => sRound P r l tmps as b h
  | .draw rd ops D pend a => sDraw P r rd ops D pend a h

def ev (P : Program) (S : Sums) : Nat → Rec
  | 0 => fun _ _ => none
  | n + 1 => step P S (ev P S n)

/-! ### soundness -/
def fence : Option Nat → Fence
  | none => Fence.wide
  | some l => Fence.wide.inRound l

def RdRel (ρ : Emb) (rd rd' : Option Nat) : Prop := (rd = none ∧ rd' = none) ∨ ∃ l l' L, rd = some l ∧ rd' = some l' ∧ ρ l = some L ∧ L.blk = l'
omit [Globs] in
omit [Holes] in
theorem RdRel.mono {ρ σ : Emb} (hle : ρ.le σ) {rd rd' : Option Nat} (h : RdRel ρ rd rd') : RdRel σ rd rd' := by
  rcases h with h | ⟨l, l', L, h1, h2, h3, h4⟩
  · exact .inl h
  · exact .inr ⟨l, l', L, h1, h2, hle _ _ h3, h4⟩

def AR (ρ : Emb) (a a' : Act) : Prop := ActRel ρ a a' ∧ All2 (DfRel ρ) a.defers a'.defers
omit [Globs] in
theorem AR.mono {ρ σ : Emb} (hle : ρ.le σ) {a a' : Act} (h : AR ρ a a') : AR σ a a' := ⟨VsRel.mono hle h.1, h.2.mono fun _ _ h => h.mono hle⟩
omit [Globs] in
theorem AR.put {ρ : Emb} {a a' : Act} (h : AR ρ a a') {v v' : Value} (hv : VRel ρ v v') (d : Option Tmp) : AR ρ (a.put d v) (a'.put d v') :=
  ⟨put_rel h.1 hv d, by cases d <;> exact h.2⟩

def Acc (F : Facts) (ρ : Emb) (outs : List Out) (Q : Exit → Act → World → Prop) : Prop :=
  ∀ e a h, Out.at_ e a h ∈ outs → ∀ σ a' w', ρ.le σ → Inv F σ h w' → AR σ a a' → Q e a' w'
def AccV (F : Facts) (ρ : Emb) (outs : List Out) (R : Value → World → Prop) : Prop :=
  ∀ v h, Out.val v h ∈ outs → ∀ σ v' w', ρ.le σ → Inv F σ h w' → VRel σ v v' → R v' w'
theorem Acc.mono {F : Facts} {ρ σ : Emb} (hle : ρ.le σ) {outs : List Out} {Q : Exit → Act → World → Prop} (h : Acc F ρ outs Q) : Acc F σ outs Q :=
  fun e a hp hm τ a' w' hl => h e a hp hm τ a' w' (Emb.le_trans hle hl)
theorem AccV.mono {F : Facts} {ρ σ : Emb} (hle : ρ.le σ) {outs : List Out} {R : Value → World → Prop} (h : AccV F ρ outs R) : AccV F σ outs R :=
  fun e a hm τ a' w' hl => h e a hm τ a' w' (Emb.le_trans hle hl)
theorem Acc.sub {F : Facts} {ρ : Emb} {outs outs' : List Out} {Q : Exit → Act → World → Prop} (h : Acc F ρ outs Q) (hs : ∀ y ∈ outs', y ∈ outs) : Acc F ρ outs' Q := fun e a hp hm => h e a hp (hs _ hm)
theorem AccV.sub {F : Facts} {ρ : Emb} {outs outs' : List Out} {R : Value → World → Prop} (h : AccV F ρ outs R) (hs : ∀ y ∈ outs', y ∈ outs) : AccV F ρ outs' R := fun v hp hm => h v hp (hs _ hm)

def retPost (R : Value → World → Prop) : Ending → World → Prop
  | .returned v, w => R v w
  | _, _ => False

def SumsOk (P : Program) (S : Sums) : Prop := ∀ f args h outs, S f args h = some outs → ∀ F ρ w args' R, Inv F ρ h w → VsRel ρ args args' → AccV F ρ outs R → CallsIn Fence.wide 0 P f args' w (retPost R)

def Sound (P : Program) (F : Facts) (ρ : Emb) (w : World) (outs : List Out) (n : Nat) : Cmd → Prop
  | .code rd c a => ∀ rd' a' Q, RdRel ρ rd rd' → AR ρ a a' → Acc F ρ outs Q → c.wpIn (fence rd') 0 P Q a' w ∧ ∀ b, c = .loop b → Code.roundsIn (fence rd') 0 P b Q n a' w
  | .ops rd ops l a => ∀ rd' a' Q, RdRel ρ rd rd' → AR ρ a a' → Acc F ρ outs Q → wpOpsIn (fence rd') 0 P ops Q l a' w
  | .call f args => ∀ args' R, VsRel ρ args args' → AccV F ρ outs R → CallsIn Fence.wide 0 P f args' w (retPost R)
  | .round l tmps as b => ∀ l' tmps' f R, (∃ L, ρ l = some L ∧ L.blk = l') → VsRel ρ tmps tmps' → AccV F ρ outs R → RoundIn Fence.wide 0 P l' f tmps' as b w (retPost R)
  | .draw rd ops D pend a => ∀ rd' Q listed b G fuel, topo ops = true → RdRel ρ rd rd' → DJ ops D pend a G F ρ listed b → Acc { F with unborn := G } ρ outs Q → unl listed ≤ fuel → wpAnyIn (fence rd') 0 P .any ops Q fuel listed b w

section scope
variable {F : Fence} {n : Nat} {P : Program} {Q : Exit → Act → World → Prop} {a : Act} {w : World} {b : Frame} {k : List Item} {cs : List Frame}
omit [Globs] in
omit [Holes] in
theorem stepR_scope {c : Code} : Go.step P (lone (b.atR a (.code (.scope c) :: k)) cs w) = .next (lone (b.atR a (.code c :: .inScope c :: k)) cs w) :=
  step_lone_go (by simp [stepG, stepG.exec, Frame.atR])
omit [Globs] in
omit [Holes] in
theorem stepR_inScope {c : Code} : Go.step P (lone (b.atR a (.inScope c :: k)) cs w) = .next (lone (b.atR a k) cs w) :=
  step_lone_go (by simp [stepG, stepG.exec, Frame.atR])
omit [Globs] in
omit [Holes] in
theorem wpIn_scope_straight {c : Code} (h : c.wpIn F n P (Exit.noGoto Q) a w) : (Code.scope c).wpIn F n P Q a w := by
  intro b k cs hro hb hr
  have h0 : (lone (b.atR a (.code (.scope c) :: k)) cs w).fenced P F := fenced_calm hb hr rfl
  obtain ⟨e, a₁, w₁, hq, harr⟩ := h b (.inScope c :: k) cs hro hb hr
  cases e with
  | normal => exact ⟨.normal, a₁, w₁, hq, .head h0 stepR_scope (StepsIn.trans harr (.one (fenced_calm hb hr rfl) stepR_inScope))⟩
  | exit id =>
    have hx : exitTo id (.inScope c :: k) = exitTo id k := by simp [exitTo]
    exact ⟨.exit id, a₁, w₁, hq, fun k' hk => .head h0 stepR_scope (harr.1 k' (by rw [hx]; exact hk)),
      fun hr' hk => let ⟨k₁, h1, h2⟩ := harr.2 hr' (by rw [hx]; exact hk); ⟨k₁, h1, .head h0 stepR_scope h2⟩⟩
  | goto l => exact hq.elim
  | ret => exact ⟨_, a₁, w₁, hq, .of_steps (.one h0 stepR_scope) harr⟩
  | panic ch => exact ⟨_, a₁, w₁, hq, .of_steps (.one h0 stepR_scope) harr⟩
  | outgrown => exact ⟨_, a₁, w₁, hq, .of_steps (.one h0 stepR_scope) harr⟩
end scope

section
variable {P : Program}

omit [Globs] in
omit [Holes] in
theorem fence_depth (rd : Option Nat) : (fence rd).depth = none := by cases rd <;> rfl
omit [Globs] in
omit [Holes] in
theorem fence_fn (rd : Option Nat) (f : FuncId) : (fence rd).fn f := by cases rd <;> trivial
omit [Globs] in
omit [Holes] in
theorem fence_deep (rd : Option Nat) : (fence rd).depth.isSome = true → 1 ≤ 0 := by rw [fence_depth]; simp
omit [Globs] in
omit [Holes] in
theorem calls_fence {rd : Option Nat} {n : Nat} {f : FuncId} {args : Array Value} {w : World} {R : Ending → World → Prop} (h : CallsIn Fence.wide n P f args w R) : CallsIn (fence rd) n P f args w R := by
  cases rd <;> exact h
omit [Globs] in
omit [Holes] in
theorem round_fence {rd : Option Nat} {n l : Nat} {f : FuncId} {tmps : Array Value} {as b : Code} {w : World} {R : Ending → World → Prop} (h : RoundIn Fence.wide n P l f tmps as b w R) : RoundIn (fence rd) n P l f tmps as b w R := by
  cases rd <;> exact h

omit [Globs] in
theorem yielded_rel {ρ : Emb} {ops : Array Oper} {a a' : Act} (h : ActRel ρ a a') : yielded ops a'.tmps = yielded ops a.tmps := by
  funext j
  unfold yielded
  cases hd : (ops[j]?).bind (·.dst) with
  | none => rfl
  | some d =>
    simp only [Option.bind_some]
    cases ha : a.tmps[d]? with
    | none => rw [VsRel.get_none h ha]
    | some v =>
      obtain ⟨v', hv', hr⟩ := VsRel.get h ha
      rw [hv']
      cases hr with
      | hole k h _ => cases v' <;> first | rfl | exact absurd h Bool.false_ne_true
      | _ => rfl

theorem simq_results {ρ : Emb} (fn : Func) {xs ys : Array Value} (hx : VsRel ρ xs ys) : SimQ P VRel ρ (results fn xs) (results fn ys) := by
  unfold results
  refine (simq_arrayMapM (R := VRel) (fun _ _ _ _ hle h => h.mono hle) fn.results fun r _ σ hle => ?_).bind fun σ _ bs cs h => SimQ.pure ?_
  · cases r with
    | tmp t => exact SimQ.pure ((hx.mono hle).getD t)
    | cell a t => exact (simq_asAddr ((hx.mono hle).getD a)).bind fun τ _ x y hxy => simq_loadVar t hxy
  · have hvs : VsRel σ bs cs := by
      have := h.vs
      simpa using this
    by_cases hb : bs.size = 1
    · have hc : cs.size = 1 := by rw [← hvs.1]; exact hb
      rw [dif_pos hb, dif_pos hc]
      exact hvs.2 0 _ _ (Array.getElem?_eq_getElem (by omega)) (Array.getElem?_eq_getElem (by omega))
    · have hc : ¬ cs.size = 1 := by rw [← hvs.1]; exact hb
      rw [dif_neg hb, dif_neg hc]
      exact .tuple hvs.1 hvs.2

/-- A function's end is sound. -/
theorem leave_sound {fn : Func} {a a' : Act} {F : Facts} {ρ : Emb} {h : Heap} {w : World} (i : Inv F ρ h w) (hr : AR ρ a a') {outs : List Out} (e : leave P fn a h = some outs) {R : Value → World → Prop} (hR : AccV F ρ outs R) :
    LeavesInM Fence.wide 0 P fn a'.tmps (retPost R) a'.defers .returning w := by
  unfold leave at e
  have key : ∀ (ds ds' : List Deferred) (ρ : Emb) (h : Heap) (w : World) (outs : List Out), Inv F ρ h w → ActRel ρ a a' → All2 (DfRel ρ) ds ds' →
      (match takeAll P ds h with
        | some h1 => match arun P (results fn a.tmps) h1 with
          | some (v, _) => some [Out.val v h1]
          | none => none
        | none => none) = some outs → AccV F ρ outs R → LeavesInM Fence.wide 0 P fn a'.tmps (retPost R) ds' .returning w := by
    intro ds
    induction ds with
    | nil =>
      intro ds' ρ h w outs i hra hd e hR
      cases hd
      simp only [takeAll] at e
      split at e
      · rename_i v h₂ hres
        simp only [Option.some.injEq] at e
        subst e
        obtain ⟨b, hrun, _, hv⟩ := simq_results fn hra F h w v h₂ i hres
        exact ⟨b, hrun, hR v h (List.mem_singleton.2 rfl) ρ b w (Emb.le_refl _) i hv⟩
      · exact absurd e (by simp)
    | cons d ds ih =>
      intro ds' ρ h w outs i hra hd e hR
      cases hd with
      | @cons _ d' _ ds' hdd hds =>
      obtain ⟨r, r', L, rfl, rfl, hL, hL'⟩ := hdd
      simp only [takeAll] at e
      cases ht : arun P (Instr.takeDeferred r) h with
      | none => simp [ht] at e
      | some p =>
        obtain ⟨x, h'⟩ := p
        rw [ht] at e
        obtain ⟨σ, b, w1, hrun, hle, i1, _, rfl⟩ := sim_takeDeferred hL hL' F h w x h' i ht
        exact ⟨by simp, .inl ⟨r', w1, rfl, hrun, ih ds' σ h' w1 outs i1 (VsRel.mono hle hra) (hds.mono fun _ _ h => h.mono hle) e (hR.mono hle)⟩⟩
  exact key a.defers a'.defers ρ h w outs i hr.1 hr.2 e hR

omit [Globs] in
omit [Holes] in
theorem ofValue_split {f : Value} {args : Array Value} {w : World} {nx : Next} {w₁ : World} (h : (do let d ← Deferred.ofValue f args; invoke d.target d.args : Sem Next).run P w = .ok nx w₁) :
    ∃ d, (Deferred.ofValue f args).run P w = .ok d w ∧ (invoke d.target d.args).run P w = .ok nx w₁ := by
  cases f <;> first
    | (simp [Deferred.ofValue] at h; done)
    | exact ⟨_, rfl, by simpa [Deferred.ofValue] using h⟩

set_option maxHeartbeats 4000000 in
theorem ev_sound (hN : NamesOk P) {S : Sums} (hS : SumsOk P S) : ∀ (n : Nat) (cmd : Cmd) (h : Heap) (outs : List Out), ev P S n cmd h = some outs → ∀ F ρ w, Inv F ρ h w → Sound P F ρ w outs n cmd := by
  intro n
  induction n with
  | zero => intro cmd h outs e; simp [ev] at e
  | succ n ih =>
    intro cmd h outs e F ρ w i
    cases cmd with
    | draw rd ops D pend a =>
      intro rd' Q listed b G fuel ht hrd J hQ hu
      simp only [ev, step, sDraw] at e
      split at e
      · exact absurd e (by simp)
      rename_i s hs
      split at e
      rotate_left
      · exact absurd e (by simp)
      rename_i hrec
      obtain ⟨F1, i1, J1, hF1⟩ := DJ.closeAll (s := ⟨D, pend, a, h⟩) (List.range ops.size) J i hs
      refine stage (fun f => fence_fn rd' f) ht (fun p hp => List.all_eq_true.1 hrec p hp) (F₀ := F) (ρ₀ := ρ) ?_ ?_ fuel F1 ρ listed b w (Emb.le_refl _) i1 hF1 J1 hu
      · intro hc σ w2 b2 hle i2 hact hdef
        rw [hc] at e
        simp only [Option.some.injEq] at e
        subst e
        exact hQ _ _ _ (List.mem_singleton.2 rfl) σ b2 w2 hle i2 ⟨hact, hdef⟩
      · intro j hj F2 σ listed2 b2 w2 fuel2 o hle i2 hF2 J2 ho hr hD hn hu2
        split at e
        · rename_i hc; rw [hc] at hj; exact absurd hj (by simp)
        rotate_left
        · exact absurd e (by simp)
        rename_i j' hc
        rw [hc] at hj
        obtain rfl := List.mem_singleton.1 hj
        have hlt : j < listed2.size := by rw [J2.size]; exact (Array.getElem?_eq_some_iff.1 ho).1
        have hu3 : unl (listed2.setIfInBounds j true) ≤ fuel2 := by have := unl_set hlt hn; omega
        simp only [sHeavy, ho] at e
        unfold wpOpIn
        rw [ho]
        simp only
        rw [J2.wanted ho hr]
        split at e
        · rename_i hw
          rw [if_pos hw]
          simp only [bindR] at e
          split at e
          · exact absurd e (by simp)
          rename_i l hl
          have hns := aop_noSelect hl
          have hnd := aop_noDefer hl
          rw [← aop_congr (J2.operands ho hr s.a)] at hl
          obtain ⟨out, hmem, τ, nx, w3, hrun, hle3, i3, hR⟩ := aop_sound hN J2.act i2 hl
          rw [J2.exec ho hr hns] at hrun
          refine ⟨fun f _ => fence_fn _ _, ?_⟩
          rw [Oper.semAt_plain _ _ _ hnd, hrun]
          obtain ⟨xs, hxs, hsub⟩ := bindO_mem e _ hmem
          have hQ3 : Acc { F2 with unborn := G } τ xs Q := by rw [hF2]; exact (hQ.sub hsub).mono (Emb.le_trans hle hle3)
          have hrd3 := hrd.mono (Emb.le_trans hle hle3)
          obtain ⟨nx0, h1⟩ := out
          simp only [afterOpD, bindR] at hR i3 hxs
          cases nx0 <;> cases nx <;> first | exact hR.elim | skip
          · exact ih _ _ _ hxs F2 τ w3 i3 rd' Q _ _ G fuel2 ht hrd3 (J2.heavy ho hr hD hle3 hR) hQ3 hu3
          · exact ih _ _ _ hxs F2 τ w3 i3 rd' Q _ _ G fuel2 ht hrd3 (J2.heavy ho hr hD hle3 .undef) hQ3 hu3
          · -- a call
            rename_i f args f' args'
            obtain ⟨rfl, hargs⟩ := hR
            simp only at hxs
            split at hxs
            · exact absurd hxs (by simp)
            rename_i os hos
            refine ⟨fence_deep _, calls_fence ((ih _ _ _ hos F2 τ w3 i3 args' (fun v w2 => wpAnyIn (fence rd') 0 P .any ops Q fuel2 (listed2.setIfInBounds j true) (b2.put o.dst v) w2) hargs ?_).mono ?_)⟩
            · intro v h2 hm φ v' w4 hle4 i4 hv
              obtain ⟨ys, hys, hsub2⟩ := bindO_mem hxs _ hm
              simp only [afterCallD] at hys
              exact ih _ _ _ hys F2 φ w4 i4 rd' Q _ _ G fuel2 ht (hrd3.mono hle4) (J2.heavy ho hr hD (Emb.le_trans hle3 hle4) hv) ((hQ3.sub hsub2).mono hle4) hu3
            · intro en w5 hp
              cases en with
              | returned v => exact hp
              | panicked c => exact hp.elim
              | outgrown => exact hp.elim
          · -- a round
            rename_i l0 f0 tmps as bb l1 f1 tmps1 as1 b1
            obtain ⟨hl0, htm, rfl, rfl⟩ := hR
            simp only at hxs
            split at hxs
            · exact absurd hxs (by simp)
            rename_i os hos
            refine ⟨fence_deep _, round_fence ((ih _ _ _ hos F2 τ w3 i3 l1 tmps1 f1 (fun v w2 => wpAnyIn (fence rd') 0 P .any ops Q fuel2 (listed2.setIfInBounds j true) (b2.put o.dst v) w2) hl0 htm ?_).mono ?_)⟩
            · intro v h2 hm φ v' w4 hle4 i4 hv
              obtain ⟨ys, hys, hsub2⟩ := bindO_mem hxs _ hm
              simp only [afterCallD] at hys
              exact ih _ _ _ hys F2 φ w4 i4 rd' Q _ _ G fuel2 ht (hrd3.mono hle4) (J2.heavy ho hr hD (Emb.le_trans hle3 hle4) hv) ((hQ3.sub hsub2).mono hle4) hu3
            · intro en w5 hp
              cases en with
              | returned v => exact hp
              | panicked c => exact hp.elim
              | outgrown => exact hp.elim
        · rename_i hw
          rw [if_neg hw]
          exact ⟨fun f _ => fence_fn _ _, ih _ _ _ e F2 σ w2 i2 rd' Q _ _ G fuel2 ht (hrd.mono hle) (J2.heavy ho hr hD (Emb.le_refl _) .undef) (by rw [hF2]; exact hQ.mono hle) hu3⟩
    | code rd c a =>
      intro rd' a' Q hrd har hQ
      simp only [ev, step] at e
      cases c with
      | skip =>
        refine ⟨?_, fun _ hb => by cases hb⟩
        simp only [sCode, bindR, sCond, sRange, aeval_eq] at e
        simp only [Option.some.injEq] at e
        subst e
        exact wpIn_skip (hQ _ _ _ (List.mem_singleton.2 rfl) ρ a' w (Emb.le_refl _) i har)
      | label l =>
        refine ⟨?_, fun _ hb => by cases hb⟩
        simp only [sCode, bindR, sCond, sRange, aeval_eq] at e
        simp only [Option.some.injEq] at e
        subst e
        exact wpIn_label (hQ _ _ _ (List.mem_singleton.2 rfl) ρ a' w (Emb.le_refl _) i har)
      | exit id =>
        refine ⟨?_, fun _ hb => by cases hb⟩
        simp only [sCode, bindR, sCond, sRange, aeval_eq] at e
        simp only [Option.some.injEq] at e
        subst e
        exact wpIn_exit (hQ _ _ _ (List.mem_singleton.2 rfl) ρ a' w (Emb.le_refl _) i har)
      | ret =>
        refine ⟨?_, fun _ hb => by cases hb⟩
        simp only [sCode, bindR, sCond, sRange, aeval_eq] at e
        simp only [Option.some.injEq] at e
        subst e
        exact wpIn_ret (hQ _ _ _ (List.mem_singleton.2 rfl) ρ a' w (Emb.le_refl _) i har)
      | goto l => simp [sCode] at e
      | refuse s => simp [sCode] at e
      | scope b =>
        refine ⟨?_, fun _ hb => by cases hb⟩
        simp only [sCode, bindR, sCond, sRange, aeval_eq] at e
        split at e
        · exact absurd e (by simp)
        rename_i os hx
        refine wpIn_scope_straight (ih _ _ _ hx F ρ w i rd' a' _ hrd har ?_).1
        intro ex a1 h1 hm σ a2 w2 hle i2 har2
        obtain ⟨xs, hxs, hsub⟩ := bindO_mem e _ hm
        have hQ2 := (hQ.sub hsub).mono hle
        cases ex with
        | goto l => simp [afterScope] at hxs
        | _ =>
          simp only [afterScope, Option.some.injEq] at hxs
          subst hxs
          exact hQ2 _ _ _ (List.mem_singleton.2 rfl) σ a2 w2 (Emb.le_refl _) i2 har2
      | seq x y =>
        refine ⟨?_, fun _ hb => by cases hb⟩
        simp only [sCode, bindR, sCond, sRange, aeval_eq] at e
        split at e
        · exact absurd e (by simp)
        rename_i os hx
        refine wpIn_seq (ih _ _ _ hx F ρ w i rd' a' _ hrd har ?_).1
        intro ex a1 h1 hm σ a2 w2 hle i2 har2
        obtain ⟨xs, hxs, hsub⟩ := bindO_mem e _ hm
        simp only [afterSeq] at hxs
        have hQ2 := (hQ.sub hsub).mono hle
        cases ex with
        | normal => exact (ih _ _ _ hxs F σ w2 i2 rd' a2 Q (hrd.mono hle) har2 hQ2).1
        | _ =>
          simp only [Option.some.injEq] at hxs
          subst hxs
          exact hQ2 _ _ _ (List.mem_singleton.2 rfl) σ a2 w2 (Emb.le_refl _) i2 har2
      | cond c x y =>
        refine ⟨?_, fun _ hb => by cases hb⟩
        simp only [sCode, bindR, sCond, sRange, aeval_eq] at e
        split at e
        rotate_left
        · exact absurd e (by simp)
        rename_i hc
        have hv := eval_rel i.glob har.1 hc
        split at e
        · rename_i hb
          rw [hb] at hv
          generalize hb' : a'.eval c = c' at hv
          cases hv
          exact wpIn_cond hb' (ih _ _ _ e F ρ w i rd' a' Q hrd har hQ).1
        · rename_i hb
          rw [hb] at hv
          generalize hb' : a'.eval c = c' at hv
          cases hv
          exact wpIn_cond hb' (ih _ _ _ e F ρ w i rd' a' Q hrd har hQ).1
        · exact absurd e (by simp)
      | block id b =>
        refine ⟨?_, fun _ hb => by cases hb⟩
        simp only [sCode, bindR, sCond, sRange, aeval_eq] at e
        split at e
        · exact absurd e (by simp)
        rename_i os hx
        refine wpIn_block (ih _ _ _ hx F ρ w i rd' a' _ hrd har ?_).1
        intro ex a1 h1 hm σ a2 w2 hle i2 har2
        obtain ⟨xs, hxs, hsub⟩ := bindO_mem e _ hm
        simp only [afterBlock] at hxs
        have hQ2 := (hQ.sub hsub).mono hle
        cases ex with
        | exit j =>
          simp only at hxs
          show Exit.inBlock id Q (.exit j) a2 w2
          unfold Exit.inBlock
          split at hxs
          · rename_i hj
            simp only [Option.some.injEq] at hxs
            subst hxs
            simp only [hj, if_true]
            exact hQ2 _ _ _ (List.mem_singleton.2 rfl) σ a2 w2 (Emb.le_refl _) i2 har2
          · rename_i hj
            simp only [Option.some.injEq] at hxs
            subst hxs
            simp only [hj, if_false]
            exact hQ2 _ _ _ (List.mem_singleton.2 rfl) σ a2 w2 (Emb.le_refl _) i2 har2
        | _ =>
          simp only [Option.some.injEq] at hxs
          subst hxs
          exact hQ2 _ _ _ (List.mem_singleton.2 rfl) σ a2 w2 (Emb.le_refl _) i2 har2
      | loop b =>
        simp only [sCode, bindR] at e
        split at e
        · exact absurd e (by simp)
        rename_i os hx
        suffices hr : Code.roundsIn (fence rd') 0 P b Q (n + 1) a' w from ⟨wpIn_loop_rounds (n + 1) hr, fun b' hb => by cases hb; exact hr⟩
        refine (ih _ _ _ hx F ρ w i rd' a' _ hrd har ?_).1
        intro ex a1 h1 hm σ a2 w2 hle i2 har2
        obtain ⟨xs, hxs, hsub⟩ := bindO_mem e _ hm
        simp only [afterSeq] at hxs
        have hQ2 := (hQ.sub hsub).mono hle
        cases ex with
        | normal => exact (ih _ _ _ hxs F σ w2 i2 rd' a2 Q (hrd.mono hle) har2 hQ2).2 b rfl
        | _ =>
          simp only [Option.some.injEq] at hxs
          subst hxs
          exact hQ2 _ _ _ (List.mem_singleton.2 rfl) σ a2 w2 (Emb.le_refl _) i2 har2
      | region id ops draw =>
        refine ⟨?_, fun _ hb => by cases hb⟩
        simp only [sCode, bindR, sCond, sRange, aeval_eq] at e
        split at e
        · rename_i hd
          subst hd
          split at e
          rotate_left
          · exact absurd e (by simp)
          rename_i hc
          simp only [Bool.and_eq_true] at hc
          refine wpIn_region_any hc.1 (ih _ _ _ e F ρ _ (i.drawn _) rd' Q _ _ F.unborn ops.size hc.2 hrd (DJ.start har.1 har.2) hQ ?_)
          exact Nat.le_of_eq (unl_start _)
        · rename_i hd
          have : draw = false := by simpa using hd
          subst this
          exact wpIn_region (ih _ _ _ e F ρ w i rd' a' Q hrd har hQ)
      | rangeFunc f ps as b =>
        refine ⟨?_, fun _ hb => by cases hb⟩
        simp only [sCode, bindR, sCond, sRange, aeval_eq] at e
        split at e
        rotate_left
        · exact absurd e (by simp)
        rename_i hf
        split at e
        · exact absurd e (by simp)
        rename_i l mark h1 hent
        split at e
        rotate_left
        · exact absurd e (by simp)
        rename_i g args h2 hcall
        split at e
        · exact absurd e (by simp)
        rename_i os hos
        refine wpIn_rangeFunc fun fn hfn => ?_
        have hrd2 : (rd = none ∧ (fence rd').round = none) ∨ ∃ l l' L, rd = some l ∧ (fence rd').round = some l' ∧ ρ l = some L ∧ L.blk = l' := by
          rcases hrd with ⟨r1, r2⟩ | ⟨l, l', L, r1, r2, r3, r4⟩
          · exact .inl ⟨r1, by rw [r2]; rfl⟩
          · exact .inr ⟨l, l', L, r1, by rw [r2]; rfl, r3, r4⟩
        obtain ⟨σ, p, w1, hrun1, hle1, i1, hR1⟩ := sim_enterLoop 0 fn har.1 ps as b hrd2 F h w _ _ i hent
        obtain ⟨l', mark'⟩ := p
        obtain ⟨⟨L, hL, hL'⟩, hmark⟩ := hR1
        simp only at hL hL' hmark
        have hyield : VsRel σ #[.func (.yield l) #[] #[]] #[.func (.yield l') #[] #[]] :=
          VsRel.push (xs := #[]) (ys := #[]) .empty (.func ⟨L, hL, hL'⟩ rfl (by simp) rfl (by simp))
        obtain ⟨τ, nx, w2, hrun2, hle2, i2, hR2⟩ := acallV_sound hN ((eval_rel i.glob har.1 hf).mono hle1) hyield 0 F h1 w1 _ _ i1 hcall
        cases nx <;> simp only [NextRel] at hR2
        rename_i g' args'
        obtain ⟨rfl, hargs⟩ := hR2
        obtain ⟨d, hd1, hd2⟩ := ofValue_split hrun2
        refine ⟨l', mark', w1, d, w1, g, args', w2, hrun1, ?_, fun f' _ => fence_fn _ _, hd2, fence_deep _, ?_⟩
        · simp only [resolve, rangeCall, List.map_toArray, List.map_cons, List.map_nil]
          exact hd1
        · refine calls_fence ((ih _ _ _ hos F τ w2 i2 args' (fun _ w₃ => rangePost (fence rd') 0 P l' Q { a' with defers := mark' ++ a'.defers } (.returned undef) w₃) hargs ?_).mono ?_)
          · intro v h3 hm υ v' w3 hle3 i3 _
            obtain ⟨xs, hxs, hsub⟩ := bindO_mem e _ hm
            simp only [afterLoop] at hxs
            have hle03 := Emb.le_trans hle1 (Emb.le_trans hle2 hle3)
            split at hxs
            · exact absurd hxs (by simp)
            · rename_i h4 hend
              simp only [Option.some.injEq] at hxs
              subst hxs
              obtain ⟨φ, j, w4, hrun4, hle4, i4, hj⟩ := sim_endLoop (hle3 _ _ (hle2 _ _ hL)) hL' F h3 w3 _ _ i3 hend
              subst hj
              refine ⟨none, w4, hrun4, ?_⟩
              refine hQ _ _ _ (hsub _ (List.mem_singleton.2 rfl)) φ _ w4 (Emb.le_trans hle03 hle4) i4 ⟨VsRel.mono (Emb.le_trans hle03 hle4) har.1, ?_⟩
              refine All2.append ?_ (har.2.mono fun _ _ h => h.mono (Emb.le_trans hle03 hle4))
              exact hmark.mono fun _ _ h => h.mono (Emb.le_trans hle2 (Emb.le_trans hle3 hle4))
            · rename_i c h4 hend
              obtain ⟨φ, j, w4, hrun4, hle4, i4, hj⟩ := sim_endLoop (hle3 _ _ (hle2 _ _ hL)) hL' F h3 w3 _ _ i3 hend
              subst hj
              refine ⟨some c, w4, hrun4, ?_⟩
              refine (ih _ _ _ hxs F φ w4 i4 rd' { a' with defers := mark' ++ a'.defers } Q (hrd.mono (Emb.le_trans hle03 hle4)) ⟨VsRel.mono (Emb.le_trans hle03 hle4) har.1, ?_⟩ ((hQ.sub hsub).mono (Emb.le_trans hle03 hle4))).1
              refine All2.append ?_ (har.2.mono fun _ _ h => h.mono (Emb.le_trans hle03 hle4))
              exact hmark.mono fun _ _ h => h.mono (Emb.le_trans hle2 (Emb.le_trans hle3 hle4))
          · intro en w3 hp
            cases en with
            | returned v => exact hp
            | panicked c => exact hp.elim
            | outgrown => exact hp.elim
    | ops rd ops l a =>
      intro rd' a' Q hrd har hQ
      cases l with
      | nil =>
        simp only [ev, step, sOps, Option.some.injEq] at e
        subst e
        exact hQ _ _ _ (List.mem_singleton.2 rfl) ρ a' w (Emb.le_refl _) i har
      | cons j rest =>
        simp only [ev, step, sOps, bindR, lyield_eq, aeval_eq, aput_eq] at e
        simp only [wpOpsIn]
        cases ho : ops[j]? with
        | none =>
          simp only [ho] at e
          exact ih _ _ _ e F ρ w i rd' a' Q hrd har hQ
        | some o =>
          simp only [ho] at e
          simp only
          rw [yielded_rel har.1]
          split at e
          · rename_i hw
            rw [if_pos hw]
            split at e
            · exact absurd e (by simp)
            rename_i l hl
            obtain ⟨out, hmem, σ, nx, w1, hrun, hle, i1, hR⟩ := aop_sound hN har.1 i hl
            refine ⟨fun f _ => fence_fn _ _, ?_⟩
            rw [Oper.semAt_plain _ _ _ (aop_noDefer hl), hrun]
            obtain ⟨xs, hxs, hsub⟩ := bindO_mem e _ hmem
            have hQ2 := (hQ.sub hsub).mono hle
            obtain ⟨nx0, h1⟩ := out
            simp only [afterOp, bindR, forceH_eq, forceW_eq, forceL_eq, aput_eq] at hR i1 hxs
            cases nx0 <;> cases nx <;> first | exact hR.elim | skip
            · exact ih _ _ _ hxs F σ w1 i1 rd' _ Q (hrd.mono hle) ((har.mono hle).put hR _) hQ2
            · exact ih _ _ _ hxs F σ w1 i1 rd' _ Q (hrd.mono hle) ((har.mono hle).put .undef _) hQ2
            · -- a call
              rename_i f args f' args'
              obtain ⟨rfl, hargs⟩ := hR
              simp only at hxs
              split at hxs
              · exact absurd hxs (by simp)
              rename_i os hos
              refine ⟨fence_deep _, calls_fence ((ih _ _ _ hos F σ w1 i1 args' (fun v w2 => wpOpsIn (fence rd') 0 P ops Q rest (a'.put o.dst v) w2) hargs ?_).mono ?_)⟩
              · intro v h2 hm τ v' w2 hle2 i2 hv
                obtain ⟨ys, hys, hsub2⟩ := bindO_mem hxs _ hm
                simp only [afterCall, forceW_eq, aput_eq] at hys
                exact ih _ _ _ hys F τ w2 i2 rd' _ Q ((hrd.mono hle).mono hle2) (((har.mono hle).mono hle2).put hv _) ((hQ2.sub hsub2).mono hle2)
              · intro en w3 hp
                cases en with
                | returned v => exact hp
                | panicked c => exact hp.elim
                | outgrown => exact hp.elim
            · -- a round
              rename_i l0 f0 tmps as b l1 f1 tmps1 as1 b1
              obtain ⟨hl0, htm, rfl, rfl⟩ := hR
              simp only at hxs
              split at hxs
              · exact absurd hxs (by simp)
              rename_i os hos
              refine ⟨fence_deep _, round_fence ((ih _ _ _ hos F σ w1 i1 l1 tmps1 f1 (fun v w2 => wpOpsIn (fence rd') 0 P ops Q rest (a'.put o.dst v) w2) hl0 htm ?_).mono ?_)⟩
              · intro v h2 hm τ v' w2 hle2 i2 hv
                obtain ⟨ys, hys, hsub2⟩ := bindO_mem hxs _ hm
                simp only [afterCall, forceW_eq, aput_eq] at hys
                exact ih _ _ _ hys F τ w2 i2 rd' _ Q ((hrd.mono hle).mono hle2) (((har.mono hle).mono hle2).put hv _) ((hQ2.sub hsub2).mono hle2)
              · intro en w3 hp
                cases en with
                | returned v => exact hp
                | panicked c => exact hp.elim
                | outgrown => exact hp.elim
          · rename_i hw
            rw [if_neg hw]
            exact ⟨fun f _ => fence_fn _ _, ih _ _ _ e F ρ w i rd' _ Q hrd (har.put .undef _) hQ⟩
    | call f args =>
      intro args' R hargs hR
      simp only [ev, step, sCall, bindR, forceAct_eq] at e
      split at e
      · rename_i os hs
        simp only [Option.some.injEq] at e
        subst e
        exact hS f args h _ hs F ρ w args' R i hargs hR
      split at e
      · exact absurd e (by simp)
      rename_i fn hfn
      split at e
      · exact absurd e (by simp)
      rename_i c hc
      split at e
      · exact absurd e (by simp)
      rename_i os hos
      refine callsIn_of_wp_marks hfn hc trivial ?_
      rw [← hargs.1]
      refine (ih _ _ _ hos F ρ w i none { tmps := args' ++ Array.replicate (fn.ntmps - args.size) undef, defers := [] } _ (.inl ⟨rfl, rfl⟩) ⟨VsRel.append hargs (VsRel.replicate _ .undef), .nil⟩ ?_).1
      intro ex a1 h1 hm σ a2 w2 hle i2 har2
      obtain ⟨xs, hxs, hsub⟩ := bindO_mem e _ hm
      simp only [afterBody] at hxs
      have hR2 := (hR.sub hsub).mono hle
      cases ex with
      | normal => exact leave_sound i2 har2 hxs hR2
      | ret => exact leave_sound i2 har2 hxs hR2
      | _ => simp at hxs
    | round l tmps as b =>
      intro l' tmps' f R hl htm hR
      obtain ⟨L, hL, hL'⟩ := hl
      simp only [ev, step, sRound, bindR, forceAct_eq] at e
      split at e
      · exact absurd e (by simp)
      rename_i os hos
      refine roundIn_of_wpIn trivial ?_
      refine (ih _ _ _ hos F ρ w i (some l') { tmps := tmps', defers := [] } _ (.inr ⟨l, l', L, rfl, rfl, hL, hL'⟩) ⟨htm, .nil⟩ ?_).1
      intro ex a1 h1 hm σ a2 w2 hle i2 har2
      obtain ⟨xs, hxs, hsub⟩ := bindO_mem e _ hm
      simp only [afterAssign, bindR] at hxs
      have hR2 := (hR.sub hsub).mono hle
      cases ex with
      | normal =>
        simp only at hxs
        split at hxs
        · exact absurd hxs (by simp)
        rename_i u h2 hbr
        split at hxs
        · exact absurd hxs (by simp)
        rename_i os2 hos2
        obtain ⟨τ, _, w3, hrun3, hle3, i3, _⟩ := sim_beginRound (hle _ _ hL) hL' F h1 w2 _ _ i2 hbr
        refine ⟨w3, hrun3, ?_⟩
        refine (ih _ _ _ hos2 F τ w3 i3 (some l') a2 _ (.inr ⟨l, l', L, rfl, rfl, hle3 _ _ (hle _ _ hL), hL'⟩) (har2.mono hle3) ?_).1
        intro ex2 a4 h4 hm4 υ a5 w5 hle5 i5 har5
        obtain ⟨ys, hys, hsub2⟩ := bindO_mem hxs _ hm4
        simp only [afterRound] at hys
        split at hys
        · exact absurd hys (by simp)
        rename_i j hj
        split at hys
        · rename_i v h6 her
          simp only [Option.some.injEq] at hys
          subst hys
          obtain ⟨φ, v', w6, hrun6, hle6, i6, hv1, hv2⟩ := sim_endRound (hle5 _ _ (hle3 _ _ (hle _ _ hL))) hL' j F h4 w5 _ _ i5 her
          have hfin : R v' w6 := by
            refine hR2 v h6 (hsub2 _ (List.mem_singleton.2 rfl)) φ v' w6 (Emb.le_trans hle3 (Emb.le_trans hle5 hle6)) i6 ?_
            rw [hv1, hv2]; exact .bool _
          cases ex2 <;> simp only [jumpOf] at hj <;> first | (cases hj; done) | skip
          all_goals (simp only [Option.some.injEq] at hj; subst hj; exact ⟨v', w6, hrun6, hfin⟩)
        · exact absurd hys (by simp)
      | _ => simp at hxs
end
end Go.Ev
