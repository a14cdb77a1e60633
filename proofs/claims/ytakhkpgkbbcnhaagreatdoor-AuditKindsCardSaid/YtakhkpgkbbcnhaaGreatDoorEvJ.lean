/- The concrete evaluator, part J: operations that make one row; stores; ranges; calls. -/
import Derived.Test.YtakhkpgkbbcnhaaGreatDoorEvI
namespace Go.Ev
open Go
variable [Globs] [Holes]

def MkOk (mk : Nat → Value) : Prop := (∀ b, mk b = .pointer (some ⟨b, 0, none⟩)) ∨ ∃ n, ∀ b, mk b = .slice (some ⟨b, 0, none⟩) n n
omit [Globs] in
theorem MkOk.rel {mk : Nat → Value} (h : MkOk mk) (σ : Emb) (id : Nat) (L : Loc) (hL : σ id = some L) (h0 : L.off = 0) : VRel σ (mk id) (mk L.blk) := by
  rcases h with h | ⟨n, h⟩
  · rw [h, h]
    have := VRel.ptr (ρ := σ) (b := id) (o := 0) hL
    rw [h0] at this
    exact this
  · rw [h, h]
    exact .slice hL (.inl ⟨rfl, by rw [h0]⟩)
/-- What lays one new row, and nothing else. -/
def SimN (P : Program) (ρ : Emb) (s s' : Sem Value) : Prop :=
  ∀ F h w v h₁, Inv F ρ h w → arun P s h = some (v, h₁) → ∃ (e e' : TypeId) (cells cells' : Array Value) (mk : Nat → Value), VsRel ρ cells cells' ∧ h.push (.cells cells e (0, 0)) = some h₁ ∧ v = mk h.next ∧
    s'.run P w = .ok (mk w.heap.size) { w with heap := w.heap.push (.cells cells' e' (0, 0)) } ∧ MkOk mk

section
variable {P : Program} {ρ : Emb}

theorem SimQ.bindN {α β : Type} {R : Emb → α → β → Prop} {s : Sem α} {s' : Sem β} {k : α → Sem Value} {k' : β → Sem Value}
    (hs : SimQ P R ρ s s') (hk : ∀ σ, ρ.le σ → ∀ a b, R σ a b → SimN P σ (k a) (k' b)) : SimN P ρ (s >>= k) (s' >>= k') := by
  intro F h w c h₁ hi ha
  change arun P (s.bind k) h = _ at ha
  rw [arun_bind] at ha
  split at ha
  · rename_i a h' e
    obtain ⟨b, hr, rfl, hR⟩ := hs F h w a h' hi e
    obtain ⟨e, e', cells, cells', mk, h1, h2, h3, h4, h5⟩ := hk ρ (Emb.le_refl _) a b hR F h' w c h₁ hi ha
    refine ⟨e, e', cells, cells', mk, h1, h2, h3, ?_, h5⟩
    change (s'.bind k').run P w = _
    rw [Go.Ev.run_bind, hr]
    exact h4
  · exact absurd ha (by simp)
theorem SimN.halt {x : Halt} {s' : Sem Value} : SimN P ρ (Sem.halt x : Sem Value) s' := by
  intro F hp w c h₁ hi ha
  simp [arun] at ha
theorem SimN.halt_bind {γ : Type} {x : Halt} {k : γ → Sem Value} {s' : Sem Value} : SimN P ρ ((Sem.halt x : Sem γ) >>= k) s' := by
  intro F hp w c h₁ hi ha
  change arun P ((Sem.halt x : Sem γ).bind k) hp = _ at ha
  simp [Sem.bind, arun] at ha
theorem SimN.ite {c : Prop} [Decidable c] {s t s' t' : Sem Value} (h : c → SimN P ρ s s') (h' : ¬ c → SimN P ρ t t') : SimN P ρ (if c then s else t) (if c then s' else t') := by
  by_cases hc : c
  · rw [if_pos hc, if_pos hc]; exact h hc
  · rw [if_neg hc, if_neg hc]; exact h' hc

theorem simn_newRow {c c' : Array Value} (e e' : TypeId) (h : VsRel ρ c c') (mk : Nat → Value) (hm : MkOk mk)
    {f : Addr → Value} (hf : ∀ b, f ⟨b, 0, none⟩ = mk b) : SimN P ρ (newRow e c >>= fun a => pure (f a)) (newRow e' c' >>= fun a => pure (f a)) := by
  intro F hp w v h₁ hi ha
  change arun P ((newObj (.cells c e)).bind _ |>.bind _) hp = _ at ha
  rw [arun_bind, arun_bind] at ha
  simp only [newObj, arun] at ha
  cases hpu : hp.push (.cells c e (0, 0)) with
  | none => simp [hpu] at ha
  | some h' =>
    rw [hpu] at ha
    change arun P (Sem.pure (f ⟨hp.next, 0, none⟩)) h' = _ at ha
    simp only [arun, Option.some.injEq, Prod.mk.injEq] at ha
    obtain ⟨rfl, rfl⟩ := ha
    refine ⟨e, e', c, c', mk, h, hpu, hf _, ?_, hm⟩
    simp [newRow, ← hf]

omit [Globs] in
omit [Holes] in
theorem mk_ptr : MkOk fun b => .pointer (some ⟨b, 0, none⟩) := .inl fun _ => rfl
omit [Globs] in
omit [Holes] in
theorem mk_slice (n : Nat) : MkOk fun b => .slice (some ⟨b, 0, none⟩) n n := .inr ⟨n, fun _ => rfl⟩

theorem simn_box (t : TypeId) {v v' : Value} (hv : VRel ρ v v') : SimN P ρ (Instr.box t v) (Instr.box t v') :=
  simn_newRow t t hv.cells (fun b => .pointer (some ⟨b, 0, none⟩)) mk_ptr fun _ => rfl
theorem simn_alloc {t : TypeId} (hz : zeroFlat P t = true) : SimN P ρ (Instr.alloc t true (.tuple #[])) (Instr.alloc t true (.tuple #[])) :=
  (simq_zero hz).bindN fun σ _ a b h => simn_newRow t t h.1.cells (fun b => .pointer (some ⟨b, 0, none⟩)) mk_ptr fun _ => rfl

theorem simn_buildSlice (t : TypeId) (hz : elemFlat P t = true) (len : Nat) {ps qs : Array (Nat × Value)} (h : ∀ σ, ρ.le σ → PsRel σ ps.toList qs.toList) :
    SimN P ρ (Instr.buildSlice t len ps) (Instr.buildSlice t len qs) := by
  refine (simq_underlying t).bindN fun τ hle d d' hd => ?_
  obtain ⟨rfl, hd⟩ := hd
  unfold elemFlat at hz
  rw [hd] at hz
  cases d <;> first | exact SimN.halt | skip
  rename_i e
  simp only at hz
  refine (simq_sizeOf e).bindN fun τ' hle' n n' hn => ?_
  subst hn
  refine SimN.ite (fun _ => SimN.halt_bind) fun _ => ?_
  have hcont : ∀ (σ : Emb) (z : Array Value), τ'.le σ → VsRel σ z z → SimN P σ
      (do let some cells := Instr.fill (fun i => some (i * n, n)) ((Array.range (len * n)).map (z[· % z.size]!)) ps.toList | stuck "buildSlice: a part of the wrong size"
          pure (.slice (some (← newRow e cells)) len len))
      (do let some cells := Instr.fill (fun i => some (i * n, n)) ((Array.range (len * n)).map (z[· % z.size]!)) qs.toList | stuck "buildSlice: a part of the wrong size"
          pure (.slice (some (← newRow e cells)) len len)) := by
    intro σ z hle'' hzz
    rcases fill_rel (fun i => some (i * n, n)) _ _ _ _ (h σ (Emb.le_trans (Emb.le_trans hle hle') hle'')) (rel_range hzz (len * n) rel_default) with ⟨e1, e2⟩ | ⟨zs, zs', e1, e2, hr⟩
    · rw [e1]; exact SimN.halt
    · rw [e1, e2]
      exact simn_newRow e e hr (fun b => .slice (some ⟨b, 0, none⟩) len len) (mk_slice len) fun _ => rfl
  by_cases h0 : len * n = 0
  · simp only [h0, if_true]
    refine SimQ.bindN (R := fun σ a b => VsRel σ a b ∧ b = a) (SimQ.pure ⟨.empty, rfl⟩) fun σ hle'' z z' hzz => ?_
    obtain ⟨hzz, rfl⟩ := hzz
    have := hcont σ z' hle'' hzz
    rw [h0] at this
    exact this
  · simp only [h0, if_false]
    refine (simq_zero hz).bindN fun σ₀ hle₀ v v' hvv => ?_
    obtain ⟨hvv, rfl⟩ := hvv
    refine SimQ.bindN (R := fun σ a b => VsRel σ a b ∧ b = a) (SimQ.pure ⟨hvv.cells, rfl⟩) fun σ hle'' z z' hzz => ?_
    obtain ⟨hzz, rfl⟩ := hzz
    exact hcont σ z' (Emb.le_trans hle₀ hle'') hzz

def aalloc (P : Program) (ev : Operand → Value) (o : Oper) (h : Heap) : Option (Value × Heap) :=
  match o.op with
  | .alloc t => if zeroFlat P t then arun P (Instr.alloc t true (.tuple #[])) h else none
  | .box t x => if okOp x then arun P (Instr.box t (ev x)) h else none
  | .buildSlice t len ps => if (ps.toList.all fun p => okOp p.2) && elemFlat P t then arun P (Instr.buildSlice t len (ps.map fun (i, x) => (i, ev x))) h else none
  | _ => none

theorem aalloc_sound {a a' : Act} (hr : ActRel ρ a a') {F : Facts} {h : Heap} {w : World} (i : Inv F ρ h w) {o : Oper} {v : Value} {h₁ : Heap} (e : aalloc P a.eval o h = some (v, h₁)) :
    ∃ (t t' : TypeId) (cells cells' : Array Value) (mk : Nat → Value), VsRel ρ cells cells' ∧ h.push (.cells cells t (0, 0)) = some h₁ ∧ v = mk h.next ∧
    (execOp a'.eval o).run P w = .ok (.value (mk w.heap.size)) { w with heap := w.heap.push (.cells cells' t' (0, 0)) } ∧ MkOk mk := by
  obtain ⟨dst, op, ty, pos, after, guard⟩ := o
  have key : ∀ (s s' : Sem Value), SimN P ρ s s' → (execOp a'.eval ⟨dst, op, ty, pos, after, guard⟩ = (do pure (.value (← s')))) → arun P s h = some (v, h₁) → ∃ (t t' : TypeId) (cells cells' : Array Value) (mk : Nat → Value), VsRel ρ cells cells' ∧ h.push (.cells cells t (0, 0)) = some h₁ ∧ v = mk h.next ∧
    (execOp a'.eval ⟨dst, op, ty, pos, after, guard⟩).run P w = .ok (.value (mk w.heap.size)) { w with heap := w.heap.push (.cells cells' t' (0, 0)) } ∧ MkOk mk := by
    intro s s' hs he ha
    obtain ⟨t, t', cells, cells', mk, h1, h2, h3, h4, h5⟩ := hs F h w v h₁ i ha
    refine ⟨t, t', cells, cells', mk, h1, h2, h3, ?_, h5⟩
    rw [he]
    simp [h4]
  unfold aalloc at e
  simp only at e
  split at e
  · split at e
    · rename_i hz; exact key _ _ (simn_alloc hz) rfl e
    · exact absurd e (by simp)
  · split at e
    · rename_i hx; exact key _ _ (simn_box _ (eval_rel i.glob hr hx)) rfl e
    · exact absurd e (by simp)
  · split at e
    · rename_i hx
      simp only [Bool.and_eq_true] at hx
      exact key _ _ (simn_buildSlice _ hx.2 _ fun σ hle => parts_rel (ρ := σ) (i.glob.mono hle) (VsRel.mono hle hr) hx.1) rfl e
    · exact absurd e (by simp)
  · exact absurd e (by simp)

/-! ### ranges over functions -/
def LpRel (ρ : Emb) (l l' : Loop) : Prop := l.state = l'.state ∧ l.pending = l'.pending ∧ VsRel ρ l.tmps l'.tmps ∧ l.params = l'.params ∧ l.assign = l'.assign ∧ l.body = l'.body ∧ ∃ D, ρ l.defers = some D ∧ D.blk = l'.defers

theorem sim_getLoop {l l' : Nat} {L : Loc} (hl : ρ l = some L) (hl' : L.blk = l') : Sim P (fun σ a b => LpRel σ a b ∧ L.off = 0) ρ (Instr.getLoop l) (Instr.getLoop l') := by
  refine (sim_getObj hl hl').bind fun σ hle o o' h => ?_
  obtain ⟨h, hn⟩ := h
  cases o <;> cases o' <;> first
    | exact Sim.halt
    | (simp [ORel] at h; done)
    | skip
  exact Sim.pure ⟨⟨h.2.1, h.2.2.1, h.2.2.2.1, h.2.2.2.2.1, h.2.2.2.2.2.1, h.2.2.2.2.2.2.1, h.2.2.2.2.2.2.2⟩, h.1⟩

omit [Globs] in
theorem LpRel.orel {L : Loc} {l l' : Loop} (h : LpRel ρ l l') (h0 : L.off = 0) : ORel ρ L (.loop l) (.loop l') := ⟨h0, h.1, h.2.1, h.2.2.1, h.2.2.2.1, h.2.2.2.2.1, h.2.2.2.2.2.1, h.2.2.2.2.2.2⟩

omit [Globs] in
theorem zip_rel {ρ : Emb} : ∀ (ps : List Tmp) (xs ys : List Value) (us vs : Array Value), xs.length = ys.length → (∀ (j : Nat) (x y : Value), xs[j]? = some x → ys[j]? = some y → VRel ρ x y) → VsRel ρ us vs →
    VsRel ρ ((ps.zip xs).foldl (fun t (p : Tmp × Value) => t.setIfInBounds p.1 p.2) us) ((ps.zip ys).foldl (fun t (p : Tmp × Value) => t.setIfInBounds p.1 p.2) vs) := by
  intro ps
  induction ps with
  | nil => intro xs ys us vs _ _ h; simpa using h
  | cons p ps ih =>
    intro xs ys us vs hn hr h
    cases xs with
    | nil => cases ys with
      | nil => simpa using h
      | cons y ys => simp at hn
    | cons x xs => cases ys with
      | nil => simp at hn
      | cons y ys =>
        simp only [List.zip_cons_cons, List.foldl_cons]
        exact ih xs ys _ _ (by simpa using hn) (fun j a b ha hb => hr (j + 1) a b (by simpa using ha) (by simpa using hb)) (h.set (hr 0 x y rfl rfl) p)

theorem sim_yield {l l' : Nat} {L : Loc} (hl : ρ l = some L) (hl' : L.blk = l') {xs ys : Array Value} (hx : VsRel ρ xs ys) : Sim P NextRel ρ (Instr.yield l xs) (Instr.yield l' ys) := by
  refine (sim_getLoop hl hl').bind fun σ hle a b h => ?_
  obtain ⟨h, _⟩ := h
  rw [← hx.1, ← h.2.2.2.1]
  refine Sim.ite (fun _ => Sim.halt_bind) fun _ => Sim.pure ?_
  refine ⟨⟨L, hle _ _ hl, hl'⟩, ?_, h.2.2.2.2.1, h.2.2.2.2.2.1⟩
  have hx' := hx.mono hle
  rw [← Array.foldl_toList, ← Array.foldl_toList, Array.toList_zip, Array.toList_zip]
  exact zip_rel _ _ _ _ _ hx'.list.1 hx'.list.2 h.2.2.1

theorem sim_beginRound {l l' : Nat} {L : Loc} (hl : ρ l = some L) (hl' : L.blk = l') : Sim P (fun _ _ _ => True) ρ (Instr.beginRound l) (Instr.beginRound l') := by
  refine (sim_getLoop hl hl').bind fun σ hle a b h => ?_
  obtain ⟨h, h0⟩ := h
  refine (sim_setObj (hle _ _ hl) hl' (LpRel.orel (l := { a with state := .busy }) (l' := { b with state := .busy }) ⟨rfl, h.2⟩ h0)).bind fun τ _ _ _ _ => ?_
  rw [← h.1]
  cases a.state <;> first
    | exact Sim.pure trivial
    | exact sim_runtimePanic

theorem sim_endRound {l l' : Nat} {L : Loc} (hl : ρ l = some L) (hl' : L.blk = l') (j : Option Code) : Sim P (fun _ a b => a = .bool j.isNone ∧ b = .bool j.isNone) ρ (Instr.endRound l j) (Instr.endRound l' j) := by
  refine (sim_getLoop hl hl').bind fun σ hle a b h => ?_
  obtain ⟨h, h0⟩ := h
  exact (sim_setObj (hle _ _ hl) hl' (LpRel.orel (l := { a with state := if j.isNone then .ready else .done, pending := j }) (l' := { b with state := if j.isNone then .ready else .done, pending := j }) ⟨rfl, rfl, h.2.2⟩ h0)).bind fun τ _ _ _ _ => Sim.pure ⟨rfl, rfl⟩

theorem sim_endLoop {l l' : Nat} {L : Loc} (hl : ρ l = some L) (hl' : L.blk = l') : Sim P (fun _ a b => a = b) ρ (Instr.endLoop l) (Instr.endLoop l') := by
  refine (sim_getLoop hl hl').bind fun σ hle a b h => ?_
  obtain ⟨h, h0⟩ := h
  rw [← h.1, ← h.2.1]
  refine Sim.ite (fun _ => ?_) fun _ => ?_
  · refine Sim.none fun hp => arun_bind_none' (arun_runtimePanic _) _
  · dsimp only
    exact (sim_setObj (hle _ _ hl) hl' (LpRel.orel (l := { a with state := .exhausted }) (l' := { b with state := .exhausted, pending := a.pending }) ⟨rfl, rfl, h.2.2⟩ h0)).bind fun τ _ _ _ _ => Sim.pure rfl

/-- What hangs on a frame: marks of ranges over functions alone. -/
def DfRel (ρ : Emb) (d d' : Deferred) : Prop := ∃ r r' L, d = { target := .collected r, args := #[] } ∧ d' = { target := .collected r', args := #[] } ∧ ρ r = some L ∧ L.blk = r'
omit [Globs] in
omit [Holes] in
theorem DfRel.mono {ρ σ : Emb} (hle : ρ.le σ) {d d' : Deferred} (h : DfRel ρ d d') : DfRel σ d d' := by
  obtain ⟨r, r', L, h1, h2, h3, h4⟩ := h
  exact ⟨r, r', L, h1, h2, hle _ _ h3, h4⟩

theorem sim_enterLoop (fn fn' : FuncId) {xs ys : Array Value} (hx : VsRel ρ xs ys) (ps : Array Tmp) (as b : Code) {rd rd' : Option Nat}
    (hrd : (rd = none ∧ rd' = none) ∨ ∃ l l' L, rd = some l ∧ rd' = some l' ∧ ρ l = some L ∧ L.blk = l') :
    Sim P (fun σ p q => (∃ L, σ p.1 = some L ∧ L.blk = q.1) ∧ All2 (DfRel σ) p.2 q.2) ρ (Instr.enterLoop fn xs ps as b rd) (Instr.enterLoop fn' ys ps as b rd') := by
  have last : ∀ (σ : Emb) (d d' : Nat) (D : Loc) (m m' : List Deferred), ρ.le σ → σ d = some D → D.blk = d' → All2 (DfRel σ) m m' →
      Sim P (fun σ p q => (∃ L, σ p.1 = some L ∧ L.blk = q.1) ∧ All2 (DfRel σ) p.2 q.2) σ
        (do pure (← newObj (.loop { state := .ready, pending := none, fn, tmps := xs, params := ps, assign := as, body := b, defers := d }), m))
        (do pure (← newObj (.loop { state := .ready, pending := none, fn := fn', tmps := ys, params := ps, assign := as, body := b, defers := d' }), m')) := by
    intro σ d d' D m m' hle hd hD hm
    refine (sim_newObj rfl fun τ hle' L h0 => ?_).bind fun τ hle' r r' hr => Sim.pure ?_
    · exact ⟨h0, rfl, rfl, (hx.mono hle).mono hle', rfl, rfl, rfl, D, hle' _ _ hd, hD⟩
    · obtain ⟨L, h1, h2, _⟩ := hr
      refine ⟨⟨L, h1, h2⟩, ?_⟩
      have : ∀ {us vs : List Deferred}, All2 (DfRel σ) us vs → All2 (DfRel τ) us vs := by
        intro us vs h
        induction h with
        | nil => exact .nil
        | cons h _ ih => exact .cons (h.mono hle') ih
      exact this hm
  rcases hrd with ⟨rfl, rfl⟩ | ⟨l, l', L, rfl, rfl, hl, hl'⟩
  · refine (sim_newObj (o := .deferred (some [])) (o' := .deferred (some [])) rfl fun τ hle' L h0 => h0).bind fun τ hle' r r' hr => ?_
    obtain ⟨L, h1, h2, _⟩ := hr
    refine Sim.bind (R := fun σ p q => p = (r, [{ target := .collected r, args := #[] }]) ∧ q = (r', [{ target := .collected r', args := #[] }])) (Sim.pure ⟨rfl, rfl⟩) ?_
    rintro σ hle'' _ _ ⟨rfl, rfl⟩
    exact last σ r r' L _ _ (Emb.le_trans hle' hle'') (hle'' _ _ h1) h2 (.cons ⟨r, r', L, rfl, rfl, hle'' _ _ h1, h2⟩ .nil)
  · refine (sim_getLoop hl hl').bind fun σ hle a b h => ?_
    obtain ⟨h, _⟩ := h
    obtain ⟨D, hD, hD'⟩ := h.2.2.2.2.2.2
    refine Sim.bind (R := fun σ p q => p = (a.defers, []) ∧ q = (b.defers, [])) (Sim.pure ⟨rfl, rfl⟩) ?_
    rintro τ hle'' _ _ ⟨rfl, rfl⟩
    exact last τ a.defers b.defers D _ _ (Emb.le_trans hle hle'') (hle'' _ _ hD) hD' .nil

theorem sim_takeDeferred {r r' : Nat} {L : Loc} (hr : ρ r = some L) (hr' : L.blk = r') : Sim P (fun _ a b => a = [] ∧ b = []) ρ (Instr.takeDeferred r) (Instr.takeDeferred r') := by
  refine (sim_getObj hr hr').bind fun σ hle o o' h => ?_
  obtain ⟨h, hn⟩ := h
  cases o <;> cases o' <;> first
    | exact Sim.halt
    | (simp [ORel] at h; done)
    | skip
  rename_i c c'
  cases c with
  | none => exact Sim.halt
  | some ds =>
    cases c' with
    | none => cases ds <;> simp [ORel] at h
    | some ds' =>
      cases ds <;> cases ds' <;> first | (simp [ORel] at h; done) | skip
      refine (sim_setObj (hle _ _ hr) hr' (o := .deferred none) (o' := .deferred none) h).bind fun τ _ _ _ _ => Sim.pure ⟨rfl, rfl⟩

/-! ### results -/
def okResults (fn : Func) : Bool := true
theorem sim_results (fn : Func) {xs ys : Array Value} (hx : VsRel ρ xs ys) : Sim P VRel ρ (results fn xs) (results fn ys) := by
  unfold results
  refine (sim_arrayMapM (R := VRel) (fun _ _ _ _ hle h => h.mono hle) fn.results fun r _ σ hle => ?_).bind fun σ _ bs cs h => Sim.pure ?_
  · cases r with
    | tmp t => exact Sim.pure ((hx.mono hle).getD t)
    | cell a t => exact (sim_asAddr ((hx.mono hle).getD a)).bind fun τ _ x y hxy => sim_loadVar t hxy
  · have hvs : VsRel σ bs cs := by
      have := h.vs
      simpa using this
    by_cases hb : bs.size = 1
    · have hc : cs.size = 1 := by rw [← hvs.1]; exact hb
      rw [dif_pos hb, dif_pos hc]
      exact hvs.2 0 _ _ (Array.getElem?_eq_getElem (by omega)) (Array.getElem?_eq_getElem (by omega))
    · have hc : ¬ cs.size = 1 := by rw [← hvs.1]; exact hb
      rw [dif_neg hb, dif_neg hc]
      exact .tuple hvs.1 hvs.2
end
end Go.Ev
