/- The concrete evaluator, part M: every operation. -/
import Derived.Test.YtakhkpgkbbcnhaaGreatDoorEvP
import Derived.OwnWalkIn
namespace Go.Ev
open Go
variable [Globs] [Holes]

def one? {α : Type} (x : Option (Value × α)) : Option (List (Next × α)) :=
  match x with
  | some (v, h) => some [(.value v, h)]
  | none => none

def hStore (P : Program) (ev : Operand → Value) (t : TypeId) (x v : Operand) (h : Heap) : Option (List (Next × Heap)) := if okOp x && okOp v then (match arun P (Instr.storeAt t (ev x) (ev v)) h with
    | some (_, h1) => some [(.skip, h1)]
    | none => none) else none
def hMakeSlice (P : Program) (ev : Operand → Value) (t : TypeId) (l c : Operand) (h : Heap) : Option (List (Next × Heap)) := if okOp l && okOp c && elemFlat P t then one? (arun P (Instr.makeSlice t (ev l) (ev c)) h) else none
def hMakeMap (P : Program) (ev : Operand → Value) (t : TypeId) (r : Option Operand) (h : Heap) : Option (List (Next × Heap)) := if r.all okOp then one? (arun P (Instr.makeMap t (r.map ev)) h) else none
def hRange (P : Program) (ev : Operand → Value) (t : TypeId) (x : Operand) (h : Heap) : Option (List (Next × Heap)) := if okOp x then one? (arun P (Instr.range t (ev x)) h) else none
def hNext (ev : Operand → Value) (it : Operand) (isS : Bool) (h : Heap) : Option (List (Next × Heap)) := if okOp it then (match anext h (ev it) isS with
    | some l => some (l.map fun p => (.value p.1, p.2))
    | none => none) else none
def hConv (P : Program) (ev : Operand → Value) (src dst : TypeId) (x : Operand) (h : Heap) : Option (List (Next × Heap)) := if okOp x then (match ev x, P.underlying src, P.underlying dst with
    | .string s, some _, some (.slice e) => match P.underlying e with
      | some (.int .u8) => one? (abytes e s h)
      | _ => none
    | _, _, _ => one? (amark P src dst (ev x) h)) else none
def hAppend (P : Program) (ev : Operand → Value) (args : Array Operand) (argTypes : Array TypeId) (h : Heap) : Option (List (Next × Heap)) := match args.toList, argTypes.toList with
    | [s, x], [t, tx] => if okOp s && okOp x then (match P.underlying tx with
      | some (.int _) => one? (aappendZ P t (ev s) (ev x) h)
      | _ => one? (aappend P t tx (ev s) (ev x) h)) else none
    | _, _ => none
def hCall (P : Program) (ev : Operand → Value) (f : Operand) (args : Array Operand) (h : Heap) : Option (List (Next × Heap)) := if okOp f && args.toList.all okOp then (match acallV P (ev f) (args.map ev) h with
    | some p => some [p]
    | none => none) else none
def hInvoke (P : Program) (ev : Operand → Value) (recv : Operand) (name : String) (args : Array Operand) (h : Heap) : Option (List (Next × Heap)) := if okOp recv && args.toList.all okOp then (match acallV P (.func (.method name) #[] #[]) (#[ev recv] ++ args.map ev) h with
    | some p => some [p]
    | none => none) else none

def hLookup (P : Program) (ev : Operand → Value) (t : TypeId) (x k : Operand) (ok : Bool) (h : Heap) : Option (List (Next × Heap)) := if okOp x && okOp k && flat 3 (ev k) then (match alookup P t (ev x) (ev k) ok h with
    | some v => some [(.value v, h)]
    | none => none) else none
def hUpdate (P : Program) (ev : Operand → Value) (t : TypeId) (m k v : Operand) (h : Heap) : Option (List (Next × Heap)) := if okOp m && okOp k && okOp v then (match aupdate P t (ev m) (ev k) (ev v) h with
    | some h1 => some [(.skip, h1)]
    | none => none) else none
def hEntry (ev : Operand → Value) (it : Operand) (h : Heap) : Option (List (Next × Heap)) := if okOp it then (match aentry (ev it) h with
    | some v => some [(.value v, h)]
    | none => none) else none
def hDelete (P : Program) (ev : Operand → Value) (args : Array Operand) (argTypes : Array TypeId) (h : Heap) : Option (List (Next × Heap)) := match args.toList, argTypes.toList with
    | [m, k], [t, _] => if okOp m && okOp k then (match adelete P t (ev m) (ev k) h with
      | some h1 => some [(.value (.tuple #[]), h1)]
      | none => none) else none
    | _, _ => none

def aheavy (P : Program) (ev : Operand → Value) (o : Oper) (h : Heap) : Option (List (Next × Heap)) :=
  match o.op with
  | .store t x v => hStore P ev t x v h
  | .makeSlice t l c => hMakeSlice P ev t l c h
  | .makeMap t r => hMakeMap P ev t r h
  | .range t x => hRange P ev t x h
  | .next it isS => hNext ev it isS h
  | .convert src dst x => hConv P ev src dst x h
  | .lookup t x k ok => hLookup P ev t x k ok h
  | .mapUpdate t m k v => hUpdate P ev t m k v h
  | .entry it => hEntry ev it h
  | .call { callee := .builtin .append, args, argTypes } => hAppend P ev args argTypes h
  | .call { callee := .builtin .delete, args, argTypes } => hDelete P ev args argTypes h
  | .call { callee := .value f, args, .. } => hCall P ev f args h
  | .call { callee := .invoke recv name, args, .. } => hInvoke P ev recv name args h
  | _ => none

def aop (P : Program) (ev : Operand → Value) (o : Oper) (h : Heap) : Option (List (Next × Heap)) :=
  match alight P ev o h with
  | some v => some [(.value v, h)]
  | none => match aalloc P ev o h with
    | some (v, h1) => some [(.value v, h1)]
    | none => aheavy P ev o h

/-- What an operation gives, lies among the outcomes. -/
def OpOk (P : Program) (F : Facts) (ρ : Emb) (outs : List (Next × Heap)) (s : Sem Next) (w : World) : Prop :=
  ∃ out ∈ outs, ∃ σ nx w₁, s.run P w = .ok nx w₁ ∧ ρ.le σ ∧ Inv F σ out.2 w₁ ∧ NextRel σ out.1 nx

section
variable {P : Program} {ρ : Emb} {F : Facts} {h : Heap} {w : World}

omit [Globs] in
omit [Holes] in
theorem one_some {α : Type} {x : Option (Value × α)} {outs : List (Next × α)} (e : one? x = some outs) : ∃ v h, x = some (v, h) ∧ outs = [(.value v, h)] := by
  cases x with
  | none => simp [one?] at e
  | some p => obtain ⟨v, h⟩ := p; simp only [one?, Option.some.injEq] at e; exact ⟨v, h, rfl, e.symm⟩

theorem opOk_one {f : Heap → Option (Value × Heap)} {s' : Sem Value} (i : Inv F ρ h w) (hs : SimF P VRel ρ f s') {outs : List (Next × Heap)} (e : one? (f h) = some outs) {t : Sem Next} (ht : t = (do pure (.value (← s')))) :
    OpOk P F ρ outs t w := by
  obtain ⟨v, h1, e1, rfl⟩ := one_some e
  obtain ⟨σ, b, w1, hr, hle, i1, hR⟩ := hs F h w v h1 i e1
  refine ⟨_, List.mem_singleton.2 rfl, σ, .value b, w1, ?_, hle, i1, hR⟩
  rw [ht]
  simp [hr]

theorem alloc_born (i : Inv F ρ h w) {a a' : Act} (hr : ActRel ρ a a') {o : Oper} {v : Value} {h₁ : Heap} (e : aalloc P a.eval o h = some (v, h₁)) : OpOk P F ρ [(.value v, h₁)] (execOp a'.eval o) w := by
  obtain ⟨t, t', cells, cells', mk, h1, h2, h3, h4, h5⟩ := aalloc_sound hr i e
  obtain ⟨L, hL⟩ : ∃ L : Loc, L = ⟨w.heap.size, 0, cells'.size, cells.size, 0, false⟩ := ⟨_, rfl⟩
  have hle := Emb.le_add L i.next_none
  refine ⟨_, List.mem_singleton.2 rfl, ρ.add h.next L, _, _, h4, hle, ?_, ?_⟩
  · refine i.push h2 (by rw [hL]) ?_
    subst hL
    refine ⟨rfl, rfl, rfl, rfl, by simp [h1.1], fun j v v' hv hv' => (h1.2 j v v' hv (by simpa using hv')).mono hle, .inl rfl⟩
  · show VRel _ v (mk w.heap.size)
    rw [h3]
    have := h5.rel (ρ.add h.next L) h.next L (Emb.add_self _ _ _) (by rw [hL])
    rw [hL] at this ⊢
    exact this

set_option maxHeartbeats 1000000 in
theorem aheavy_sound (hN : NamesOk P) {a a' : Act} (hr : ActRel ρ a a') (i : Inv F ρ h w) {o : Oper} {outs : List (Next × Heap)} (e : aheavy P a.eval o h = some outs) : OpOk P F ρ outs (execOp a'.eval o) w := by
  obtain ⟨dst, op, ty, pos, after, guard⟩ := o
  simp only [aheavy, hStore, hMakeSlice, hMakeMap, hRange, hNext, hConv, hLookup, hUpdate, hEntry, hAppend, hDelete, hCall, hInvoke] at e
  split at e
  · -- store
    rename_i t x v
    split at e
    · rename_i hx
      simp only [Bool.and_eq_true] at hx
      split at e
      · rename_i u h1 e1
        simp only [Option.some.injEq] at e
        subst e
        obtain ⟨σ, b, w1, hrun, hle, i1, _⟩ := sim_storeAt t (eval_rel i.glob hr hx.1) (eval_rel i.glob hr hx.2) F h w _ _ i e1
        exact ⟨_, List.mem_singleton.2 rfl, σ, .skip, w1, by simp [execOp, hrun], hle, i1, trivial⟩
      · exact absurd e (by simp)
    · exact absurd e (by simp)
  · split at e
    · rename_i hx
      simp only [Bool.and_eq_true] at hx
      exact opOk_one i (sim_makeSlice _ hx.2 (eval_rel i.glob hr hx.1.1) (eval_rel i.glob hr hx.1.2)) e rfl
    · exact absurd e (by simp)
  · split at e
    · rename_i hx
      exact opOk_one i (sim_makeMap _ (opt_rel i.glob hr hx)) e rfl
    · exact absurd e (by simp)
  · split at e
    · rename_i hx
      exact opOk_one i (sim_range _ (eval_rel i.glob hr hx)) e rfl
    · exact absurd e (by simp)
  · -- next
    split at e
    · rename_i hx
      split at e
      · rename_i l hl
        simp only [Option.some.injEq] at e
        subst e
        obtain ⟨out, hmem, v2, w1, hrun, i1, hR⟩ := anext_sound (P := P) i (eval_rel i.glob hr hx) _ ty hl
        exact ⟨_, List.mem_map.2 ⟨out, hmem, rfl⟩, ρ, .value v2, w1, by simp [execOp, hrun], Emb.le_refl _, i1, hR⟩
      · exact absurd e (by simp)
    · exact absurd e (by simp)
  · -- convert
    rename_i src dst x
    split at e
    · rename_i hx
      split at e
      · rename_i s u el hs hsrc hdst
        split at e
        · rename_i he
          have hv := eval_rel i.glob hr hx
          rw [hs] at hv
          generalize hc' : a'.eval x = c' at hv
          cases hv
          refine opOk_one i (abytes_sound hsrc hdst he s) e (s' := convert src dst (.string s)) ?_
          simp [execOp, hc']
        · exact absurd e (by simp)
      · exact opOk_one i (amark_sound (eval_rel i.glob hr hx)) e (s' := convert src dst (a'.eval x)) rfl
    · exact absurd e (by simp)
  · -- lookup
    rename_i t x k ok
    split at e
    · rename_i hx
      simp only [Bool.and_eq_true] at hx
      split at e
      · rename_i v hv
        simp only [Option.some.injEq] at e
        subst e
        have hkk := eq_of_flat 3 _ _ hx.2 (eval_rel i.glob hr hx.1.2)
        obtain ⟨v', hrun, hR⟩ := alookup_sound (eval_rel i.glob hr hx.1.1) i hv
        rw [← hkk] at hrun
        exact ⟨_, List.mem_singleton.2 rfl, ρ, .value v', w, by simp [execOp, hrun], Emb.le_refl _, i, hR⟩
      · exact absurd e (by simp)
    · exact absurd e (by simp)
  · -- update
    rename_i t m k v
    split at e
    · rename_i hx
      simp only [Bool.and_eq_true] at hx
      split at e
      · rename_i h1 hv
        simp only [Option.some.injEq] at e
        subst e
        obtain ⟨w1, hrun, i1⟩ := aupdate_sound (eval_rel i.glob hr hx.1.1) (eval_rel i.glob hr hx.1.2) (eval_rel i.glob hr hx.2) i hv
        exact ⟨_, List.mem_singleton.2 rfl, ρ, .skip, w1, by simp [execOp, hrun], Emb.le_refl _, i1, trivial⟩
      · exact absurd e (by simp)
    · exact absurd e (by simp)
  · -- entry
    rename_i it
    split at e
    · rename_i hx
      split at e
      · rename_i v hv
        simp only [Option.some.injEq] at e
        subst e
        obtain ⟨v', hrun, hR⟩ := aentry_sound (P := P) (eval_rel i.glob hr hx) i hv
        exact ⟨_, List.mem_singleton.2 rfl, ρ, .value v', w, by simp [execOp, hrun], Emb.le_refl _, i, hR⟩
      · exact absurd e (by simp)
    · exact absurd e (by simp)
  · -- append
    rename_i args ats
    split at e
    · rename_i s x t tx ha hat
      have e1 : args = #[s, x] := by rw [← Array.toList_inj]; exact ha
      have e2 : ats = #[t, tx] := by rw [← Array.toList_inj]; exact hat
      subst e1; subst e2
      have hexec : execOp a'.eval ⟨dst, .call { callee := .builtin .append, args := #[s, x], argTypes := #[t, tx] }, ty, pos, after, guard⟩ = (do pure (.value (← Builtin.append_ #[t, tx] ty #[a'.eval s, a'.eval x]))) := by
        simp [execOp, resolve, invoke, builtin]
      split at e
      · rename_i hx
        simp only [Bool.and_eq_true] at hx
        split at e
        · rename_i hk
          exact opOk_one i (aappendZ_sound hk (eval_rel i.glob hr hx.1) (eval_rel i.glob hr hx.2)) e hexec
        · exact opOk_one i (aappend_sound (eval_rel i.glob hr hx.1) (eval_rel i.glob hr hx.2)) e hexec
      · exact absurd e (by simp)
    · exact absurd e (by simp)
  · -- delete
    rename_i args ats
    split at e
    · rename_i m k t t2 ha hat
      have e1 : args = #[m, k] := by rw [← Array.toList_inj]; exact ha
      have e2 : ats = #[t, t2] := by rw [← Array.toList_inj]; exact hat
      subst e1; subst e2
      split at e
      · rename_i hx
        simp only [Bool.and_eq_true] at hx
        split at e
        · rename_i h1 hv
          simp only [Option.some.injEq] at e
          subst e
          obtain ⟨w1, hrun, i1⟩ := adelete_sound (t2 := t2) (ty := ty) (eval_rel i.glob hr hx.1) (eval_rel i.glob hr hx.2) i hv
          refine ⟨_, List.mem_singleton.2 rfl, ρ, .value (.tuple #[]), w1, ?_, Emb.le_refl _, i1, rel_of_flat 3 _ rfl⟩
          simp [execOp, resolve, invoke, builtin, hrun]
        · exact absurd e (by simp)
      · exact absurd e (by simp)
    · exact absurd e (by simp)
  · -- a call of a value
    rename_i f args ats
    split at e
    · rename_i hx
      simp only [Bool.and_eq_true] at hx
      split at e
      · rename_i p hp
        simp only [Option.some.injEq] at e
        subst e
        obtain ⟨nx, h1⟩ := p
        obtain ⟨σ, b, w1, hrun, hle, i1, hR⟩ := acallV_sound hN (eval_rel i.glob hr hx.1) (map_rel i.glob hr hx.2) ty F h w _ _ i hp
        exact ⟨_, List.mem_singleton.2 rfl, σ, b, w1, hrun, hle, i1, hR⟩
      · exact absurd e (by simp)
    · exact absurd e (by simp)
  · -- a call of a method
    rename_i recv name args ats
    split at e
    · rename_i hx
      simp only [Bool.and_eq_true] at hx
      split at e
      · rename_i p hp
        simp only [Option.some.injEq] at e
        subst e
        obtain ⟨nx, h1⟩ := p
        have hf : VRel ρ (.func (.method name) #[] #[]) (.func (.method name) #[] #[]) := .func rfl rfl (by simp) rfl (by simp)
        obtain ⟨σ, b, w1, hrun, hle, i1, hR⟩ := acallV_sound hN hf (VsRel.append (VsRel.push .empty (eval_rel i.glob hr hx.1)) (map_rel i.glob hr hx.2)) ty F h w _ _ i hp
        refine ⟨_, List.mem_singleton.2 rfl, σ, b, w1, ?_, hle, i1, hR⟩
        have : (execOp a'.eval ⟨dst, .call { callee := .invoke recv name, args, argTypes := ats }, ty, pos, after, guard⟩) =
            (do let d ← Deferred.ofValue (.func (.method name) #[] #[]) (#[a'.eval recv] ++ args.map a'.eval); invoke d.target d.args) := by
          simp only [execOp, resolve, Deferred.ofValue, Array.empty_append]
        rw [this]
        exact hrun
      · exact absurd e (by simp)
    · exact absurd e (by simp)
  · exact absurd e (by simp)

theorem aop_sound (hN : NamesOk P) {a a' : Act} (hr : ActRel ρ a a') (i : Inv F ρ h w) {o : Oper} {outs : List (Next × Heap)} (e : aop P a.eval o h = some outs) : OpOk P F ρ outs (execOp a'.eval o) w := by
  unfold aop at e
  split at e
  · rename_i v hv
    simp only [Option.some.injEq] at e
    subst e
    obtain ⟨v', hrun, hR⟩ := alight_sound hr i hv
    exact ⟨_, List.mem_singleton.2 rfl, ρ, .value v', w, hrun, Emb.le_refl _, i, hR⟩
  · split at e
    · rename_i v h1 hv
      simp only [Option.some.injEq] at e
      subst e
      exact alloc_born i hr hv
    · exact aheavy_sound hN hr i e

omit [Holes] in
theorem aop_noDefer {ev : Operand → Value} {o : Oper} {outs : List (Next × Heap)} (e : aop P ev o h = some outs) : ∀ c, o.op ≠ .defer c := by
  intro c hc
  unfold aop alight aalloc aheavy at e
  simp [hc] at e

end
end Go.Ev
