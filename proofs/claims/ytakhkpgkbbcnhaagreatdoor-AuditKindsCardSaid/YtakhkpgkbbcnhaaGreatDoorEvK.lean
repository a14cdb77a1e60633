/- The concrete evaluator, part K: what turns the heap: stores, rows, ranges, calls. -/
import Derived.Test.YtakhkpgkbbcnhaaGreatDoorEvJ
namespace Go.Ev
open Go
variable [Globs] [Holes]

def hasBody (P : Program) (g : FuncId) : Bool :=
  match P.funcs[g]? with
  | some fn => fn.body.isSome
  | none => false
def NamesOk (P : Program) : Prop := ∀ (g : FuncId) (fn : Func), P.funcs[g]? = some fn → (fn.name == "runtime.NumGoroutine") = false

section
variable {P : Program} {ρ : Emb}

omit [Globs] in
omit [Holes] in
theorem run_callFunc (hN : NamesOk P) {g : FuncId} (hb : hasBody P g = true) (args : Array Value) (w : World) : (callFunc g args).run P w = .ok (.enter g args) w := by
  unfold hasBody at hb
  cases hf : P.funcs[g]? with
  | none => simp [hf] at hb
  | some fn =>
    rw [hf] at hb
    simp only at hb
    have h1 := hN g fn hf
    have h2 : fn.body.isNone = false := by cases hbd : fn.body <;> simp [hbd] at hb ⊢
    have h3 : ¬ fn.name = "runtime.NumGoroutine" := by simpa using h1
    simp only [callFunc, Sem.run_bind, run_program, Result.andThen_ok, hf]
    simp [h3, h2]

def amethod (P : Program) : Nat → TypeId → Value → String → Heap → Option ((FuncId × Value) × Heap)
  | 0, _, _, _, _ => none
  | n + 1, t, v, name, h =>
    match P.info? t with
    | none => none
    | some i => match i.methods.find? (·.name == name) with
      | none => none
      | some m => if pathFull P m.path.toList then
          match arun P (follow m.path.toList t (.val v)) h with
          | none => none
          | some ((xt, x), h1) => match m.func with
            | none => match arun P (x.get xt) h1 with
              | some (.iface t' v', h2) => amethod P n t' v' name h2
              | _ => none
            | some (f, ptr) => if plainRecv P xt ptr m.path.isEmpty then
                match arun P (receiverAt xt x ptr (if m.path.isEmpty then some ((name.splitOn ".").getLastD name) else none)) h1 with
                | some (r, h2) => some ((f, r), h2)
                | none => none
              else none
        else none

theorem amethod_sound : ∀ (n : Nat) (t : TypeId) (v v' : Value) (name : String) {ρ : Emb}, VRel ρ v v' →
    SimF P (fun σ p q => p.1 = q.1 ∧ VRel σ p.2 q.2) ρ (amethod P n t v name) (method n t v' name) := by
  intro n
  induction n with
  | zero => intro t v v' name ρ _ F h w a h₁ _ ha; simp [amethod] at ha
  | succ n ih =>
    intro t v v' name ρ hv F h w a h₁ i ha
    simp only [amethod] at ha
    split at ha
    · exact absurd ha (by simp)
    rename_i inf hinf
    split at ha
    · exact absurd ha (by simp)
    rename_i m hm
    split at ha
    rotate_left
    · exact absurd ha (by simp)
    rename_i hpf
    split at ha
    · exact absurd ha (by simp)
    rename_i xt x h1 hfo
    obtain ⟨σ, q, w1, hrun, hle, i1, hR⟩ := sim_follow m.path.toList t hpf (.val hv) F h w _ _ i hfo
    obtain ⟨xt', x'⟩ := q
    simp only at hR
    obtain ⟨rfl, hpl⟩ := hR
    have pre : ∀ (K : Result (FuncId × Value)), ((match m.func with
        | none => (do match ← x'.get xt with
            | .iface t' v' => method n t' v' name
            | .nilIface => runtimePanic .nilDeref
            | _ => stuck "method row: interface value expected")
        | some (f, pointerReceiver) => (do pure (f, ← receiverAt xt x' pointerReceiver (if m.path.isEmpty then some ((name.splitOn ".").getLastD name) else none))) : Sem (FuncId × Value)).run P w1 = K) →
        (method (n + 1) t v' name).run P w = K := by
      intro K hK
      simp only [method, Sem.run_bind, typeInfo, run_program, Result.andThen_ok, hinf, Sem.run_pure, hm, hrun]
      exact hK
    split at ha
    · rename_i hfn
      split at ha
      rotate_left
      · exact absurd ha (by simp)
      rename_i t' v₂ h2 hget
      obtain ⟨τ, u, w2, hrun2, hle2, i2, hR2⟩ := sim_get xt hpl F h1 w1 _ _ i1 hget
      cases hR2 with
      | iface hv2 =>
        obtain ⟨υ, p, w3, hrun3, hle3, i3, hR3⟩ := ih t' _ _ name hv2 F h2 w2 _ _ i2 ha
        refine ⟨υ, p, w3, pre _ ?_, Emb.le_trans hle (Emb.le_trans hle2 hle3), i3, hR3⟩
        simp only [hfn, Sem.run_bind, hrun2, Result.andThen_ok, hrun3]
    · rename_i f ptr hfn
      split at ha
      rotate_left
      · exact absurd ha (by simp)
      rename_i hpr
      split at ha
      rotate_left
      · exact absurd ha (by simp)
      rename_i r h2 hrec
      simp only [Option.some.injEq, Prod.mk.injEq] at ha
      obtain ⟨rfl, rfl⟩ := ha
      obtain ⟨τ, u, w2, hrun2, hle2, i2, hR2⟩ := sim_receiverAt xt ptr _ (by cases he : m.path.isEmpty <;> simp [he] at hpr ⊢ <;> exact hpr) hpl F h1 w1 _ _ i1 hrec
      refine ⟨τ, (f, u), w2, pre _ ?_, Emb.le_trans hle hle2, i2, rfl, hR2⟩
      simp only [hfn, Sem.run_bind, hrun2, Result.andThen_ok, Sem.run_pure]

def acallV (P : Program) (f : Value) (args : Array Value) (h : Heap) : Option (Next × Heap) :=
  match f with
  | .func (.func g) first cap => if hasBody P g then some (.enter g (first ++ args ++ cap), h) else none
  | .func (.yield l) first _ => arun P (Instr.yield l (first ++ args)) h
  | .func (.method name) first _ => match ((first ++ args)[0]? : Option Value) with
    | some (.iface t v) => match amethod P (P.types.size + Made.depth) t v name h with
      | some ((g, r), h1) => if hasBody P g then some (.enter g (#[r] ++ (first ++ args).extract 1 (first ++ args).size), h1) else none
      | none => none
    | _ => none
  | .func (.via t path g ptr) first _ => match ((first ++ args)[0]? : Option Value) with
    | some x => if pathFull P path.toList && hasBody P g then match arun P (follow path.toList t (.val x)) h with
        | some ((xt, y), h1) => match arun P (receiverAt xt y ptr none) h1 with
          | some (r, h2) => some (.enter g (#[r] ++ (first ++ args).extract 1 (first ++ args).size), h2)
          | none => none
        | none => none
      else none
    | none => none
  | _ => none

theorem acallV_sound (hN : NamesOk P) {f f' : Value} (hf : VRel ρ f f') {xs ys : Array Value} (hx : VsRel ρ xs ys) (type : TypeId) :
    SimF P NextRel ρ (acallV P f xs) (do let d ← Deferred.ofValue f' ys; invoke d.target d.args) := by
  intro F h w a h₁ i ha
  unfold acallV at ha
  split at ha
  · rename_i g first cap
    split at ha
    · rename_i hb
      simp only [Option.some.injEq, Prod.mk.injEq] at ha
      obtain ⟨rfl, rfl⟩ := ha
      cases hf with
      | @func _ g' _ ys1 _ vs1 hfn n1 r1 n2 r2 =>
        cases g' <;> simp [FnRel] at hfn
        subst hfn
        refine ⟨ρ, .enter g (ys1 ++ ys ++ vs1), w, ?_, Emb.le_refl _, i, rfl, (VsRel.append ⟨n1, r1⟩ hx).append ⟨n2, r2⟩⟩
        simp only [Deferred.ofValue, Sem.run_bind, Sem.run_pure, Result.andThen_ok, invoke]
        exact run_callFunc hN hb _ _
    · exact absurd ha (by simp)
  · rename_i l first cap
    cases hf with
    | @func _ g' _ ys1 _ vs1 hfn n1 r1 n2 r2 =>
      cases g' <;> simp [FnRel] at hfn
      obtain ⟨L, hL, hL'⟩ := hfn
      obtain ⟨σ, b, w1, hrun, hle, i1, hR⟩ := sim_yield hL hL' (VsRel.append ⟨n1, r1⟩ hx) F h w a h₁ i ha
      refine ⟨σ, b, w1, ?_, hle, i1, hR⟩
      simp only [Deferred.ofValue, Sem.run_bind, Sem.run_pure, Result.andThen_ok, invoke]
      exact hrun
  · rename_i name first cap
    cases hf with
    | @func _ g' _ ys1 _ vs1 hfn n1 r1 n2 r2 =>
      cases g' <;> simp [FnRel] at hfn
      subst hfn
      have hall := VsRel.append ⟨n1, r1⟩ hx
      split at ha
      · rename_i t v hv
        obtain ⟨v', hv', hvr⟩ := hall.get hv
        cases hvr with
        | @iface _ _ v'' hvr =>
        split at ha
        · rename_i g r h1 hm
          split at ha
          · rename_i hb
            simp only [Option.some.injEq, Prod.mk.injEq] at ha
            obtain ⟨rfl, rfl⟩ := ha
            obtain ⟨σ, p, w1, hrun, hle, i1, hR⟩ := amethod_sound _ _ _ _ _ hvr F h w _ _ i hm
            obtain ⟨g', r'⟩ := p
            simp only at hR
            obtain ⟨rfl, hrr⟩ := hR
            refine ⟨σ, .enter g (#[r'] ++ (ys1 ++ ys).extract 1 (ys1 ++ ys).size), w1, ?_, hle, i1, rfl, VsRel.append (VsRel.push .empty hrr) ?_⟩
            · simp only [Deferred.ofValue, Sem.run_bind, Sem.run_pure, Result.andThen_ok, invoke, hv', callMethod, run_program, hrun]
              exact run_callFunc hN hb _ _
            · have := (hall.mono hle).extract 1 (first ++ xs).size
              rw [show (first ++ xs).size = (ys1 ++ ys).size from hall.1] at this ⊢
              exact this
          · exact absurd ha (by simp)
        · exact absurd ha (by simp)
      · exact absurd ha (by simp)
  · rename_i t path g ptr first cap
    cases hf with
    | @func _ g' _ ys1 _ vs1 hfn n1 r1 n2 r2 =>
      cases g' <;> simp [FnRel] at hfn
      obtain ⟨rfl, rfl, rfl, rfl⟩ := hfn
      have hall := VsRel.append ⟨n1, r1⟩ hx
      split at ha
      · rename_i x hxv
        obtain ⟨x', hxv', hvr⟩ := hall.get hxv
        split at ha
        · rename_i hc
          simp only [Bool.and_eq_true] at hc
          split at ha
          · rename_i xt y h1 hfo
            split at ha
            · rename_i r h2 hrec
              simp only [Option.some.injEq, Prod.mk.injEq] at ha
              obtain ⟨rfl, rfl⟩ := ha
              obtain ⟨σ, q, w1, hrun, hle, i1, hR⟩ := sim_follow path.toList t hc.1 (.val hvr) F h w _ _ i hfo
              obtain ⟨xt', y'⟩ := q
              simp only at hR
              obtain ⟨rfl, hpl⟩ := hR
              obtain ⟨τ, r', w2, hrun2, hle2, i2, hR2⟩ := sim_receiverAt xt ptr none (by unfold plainRecv; split <;> simp) hpl F h1 w1 _ _ i1 hrec
              refine ⟨τ, .enter g (#[r'] ++ (ys1 ++ ys).extract 1 (ys1 ++ ys).size), w2, ?_, Emb.le_trans hle hle2, i2, rfl, VsRel.append (VsRel.push .empty hR2) ?_⟩
              · simp only [Deferred.ofValue, Sem.run_bind, Sem.run_pure, Result.andThen_ok, invoke, hxv', receiverVia, hrun, hrun2]
                exact run_callFunc hN hc.2 _ _
              · have := (hall.mono (Emb.le_trans hle hle2)).extract 1 (first ++ xs).size
                rw [show (first ++ xs).size = (ys1 ++ ys).size from hall.1] at this ⊢
                exact this
            · exact absurd ha (by simp)
          · exact absurd ha (by simp)
        · exact absurd ha (by simp)
      · exact absurd ha (by simp)
  · exact absurd ha (by simp)

/-! ### maps made, ranges begun, ranges gone on -/
theorem sim_makeMap (t : TypeId) {x x' : Option Value} (hx : optRel ρ x x') : Sim P VRel ρ (Instr.makeMap t x) (Instr.makeMap t x') := by
  have fin : ∀ (σ : Emb), Sim P VRel σ (do pure (.map (some (← newObj (.map #[] 0))))) (do pure (.map (some (← newObj (.map #[] 0))))) := fun σ => by
    refine (sim_newObj (o := .map #[] 0) (o' := .map #[] 0) rfl fun τ _ L h0 => ⟨h0, rfl, rfl, by simp⟩).bind fun τ _ r r' hr => Sim.pure ?_
    obtain ⟨L, h1, h2, _⟩ := hr
    subst h2
    exact .map h1
  cases x with
  | none => cases x' with
    | none => exact fin ρ
    | some _ => exact hx.elim
  | some v => cases x' with
    | none => exact hx.elim
    | some v' =>
      refine (sim_underlying t).bind fun σ hle d d' hd => ?_
      obtain ⟨rfl, _⟩ := hd
      cases d <;> first | exact Sim.halt_bind | skip
      exact (sim_asInt (VRel.mono hle hx)).bind fun τ _ _ _ _ => fin τ

theorem sim_range (t : TypeId) {x x' : Value} (hx : VRel ρ x x') : Sim P VRel ρ (Instr.range t x) (Instr.range t x') := by
  have fin : ∀ (σ : Emb) (o o' : Obj), noCells o = true → (∀ τ, σ.le τ → ∀ L : Loc, L.off = 0 → ORel τ L o o') →
      Sim P VRel σ (do let it ← (pure o : Sem Obj); pure (.pointer (some ⟨← newObj it, 0, none⟩))) (do let it ← (pure o' : Sem Obj); pure (.pointer (some ⟨← newObj it, 0, none⟩))) := fun σ o o' hn ho => by
    refine Sim.bind (R := fun _ p q => p = o ∧ q = o') (Sim.pure ⟨rfl, rfl⟩) ?_
    rintro τ hle _ _ ⟨rfl, rfl⟩
    refine (sim_newObj hn fun υ hle' L h0 => ho υ (Emb.le_trans hle hle') L h0).bind fun υ _ r r' hr => Sim.pure ?_
    obtain ⟨L, h1, h2, h3⟩ := hr
    subst h2
    have := VRel.ptr (ρ := υ) (b := r) (o := 0) h1
    rw [h3] at this
    exact this
  refine (sim_underlying t).bind fun σ hle d d' hd => ?_
  obtain ⟨rfl, _⟩ := hd
  have hx := hx.mono hle
  cases d with
  | string =>
    cases hx <;> first | exact Sim.halt_bind | skip
    exact fin σ _ _ rfl fun τ _ L h0 => ⟨h0, rfl, rfl⟩
  | map k e =>
    cases hx <;> first | exact Sim.halt_bind | skip
    · exact fin σ _ _ rfl fun τ _ L h0 => ⟨h0, rfl, rfl, rfl, trivial⟩
    · rename_i b L h
      refine (sim_getObj h rfl).bind fun τ hle' o o' ho => ?_
      obtain ⟨ho, hn⟩ := ho
      cases o <;> cases o' <;> first
        | exact Sim.halt_bind
        | (simp [ORel] at ho; done)
        | skip
      obtain ⟨_, rfl, _⟩ := ho
      exact fin τ _ _ rfl fun υ hle'' M h0 => ⟨h0, rfl, rfl, rfl, L, hle'' _ _ (hle' _ _ h), rfl⟩
  | _ => cases hx <;> exact Sim.halt_bind

end
end Go.Ev
