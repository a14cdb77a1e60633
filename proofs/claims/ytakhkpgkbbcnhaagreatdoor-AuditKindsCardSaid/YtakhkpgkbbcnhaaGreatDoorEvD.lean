/- The concrete evaluator, part D: aggregates, closures, methods, ranges over functions, results. -/
import Derived.Test.YtakhkpgkbbcnhaaGreatDoorEvC
import Derived.Laws.Sem
namespace Go.Ev
open Go
variable [Globs] [Holes]

section sims
variable {P : Program} {ρ : Emb}

theorem sim_mapM {α β γ : Type} {R : Emb → β → γ → Prop} (hR : ∀ σ τ b c, Emb.le σ τ → R σ b c → R τ b c) {f : α → Sem β} {g : α → Sem γ} :
    ∀ (l : List α) {ρ : Emb}, (∀ a ∈ l, ∀ σ, ρ.le σ → Sim P R σ (f a) (g a)) → Sim P (fun σ bs cs => All2 (R σ) bs cs) ρ (l.mapM f) (l.mapM g) := by
  intro l
  induction l with
  | nil => intro ρ _; simp only [List.mapM_nil]; exact Sim.pure .nil
  | cons a l ih =>
    intro ρ h
    simp only [List.mapM_cons]
    refine (h a (by simp) ρ (Emb.le_refl _)).bind fun σ hle b c hbc => ?_
    refine (ih (ρ := σ) fun x hx τ hτ => h x (by simp [hx]) τ (Emb.le_trans hle hτ)).bind fun τ hle' bs cs hbs => Sim.pure ?_
    exact .cons (hR _ _ _ _ hle' hbc) hbs

omit [Globs] in
theorem All2.vs {ρ : Emb} {xs ys : List Value} (h : All2 (VRel ρ) xs ys) : VsRel ρ xs.toArray ys.toArray := by
  induction h with
  | nil => exact .empty
  | @cons a b as bs hab _ ih =>
    refine ⟨by simpa using ih.1, fun i x y hx hy => ?_⟩
    cases i with
    | zero => simp at hx hy; subst hx; subst hy; exact hab
    | succ i => exact ih.2 i x y (by simpa using hx) (by simpa using hy)

theorem sim_arrayMapM {α β γ : Type} {R : Emb → β → γ → Prop} (hR : ∀ σ τ b c, Emb.le σ τ → R σ b c → R τ b c) {f : α → Sem β} {g : α → Sem γ} (l : Array α)
    (h : ∀ a ∈ l.toList, ∀ σ, ρ.le σ → Sim P R σ (f a) (g a)) : Sim P (fun σ bs cs => All2 (R σ) bs.toList cs.toList) ρ (l.mapM f) (l.mapM g) := by
  rw [Array.mapM_eq_mapM_toList, Array.mapM_eq_mapM_toList]
  have := sim_mapM (P := P) hR l.toList h
  show Sim P _ ρ (l.toList.mapM f >>= fun x => pure x.toArray) (l.toList.mapM g >>= fun x => pure x.toArray)
  exact this.bind fun σ _ bs cs hbs => Sim.pure (by simpa using hbs)

omit [Globs] in
omit [Holes] in
theorem All2.eq {α : Type} {xs ys : List α} (h : All2 (fun a b => a = b) xs ys) : xs = ys := by
  induction h with
  | nil => rfl
  | cons h _ ih => rw [h, ih]

theorem sim_places (fields : Array Field) : Sim P (fun _ a b => a = b) ρ (fields.mapM fun f => do pure (f.offset, ← sizeOf f.type)) (fields.mapM fun f => do pure (f.offset, ← sizeOf f.type)) :=
  (sim_arrayMapM (R := fun _ a b => a = b) (fun _ _ _ _ _ h => h) fields fun f _ σ _ => (sim_sizeOf f.type).bind fun _ _ n n' h => by subst h; exact Sim.pure rfl).mono
    fun _ a b _ h => by have := All2.eq h; exact Array.toList_inj.1 this

theorem sim_build (t : TypeId) (hz : zeroFlat P t = true) {ps qs : Array (Nat × Value)} (h : PsRel ρ ps.toList qs.toList) : Sim P VRel ρ (Instr.build t ps) (Instr.build t qs) := by
  have hmono : ∀ {σ : Emb}, ρ.le σ → PsRel σ ps.toList qs.toList := by
    intro σ hle
    have : ∀ (as bs : List (Nat × Value)), PsRel ρ as bs → PsRel σ as bs := by
      intro as bs h
      induction h with
      | nil => exact .nil
      | cons h _ ih => exact .cons ⟨h.1, h.2.mono hle⟩ ih
    exact this _ _ h
  refine (sim_zero hz).bind fun σ hle z z' hzz => ?_
  obtain ⟨hzz, rfl⟩ := hzz
  refine (sim_underlying t).bind fun τ hle' d d' hd => ?_
  obtain ⟨rfl, hd⟩ := hd
  have hcells := (hzz.mono hle').cells
  cases d <;> first | exact Sim.halt | skip
  · rename_i n elem
    refine (sim_sizeOf elem).bind fun τ' hle'' n n' hn => ?_
    subst hn
    rcases fill_rel (fun i => some (i * n, n)) _ _ _ _ (hmono (Emb.le_trans (Emb.le_trans hle hle') hle'')) (hcells.mono hle'') with ⟨e1, e2⟩ | ⟨zs, zs', e1, e2, hr⟩
    · rw [e1]; exact Sim.halt
    · rw [e1, e2]; exact Sim.pure (.agg hr.1 hr.2)
  · rename_i fields
    refine (sim_places fields).bind fun τ' hle'' pl pl' hn => ?_
    subst hn
    rcases fill_rel (pl[·]?) _ _ _ _ (hmono (Emb.le_trans (Emb.le_trans hle hle') hle'')) (hcells.mono hle'') with ⟨e1, e2⟩ | ⟨zs, zs', e1, e2, hr⟩
    · rw [e1]; exact Sim.halt
    · rw [e1, e2]; exact Sim.pure (.agg hr.1 hr.2)

def elemFlat (P : Program) (t : TypeId) : Bool :=
  match P.underlying t with
  | some (.slice e) => zeroFlat P e
  | _ => true

omit [Globs] in
theorem rel_range {σ : Emb} {z : Array Value} (hz : VsRel σ z z) (n : Nat) (hd : VRel σ (default : Value) default) :
    VsRel σ ((Array.range n).map fun i => z[i % z.size]!) ((Array.range n).map fun i => z[i % z.size]!) := by
  refine ⟨rfl, fun i x y hx hy => ?_⟩
  rw [hx] at hy
  cases hy
  rw [Array.getElem?_map, Option.map_eq_some_iff] at hx
  obtain ⟨j, _, rfl⟩ := hx
  rw [getElem!_def]
  cases e : z[j % z.size]? with
  | none => exact hd
  | some v => exact hz.2 _ v v e e

omit [Globs] in
theorem rel_default {σ : Emb} : VRel σ (default : Value) default := rel_of_flat 3 _ (by decide)

theorem sim_zeroCells {e : TypeId} (hz : zeroFlat P e = true) (n : Nat) : Sim P (fun σ a b => VsRel σ a b ∧ b = a) ρ
    (if n = 0 then pure #[] else do pure (← zeroValue e).cells) (if n = 0 then pure #[] else do pure (← zeroValue e).cells) :=
  Sim.ite (fun _ => Sim.pure ⟨.empty, rfl⟩) fun _ => (sim_zero hz).bind fun _ _ a b h => Sim.pure ⟨by have := h.1.cells; exact this, by rw [h.2]⟩

theorem sim_buildSlice (t : TypeId) (hz : elemFlat P t = true) (len : Nat) {ps qs : Array (Nat × Value)} (h : ∀ σ, ρ.le σ → PsRel σ ps.toList qs.toList) :
    Sim P VRel ρ (Instr.buildSlice t len ps) (Instr.buildSlice t len qs) := by
  refine (sim_underlying t).bind fun τ hle d d' hd => ?_
  obtain ⟨rfl, hd⟩ := hd
  unfold elemFlat at hz
  rw [hd] at hz
  cases d <;> first | exact Sim.halt | skip
  rename_i e
  simp only at hz
  refine (sim_sizeOf e).bind fun τ' hle' n n' hn => ?_
  subst hn
  refine Sim.ite (fun _ => Sim.halt_bind) fun _ => ?_
  have hcont : ∀ (σ : Emb) (z : Array Value), τ'.le σ → VsRel σ z z → Sim P VRel σ
      (do let some cells := Instr.fill (fun i => some (i * n, n)) ((Array.range (len * n)).map (z[· % z.size]!)) ps.toList | stuck "buildSlice: a part of the wrong size"
          pure (.slice (some (← newRow e cells)) len len))
      (do let some cells := Instr.fill (fun i => some (i * n, n)) ((Array.range (len * n)).map (z[· % z.size]!)) qs.toList | stuck "buildSlice: a part of the wrong size"
          pure (.slice (some (← newRow e cells)) len len)) := by
    intro σ z hle'' hzz
    rcases fill_rel (fun i => some (i * n, n)) _ _ _ _ (h σ (Emb.le_trans (Emb.le_trans hle hle') hle'')) (rel_range hzz (len * n) rel_default) with ⟨e1, e2⟩ | ⟨zs, zs', e1, e2, hr⟩
    · rw [e1]; exact Sim.halt
    · rw [e1, e2]
      refine (sim_newRow e e hr).bind fun σ' _ a a' haa => Sim.pure ?_
      obtain ⟨L, h1, h2, rfl⟩ := haa
      obtain ⟨b, o, s⟩ := a
      simp only at h1 h2
      subst h2
      exact .slice h1 (.inl ⟨rfl, rfl⟩)
  by_cases h0 : len * n = 0
  · simp only [h0, if_true]
    refine Sim.bind (R := fun σ a b => VsRel σ a b ∧ b = a) (Sim.pure ⟨.empty, rfl⟩) fun σ hle'' z z' hzz => ?_
    obtain ⟨hzz, rfl⟩ := hzz
    have := hcont σ z' hle'' hzz
    rw [h0] at this
    exact this
  · simp only [h0, if_false]
    refine (sim_zero hz).bind fun σ₀ hle₀ v v' hvv => ?_
    obtain ⟨hvv, rfl⟩ := hvv
    refine Sim.bind (R := fun σ a b => VsRel σ a b ∧ b = a) (Sim.pure ⟨hvv.cells, rfl⟩) fun σ hle'' z z' hzz => ?_
    obtain ⟨hzz, rfl⟩ := hzz
    exact hcont σ z' (Emb.le_trans hle₀ hle'') hzz

theorem sim_askRoom (n : Nat) : Sim P (fun _ _ _ => True) ρ (askRoom n) (askRoom n) := by
  unfold askRoom
  refine Sim.ite (fun _ => ?_) fun _ => Sim.pure trivial
  intro F hp w a h₁ hi ha
  simp only [mark, arun, Option.some.injEq, Prod.mk.injEq] at ha
  obtain ⟨_, rfl⟩ := ha
  exact ⟨ρ, (), w, rfl, Emb.le_refl _, hi, trivial⟩

/-! ### closures, methods -/
inductive TRel (ρ : Emb) : Target → Target → Prop
  | fn {f g : Fn} {xs ys : Array Value} (h : FnRel ρ f g) (hxs : VsRel ρ xs ys) : TRel ρ (.fn f xs) (.fn g ys)
  | nil : TRel ρ .nil .nil
def DRel (ρ : Emb) (d d' : Deferred) : Prop := TRel ρ d.target d'.target ∧ VsRel ρ d.args d'.args

def NextRel (ρ : Emb) : Next → Next → Prop
  | .value v, .value v' => VRel ρ v v'
  | .skip, .skip => True
  | .enter f args, .enter f' args' => f = f' ∧ VsRel ρ args args'
  | .round l _ tmps as b, .round l' _ tmps' as' b' => (∃ L, ρ l = some L ∧ L.blk = l') ∧ VsRel ρ tmps tmps' ∧ as = as' ∧ b = b'
  | _, _ => False

inductive PlRel (ρ : Emb) : Place → Place → Prop
  | val {v v' : Value} (h : VRel ρ v v') : PlRel ρ (.val v) (.val v')
  | var {a a' : Addr} (h : ARel ρ a a') : PlRel ρ (.var a) (.var a')
omit [Globs] in
theorem PlRel.mono {ρ σ : Emb} (hle : ρ.le σ) {p q : Place} (h : PlRel ρ p q) : PlRel σ p q := by
  cases h with
  | val h => exact .val (h.mono hle)
  | var h => exact .var (h.mono hle)
theorem sim_get (t : TypeId) {p q : Place} (h : PlRel ρ p q) : Sim P VRel ρ (p.get t) (q.get t) := by
  cases h with
  | val h => exact Sim.pure h
  | var h => exact sim_loadVar t h

/-- No field of size nought lies on a path. -/
def pathFull (P : Program) : List FieldStep → Bool
  | [] => true
  | s :: rest => fieldFull P s.struct s.index && pathFull P rest

theorem sim_follow : ∀ (path : List FieldStep) (t : TypeId) {ρ : Emb} {p q : Place}, pathFull P path = true → PlRel ρ p q →
    Sim P (fun σ a b => a.1 = b.1 ∧ PlRel σ a.2 b.2) ρ (follow path t p) (follow path t q) := by
  intro path
  induction path with
  | nil => intro t ρ p q _ h; exact Sim.pure ⟨rfl, h⟩
  | cons s rest ih =>
    intro t ρ p q hf h
    simp only [pathFull, Bool.and_eq_true] at hf
    refine (sim_underlying s.struct).bind fun σ hle d d' hd => ?_
    obtain ⟨rfl, hd⟩ := hd
    cases d <;> first | exact Sim.halt | skip
    rename_i fields
    simp only
    cases hfn : fields[s.index]? with
    | none => exact Sim.halt
    | some f =>
      have hff : fullType P f.type = true := by
        have := hf.1
        unfold fieldFull at this
        rw [hd] at this
        simpa only [hfn] using this
      simp only
      refine Sim.ite (fun _ => ?_) fun _ => ?_
      · refine (sim_get t (h.mono hle)).bind fun τ hle' v v' hv => ?_
        refine (sim_asAddr hv).bind fun τ' hle'' a a' ha => ?_
        exact (sim_fieldPlace f hff ha).bind fun τ₂ _ b b' hb => ih f.type hf.2 (.var hb)
      · cases h with
        | var ha => exact (sim_fieldPlace f hff (ha.mono hle)).bind fun τ₂ _ b b' hb => ih f.type hf.2 (.var hb)
        | val hv =>
          cases hv <;> first | exact Sim.halt | skip
          rename_i xs ys hn hxs
          exact (sim_part f.type (VsRel.mono hle ⟨hn, hxs⟩) f.offset).bind fun τ₂ _ b b' hb => ih f.type hf.2 (.val hb)

/-- A value receiver behind a pointer, by a wrapper's check, is not taken in. -/
def plainRecv (P : Program) (xt : TypeId) (ptr : Bool) (wrapped : Bool) : Bool :=
  match P.underlying xt with
  | some (.pointer _) => ptr || !wrapped
  | _ => true

theorem sim_receiverAt (xt : TypeId) (ptr : Bool) (wr : Option String) (hw : plainRecv P xt ptr wr.isSome = true) {p q : Place} (h : PlRel ρ p q) :
    Sim P VRel ρ (receiverAt xt p ptr wr) (receiverAt xt q ptr wr) := by
  refine (sim_underlying xt).bind fun σ hle d d' hd => ?_
  obtain ⟨rfl, hd⟩ := hd
  unfold plainRecv at hw
  rw [hd] at hw
  replace h := h.mono hle
  cases d with
  | pointer e =>
    simp only at hw
    cases ptr with
    | true => exact sim_get xt h
    | false =>
      cases wr with
      | some n => simp at hw
      | none =>
        refine (sim_get xt h).bind fun τ _ v v' hv => ?_
        refine Sim.bind (R := VRel) (Sim.pure hv) fun τ' _ x x' hx => ?_
        exact (sim_asAddr hx).bind fun τ'' _ a a' ha => sim_loadVar e ha
  | _ =>
    cases ptr with
    | false => cases h with
      | val hh => exact Sim.pure hh
      | var hh => exact sim_loadVar xt hh
    | true => cases h with
      | val hh => exact Sim.halt
      | var hh => exact Sim.pure (.ptr' hh)

end sims
end Go.Ev
